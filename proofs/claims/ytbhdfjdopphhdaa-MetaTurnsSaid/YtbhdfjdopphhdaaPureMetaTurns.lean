/- A string that Parse accepts is the symbolic form of the parsed mode, and beside an error the mode is 0: for every string. -/
import Derived.Test.YtbhdfjdopphhdaaPMetaTurnsx2
import Derived.OpenShut
import Derived.Lib.Strings
import Derived.Lib.SmallJoins
namespace Go.Proofs.Ytbhdfjdopphhdaa.Pure
open Go.RowKit Go.Proofs.Ytbhdfjdopphhdaa.PMetaTurns Go.Proofs.YtbhdfjdopphhdaaW.PrintWords Go.Proofs.YtbhdfjdopphhdaaW.PrintLast Go.Proofs.YtbhdfjdopphhdaaW.PrintMore
set_option linter.unusedVariables false
set_option linter.unusedSimpArgs false

def allB (p : Nat → Bool) : Nat → Nat → Bool
  | 0, b => p b
  | k + 1, b => allB p k (2 * b) && allB p k (2 * b + 1)
theorem allB_at (p : Nat → Bool) : ∀ (k b : Nat), allB p k b = true → ∀ n, b * 2 ^ k ≤ n → n < (b + 1) * 2 ^ k → p n = true
  | 0, b, h, n, h1, h2 => by
    have : n = b := by omega
    subst this; exact h
  | k + 1, b, h, n, h1, h2 => by
    simp only [allB, Bool.and_eq_true] at h
    rw [Nat.pow_succ] at h1 h2
    by_cases c : n < (2 * b + 1) * 2 ^ k
    · exact allB_at p k (2 * b) h.1 n (by rw [Nat.mul_comm 2 b, Nat.mul_assoc, Nat.mul_comm 2 (2 ^ k)]; exact h1) c
    · exact allB_at p k (2 * b + 1) h.2 n (by omega) (by
        have : (2 * b + 1 + 1) * 2 ^ k = (b + 1) * (2 ^ k * 2) := by rw [Nat.mul_comm (2 ^ k) 2, ← Nat.mul_assoc]; congr 1; omega
        omega)

/-- The text of mode t is parsed as t. -/
def backOk (t : Int) : Bool := decide (meta_Text.f t = some (strOfNums (mtTwo t 3), 0) ∧ meta_Parse.f 64 (strOfNums (mtTwo t 3)) = some (t, 0))
theorem back0 : allB (fun n => backOk (n : Int)) 8 0 = true := by decide +kernel
theorem back1 : allB (fun n => backOk (n : Int)) 8 1 = true := by decide +kernel
theorem back2 : allB (fun n => backOk (n : Int)) 8 2 = true := by decide +kernel
theorem back3 : allB (fun n => backOk (n : Int)) 8 3 = true := by decide +kernel
theorem back4 : allB (fun n => backOk (n : Int)) 8 4 = true := by decide +kernel
theorem back5 : allB (fun n => backOk (n : Int)) 8 5 = true := by decide +kernel
theorem back6 : allB (fun n => backOk (n : Int)) 8 6 = true := by decide +kernel
theorem back7 : allB (fun n => backOk (n : Int)) 8 7 = true := by decide +kernel
theorem back8 : allB (fun n => backOk (n : Int)) 8 8 = true := by decide +kernel
theorem back9 : allB (fun n => backOk (n : Int)) 8 9 = true := by decide +kernel
theorem back10 : allB (fun n => backOk (n : Int)) 8 10 = true := by decide +kernel
theorem back11 : allB (fun n => backOk (n : Int)) 8 11 = true := by decide +kernel
theorem back12 : allB (fun n => backOk (n : Int)) 8 12 = true := by decide +kernel
theorem back13 : allB (fun n => backOk (n : Int)) 8 13 = true := by decide +kernel
theorem back14 : allB (fun n => backOk (n : Int)) 8 14 = true := by decide +kernel
theorem back15 : allB (fun n => backOk (n : Int)) 8 15 = true := by decide +kernel
theorem back_all (b : Nat) (hb : b < 16) : allB (fun n => backOk (n : Int)) 8 b = true := by
  obtain rfl | rfl | rfl | rfl | rfl | rfl | rfl | rfl | rfl | rfl | rfl | rfl | rfl | rfl | rfl | rfl : b = 0 ∨ b = 1 ∨ b = 2 ∨ b = 3 ∨ b = 4 ∨ b = 5 ∨ b = 6 ∨ b = 7 ∨ b = 8 ∨ b = 9 ∨ b = 10 ∨ b = 11 ∨ b = 12 ∨ b = 13 ∨ b = 14 ∨ b = 15 := by omega
  · exact back0
  · exact back1
  · exact back2
  · exact back3
  · exact back4
  · exact back5
  · exact back6
  · exact back7
  · exact back8
  · exact back9
  · exact back10
  · exact back11
  · exact back12
  · exact back13
  · exact back14
  · exact back15
theorem back_at (t : Int) (h0 : 0 ≤ t) (h1 : t < 4096) : meta_Text.f t = some (strOfNums (mtTwo t 3), 0) ∧ meta_Parse.f 64 (strOfNums (mtTwo t 3)) = some (t, 0) := by
  have h := allB_at _ 8 (t.toNat / 256) (back_all _ (by omega)) t.toNat (by omega) (by omega)
  have e : ((t.toNat : Nat) : Int) = t := by omega
  simp only [e] at h
  exact of_decide_eq_true h
theorem mtTwo_len (t : Int) : (mtTwo t 3).length = 9 := by
  have h : (mtOne t 9).length = 9 := by simp [mtOne]
  have g : ∀ l n v, (mtSign l n v).length = l.length := fun l n v => by simp [mtSign]
  simp only [mtTwo]
  repeat' split
  all_goals simp [g, h]

theorem app_list (a b : ByteArray) : (a ++ b).data.toList = a.data.toList ++ b.data.toList := by
  rw [ByteArray.data_append, Array.toList_append]
theorem size_list (a : ByteArray) : a.data.toList.length = a.size := by
  rw [Array.length_toList]; rfl
theorem bytes_ext {a b : ByteArray} (h : a.data.toList = b.data.toList) : a = b := by
  cases a; cases b; simp_all [← Array.toList_inj]

theorem w64 {n : Int} (h1 : -9223372036854775808 ≤ n) (h2 : n ≤ 9223372036854775807) : wrap64 n = n := by
  unfold wrap64
  omega

/-- May byte b stand at place j of a mode's text? -/
def okAt (j : Nat) (b : Int) : Prop := b = bt (⟨#[114, 119, 120, 114, 119, 120, 114, 119, 120]⟩ : ByteArray) j ∨ b = 45 ∨ (j % 3 = 2 ∧ ((j = 8 ∧ (b = 116 ∨ b = 84)) ∨ (j ≠ 8 ∧ (b = 115 ∨ b = 83))))
def Ends (s : ByteArray) (i : Nat) (n e : Int) : Prop := (e = 0 ∧ ∀ j, i ≤ j → j < 9 → okAt j (bt s j)) ∨ (e = 3 ∧ n = 0)
theorem parse_sign (s : ByteArray) (hs : s.size = 9) (i K : Nat) (hi : i < 9) (ih : ∀ acc : Int, ∃ n e, (∀ k, K ≤ k → meta_Parse.l0 k s acc 9 ((i + 1 : Nat) : Int) = some (n, e)) ∧ Ends s (i + 1) n e)
    (acc sp sm gr : Int) (last : Bool) (hl : last = true → ∀ b, (b = sm ∨ b = gr) → okAt i b) :
    ∃ n e, (∀ k, K + 3 ≤ k → meta_Parse.j1 k s acc i last sp sm gr 9 i = some (n, e)) ∧ Ends s i n e := by
  have hi1 : wrap64 ((i : Int) + 1) = ((i + 1 : Nat) : Int) := by rw [w64 (by omega) (by omega)]; omega
  have h8 : 0 ≤ wrap64 (8 - (i : Int)) := by rw [w64 (by omega) (by omega)]; omega
  have g1 : (0 : Int) ≤ i := by omega
  have g2 : (i : Int) < (s.size : Int) := by omega
  have g3 : (i : Int) < 9 := by omega
  have next : okAt i (bt s i) → ∀ n e, Ends s (i + 1) n e → Ends s i n e := by
    intro ok n e h
    rcases h with ⟨h, g⟩ | h
    · exact .inl ⟨h, fun j h1 h2 => by by_cases c : j = i; · subst c; exact ok
                                       · exact g j (by omega) h2⟩
    · exact .inr h
  by_cases c1 : bt s i = bt (⟨#[114, 119, 120, 114, 119, 120, 114, 119, 120]⟩ : ByteArray) i
  · obtain ⟨n, e, h1, h2⟩ := ih (Go.bits .or .i64 acc (shl .i64 1 (wrap64 (8 - i))))
    refine ⟨n, e, fun k hk => ?_, next (.inl c1) n e h2⟩
    obtain ⟨k, rfl⟩ : ∃ q, k = q + 1 := ⟨k - 1, by omega⟩
    simp only [meta_Parse.j1]
    rw [if_pos g1, if_pos g2, if_pos g3, if_pos c1, if_pos h8, hi1]
    exact h1 k (by omega)
  · have out : ∃ n e, (∀ k, K + 1 ≤ k → ∀ x55 : Bool, (x55 = true → okAt i (bt s i)) → x55 = true → meta_Parse.j3 k s acc sp (bt s i) 9 i x55 = some (n, e)) ∧ (okAt i (bt s i) → Ends s i n e) := by
      obtain ⟨n, e, h1, h2⟩ := ih (Go.bits .or .i64 acc sp)
      refine ⟨n, e, fun k hk x hx hy => ?_, fun ok => next ok n e h2⟩
      obtain ⟨k, rfl⟩ : ∃ q, k = q + 1 := ⟨k - 1, by omega⟩
      simp only [meta_Parse.j3]
      rw [if_pos hy, hi1]
      exact h1 k (by omega)
    have plain : ∃ n e, (∀ k, K + 1 ≤ k → meta_Parse.j3 k s acc sp (bt s i) 9 i false = some (n, e)) ∧ Ends s i n e := by
      by_cases c4 : bt s i = 45
      · obtain ⟨n, e, h1, h2⟩ := ih acc
        refine ⟨n, e, fun k hk => ?_, next (.inr (.inl c4)) n e h2⟩
        obtain ⟨k, rfl⟩ : ∃ q, k = q + 1 := ⟨k - 1, by omega⟩
        simp only [meta_Parse.j3, Bool.false_eq_true, if_false]
        rw [if_pos c4, hi1]
        exact h1 k (by omega)
      · refine ⟨0, 3, fun k hk => ?_, .inr ⟨rfl, rfl⟩⟩
        obtain ⟨k, rfl⟩ : ∃ q, k = q + 1 := ⟨k - 1, by omega⟩
        simp only [meta_Parse.j3, Bool.false_eq_true, if_false]
        rw [if_neg c4]
    cases last with
    | false =>
      obtain ⟨n, e, h1, h2⟩ := plain
      refine ⟨n, e, fun k hk => ?_, h2⟩
      obtain ⟨k, rfl⟩ : ∃ q, k = q + 1 + 1 := ⟨k - 2, by omega⟩
      simp only [meta_Parse.j1]
      rw [if_pos g1, if_pos g2, if_pos g3, if_neg c1]
      simp only [Bool.false_eq_true, if_false, meta_Parse.j2]
      exact h1 k (by omega)
    | true =>
      by_cases c2 : bt s i = sm
      · obtain ⟨n, e, h1, h2⟩ := ih (Go.bits .or .i64 acc (Go.bits .or .i64 (shl .i64 1 (wrap64 (8 - i))) sp))
        refine ⟨n, e, fun k hk => ?_, next (hl rfl _ (.inl c2)) n e h2⟩
        obtain ⟨k, rfl⟩ : ∃ q, k = q + 1 + 1 := ⟨k - 2, by omega⟩
        simp only [meta_Parse.j1]
        rw [if_pos g1, if_pos g2, if_pos g3, if_neg c1]
        have hb : (bt s i == sm) = true := beq_iff_eq.2 c2
        rw [hb]
        simp only [if_true, meta_Parse.j2]
        rw [if_pos h8, hi1]
        exact h1 k (by omega)
      · have hb : (bt s i == sm) = false := beq_eq_false_iff_ne.2 c2
        by_cases c3 : bt s i = gr
        · obtain ⟨n, e, h1, h2⟩ := out
          have ok := hl rfl _ (.inr c3)
          refine ⟨n, e, fun k hk => ?_, h2 ok⟩
          obtain ⟨k, rfl⟩ : ∃ q, k = q + 1 + 1 := ⟨k - 2, by omega⟩
          simp only [meta_Parse.j1]
          rw [if_pos g1, if_pos g2, if_pos g3, if_neg c1, hb]
          simp only [if_true, meta_Parse.j2, Bool.false_eq_true, if_false]
          have hb3 : (bt s i == gr) = true := beq_iff_eq.2 c3
          rw [hb3]
          exact h1 k (by omega) true (fun _ => ok) rfl
        · have hb3 : (bt s i == gr) = false := beq_eq_false_iff_ne.2 c3
          obtain ⟨n, e, h1, h2⟩ := plain
          refine ⟨n, e, fun k hk => ?_, h2⟩
          obtain ⟨k, rfl⟩ : ∃ q, k = q + 1 + 1 := ⟨k - 2, by omega⟩
          simp only [meta_Parse.j1]
          rw [if_pos g1, if_pos g2, if_pos g3, if_neg c1, hb]
          simp only [if_true, meta_Parse.j2, Bool.false_eq_true, if_false]
          rw [hb3]
          exact h1 k (by omega)
theorem parse_loop (s : ByteArray) (hs : s.size = 9) : ∀ (d i : Nat), i + d = 9 → ∀ acc : Int, ∃ n e, (∀ k, 4 * d + 1 ≤ k → meta_Parse.l0 k s acc 9 (i : Int) = some (n, e)) ∧ Ends s i n e
  | 0, i, hi, acc => by
    refine ⟨acc, 0, fun k hk => ?_, .inl ⟨rfl, fun j h1 h2 => by omega⟩⟩
    obtain ⟨k, rfl⟩ : ∃ q, k = q + 1 := ⟨k - 1, by omega⟩
    simp only [meta_Parse.l0]
    rw [if_neg (by omega)]
  | d + 1, i, hi, acc => by
    have ih := parse_loop s hs d (i + 1) (by omega)
    have ht : Int.tdiv (i : Int) 3 = ((i / 3 : Nat) : Int) := by rw [Int.tdiv_eq_ediv_of_nonneg (by omega)]; omega
    have hm : Int.tmod (i : Int) 3 = ((i % 3 : Nat) : Int) := by rw [Int.tmod_eq_emod_of_nonneg (by omega)]; omega
    have h11 : 0 ≤ wrap64 (11 - (wrap64 (Int.tdiv (i : Int) 3))) := by rw [ht, w64 (n := ((i / 3 : Nat) : Int)) (by omega) (by omega), w64 (by omega) (by omega)]; omega
    have last : (Int.tmod (i : Int) 3 == 2) = true → i % 3 = 2 := fun h => by rw [hm, beq_iff_eq] at h; omega
    by_cases c8 : i = 8
    · obtain ⟨n, e, h1, h2⟩ := parse_sign s hs i (4 * d + 1) (by omega) ih acc (shl .i64 1 (wrap64 (11 - (wrap64 (Int.tdiv (i : Int) 3))))) 116 84 (Int.tmod (i : Int) 3 == 2) (fun h b hb => .inr (.inr ⟨last h, .inl ⟨c8, hb⟩⟩))
      refine ⟨n, e, fun k hk => ?_, h2⟩
      obtain ⟨k, rfl⟩ : ∃ q, k = q + 1 := ⟨k - 1, by omega⟩
      simp only [meta_Parse.l0]
      rw [if_pos (by omega), if_pos h11, if_pos (by omega)]
      exact h1 k (by omega)
    · obtain ⟨n, e, h1, h2⟩ := parse_sign s hs i (4 * d + 1) (by omega) ih acc (shl .i64 1 (wrap64 (11 - (wrap64 (Int.tdiv (i : Int) 3))))) 115 83 (Int.tmod (i : Int) 3 == 2) (fun h b hb => .inr (.inr ⟨last h, .inr ⟨c8, hb⟩⟩))
      refine ⟨n, e, fun k hk => ?_, h2⟩
      obtain ⟨k, rfl⟩ : ∃ q, k = q + 1 := ⟨k - 1, by omega⟩
      simp only [meta_Parse.l0]
      rw [if_pos (by omega), if_pos h11, if_neg (by omega)]
      exact h1 k (by omega)

theorem bt_list (s : ByteArray) (i : Int) (h : i.toNat < s.size) : bt s i = ((s.data.toList.getD i.toNat 0).toNat : Int) := by
  unfold bt
  rw [dif_pos h]
  have hl : i.toNat < s.data.toList.length := by rw [size_list]; exact h
  rw [List.getD_eq_getElem?_getD, List.getElem?_eq_getElem hl]
  rfl
theorem bt_nums (l : List Int) (i : Int) (h : i.toNat < l.length) (hr : 0 ≤ l.getD i.toNat 0 ∧ l.getD i.toNat 0 ≤ 255) : bt (strOfNums l) i = l.getD i.toNat 0 := by
  rw [bt_list _ _ (by rw [strOfNums_size]; exact h), strOfNums_data]
  rw [List.getD_eq_getElem?_getD, List.getElem?_map]
  rw [List.getD_eq_getElem?_getD] at hr ⊢
  rw [List.getElem?_eq_getElem h] at hr ⊢
  simp only [Option.map_some, Option.getD_some] at hr ⊢
  have : (UInt8.ofNat l[i.toNat].toNat).toNat = l[i.toNat].toNat := by
    rw [UInt8.toNat_ofNat']
    omega
  omega

def modeOf (a b c d e f g h i x y z : Bool) : Int := (if a then 256 else 0) + (if b then 128 else 0) + (if c then 64 else 0) + (if d then 32 else 0) + (if e then 16 else 0) + (if f then 8 else 0) + (if g then 4 else 0) + (if h then 2 else 0) + (if i then 1 else 0) + (if x then 2048 else 0) + (if y then 1024 else 0) + (if z then 512 else 0)
def sp (small great : Int) (b s : Bool) : Int := if s then (if b then small else great) else (if b then 120 else 45)
theorem modeOf_text : ∀ a b c d e f g h i x y z : Bool, mtTwo (modeOf a b c d e f g h i x y z) 3 = [if a then 114 else 45, if b then 119 else 45, sp 115 83 c x, if d then 114 else 45, if e then 119 else 45, sp 115 83 f y, if g then 114 else 45, if h then 119 else 45, sp 116 84 i z] ∧ 0 ≤ modeOf a b c d e f g h i x y z ∧ modeOf a b c d e f g h i x y z < 4096 := by decide +kernel
theorem ok_plain (j : Nat) (v L : Int) (hj : j % 3 ≠ 2) (hL : bt (⟨#[114, 119, 120, 114, 119, 120, 114, 119, 120]⟩ : ByteArray) j = L) (h : okAt j v) : ∃ b : Bool, v = if b then L else 45 := by
  rcases h with h | h | h
  · exact ⟨true, by rw [h, hL]; rfl⟩
  · exact ⟨false, h⟩
  · omega
theorem ok_last (j : Nat) (v small great : Int) (hj : (j = 8 ∧ small = 116 ∧ great = 84) ∨ (j ≠ 8 ∧ small = 115 ∧ great = 83)) (hL : bt (⟨#[114, 119, 120, 114, 119, 120, 114, 119, 120]⟩ : ByteArray) j = 120) (h : okAt j v) : ∃ b s : Bool, v = sp small great b s := by
  rcases h with h | h | ⟨_, ⟨h8, h⟩ | ⟨h8, h⟩⟩
  · exact ⟨true, false, by rw [h, hL]; rfl⟩
  · exact ⟨false, false, h⟩
  · rcases hj with ⟨_, rfl, rfl⟩ | ⟨g, _⟩
    · rcases h with rfl | rfl
      · exact ⟨true, true, rfl⟩
      · exact ⟨false, true, rfl⟩
    · exact absurd h8 g
  · rcases hj with ⟨g, _⟩ | ⟨_, rfl, rfl⟩
    · exact absurd g h8
    · rcases h with rfl | rfl
      · exact ⟨true, true, rfl⟩
      · exact ⟨false, true, rfl⟩
theorem nine (s : ByteArray) (hs : s.size = 9) (l : List Int) (hl : l.length = 9) (h : ∀ j : Nat, j < 9 → bt s j = l.getD j 0) : strOfNums l = s := by
  apply bytes_ext
  rw [strOfNums_data]
  have e : s.data.toList.length = 9 := by rw [size_list]; exact hs
  apply List.ext_getElem
  · rw [List.length_map, hl, e]
  · intro i h1 h2
    have hi : i < 9 := by omega
    have := h i hi
    rw [bt_list s i (by omega)] at this
    simp only [List.getElem_map]
    rw [List.getD_eq_getElem?_getD, List.getD_eq_getElem?_getD] at this
    have e1 : ((i : Nat) : Int).toNat = i := by omega
    rw [e1, List.getElem?_eq_getElem h2, List.getElem?_eq_getElem (by omega)] at this
    simp only [Option.getD_some] at this
    rw [← this]
    simp
theorem MetaTurns : creelkeep_MetaTurns.Pure := by
  intro s _
  refine ⟨64, ?_⟩
  unfold creelkeep_MetaTurns.f
  have e2 : meta_Parse.f 64 (⟨#[114, 119, 115, 114, 45, 120, 45, 45, 84]⟩ : ByteArray) = some (3048, 0) := by decide +kernel
  by_cases hs : s.size = 9
  · obtain ⟨n, e, h1, h2⟩ := parse_loop s hs 9 0 (by omega) 0
    have hp : meta_Parse.f 64 s = some (n, e) := by
      unfold meta_Parse.f
      rw [if_pos (by omega)]
      have : ((s.size : Nat) : Int) = 9 := by omega
      rw [this]
      exact h1 64 (by omega)
    rw [hp, e2]
    simp only [Option.bind_some, if_true, bne_self_eq_false, creelkeep_MetaTurns.j0, Bool.false_eq_true, if_false]
    rcases h2 with ⟨rfl, ok⟩ | ⟨rfl, rfl⟩
    · have k0 := ok 0 (by omega) (by omega)
      obtain ⟨a, ha⟩ := ok_plain 0 _ 114 (by decide) (by decide) (ok 0 (by omega) (by omega))
      obtain ⟨b, hb⟩ := ok_plain 1 _ 119 (by decide) (by decide) (ok 1 (by omega) (by omega))
      obtain ⟨c, x, hc⟩ := ok_last 2 _ 115 83 (.inr ⟨by decide, rfl, rfl⟩) (by decide) (ok 2 (by omega) (by omega))
      obtain ⟨d, hd⟩ := ok_plain 3 _ 114 (by decide) (by decide) (ok 3 (by omega) (by omega))
      obtain ⟨f, hf⟩ := ok_plain 4 _ 119 (by decide) (by decide) (ok 4 (by omega) (by omega))
      obtain ⟨g, y, hg⟩ := ok_last 5 _ 115 83 (.inr ⟨by decide, rfl, rfl⟩) (by decide) (ok 5 (by omega) (by omega))
      obtain ⟨u, hu⟩ := ok_plain 6 _ 114 (by decide) (by decide) (ok 6 (by omega) (by omega))
      obtain ⟨v, hv⟩ := ok_plain 7 _ 119 (by decide) (by decide) (ok 7 (by omega) (by omega))
      obtain ⟨t, z, ht⟩ := ok_last 8 _ 116 84 (.inl ⟨rfl, rfl, rfl⟩) (by decide) (ok 8 (by omega) (by omega))
      obtain ⟨m1, m2, m3⟩ := modeOf_text a b c d f g u v t x y z
      have hS : strOfNums (mtTwo (modeOf a b c d f g u v t x y z) 3) = s := by
        refine nine s hs _ (mtTwo_len _) (fun j hj => ?_)
        rw [m1]
        obtain rfl | rfl | rfl | rfl | rfl | rfl | rfl | rfl | rfl : j = 0 ∨ j = 1 ∨ j = 2 ∨ j = 3 ∨ j = 4 ∨ j = 5 ∨ j = 6 ∨ j = 7 ∨ j = 8 := by omega
        · exact ha
        · exact hb
        · exact hc
        · exact hd
        · exact hf
        · exact hg
        · exact hu
        · exact hv
        · exact ht
      obtain ⟨t1, t2⟩ := back_at _ m2 m3
      rw [hS, hp] at t2
      simp only [Option.some.injEq, Prod.mk.injEq] at t2
      rw [t2.1, t1, hS]
      simp
    · simp
  · have hp : meta_Parse.f 64 s = some (0, 1) := by
      unfold meta_Parse.f
      rw [if_neg (by omega)]
    rw [hp, e2]
    simp [creelkeep_MetaTurns.j0]

end Go.Proofs.Ytbhdfjdopphhdaa.Pure
