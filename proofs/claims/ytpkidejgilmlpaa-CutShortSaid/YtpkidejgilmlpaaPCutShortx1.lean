-- Written by a program of this session for this claim (wip/myprint.py over the kit's print).
import Derived.Test.YtpkidejgilmlpaaPCutShortx0
namespace Go.Proofs.Ytpkidejgilmlpaa.PCutShort
open Go.RowKit Go.Proofs.YtpkidejgilmlpaaW.PrintWords Go.Proofs.YtpkidejgilmlpaaW.PrintLast Go.Proofs.YtpkidejgilmlpaaW.PrintMore
attribute [local go_sem] max2_int min2_int max_two min_two max_three min_three max_four min_four   -- for this text's walks alone
set_option linter.unusedVariables false
set_option linter.unusedSimpArgs false

/-! ### strings_Repeat: function 4 -/
def strings_Repeat.f (a0 : ByteArray) (a1 : Int) : Option ByteArray := if 0 ≤ a1 then (if a1 ≤ 9223372036854775807 then (if a0.size * a1.toNat ≤ 140737488355328 then some ⟨(Lib.repeatL a0.data.toList a1.toNat).toArray⟩ else none) else none) else none
theorem strings_Repeat.calls (a0 : ByteArray) (a1 : Int) (r : ByteArray) (w : World) (h : strings_Repeat.f a0 a1 = some r) :
    Calls Try.prog 4 #[.string a0, .int .i64 a1] w fun e w' => e = .returned (.string r) ∧ Below w.heap.size w w' := by
  unfold strings_Repeat.f at h
  by_cases c0 : 0 ≤ a1
  · rw [if_pos c0] at h
    by_cases c1 : a1 ≤ 9223372036854775807
    · rw [if_pos c1] at h
      by_cases c2 : a0.size * a1.toNat ≤ 140737488355328
      · rw [if_pos c2] at h
        obtain rfl := Option.some.inj h
        have hc := Try.strings_Repeat a0 a1.toNat w (by omega) c2
        rw [Int.toNat_of_nonneg c0] at hc
        exact hc
      · rw [if_neg c2] at h; cases h
    · rw [if_neg c1] at h; cases h
  · rw [if_neg c0] at h; cases h

/-! ### creelkeep_picked: function 5 -/
def creelkeep_picked.f (a0 : Int) (a1 : Int) : Option (Int) := if a0 < 0 then (if a1 = 0 then (none) else (some (Int.tmod (wrap64 (-(wrap64 (a0 + 1)))) a1))) else (if a1 = 0 then (none) else (some (Int.tmod a0 a1)))
set_option maxHeartbeats 8000000 in
set_option maxRecDepth 100000 in
theorem creelkeep_picked.calls (a0 : Int) (a1 : Int) (r : Int) (w : World) (h : creelkeep_picked.f a0 a1 = some r) :
    Calls Try.prog 5 #[.int .i64 a0, .int .i64 a1] w fun e w' => e = .returned (.int .i64 r) ∧ Drawn0 w w' := by
  have H : (if a0 < 0 then (if a1 = 0 then (none) else (some (Int.tmod (wrap64 (-(wrap64 (a0 + 1)))) a1))) else (if a1 = 0 then (none) else (some (Int.tmod a0 a1)))) = some r := h
  clear h
  by_cases c3 : a0 < 0
  · rw [if_pos c3] at H
    have c3b0 : decide (a0 < 0) = true := decide_eq_true c3
    clear c3
    by_cases c4 : a1 = 0
    · rw [if_pos c4] at H
      exact absurd H (by simp)
    · rw [if_neg c4] at H
      have c4b0 : (a1 == 0) = false := beq_eq_false_iff_ne.mpr c4
      have c4b1 : (a1 != 0) = true := bne_iff_ne.mpr c4
      obtain rfl := Option.some.inj H
      go_enter Try.func5, Try.ntmps5
      go_wp2
      go_ret
      exact ⟨by first | rfl | (simp; done) | (simp [*]; done), by repeat (first | exact Drawn0.refl _ | apply Drawn0.step)⟩
  · rw [if_neg c3] at H
    have c3b0 : decide (a0 < 0) = false := decide_eq_false c3
    clear c3
    by_cases c5 : a1 = 0
    · rw [if_pos c5] at H
      exact absurd H (by simp)
    · rw [if_neg c5] at H
      have c5b0 : (a1 == 0) = false := beq_eq_false_iff_ne.mpr c5
      have c5b1 : (a1 != 0) = true := bne_iff_ne.mpr c5
      obtain rfl := Option.some.inj H
      go_enter Try.func5, Try.ntmps5
      go_wp2
      go_ret
      exact ⟨by first | rfl | (simp; done) | (simp [*]; done), by repeat (first | exact Drawn0.refl _ | apply Drawn0.step)⟩

/-! ### cut_Two: function 6 -/
/-- May the path be cut at byte i? -/
def cutOk (s : ByteArray) (i : Nat) : Prop := bt s i = 47 ∧ 0 < i ∧ i ≤ 155 ∧ i + 1 < s.size ∧ s.size ≤ i + 1 + 100
instance cutOk_dec (s : ByteArray) (i : Nat) : Decidable (cutOk s i) := by unfold cutOk; infer_instance
/-- The first rune from pos on (b runes at most) at which it may be cut. -/
def cutGo (s : ByteArray) : Nat → Nat → Option Nat
  | 0, _ => none
  | b + 1, pos => if pos < s.size then (if cutOk s pos then some pos else cutGo s b (pos + (Utf8.decode s pos).2)) else none
def cut_Two.f (a0 : ByteArray) : Option (ByteArray × ByteArray × Int) :=
  if a0.toList = [] then some ((⟨#[]⟩ : ByteArray), (⟨#[]⟩ : ByteArray), 3) else
  if 0 ≤ Lib.indexByte a0.data.toList 0 then some ((⟨#[]⟩ : ByteArray), (⟨#[]⟩ : ByteArray), 3) else
  if a0.size ≤ 100 then some ((⟨#[]⟩ : ByteArray), a0, 0) else
  if a0.size ≤ 9223372036854775807 then
    match cutGo a0 a0.size 0 with
    | some i => some (a0.extract 0 i, a0.extract (i + 1) a0.size, 0)
    | none => some ((⟨#[]⟩ : ByteArray), (⟨#[]⟩ : ByteArray), 1)
  else none
theorem cut_width_pos (s : ByteArray) (pos : Nat) (h : pos < s.size) : 1 ≤ (Utf8.decode s pos).2 := by
  by_cases ha : (s[pos]'h).toNat < 128
  · rw [decode_ascii s pos h ha]
    exact Nat.le_refl _
  · exact (decode_high s pos h (by omega)).2
theorem cutGo_end (s : ByteArray) (b pos : Nat) (h : ¬ pos < s.size) : cutGo s b pos = none := by
  cases b with
  | zero => rfl
  | succ b => simp [cutGo, h]
theorem cutGo_here (s : ByteArray) (b pos : Nat) (h : pos < s.size) (hb : 0 < b) (ok : cutOk s pos) : cutGo s b pos = some pos := by
  cases b with
  | zero => omega
  | succ b => simp [cutGo, h, ok]
theorem cutGo_on (s : ByteArray) (b pos : Nat) (h : pos < s.size) (ok : ¬ cutOk s pos) : cutGo s (b + 1) pos = cutGo s b (pos + (Utf8.decode s pos).2) := by
  simp [cutGo, h, ok]
def CutRel (s : ByteArray) (w w' : World) (pos b : Nat) : Prop := w' = w.iter s pos ∧ cutGo s b pos = cutGo s s.size 0 ∧ s.size ≤ pos + b
set_option maxHeartbeats 2000000 in
set_option maxRecDepth 100000 in
theorem cut_Two.calls (a0 : ByteArray) (r1 : ByteArray) (r2 : ByteArray) (r3 : Int) (w : World) (h : cut_Two.f a0 = some (r1, r2, r3)) :
    Calls Try.prog 6 #[.string a0] w fun e w' => e = .returned (.tuple #[.string r1, .string r2, .int .i64 r3]) ∧ Below w.heap.size w w' := by
  unfold cut_Two.f at h
  by_cases c1 : a0.toList = []
  · rw [if_pos c1] at h
    simp only [Option.some.injEq, Prod.mk.injEq] at h
    obtain ⟨rfl, rfl, rfl⟩ := h
    have q1 : a0.toList.isEmpty = true := by rw [c1]; rfl
    go_enter Try.func6, Try.ntmps6
    go_wp2
    go_ret3
    exact ⟨rfl, Below.refl _ _⟩
  · rw [if_neg c1] at h
    have q1 : (!a0.toList.isEmpty) = true := by cases hl : a0.toList with | nil => exact absurd hl c1 | cons a l => rfl
    have q2 : a0.toList.isEmpty = false := by simpa using q1
    by_cases c2 : 0 ≤ Lib.indexByte a0.data.toList 0
    · rw [if_pos c2] at h
      simp only [Option.some.injEq, Prod.mk.injEq] at h
      obtain ⟨rfl, rfl, rfl⟩ := h
      have c2b : decide (0 ≤ Lib.indexByte a0.data.toList 0) = true := decide_eq_true c2
      go_enter Try.func6, Try.ntmps6
      go_wp2_with (go_at_call 13; refine (Try.strings_IndexByte _ _ _).mono ?_; rintro e w' ⟨rfl, hw⟩; obtain rfl := hw.symm)
      go_ret3
      exact ⟨rfl, Below.refl _ _⟩
    · rw [if_neg c2] at h
      have c2b : decide (0 ≤ Lib.indexByte a0.data.toList 0) = false := decide_eq_false c2
      by_cases c3 : a0.size ≤ 100
      · rw [if_pos c3] at h
        simp only [Option.some.injEq, Prod.mk.injEq] at h
        obtain ⟨rfl, rfl, rfl⟩ := h
        have c3b : decide (a0.size ≤ 100) = true := decide_eq_true c3
        have c3c : decide ((a0.size : Int) ≤ 100) = true := decide_eq_true (by omega)
        go_enter Try.func6, Try.ntmps6
        go_wp2_with (go_at_call 13; refine (Try.strings_IndexByte _ _ _).mono ?_; rintro e w' ⟨rfl, hw⟩; obtain rfl := hw.symm)
        go_ret3
        exact ⟨rfl, Below.refl _ _⟩
      · rw [if_neg c3] at h
        by_cases c4 : a0.size ≤ 9223372036854775807
        · rw [if_pos c4] at h
          have H := Aside0.mk h
          have c3b : decide (a0.size ≤ 100) = false := decide_eq_false c3
          have c3c : decide ((a0.size : Int) ≤ 100) = false := decide_eq_false (by omega)
          clear h
          go_enter Try.func6, Try.ntmps6
          go_wp2_with (go_at_call 13; refine (Try.strings_IndexByte _ _ _).mono ?_; rintro e w' ⟨rfl, hw⟩; obtain rfl := hw.symm)
          clear c1 q1 q2 c2 c2b c3b c3c
          go_loopw [] (fun w' => ∃ pos b : Nat, CutRel a0 w w' pos b) (fun w' => a0.size - w'.iterPos w.heap.size)
          case atStart => exact ⟨0, a0.size, rfl, rfl, by omega⟩
          case round =>
            obtain ⟨pos, b, rfl, hc, hb⟩ := hrel
            have HC := Aside0.mk hc
            clear hc
            by_cases hp : pos < a0.size
            · have hnx : ∀ ty, (Instr.next (.pointer (some ⟨w.heap.size, 0, none⟩)) true ty).run Try.prog (w.iter a0 pos) = _ := fun ty => run_next_any w a0 pos ty hp
              have hwd := cut_width_pos a0 pos hp
              obtain ⟨wd, hw0⟩ : ∃ wd, (Utf8.decode a0 pos).2 = wd := ⟨_, rfl⟩
              go_wp2
              all_goals
                have hbt : bt a0 (pos : Int) = ((a0[pos]'hp).toNat : Int) := (bt_at a0 pos (by omega)).symm
                first
                | (have nok : ¬ cutOk a0 pos := by (unfold cutOk; rw [hbt]; omega)
                   obtain ⟨b, rfl⟩ : ∃ q, b = q + 1 := ⟨b - 1, by omega⟩
                   have hgo := HC.out
                   rw [cutGo_on a0 b pos hp nok, hw0] at hgo
                   exact ⟨⟨pos + wd, b, rfl, hgo, by omega⟩, by simp; omega⟩)
                | (have ok : cutOk a0 pos := by (unfold cutOk; rw [hbt]; omega)
                   clear hbt
                   have hgo := HC.out
                   rw [cutGo_here a0 b pos hp (by omega) ok] at hgo
                   have h := H.out
                   rw [← hgo] at h
                   simp only [Option.some.injEq, Prod.mk.injEq] at h
                   have HE := Aside0.mk h
                   clear h hgo
                   have hlt : pos + 1 < a0.size := ok.2.2.2.1
                   go_quiet (fail)
                   go_wp2
                   obtain ⟨rfl, rfl, rfl⟩ := HE.out
                   go_ret3
                   exact ⟨rfl, pw_below_drewN (below_alloc (Below.refl _ _) _) _⟩)
            · have hnx : ∀ ty, (Instr.next (.pointer (some ⟨w.heap.size, 0, none⟩)) true ty).run Try.prog (w.iter a0 pos) = _ := fun ty => run_next_end w a0 pos ty hp
              go_wp2
              go_ret3
              have hc := HC.out
              rw [cutGo_end a0 b pos hp] at hc
              have h := H.out
              rw [← hc] at h
              simp only [Option.some.injEq, Prod.mk.injEq] at h
              obtain ⟨rfl, rfl, rfl⟩ := h
              exact ⟨rfl, below_alloc (Below.refl _ _) _⟩
        · rw [if_neg c4] at h
          exact absurd h (by simp)

/-! ### creelkeep_CutShort: function 3 -/
def creelkeep_CutShort.j0 : Nat → ByteArray → ByteArray → ByteArray → ByteArray → ByteArray → Int → Bool → Option (Bool)
  | 0, _, _, _, _, _, _, _ => none
  | k + 1, x7, x8, x9, x11, x12, x13, x54 => if x54 = true then (if x13 = 0 then (if x11.toList = x7.toList then (if x8.size + 1 ≤ 9223372036854775807 then (if (x8 ++ (⟨#[47]⟩ : ByteArray)).size + x9.size ≤ 9223372036854775807 then (some (x12.toList == ((x8 ++ (⟨#[47]⟩ : ByteArray)) ++ x9).toList)) else (none)) else (none)) else (some false)) else (some false)) else (if (wrap64 ((x7.size : Int) + (x8.size : Int))) < 155 then (if (wrap64 ((x8.size : Int) + (x9.size : Int))) ≥ 100 then (if x13 = 0 then (if x7.size + 1 ≤ 9223372036854775807 then (if (x7 ++ (⟨#[47]⟩ : ByteArray)).size + x8.size ≤ 9223372036854775807 then (if x11.toList = ((x7 ++ (⟨#[47]⟩ : ByteArray)) ++ x8).toList then (some (x12.toList == x9.toList)) else (some false)) else (none)) else (none)) else (some false)) else (some (x13 == 1))) else (some (x13 == 1)))
def creelkeep_CutShort.f (k : Nat) (a0 : Int) (a1 : Int) (a2 : Int) : Option (Bool) := (creelkeep_picked.f a0 160).bind fun t101 => ((strings_Repeat.f (⟨#[120]⟩ : ByteArray) (wrap64 (1 + t101))).bind fun t102 => ((creelkeep_picked.f a1 100).bind fun t103 => ((strings_Repeat.f (⟨#[121]⟩ : ByteArray) (wrap64 (1 + t103))).bind fun t104 => ((creelkeep_picked.f a2 100).bind fun t105 => ((strings_Repeat.f (⟨#[122]⟩ : ByteArray) (wrap64 (1 + t105))).bind fun t106 => (if t102.size + 1 ≤ 9223372036854775807 then (if (t102 ++ (⟨#[47]⟩ : ByteArray)).size + t104.size ≤ 9223372036854775807 then (if ((t102 ++ (⟨#[47]⟩ : ByteArray)) ++ t104).size + 1 ≤ 9223372036854775807 then (if (((t102 ++ (⟨#[47]⟩ : ByteArray)) ++ t104) ++ (⟨#[47]⟩ : ByteArray)).size + t106.size ≤ 9223372036854775807 then ((cut_Two.f ((((t102 ++ (⟨#[47]⟩ : ByteArray)) ++ t104) ++ (⟨#[47]⟩ : ByteArray)) ++ t106)).bind fun bt107 => (if (((((t102 ++ (⟨#[47]⟩ : ByteArray)) ++ t104) ++ (⟨#[47]⟩ : ByteArray)) ++ t106).size : Int) ≤ 100 then (if bt107.2.2 = 0 then (if bt107.1.toList = ([] : List UInt8) then (some (bt107.2.1.toList == ((((t102 ++ (⟨#[47]⟩ : ByteArray)) ++ t104) ++ (⟨#[47]⟩ : ByteArray)) ++ t106).toList)) else (some false)) else (some false)) else (if (wrap64 ((t104.size : Int) + (t106.size : Int))) < 100 then (creelkeep_CutShort.j0 k t102 t104 t106 bt107.1 bt107.2.1 bt107.2.2 (decide ((t102.size : Int) ≤ 155))) else (creelkeep_CutShort.j0 k t102 t104 t106 bt107.1 bt107.2.1 bt107.2.2 false)))) else (none)) else (none)) else (none)) else (none)))))))
theorem creelkeep_CutShort.mono_l : ∀ k, (∀ y0 y1 y2 y3 y4 y5 y6, LeO (creelkeep_CutShort.j0 k y0 y1 y2 y3 y4 y5 y6) (creelkeep_CutShort.j0 (k + 1) y0 y1 y2 y3 y4 y5 y6))
  | 0 => fun _ _ _ _ _ _ _ r h => by simp [creelkeep_CutShort.j0] at h
  | k + 1 => by
    have ih0 := creelkeep_CutShort.mono_l k
    · intro y0 y1 y2 y3 y4 y5 y6
      unfold creelkeep_CutShort.j0
      repeat' first
      | (with_reducible exact ih0 _ _ _ _ _ _ _)
      | (with_reducible exact LeO.refl _)
      | (with_reducible exact LeO.none _)
      | (with_reducible refine LeO.ite ?_ ?_)
      | (with_reducible refine LeO.bind ?_ (fun _ => ?_))
      | exact ih0 _ _ _ _ _ _ _
      | exact LeO.none _
      | refine LeO.ite ?_ ?_
      | refine LeO.bind ?_ (fun _ => ?_)
theorem creelkeep_CutShort.mono : ∀ a0 a1 a2 k, LeO (creelkeep_CutShort.f k a0 a1 a2) (creelkeep_CutShort.f (k + 1) a0 a1 a2) := by
  intro a0 a1 a2 k
  have ih0 := creelkeep_CutShort.mono_l k
  unfold creelkeep_CutShort.f
  repeat' first
      | (with_reducible exact ih0 _ _ _ _ _ _ _)
      | (with_reducible exact LeO.refl _)
      | (with_reducible exact LeO.none _)
      | (with_reducible refine LeO.ite ?_ ?_)
      | (with_reducible refine LeO.bind ?_ (fun _ => ?_))
      | exact ih0 _ _ _ _ _ _ _
      | exact LeO.none _
      | refine LeO.ite ?_ ?_
      | refine LeO.bind ?_ (fun _ => ?_)
set_option maxHeartbeats 8000000 in
set_option maxRecDepth 100000 in
theorem creelkeep_CutShort.calls (k : Nat) (a0 : Int) (a1 : Int) (a2 : Int) (r : Bool) (w : World) (h : creelkeep_CutShort.f k a0 a1 a2 = some r) :
    Calls Try.prog 3 #[.int .i64 a0, .int .i64 a1, .int .i64 a2] w fun e w' => e = .returned (.bool r) ∧ Below w.heap.size w w' := by
  have HB := Aside0.mk (Below.refl w.heap.size w)
  have H : ((creelkeep_picked.f a0 160).bind fun t101 => ((strings_Repeat.f (⟨#[120]⟩ : ByteArray) (wrap64 (1 + t101))).bind fun t102 => ((creelkeep_picked.f a1 100).bind fun t103 => ((strings_Repeat.f (⟨#[121]⟩ : ByteArray) (wrap64 (1 + t103))).bind fun t104 => ((creelkeep_picked.f a2 100).bind fun t105 => ((strings_Repeat.f (⟨#[122]⟩ : ByteArray) (wrap64 (1 + t105))).bind fun t106 => (if t102.size + 1 ≤ 9223372036854775807 then (if (t102 ++ (⟨#[47]⟩ : ByteArray)).size + t104.size ≤ 9223372036854775807 then (if ((t102 ++ (⟨#[47]⟩ : ByteArray)) ++ t104).size + 1 ≤ 9223372036854775807 then (if (((t102 ++ (⟨#[47]⟩ : ByteArray)) ++ t104) ++ (⟨#[47]⟩ : ByteArray)).size + t106.size ≤ 9223372036854775807 then ((cut_Two.f ((((t102 ++ (⟨#[47]⟩ : ByteArray)) ++ t104) ++ (⟨#[47]⟩ : ByteArray)) ++ t106)).bind fun bt107 => (if (((((t102 ++ (⟨#[47]⟩ : ByteArray)) ++ t104) ++ (⟨#[47]⟩ : ByteArray)) ++ t106).size : Int) ≤ 100 then (if bt107.2.2 = 0 then (if bt107.1.toList = ([] : List UInt8) then (some (bt107.2.1.toList == ((((t102 ++ (⟨#[47]⟩ : ByteArray)) ++ t104) ++ (⟨#[47]⟩ : ByteArray)) ++ t106).toList)) else (some false)) else (some false)) else (if (wrap64 ((t104.size : Int) + (t106.size : Int))) < 100 then (creelkeep_CutShort.j0 k t102 t104 t106 bt107.1 bt107.2.1 bt107.2.2 (decide ((t102.size : Int) ≤ 155))) else (creelkeep_CutShort.j0 k t102 t104 t106 bt107.1 bt107.2.1 bt107.2.2 false)))) else (none)) else (none)) else (none)) else (none)))))))) = some r := h
  clear h
  replace H := Option.bind_eq_some_iff.mp H
  obtain ⟨t101, A40, H⟩ := H
  replace H : ((strings_Repeat.f (⟨#[120]⟩ : ByteArray) (wrap64 (1 + t101))).bind fun t102 => ((creelkeep_picked.f a1 100).bind fun t103 => ((strings_Repeat.f (⟨#[121]⟩ : ByteArray) (wrap64 (1 + t103))).bind fun t104 => ((creelkeep_picked.f a2 100).bind fun t105 => ((strings_Repeat.f (⟨#[122]⟩ : ByteArray) (wrap64 (1 + t105))).bind fun t106 => (if t102.size + 1 ≤ 9223372036854775807 then (if (t102 ++ (⟨#[47]⟩ : ByteArray)).size + t104.size ≤ 9223372036854775807 then (if ((t102 ++ (⟨#[47]⟩ : ByteArray)) ++ t104).size + 1 ≤ 9223372036854775807 then (if (((t102 ++ (⟨#[47]⟩ : ByteArray)) ++ t104) ++ (⟨#[47]⟩ : ByteArray)).size + t106.size ≤ 9223372036854775807 then ((cut_Two.f ((((t102 ++ (⟨#[47]⟩ : ByteArray)) ++ t104) ++ (⟨#[47]⟩ : ByteArray)) ++ t106)).bind fun bt107 => (if (((((t102 ++ (⟨#[47]⟩ : ByteArray)) ++ t104) ++ (⟨#[47]⟩ : ByteArray)) ++ t106).size : Int) ≤ 100 then (if bt107.2.2 = 0 then (if bt107.1.toList = ([] : List UInt8) then (some (bt107.2.1.toList == ((((t102 ++ (⟨#[47]⟩ : ByteArray)) ++ t104) ++ (⟨#[47]⟩ : ByteArray)) ++ t106).toList)) else (some false)) else (some false)) else (if (wrap64 ((t104.size : Int) + (t106.size : Int))) < 100 then (creelkeep_CutShort.j0 k t102 t104 t106 bt107.1 bt107.2.1 bt107.2.2 (decide ((t102.size : Int) ≤ 155))) else (creelkeep_CutShort.j0 k t102 t104 t106 bt107.1 bt107.2.1 bt107.2.2 false)))) else (none)) else (none)) else (none)) else (none))))))) = some r := H
  have A4 := Aside0.mk A40
  clear A40
  replace H := Option.bind_eq_some_iff.mp H
  obtain ⟨t102, A50, H⟩ := H
  replace H : ((creelkeep_picked.f a1 100).bind fun t103 => ((strings_Repeat.f (⟨#[121]⟩ : ByteArray) (wrap64 (1 + t103))).bind fun t104 => ((creelkeep_picked.f a2 100).bind fun t105 => ((strings_Repeat.f (⟨#[122]⟩ : ByteArray) (wrap64 (1 + t105))).bind fun t106 => (if t102.size + 1 ≤ 9223372036854775807 then (if (t102 ++ (⟨#[47]⟩ : ByteArray)).size + t104.size ≤ 9223372036854775807 then (if ((t102 ++ (⟨#[47]⟩ : ByteArray)) ++ t104).size + 1 ≤ 9223372036854775807 then (if (((t102 ++ (⟨#[47]⟩ : ByteArray)) ++ t104) ++ (⟨#[47]⟩ : ByteArray)).size + t106.size ≤ 9223372036854775807 then ((cut_Two.f ((((t102 ++ (⟨#[47]⟩ : ByteArray)) ++ t104) ++ (⟨#[47]⟩ : ByteArray)) ++ t106)).bind fun bt107 => (if (((((t102 ++ (⟨#[47]⟩ : ByteArray)) ++ t104) ++ (⟨#[47]⟩ : ByteArray)) ++ t106).size : Int) ≤ 100 then (if bt107.2.2 = 0 then (if bt107.1.toList = ([] : List UInt8) then (some (bt107.2.1.toList == ((((t102 ++ (⟨#[47]⟩ : ByteArray)) ++ t104) ++ (⟨#[47]⟩ : ByteArray)) ++ t106).toList)) else (some false)) else (some false)) else (if (wrap64 ((t104.size : Int) + (t106.size : Int))) < 100 then (creelkeep_CutShort.j0 k t102 t104 t106 bt107.1 bt107.2.1 bt107.2.2 (decide ((t102.size : Int) ≤ 155))) else (creelkeep_CutShort.j0 k t102 t104 t106 bt107.1 bt107.2.1 bt107.2.2 false)))) else (none)) else (none)) else (none)) else (none)))))) = some r := H
  have A5 := Aside0.mk A50
  clear A50
  replace H := Option.bind_eq_some_iff.mp H
  obtain ⟨t103, A60, H⟩ := H
  replace H : ((strings_Repeat.f (⟨#[121]⟩ : ByteArray) (wrap64 (1 + t103))).bind fun t104 => ((creelkeep_picked.f a2 100).bind fun t105 => ((strings_Repeat.f (⟨#[122]⟩ : ByteArray) (wrap64 (1 + t105))).bind fun t106 => (if t102.size + 1 ≤ 9223372036854775807 then (if (t102 ++ (⟨#[47]⟩ : ByteArray)).size + t104.size ≤ 9223372036854775807 then (if ((t102 ++ (⟨#[47]⟩ : ByteArray)) ++ t104).size + 1 ≤ 9223372036854775807 then (if (((t102 ++ (⟨#[47]⟩ : ByteArray)) ++ t104) ++ (⟨#[47]⟩ : ByteArray)).size + t106.size ≤ 9223372036854775807 then ((cut_Two.f ((((t102 ++ (⟨#[47]⟩ : ByteArray)) ++ t104) ++ (⟨#[47]⟩ : ByteArray)) ++ t106)).bind fun bt107 => (if (((((t102 ++ (⟨#[47]⟩ : ByteArray)) ++ t104) ++ (⟨#[47]⟩ : ByteArray)) ++ t106).size : Int) ≤ 100 then (if bt107.2.2 = 0 then (if bt107.1.toList = ([] : List UInt8) then (some (bt107.2.1.toList == ((((t102 ++ (⟨#[47]⟩ : ByteArray)) ++ t104) ++ (⟨#[47]⟩ : ByteArray)) ++ t106).toList)) else (some false)) else (some false)) else (if (wrap64 ((t104.size : Int) + (t106.size : Int))) < 100 then (creelkeep_CutShort.j0 k t102 t104 t106 bt107.1 bt107.2.1 bt107.2.2 (decide ((t102.size : Int) ≤ 155))) else (creelkeep_CutShort.j0 k t102 t104 t106 bt107.1 bt107.2.1 bt107.2.2 false)))) else (none)) else (none)) else (none)) else (none))))) = some r := H
  have A6 := Aside0.mk A60
  clear A60
  replace H := Option.bind_eq_some_iff.mp H
  obtain ⟨t104, A70, H⟩ := H
  replace H : ((creelkeep_picked.f a2 100).bind fun t105 => ((strings_Repeat.f (⟨#[122]⟩ : ByteArray) (wrap64 (1 + t105))).bind fun t106 => (if t102.size + 1 ≤ 9223372036854775807 then (if (t102 ++ (⟨#[47]⟩ : ByteArray)).size + t104.size ≤ 9223372036854775807 then (if ((t102 ++ (⟨#[47]⟩ : ByteArray)) ++ t104).size + 1 ≤ 9223372036854775807 then (if (((t102 ++ (⟨#[47]⟩ : ByteArray)) ++ t104) ++ (⟨#[47]⟩ : ByteArray)).size + t106.size ≤ 9223372036854775807 then ((cut_Two.f ((((t102 ++ (⟨#[47]⟩ : ByteArray)) ++ t104) ++ (⟨#[47]⟩ : ByteArray)) ++ t106)).bind fun bt107 => (if (((((t102 ++ (⟨#[47]⟩ : ByteArray)) ++ t104) ++ (⟨#[47]⟩ : ByteArray)) ++ t106).size : Int) ≤ 100 then (if bt107.2.2 = 0 then (if bt107.1.toList = ([] : List UInt8) then (some (bt107.2.1.toList == ((((t102 ++ (⟨#[47]⟩ : ByteArray)) ++ t104) ++ (⟨#[47]⟩ : ByteArray)) ++ t106).toList)) else (some false)) else (some false)) else (if (wrap64 ((t104.size : Int) + (t106.size : Int))) < 100 then (creelkeep_CutShort.j0 k t102 t104 t106 bt107.1 bt107.2.1 bt107.2.2 (decide ((t102.size : Int) ≤ 155))) else (creelkeep_CutShort.j0 k t102 t104 t106 bt107.1 bt107.2.1 bt107.2.2 false)))) else (none)) else (none)) else (none)) else (none)))) = some r := H
  have A7 := Aside0.mk A70
  clear A70
  replace H := Option.bind_eq_some_iff.mp H
  obtain ⟨t105, A80, H⟩ := H
  replace H : ((strings_Repeat.f (⟨#[122]⟩ : ByteArray) (wrap64 (1 + t105))).bind fun t106 => (if t102.size + 1 ≤ 9223372036854775807 then (if (t102 ++ (⟨#[47]⟩ : ByteArray)).size + t104.size ≤ 9223372036854775807 then (if ((t102 ++ (⟨#[47]⟩ : ByteArray)) ++ t104).size + 1 ≤ 9223372036854775807 then (if (((t102 ++ (⟨#[47]⟩ : ByteArray)) ++ t104) ++ (⟨#[47]⟩ : ByteArray)).size + t106.size ≤ 9223372036854775807 then ((cut_Two.f ((((t102 ++ (⟨#[47]⟩ : ByteArray)) ++ t104) ++ (⟨#[47]⟩ : ByteArray)) ++ t106)).bind fun bt107 => (if (((((t102 ++ (⟨#[47]⟩ : ByteArray)) ++ t104) ++ (⟨#[47]⟩ : ByteArray)) ++ t106).size : Int) ≤ 100 then (if bt107.2.2 = 0 then (if bt107.1.toList = ([] : List UInt8) then (some (bt107.2.1.toList == ((((t102 ++ (⟨#[47]⟩ : ByteArray)) ++ t104) ++ (⟨#[47]⟩ : ByteArray)) ++ t106).toList)) else (some false)) else (some false)) else (if (wrap64 ((t104.size : Int) + (t106.size : Int))) < 100 then (creelkeep_CutShort.j0 k t102 t104 t106 bt107.1 bt107.2.1 bt107.2.2 (decide ((t102.size : Int) ≤ 155))) else (creelkeep_CutShort.j0 k t102 t104 t106 bt107.1 bt107.2.1 bt107.2.2 false)))) else (none)) else (none)) else (none)) else (none))) = some r := H
  have A8 := Aside0.mk A80
  clear A80
  replace H := Option.bind_eq_some_iff.mp H
  obtain ⟨t106, A90, H⟩ := H
  replace H : (if t102.size + 1 ≤ 9223372036854775807 then (if (t102 ++ (⟨#[47]⟩ : ByteArray)).size + t104.size ≤ 9223372036854775807 then (if ((t102 ++ (⟨#[47]⟩ : ByteArray)) ++ t104).size + 1 ≤ 9223372036854775807 then (if (((t102 ++ (⟨#[47]⟩ : ByteArray)) ++ t104) ++ (⟨#[47]⟩ : ByteArray)).size + t106.size ≤ 9223372036854775807 then ((cut_Two.f ((((t102 ++ (⟨#[47]⟩ : ByteArray)) ++ t104) ++ (⟨#[47]⟩ : ByteArray)) ++ t106)).bind fun bt107 => (if (((((t102 ++ (⟨#[47]⟩ : ByteArray)) ++ t104) ++ (⟨#[47]⟩ : ByteArray)) ++ t106).size : Int) ≤ 100 then (if bt107.2.2 = 0 then (if bt107.1.toList = ([] : List UInt8) then (some (bt107.2.1.toList == ((((t102 ++ (⟨#[47]⟩ : ByteArray)) ++ t104) ++ (⟨#[47]⟩ : ByteArray)) ++ t106).toList)) else (some false)) else (some false)) else (if (wrap64 ((t104.size : Int) + (t106.size : Int))) < 100 then (creelkeep_CutShort.j0 k t102 t104 t106 bt107.1 bt107.2.1 bt107.2.2 (decide ((t102.size : Int) ≤ 155))) else (creelkeep_CutShort.j0 k t102 t104 t106 bt107.1 bt107.2.1 bt107.2.2 false)))) else (none)) else (none)) else (none)) else (none)) = some r := H
  have A9 := Aside0.mk A90
  clear A90
  by_cases c10 : t102.size + 1 ≤ 9223372036854775807
  · rw [if_pos c10] at H
    have c10b0 := eq_true c10
    have c10b1 : decide (t102.size + 1 ≤ 9223372036854775807) = true := decide_eq_true c10
    try have c10b2 : (9223372036854775807 < t102.size + 1) = False := eq_false (Nat.not_lt.2 c10)
    by_cases c11 : (t102 ++ (⟨#[47]⟩ : ByteArray)).size + t104.size ≤ 9223372036854775807
    · rw [if_pos c11] at H
      have c11b0 := eq_true c11
      have c11b1 : decide ((t102 ++ (⟨#[47]⟩ : ByteArray)).size + t104.size ≤ 9223372036854775807) = true := decide_eq_true c11
      try have c11b1s := c11b1
      (try simp only [ByteArray.size_append, show (⟨#[47]⟩ : ByteArray).size = 1 from rfl] at c11b1s)
      try have c11b2 : (9223372036854775807 < (t102 ++ (⟨#[47]⟩ : ByteArray)).size + t104.size) = False := eq_false (Nat.not_lt.2 c11)
      try have c11b2s := c11b2
      (try simp only [ByteArray.size_append, show (⟨#[47]⟩ : ByteArray).size = 1 from rfl] at c11b2s)
      by_cases c12 : ((t102 ++ (⟨#[47]⟩ : ByteArray)) ++ t104).size + 1 ≤ 9223372036854775807
      · rw [if_pos c12] at H
        have c12b0 := eq_true c12
        have c12b1 : decide (((t102 ++ (⟨#[47]⟩ : ByteArray)) ++ t104).size + 1 ≤ 9223372036854775807) = true := decide_eq_true c12
        try have c12b1s := c12b1
        (try simp only [ByteArray.size_append, show (⟨#[47]⟩ : ByteArray).size = 1 from rfl] at c12b1s)
        try have c12b2 : (9223372036854775807 < ((t102 ++ (⟨#[47]⟩ : ByteArray)) ++ t104).size + 1) = False := eq_false (Nat.not_lt.2 c12)
        try have c12b2s := c12b2
        (try simp only [ByteArray.size_append, show (⟨#[47]⟩ : ByteArray).size = 1 from rfl] at c12b2s)
        by_cases c13 : (((t102 ++ (⟨#[47]⟩ : ByteArray)) ++ t104) ++ (⟨#[47]⟩ : ByteArray)).size + t106.size ≤ 9223372036854775807
        · rw [if_pos c13] at H
          have c13b0 := eq_true c13
          have c13b1 : decide ((((t102 ++ (⟨#[47]⟩ : ByteArray)) ++ t104) ++ (⟨#[47]⟩ : ByteArray)).size + t106.size ≤ 9223372036854775807) = true := decide_eq_true c13
          try have c13b1s := c13b1
          (try simp only [ByteArray.size_append, show (⟨#[47]⟩ : ByteArray).size = 1 from rfl] at c13b1s)
          try have c13b2 : (9223372036854775807 < (((t102 ++ (⟨#[47]⟩ : ByteArray)) ++ t104) ++ (⟨#[47]⟩ : ByteArray)).size + t106.size) = False := eq_false (Nat.not_lt.2 c13)
          try have c13b2s := c13b2
          (try simp only [ByteArray.size_append, show (⟨#[47]⟩ : ByteArray).size = 1 from rfl] at c13b2s)
          replace H := Option.bind_eq_some_iff.mp H
          obtain ⟨⟨t107, t108, t109⟩, A140, H⟩ := H
          replace H : (if (((((t102 ++ (⟨#[47]⟩ : ByteArray)) ++ t104) ++ (⟨#[47]⟩ : ByteArray)) ++ t106).size : Int) ≤ 100 then (if t109 = 0 then (if t107.toList = ([] : List UInt8) then (some (t108.toList == ((((t102 ++ (⟨#[47]⟩ : ByteArray)) ++ t104) ++ (⟨#[47]⟩ : ByteArray)) ++ t106).toList)) else (some false)) else (some false)) else (if (wrap64 ((t104.size : Int) + (t106.size : Int))) < 100 then (creelkeep_CutShort.j0 k t102 t104 t106 t107 t108 t109 (decide ((t102.size : Int) ≤ 155))) else (creelkeep_CutShort.j0 k t102 t104 t106 t107 t108 t109 false))) = some r := H
          have A14 := Aside0.mk A140
          clear A140
          by_cases c15 : (((((t102 ++ (⟨#[47]⟩ : ByteArray)) ++ t104) ++ (⟨#[47]⟩ : ByteArray)) ++ t106).size : Int) ≤ 100
          · rw [if_pos c15] at H
            have c15b0 : decide ((((((t102 ++ (⟨#[47]⟩ : ByteArray)) ++ t104) ++ (⟨#[47]⟩ : ByteArray)) ++ t106).size : Int) ≤ 100) = true := decide_eq_true c15
            try have c15b0s := c15b0
            (try simp only [ByteArray.size_append, show (⟨#[47]⟩ : ByteArray).size = 1 from rfl] at c15b0s)
            try have c15b0t := c15b0s
            (try push_cast at c15b0t)
            have c15b1 : decide (((((t102 ++ (⟨#[47]⟩ : ByteArray)) ++ t104) ++ (⟨#[47]⟩ : ByteArray)) ++ t106).size ≤ 100) = true := decide_eq_true (by omega)
            try have c15b1s := c15b1
            (try simp only [ByteArray.size_append, show (⟨#[47]⟩ : ByteArray).size = 1 from rfl] at c15b1s)
            clear c15
            by_cases c16 : t109 = 0
            · rw [if_pos c16] at H
              have c16b0 : (t109 == 0) = true := beq_iff_eq.mpr c16
              have c16b1 : (t109 != 0) = false := bne_eq_false_iff_eq.mpr c16
              clear c16
              by_cases c17 : t107.toList = ([] : List UInt8)
              · rw [if_pos c17] at H
                have c17b0 : (t107.toList == ([] : List UInt8)) = true := beq_iff_eq.mpr c17
                have c17b1 : (t107.toList != ([] : List UInt8)) = false := bne_eq_false_iff_eq.mpr c17
                clear c17
                obtain rfl := Option.some.inj H
                go_enter Try.func3, Try.ntmps3
                go_wp2_with (first | ((with_reducible refine gate_callee (f := 5) rfl ?_); refine goesL_ (some 15) rfl rfl Try.func5 (by kernel_rfl) rfl #[.int .i64 a0, .int .i64 160] rfl (by (try simp only [List.map_toArray, List.map_cons, List.map_nil]); first | done | rfl | (simp only [List.length_drop, List.length_take]; rfl)) ?_; (with_reducible refine (creelkeep_picked.calls a0 160 t101 _ A4.out).mono ?_); rintro e w' ⟨rfl, ⟨nd, rfl⟩⟩; refine ⟨_, rfl, ?_⟩) | ((with_reducible refine gate_callee (f := 4) rfl ?_); refine goesL_ (some 17) rfl rfl Try.func4 (by kernel_rfl) rfl #[.string (⟨#[120]⟩ : ByteArray), .int .i64 (wrap64 (1 + t101))] rfl (by (try simp only [List.map_toArray, List.map_cons, List.map_nil]); first | done | rfl | (simp only [List.length_drop, List.length_take]; rfl)) ?_; (with_reducible refine (strings_Repeat.calls (⟨#[120]⟩ : ByteArray) (wrap64 (1 + t101)) t102 _ A5.out).mono ?_); rintro e w18 ⟨rfl, hb⟩; refine ⟨_, rfl, ?_⟩; have n0_ := Aside0.mk (below_step (by repeat (first | (with_reducible first | exact HB.out | apply below_alloc | apply pw_below_drewN | apply below_drew1) | exact HB.out)) hb); clear HB; have HB := n0_; clear n0_; (try clear hb); (try clear hb2); (try clear hk); (try clear hi)) | ((with_reducible refine gate_callee (f := 5) rfl ?_); refine goesL_ (some 19) rfl rfl Try.func5 (by kernel_rfl) rfl #[.int .i64 a1, .int .i64 100] rfl (by (try simp only [List.map_toArray, List.map_cons, List.map_nil]); first | done | rfl | (simp only [List.length_drop, List.length_take]; rfl)) ?_; (with_reducible refine (creelkeep_picked.calls a1 100 t103 _ A6.out).mono ?_); rintro e w' ⟨rfl, ⟨nd, rfl⟩⟩; refine ⟨_, rfl, ?_⟩) | ((with_reducible refine gate_callee (f := 4) rfl ?_); refine goesL_ (some 21) rfl rfl Try.func4 (by kernel_rfl) rfl #[.string (⟨#[121]⟩ : ByteArray), .int .i64 (wrap64 (1 + t103))] rfl (by (try simp only [List.map_toArray, List.map_cons, List.map_nil]); first | done | rfl | (simp only [List.length_drop, List.length_take]; rfl)) ?_; (with_reducible refine (strings_Repeat.calls (⟨#[121]⟩ : ByteArray) (wrap64 (1 + t103)) t104 _ A7.out).mono ?_); rintro e w19 ⟨rfl, hb⟩; refine ⟨_, rfl, ?_⟩; have n0_ := Aside0.mk (below_step (by repeat (first | (with_reducible first | exact HB.out | apply below_alloc | apply pw_below_drewN | apply below_drew1) | exact HB.out)) hb); clear HB; have HB := n0_; clear n0_; (try clear hb); (try clear hb2); (try clear hk); (try clear hi)) | ((with_reducible refine gate_callee (f := 5) rfl ?_); refine goesL_ (some 23) rfl rfl Try.func5 (by kernel_rfl) rfl #[.int .i64 a2, .int .i64 100] rfl (by (try simp only [List.map_toArray, List.map_cons, List.map_nil]); first | done | rfl | (simp only [List.length_drop, List.length_take]; rfl)) ?_; (with_reducible refine (creelkeep_picked.calls a2 100 t105 _ A8.out).mono ?_); rintro e w' ⟨rfl, ⟨nd, rfl⟩⟩; refine ⟨_, rfl, ?_⟩) | ((with_reducible refine gate_callee (f := 4) rfl ?_); refine goesL_ (some 25) rfl rfl Try.func4 (by kernel_rfl) rfl #[.string (⟨#[122]⟩ : ByteArray), .int .i64 (wrap64 (1 + t105))] rfl (by (try simp only [List.map_toArray, List.map_cons, List.map_nil]); first | done | rfl | (simp only [List.length_drop, List.length_take]; rfl)) ?_; (with_reducible refine (strings_Repeat.calls (⟨#[122]⟩ : ByteArray) (wrap64 (1 + t105)) t106 _ A9.out).mono ?_); rintro e w20 ⟨rfl, hb⟩; refine ⟨_, rfl, ?_⟩; have n0_ := Aside0.mk (below_step (by repeat (first | (with_reducible first | exact HB.out | apply below_alloc | apply pw_below_drewN | apply below_drew1) | exact HB.out)) hb); clear HB; have HB := n0_; clear n0_; (try clear hb); (try clear hb2); (try clear hk); (try clear hi)) | ((with_reducible refine gate_callee (f := 6) rfl ?_); refine goesL_ (some 35) rfl rfl Try.func6 (by kernel_rfl) rfl #[.string ((((t102 ++ (⟨#[47]⟩ : ByteArray)) ++ t104) ++ (⟨#[47]⟩ : ByteArray)) ++ t106)] rfl (by (try simp only [List.map_toArray, List.map_cons, List.map_nil]); first | done | rfl | (simp only [List.length_drop, List.length_take]; rfl)) ?_; (with_reducible refine (cut_Two.calls ((((t102 ++ (⟨#[47]⟩ : ByteArray)) ++ t104) ++ (⟨#[47]⟩ : ByteArray)) ++ t106) t107 t108 t109 _ A14.out).mono ?_); rintro e w21 ⟨rfl, hb⟩; refine ⟨_, rfl, ?_⟩; have n0_ := Aside0.mk (below_step (by repeat (first | (with_reducible first | exact HB.out | apply below_alloc | apply pw_below_drewN | apply below_drew1) | exact HB.out)) hb); clear HB; have HB := n0_; clear n0_; (try clear hb); (try clear hb2); (try clear hk); (try clear hi)))
                go_ret
                exact ⟨by first | rfl | (simp [errW_none, errW_some] <;> rfl) | (simp [*, errW_none, errW_some] <;> rfl), by repeat (first | (with_reducible first | exact HB.out | apply below_alloc | apply pw_below_drewN | apply below_drew1) | exact HB.out)⟩
              · rw [if_neg c17] at H
                have c17b0 : (t107.toList == ([] : List UInt8)) = false := beq_eq_false_iff_ne.mpr c17
                have c17b1 : (t107.toList != ([] : List UInt8)) = true := bne_iff_ne.mpr c17
                obtain rfl := Option.some.inj H
                go_enter Try.func3, Try.ntmps3
                go_wp2_with (first | ((with_reducible refine gate_callee (f := 5) rfl ?_); refine goesL_ (some 15) rfl rfl Try.func5 (by kernel_rfl) rfl #[.int .i64 a0, .int .i64 160] rfl (by (try simp only [List.map_toArray, List.map_cons, List.map_nil]); first | done | rfl | (simp only [List.length_drop, List.length_take]; rfl)) ?_; (with_reducible refine (creelkeep_picked.calls a0 160 t101 _ A4.out).mono ?_); rintro e w' ⟨rfl, ⟨nd, rfl⟩⟩; refine ⟨_, rfl, ?_⟩) | ((with_reducible refine gate_callee (f := 4) rfl ?_); refine goesL_ (some 17) rfl rfl Try.func4 (by kernel_rfl) rfl #[.string (⟨#[120]⟩ : ByteArray), .int .i64 (wrap64 (1 + t101))] rfl (by (try simp only [List.map_toArray, List.map_cons, List.map_nil]); first | done | rfl | (simp only [List.length_drop, List.length_take]; rfl)) ?_; (with_reducible refine (strings_Repeat.calls (⟨#[120]⟩ : ByteArray) (wrap64 (1 + t101)) t102 _ A5.out).mono ?_); rintro e w22 ⟨rfl, hb⟩; refine ⟨_, rfl, ?_⟩; have n0_ := Aside0.mk (below_step (by repeat (first | (with_reducible first | exact HB.out | apply below_alloc | apply pw_below_drewN | apply below_drew1) | exact HB.out)) hb); clear HB; have HB := n0_; clear n0_; (try clear hb); (try clear hb2); (try clear hk); (try clear hi)) | ((with_reducible refine gate_callee (f := 5) rfl ?_); refine goesL_ (some 19) rfl rfl Try.func5 (by kernel_rfl) rfl #[.int .i64 a1, .int .i64 100] rfl (by (try simp only [List.map_toArray, List.map_cons, List.map_nil]); first | done | rfl | (simp only [List.length_drop, List.length_take]; rfl)) ?_; (with_reducible refine (creelkeep_picked.calls a1 100 t103 _ A6.out).mono ?_); rintro e w' ⟨rfl, ⟨nd, rfl⟩⟩; refine ⟨_, rfl, ?_⟩) | ((with_reducible refine gate_callee (f := 4) rfl ?_); refine goesL_ (some 21) rfl rfl Try.func4 (by kernel_rfl) rfl #[.string (⟨#[121]⟩ : ByteArray), .int .i64 (wrap64 (1 + t103))] rfl (by (try simp only [List.map_toArray, List.map_cons, List.map_nil]); first | done | rfl | (simp only [List.length_drop, List.length_take]; rfl)) ?_; (with_reducible refine (strings_Repeat.calls (⟨#[121]⟩ : ByteArray) (wrap64 (1 + t103)) t104 _ A7.out).mono ?_); rintro e w23 ⟨rfl, hb⟩; refine ⟨_, rfl, ?_⟩; have n0_ := Aside0.mk (below_step (by repeat (first | (with_reducible first | exact HB.out | apply below_alloc | apply pw_below_drewN | apply below_drew1) | exact HB.out)) hb); clear HB; have HB := n0_; clear n0_; (try clear hb); (try clear hb2); (try clear hk); (try clear hi)) | ((with_reducible refine gate_callee (f := 5) rfl ?_); refine goesL_ (some 23) rfl rfl Try.func5 (by kernel_rfl) rfl #[.int .i64 a2, .int .i64 100] rfl (by (try simp only [List.map_toArray, List.map_cons, List.map_nil]); first | done | rfl | (simp only [List.length_drop, List.length_take]; rfl)) ?_; (with_reducible refine (creelkeep_picked.calls a2 100 t105 _ A8.out).mono ?_); rintro e w' ⟨rfl, ⟨nd, rfl⟩⟩; refine ⟨_, rfl, ?_⟩) | ((with_reducible refine gate_callee (f := 4) rfl ?_); refine goesL_ (some 25) rfl rfl Try.func4 (by kernel_rfl) rfl #[.string (⟨#[122]⟩ : ByteArray), .int .i64 (wrap64 (1 + t105))] rfl (by (try simp only [List.map_toArray, List.map_cons, List.map_nil]); first | done | rfl | (simp only [List.length_drop, List.length_take]; rfl)) ?_; (with_reducible refine (strings_Repeat.calls (⟨#[122]⟩ : ByteArray) (wrap64 (1 + t105)) t106 _ A9.out).mono ?_); rintro e w24 ⟨rfl, hb⟩; refine ⟨_, rfl, ?_⟩; have n0_ := Aside0.mk (below_step (by repeat (first | (with_reducible first | exact HB.out | apply below_alloc | apply pw_below_drewN | apply below_drew1) | exact HB.out)) hb); clear HB; have HB := n0_; clear n0_; (try clear hb); (try clear hb2); (try clear hk); (try clear hi)) | ((with_reducible refine gate_callee (f := 6) rfl ?_); refine goesL_ (some 35) rfl rfl Try.func6 (by kernel_rfl) rfl #[.string ((((t102 ++ (⟨#[47]⟩ : ByteArray)) ++ t104) ++ (⟨#[47]⟩ : ByteArray)) ++ t106)] rfl (by (try simp only [List.map_toArray, List.map_cons, List.map_nil]); first | done | rfl | (simp only [List.length_drop, List.length_take]; rfl)) ?_; (with_reducible refine (cut_Two.calls ((((t102 ++ (⟨#[47]⟩ : ByteArray)) ++ t104) ++ (⟨#[47]⟩ : ByteArray)) ++ t106) t107 t108 t109 _ A14.out).mono ?_); rintro e w25 ⟨rfl, hb⟩; refine ⟨_, rfl, ?_⟩; have n0_ := Aside0.mk (below_step (by repeat (first | (with_reducible first | exact HB.out | apply below_alloc | apply pw_below_drewN | apply below_drew1) | exact HB.out)) hb); clear HB; have HB := n0_; clear n0_; (try clear hb); (try clear hb2); (try clear hk); (try clear hi)))
                go_ret
                exact ⟨by first | rfl | (simp [errW_none, errW_some] <;> rfl) | (simp [*, errW_none, errW_some] <;> rfl), by repeat (first | (with_reducible first | exact HB.out | apply below_alloc | apply pw_below_drewN | apply below_drew1) | exact HB.out)⟩
            · rw [if_neg c16] at H
              have c16b0 : (t109 == 0) = false := beq_eq_false_iff_ne.mpr c16
              have c16b1 : (t109 != 0) = true := bne_iff_ne.mpr c16
              obtain rfl := Option.some.inj H
              go_enter Try.func3, Try.ntmps3
              go_wp2_with (first | ((with_reducible refine gate_callee (f := 5) rfl ?_); refine goesL_ (some 15) rfl rfl Try.func5 (by kernel_rfl) rfl #[.int .i64 a0, .int .i64 160] rfl (by (try simp only [List.map_toArray, List.map_cons, List.map_nil]); first | done | rfl | (simp only [List.length_drop, List.length_take]; rfl)) ?_; (with_reducible refine (creelkeep_picked.calls a0 160 t101 _ A4.out).mono ?_); rintro e w' ⟨rfl, ⟨nd, rfl⟩⟩; refine ⟨_, rfl, ?_⟩) | ((with_reducible refine gate_callee (f := 4) rfl ?_); refine goesL_ (some 17) rfl rfl Try.func4 (by kernel_rfl) rfl #[.string (⟨#[120]⟩ : ByteArray), .int .i64 (wrap64 (1 + t101))] rfl (by (try simp only [List.map_toArray, List.map_cons, List.map_nil]); first | done | rfl | (simp only [List.length_drop, List.length_take]; rfl)) ?_; (with_reducible refine (strings_Repeat.calls (⟨#[120]⟩ : ByteArray) (wrap64 (1 + t101)) t102 _ A5.out).mono ?_); rintro e w26 ⟨rfl, hb⟩; refine ⟨_, rfl, ?_⟩; have n0_ := Aside0.mk (below_step (by repeat (first | (with_reducible first | exact HB.out | apply below_alloc | apply pw_below_drewN | apply below_drew1) | exact HB.out)) hb); clear HB; have HB := n0_; clear n0_; (try clear hb); (try clear hb2); (try clear hk); (try clear hi)) | ((with_reducible refine gate_callee (f := 5) rfl ?_); refine goesL_ (some 19) rfl rfl Try.func5 (by kernel_rfl) rfl #[.int .i64 a1, .int .i64 100] rfl (by (try simp only [List.map_toArray, List.map_cons, List.map_nil]); first | done | rfl | (simp only [List.length_drop, List.length_take]; rfl)) ?_; (with_reducible refine (creelkeep_picked.calls a1 100 t103 _ A6.out).mono ?_); rintro e w' ⟨rfl, ⟨nd, rfl⟩⟩; refine ⟨_, rfl, ?_⟩) | ((with_reducible refine gate_callee (f := 4) rfl ?_); refine goesL_ (some 21) rfl rfl Try.func4 (by kernel_rfl) rfl #[.string (⟨#[121]⟩ : ByteArray), .int .i64 (wrap64 (1 + t103))] rfl (by (try simp only [List.map_toArray, List.map_cons, List.map_nil]); first | done | rfl | (simp only [List.length_drop, List.length_take]; rfl)) ?_; (with_reducible refine (strings_Repeat.calls (⟨#[121]⟩ : ByteArray) (wrap64 (1 + t103)) t104 _ A7.out).mono ?_); rintro e w27 ⟨rfl, hb⟩; refine ⟨_, rfl, ?_⟩; have n0_ := Aside0.mk (below_step (by repeat (first | (with_reducible first | exact HB.out | apply below_alloc | apply pw_below_drewN | apply below_drew1) | exact HB.out)) hb); clear HB; have HB := n0_; clear n0_; (try clear hb); (try clear hb2); (try clear hk); (try clear hi)) | ((with_reducible refine gate_callee (f := 5) rfl ?_); refine goesL_ (some 23) rfl rfl Try.func5 (by kernel_rfl) rfl #[.int .i64 a2, .int .i64 100] rfl (by (try simp only [List.map_toArray, List.map_cons, List.map_nil]); first | done | rfl | (simp only [List.length_drop, List.length_take]; rfl)) ?_; (with_reducible refine (creelkeep_picked.calls a2 100 t105 _ A8.out).mono ?_); rintro e w' ⟨rfl, ⟨nd, rfl⟩⟩; refine ⟨_, rfl, ?_⟩) | ((with_reducible refine gate_callee (f := 4) rfl ?_); refine goesL_ (some 25) rfl rfl Try.func4 (by kernel_rfl) rfl #[.string (⟨#[122]⟩ : ByteArray), .int .i64 (wrap64 (1 + t105))] rfl (by (try simp only [List.map_toArray, List.map_cons, List.map_nil]); first | done | rfl | (simp only [List.length_drop, List.length_take]; rfl)) ?_; (with_reducible refine (strings_Repeat.calls (⟨#[122]⟩ : ByteArray) (wrap64 (1 + t105)) t106 _ A9.out).mono ?_); rintro e w28 ⟨rfl, hb⟩; refine ⟨_, rfl, ?_⟩; have n0_ := Aside0.mk (below_step (by repeat (first | (with_reducible first | exact HB.out | apply below_alloc | apply pw_below_drewN | apply below_drew1) | exact HB.out)) hb); clear HB; have HB := n0_; clear n0_; (try clear hb); (try clear hb2); (try clear hk); (try clear hi)) | ((with_reducible refine gate_callee (f := 6) rfl ?_); refine goesL_ (some 35) rfl rfl Try.func6 (by kernel_rfl) rfl #[.string ((((t102 ++ (⟨#[47]⟩ : ByteArray)) ++ t104) ++ (⟨#[47]⟩ : ByteArray)) ++ t106)] rfl (by (try simp only [List.map_toArray, List.map_cons, List.map_nil]); first | done | rfl | (simp only [List.length_drop, List.length_take]; rfl)) ?_; (with_reducible refine (cut_Two.calls ((((t102 ++ (⟨#[47]⟩ : ByteArray)) ++ t104) ++ (⟨#[47]⟩ : ByteArray)) ++ t106) t107 t108 t109 _ A14.out).mono ?_); rintro e w29 ⟨rfl, hb⟩; refine ⟨_, rfl, ?_⟩; have n0_ := Aside0.mk (below_step (by repeat (first | (with_reducible first | exact HB.out | apply below_alloc | apply pw_below_drewN | apply below_drew1) | exact HB.out)) hb); clear HB; have HB := n0_; clear n0_; (try clear hb); (try clear hb2); (try clear hk); (try clear hi)))
              go_ret
              exact ⟨by first | rfl | (simp [errW_none, errW_some] <;> rfl) | (simp [*, errW_none, errW_some] <;> rfl), by repeat (first | (with_reducible first | exact HB.out | apply below_alloc | apply pw_below_drewN | apply below_drew1) | exact HB.out)⟩
          · rw [if_neg c15] at H
            have c15b0 : decide ((((((t102 ++ (⟨#[47]⟩ : ByteArray)) ++ t104) ++ (⟨#[47]⟩ : ByteArray)) ++ t106).size : Int) ≤ 100) = false := decide_eq_false c15
            try have c15b0s := c15b0
            (try simp only [ByteArray.size_append, show (⟨#[47]⟩ : ByteArray).size = 1 from rfl] at c15b0s)
            try have c15b0t := c15b0s
            (try push_cast at c15b0t)
            have c15b1 : decide (((((t102 ++ (⟨#[47]⟩ : ByteArray)) ++ t104) ++ (⟨#[47]⟩ : ByteArray)) ++ t106).size ≤ 100) = false := decide_eq_false (by omega)
            try have c15b1s := c15b1
            (try simp only [ByteArray.size_append, show (⟨#[47]⟩ : ByteArray).size = 1 from rfl] at c15b1s)
            clear c15
            have HC30 := Aside0.mk H
            clear H
            go_enter Try.func3, Try.ntmps3
            go_upto_region 6 with (first | ((with_reducible refine gate_callee (f := 5) rfl ?_); refine goesL_ (some 15) rfl rfl Try.func5 (by kernel_rfl) rfl #[.int .i64 a0, .int .i64 160] rfl (by (try simp only [List.map_toArray, List.map_cons, List.map_nil]); first | done | rfl | (simp only [List.length_drop, List.length_take]; rfl)) ?_; (with_reducible refine (creelkeep_picked.calls a0 160 t101 _ A4.out).mono ?_); rintro e w' ⟨rfl, ⟨nd, rfl⟩⟩; refine ⟨_, rfl, ?_⟩) | ((with_reducible refine gate_callee (f := 4) rfl ?_); refine goesL_ (some 17) rfl rfl Try.func4 (by kernel_rfl) rfl #[.string (⟨#[120]⟩ : ByteArray), .int .i64 (wrap64 (1 + t101))] rfl (by (try simp only [List.map_toArray, List.map_cons, List.map_nil]); first | done | rfl | (simp only [List.length_drop, List.length_take]; rfl)) ?_; (with_reducible refine (strings_Repeat.calls (⟨#[120]⟩ : ByteArray) (wrap64 (1 + t101)) t102 _ A5.out).mono ?_); rintro e w31 ⟨rfl, hb⟩; refine ⟨_, rfl, ?_⟩; have n0_ := Aside0.mk (below_step (by repeat (first | (with_reducible first | exact HB.out | apply below_alloc | apply pw_below_drewN | apply below_drew1) | exact HB.out)) hb); clear HB; have HB := n0_; clear n0_; (try clear hb); (try clear hb2); (try clear hk); (try clear hi)) | ((with_reducible refine gate_callee (f := 5) rfl ?_); refine goesL_ (some 19) rfl rfl Try.func5 (by kernel_rfl) rfl #[.int .i64 a1, .int .i64 100] rfl (by (try simp only [List.map_toArray, List.map_cons, List.map_nil]); first | done | rfl | (simp only [List.length_drop, List.length_take]; rfl)) ?_; (with_reducible refine (creelkeep_picked.calls a1 100 t103 _ A6.out).mono ?_); rintro e w' ⟨rfl, ⟨nd, rfl⟩⟩; refine ⟨_, rfl, ?_⟩) | ((with_reducible refine gate_callee (f := 4) rfl ?_); refine goesL_ (some 21) rfl rfl Try.func4 (by kernel_rfl) rfl #[.string (⟨#[121]⟩ : ByteArray), .int .i64 (wrap64 (1 + t103))] rfl (by (try simp only [List.map_toArray, List.map_cons, List.map_nil]); first | done | rfl | (simp only [List.length_drop, List.length_take]; rfl)) ?_; (with_reducible refine (strings_Repeat.calls (⟨#[121]⟩ : ByteArray) (wrap64 (1 + t103)) t104 _ A7.out).mono ?_); rintro e w32 ⟨rfl, hb⟩; refine ⟨_, rfl, ?_⟩; have n0_ := Aside0.mk (below_step (by repeat (first | (with_reducible first | exact HB.out | apply below_alloc | apply pw_below_drewN | apply below_drew1) | exact HB.out)) hb); clear HB; have HB := n0_; clear n0_; (try clear hb); (try clear hb2); (try clear hk); (try clear hi)) | ((with_reducible refine gate_callee (f := 5) rfl ?_); refine goesL_ (some 23) rfl rfl Try.func5 (by kernel_rfl) rfl #[.int .i64 a2, .int .i64 100] rfl (by (try simp only [List.map_toArray, List.map_cons, List.map_nil]); first | done | rfl | (simp only [List.length_drop, List.length_take]; rfl)) ?_; (with_reducible refine (creelkeep_picked.calls a2 100 t105 _ A8.out).mono ?_); rintro e w' ⟨rfl, ⟨nd, rfl⟩⟩; refine ⟨_, rfl, ?_⟩) | ((with_reducible refine gate_callee (f := 4) rfl ?_); refine goesL_ (some 25) rfl rfl Try.func4 (by kernel_rfl) rfl #[.string (⟨#[122]⟩ : ByteArray), .int .i64 (wrap64 (1 + t105))] rfl (by (try simp only [List.map_toArray, List.map_cons, List.map_nil]); first | done | rfl | (simp only [List.length_drop, List.length_take]; rfl)) ?_; (with_reducible refine (strings_Repeat.calls (⟨#[122]⟩ : ByteArray) (wrap64 (1 + t105)) t106 _ A9.out).mono ?_); rintro e w33 ⟨rfl, hb⟩; refine ⟨_, rfl, ?_⟩; have n0_ := Aside0.mk (below_step (by repeat (first | (with_reducible first | exact HB.out | apply below_alloc | apply pw_below_drewN | apply below_drew1) | exact HB.out)) hb); clear HB; have HB := n0_; clear n0_; (try clear hb); (try clear hb2); (try clear hk); (try clear hi)) | ((with_reducible refine gate_callee (f := 6) rfl ?_); refine goesL_ (some 35) rfl rfl Try.func6 (by kernel_rfl) rfl #[.string ((((t102 ++ (⟨#[47]⟩ : ByteArray)) ++ t104) ++ (⟨#[47]⟩ : ByteArray)) ++ t106)] rfl (by (try simp only [List.map_toArray, List.map_cons, List.map_nil]); first | done | rfl | (simp only [List.length_drop, List.length_take]; rfl)) ?_; (with_reducible refine (cut_Two.calls ((((t102 ++ (⟨#[47]⟩ : ByteArray)) ++ t104) ++ (⟨#[47]⟩ : ByteArray)) ++ t106) t107 t108 t109 _ A14.out).mono ?_); rintro e w34 ⟨rfl, hb⟩; refine ⟨_, rfl, ?_⟩; have n0_ := Aside0.mk (below_step (by repeat (first | (with_reducible first | exact HB.out | apply below_alloc | apply pw_below_drewN | apply below_drew1) | exact HB.out)) hb); clear HB; have HB := n0_; clear n0_; (try clear hb); (try clear hb2); (try clear hk); (try clear hi)))
            (try simp only [Act.put, List.setIfInBounds_toArray, List.set_cons_zero, List.set_cons_succ])
            go_cut [54] (fun v54 wc => ∃ (kq : Nat) (x54_29 : Bool), v54 = .bool x54_29 ∧ Aside0 (creelkeep_CutShort.j0 kq t102 t104 t106 t107 t108 t109 x54_29 = some r) ∧ Aside0 (kq ≤ k) ∧ Aside0 (Below w.heap.size w wc))
            case first =>
              have H := HC30.out
              clear HC30
              by_cases c35 : (wrap64 ((t104.size : Int) + (t106.size : Int))) < 100
              · rw [if_pos c35] at H
                have c35b0 : decide ((wrap64 ((t104.size : Int) + (t106.size : Int))) < 100) = true := decide_eq_true c35
                clear c35
                (first | rw [c35b0] | (simp only [i64_w, i32_w]; rw [c35b0]) | skip)
                have H' := Aside0.mk H
                clear H
                go_wp2
                go_meet
                case rel => exact ⟨_, (decide ((t102.size : Int) ≤ 155)), (by first | rfl | (simp; done) | (simp [*]; done)), H', ⟨by first | omega | exact Nat.le_refl _⟩, ⟨by repeat (first | (with_reducible first | exact HB.out | apply below_alloc | apply pw_below_drewN | apply below_drew1) | exact HB.out)⟩⟩
              · rw [if_neg c35] at H
                have c35b0 : decide ((wrap64 ((t104.size : Int) + (t106.size : Int))) < 100) = false := decide_eq_false c35
                clear c35
                (first | rw [c35b0] | (simp only [i64_w, i32_w]; rw [c35b0]) | skip)
                have H' := Aside0.mk H
                clear H
                go_wp2
                go_meet
                case rel => exact ⟨_, (false), (by first | rfl | (simp; done) | (simp [*]; done)), H', ⟨by first | omega | exact Nat.le_refl _⟩, ⟨by repeat (first | (with_reducible first | exact HB.out | apply below_alloc | apply pw_below_drewN | apply below_drew1) | exact HB.out)⟩⟩
            case rest =>
              clear HC30
              try clear c1
              try clear p2
              try clear c3
              try clear c4
              try clear c5
              try clear c6
              try clear p6
              try clear c10
              try clear c10b0
              try clear c10b1
              try clear c10b2
              try clear c11
              try clear c11b0
              try clear c11b1
              try clear c11b2
              try clear c12
              try clear c12b0
              try clear c12b1
              try clear c12b2
              try clear c13
              try clear c13b0
              try clear c13b1
              try clear c13b2
              try clear c15
              try clear c15b0
              try clear c15b1
              try clear c16
              try clear c16b0
              try clear c16b1
              try clear c17
              try clear c17b0
              try clear c17b1
              try clear c35
              try clear c35b0
              obtain ⟨kq, x54_29, rfl, HA, HJ29, HB⟩ := hcut
              cases kq with
              | zero => exact absurd HA.out (by simp [creelkeep_CutShort.j0])
              | succ kj29 =>
                have H := HA.out
                clear HA
                simp only [creelkeep_CutShort.j0] at H
                by_cases c36 : x54_29 = true
                · subst c36
                  have H1 : (if t109 = 0 then (if t107.toList = t102.toList then (if t104.size + 1 ≤ 9223372036854775807 then (if (t104 ++ (⟨#[47]⟩ : ByteArray)).size + t106.size ≤ 9223372036854775807 then (some (t108.toList == ((t104 ++ (⟨#[47]⟩ : ByteArray)) ++ t106).toList)) else (none)) else (none)) else (some false)) else (some false)) = some r := by rw [if_pos rfl] at H; exact H
                  clear H
                  have H := H1
                  clear H1
                  by_cases c37 : t109 = 0
                  · rw [if_pos c37] at H
                    have c37b0 : (t109 == 0) = true := beq_iff_eq.mpr c37
                    have c37b1 : (t109 != 0) = false := bne_eq_false_iff_eq.mpr c37
                    clear c37
                    by_cases c38 : t107.toList = t102.toList
                    · rw [if_pos c38] at H
                      have c38b0 : (t107.toList == t102.toList) = true := beq_iff_eq.mpr c38
                      have c38b1 : (t107.toList != t102.toList) = false := bne_eq_false_iff_eq.mpr c38
                      clear c38
                      by_cases c39 : t104.size + 1 ≤ 9223372036854775807
                      · rw [if_pos c39] at H
                        have c39b0 := eq_true c39
                        have c39b1 : decide (t104.size + 1 ≤ 9223372036854775807) = true := decide_eq_true c39
                        try have c39b2 : (9223372036854775807 < t104.size + 1) = False := eq_false (Nat.not_lt.2 c39)
                        by_cases c40 : (t104 ++ (⟨#[47]⟩ : ByteArray)).size + t106.size ≤ 9223372036854775807
                        · rw [if_pos c40] at H
                          have c40b0 := eq_true c40
                          have c40b1 : decide ((t104 ++ (⟨#[47]⟩ : ByteArray)).size + t106.size ≤ 9223372036854775807) = true := decide_eq_true c40
                          try have c40b1s := c40b1
                          (try simp only [ByteArray.size_append, show (⟨#[47]⟩ : ByteArray).size = 1 from rfl] at c40b1s)
                          try have c40b2 : (9223372036854775807 < (t104 ++ (⟨#[47]⟩ : ByteArray)).size + t106.size) = False := eq_false (Nat.not_lt.2 c40)
                          try have c40b2s := c40b2
                          (try simp only [ByteArray.size_append, show (⟨#[47]⟩ : ByteArray).size = 1 from rfl] at c40b2s)
                          obtain rfl := Option.some.inj H
                          go_wp2
                          go_ret
                          exact ⟨by first | rfl | (simp [errW_none, errW_some] <;> rfl) | (simp [*, errW_none, errW_some] <;> rfl), by repeat (first | (with_reducible first | exact HB.out | apply below_alloc | apply pw_below_drewN | apply below_drew1) | exact HB.out)⟩
                        · rw [if_neg c40] at H
                          exact absurd H (by simp)
                      · rw [if_neg c39] at H
                        exact absurd H (by simp)
                    · rw [if_neg c38] at H
                      have c38b0 : (t107.toList == t102.toList) = false := beq_eq_false_iff_ne.mpr c38
                      have c38b1 : (t107.toList != t102.toList) = true := bne_iff_ne.mpr c38
                      obtain rfl := Option.some.inj H
                      go_wp2
                      go_ret
                      exact ⟨by first | rfl | (simp [errW_none, errW_some] <;> rfl) | (simp [*, errW_none, errW_some] <;> rfl), by repeat (first | (with_reducible first | exact HB.out | apply below_alloc | apply pw_below_drewN | apply below_drew1) | exact HB.out)⟩
                  · rw [if_neg c37] at H
                    have c37b0 : (t109 == 0) = false := beq_eq_false_iff_ne.mpr c37
                    have c37b1 : (t109 != 0) = true := bne_iff_ne.mpr c37
                    obtain rfl := Option.some.inj H
                    go_wp2
                    go_ret
                    exact ⟨by first | rfl | (simp [errW_none, errW_some] <;> rfl) | (simp [*, errW_none, errW_some] <;> rfl), by repeat (first | (with_reducible first | exact HB.out | apply below_alloc | apply pw_below_drewN | apply below_drew1) | exact HB.out)⟩
                · replace c36 := Bool.eq_false_iff.mpr c36
                  subst c36
                  have H1 : (if (wrap64 ((t102.size : Int) + (t104.size : Int))) < 155 then (if (wrap64 ((t104.size : Int) + (t106.size : Int))) ≥ 100 then (if t109 = 0 then (if t102.size + 1 ≤ 9223372036854775807 then (if (t102 ++ (⟨#[47]⟩ : ByteArray)).size + t104.size ≤ 9223372036854775807 then (if t107.toList = ((t102 ++ (⟨#[47]⟩ : ByteArray)) ++ t104).toList then (some (t108.toList == t106.toList)) else (some false)) else (none)) else (none)) else (some false)) else (some (t109 == 1))) else (some (t109 == 1))) = some r := by rw [if_neg (show ¬ (false = true) by decide)] at H; exact H
                  clear H
                  have H := H1
                  clear H1
                  by_cases c41 : (wrap64 ((t102.size : Int) + (t104.size : Int))) < 155
                  · rw [if_pos c41] at H
                    have c41b0 : decide ((wrap64 ((t102.size : Int) + (t104.size : Int))) < 155) = true := decide_eq_true c41
                    clear c41
                    by_cases c42 : (wrap64 ((t104.size : Int) + (t106.size : Int))) ≥ 100
                    · rw [if_pos c42] at H
                      have c42b0 : decide (100 ≤ (wrap64 ((t104.size : Int) + (t106.size : Int)))) = true := decide_eq_true c42
                      clear c42
                      by_cases c43 : t109 = 0
                      · rw [if_pos c43] at H
                        have c43b0 : (t109 == 0) = true := beq_iff_eq.mpr c43
                        have c43b1 : (t109 != 0) = false := bne_eq_false_iff_eq.mpr c43
                        clear c43
                        by_cases c44 : t102.size + 1 ≤ 9223372036854775807
                        · rw [if_pos c44] at H
                          have c44b0 := eq_true c44
                          have c44b1 : decide (t102.size + 1 ≤ 9223372036854775807) = true := decide_eq_true c44
                          try have c44b2 : (9223372036854775807 < t102.size + 1) = False := eq_false (Nat.not_lt.2 c44)
                          by_cases c45 : (t102 ++ (⟨#[47]⟩ : ByteArray)).size + t104.size ≤ 9223372036854775807
                          · rw [if_pos c45] at H
                            have c45b0 := eq_true c45
                            have c45b1 : decide ((t102 ++ (⟨#[47]⟩ : ByteArray)).size + t104.size ≤ 9223372036854775807) = true := decide_eq_true c45
                            try have c45b1s := c45b1
                            (try simp only [ByteArray.size_append, show (⟨#[47]⟩ : ByteArray).size = 1 from rfl] at c45b1s)
                            try have c45b2 : (9223372036854775807 < (t102 ++ (⟨#[47]⟩ : ByteArray)).size + t104.size) = False := eq_false (Nat.not_lt.2 c45)
                            try have c45b2s := c45b2
                            (try simp only [ByteArray.size_append, show (⟨#[47]⟩ : ByteArray).size = 1 from rfl] at c45b2s)
                            by_cases c46 : t107.toList = ((t102 ++ (⟨#[47]⟩ : ByteArray)) ++ t104).toList
                            · rw [if_pos c46] at H
                              have c46b0 : (t107.toList == ((t102 ++ (⟨#[47]⟩ : ByteArray)) ++ t104).toList) = true := beq_iff_eq.mpr c46
                              have c46b1 : (t107.toList != ((t102 ++ (⟨#[47]⟩ : ByteArray)) ++ t104).toList) = false := bne_eq_false_iff_eq.mpr c46
                              clear c46
                              obtain rfl := Option.some.inj H
                              go_wp2
                              go_ret
                              exact ⟨by first | rfl | (simp [errW_none, errW_some] <;> rfl) | (simp [*, errW_none, errW_some] <;> rfl), by repeat (first | (with_reducible first | exact HB.out | apply below_alloc | apply pw_below_drewN | apply below_drew1) | exact HB.out)⟩
                            · rw [if_neg c46] at H
                              have c46b0 : (t107.toList == ((t102 ++ (⟨#[47]⟩ : ByteArray)) ++ t104).toList) = false := beq_eq_false_iff_ne.mpr c46
                              have c46b1 : (t107.toList != ((t102 ++ (⟨#[47]⟩ : ByteArray)) ++ t104).toList) = true := bne_iff_ne.mpr c46
                              obtain rfl := Option.some.inj H
                              go_wp2
                              go_ret
                              exact ⟨by first | rfl | (simp [errW_none, errW_some] <;> rfl) | (simp [*, errW_none, errW_some] <;> rfl), by repeat (first | (with_reducible first | exact HB.out | apply below_alloc | apply pw_below_drewN | apply below_drew1) | exact HB.out)⟩
                          · rw [if_neg c45] at H
                            exact absurd H (by simp)
                        · rw [if_neg c44] at H
                          exact absurd H (by simp)
                      · rw [if_neg c43] at H
                        have c43b0 : (t109 == 0) = false := beq_eq_false_iff_ne.mpr c43
                        have c43b1 : (t109 != 0) = true := bne_iff_ne.mpr c43
                        obtain rfl := Option.some.inj H
                        go_wp2
                        go_ret
                        exact ⟨by first | rfl | (simp [errW_none, errW_some] <;> rfl) | (simp [*, errW_none, errW_some] <;> rfl), by repeat (first | (with_reducible first | exact HB.out | apply below_alloc | apply pw_below_drewN | apply below_drew1) | exact HB.out)⟩
                    · rw [if_neg c42] at H
                      have c42b0 : decide (100 ≤ (wrap64 ((t104.size : Int) + (t106.size : Int)))) = false := decide_eq_false c42
                      clear c42
                      obtain rfl := Option.some.inj H
                      go_wp2
                      go_ret
                      exact ⟨by first | rfl | (simp [errW_none, errW_some] <;> rfl) | (simp [*, errW_none, errW_some] <;> rfl), by repeat (first | (with_reducible first | exact HB.out | apply below_alloc | apply pw_below_drewN | apply below_drew1) | exact HB.out)⟩
                  · rw [if_neg c41] at H
                    have c41b0 : decide ((wrap64 ((t102.size : Int) + (t104.size : Int))) < 155) = false := decide_eq_false c41
                    clear c41
                    obtain rfl := Option.some.inj H
                    go_wp2
                    go_ret
                    exact ⟨by first | rfl | (simp [errW_none, errW_some] <;> rfl) | (simp [*, errW_none, errW_some] <;> rfl), by repeat (first | (with_reducible first | exact HB.out | apply below_alloc | apply pw_below_drewN | apply below_drew1) | exact HB.out)⟩
        · rw [if_neg c13] at H
          exact absurd H (by simp)
      · rw [if_neg c12] at H
        exact absurd H (by simp)
    · rw [if_neg c11] at H
      exact absurd H (by simp)
  · rw [if_neg c10] at H
    exact absurd H (by simp)

/-- THE ONE PURE STATEMENT of creelkeep_CutShort: yours. -/
def creelkeep_CutShort.Pure : Prop := ∀ (a0 : Int) (a1 : Int) (a2 : Int), (Lit.int .i64 a0).wf = true → (Lit.int .i64 a1).wf = true → (Lit.int .i64 a2).wf = true → ∃ k, creelkeep_CutShort.f k a0 a1 a2 = some true
theorem creelkeep_CutShort.walk (P : creelkeep_CutShort.Pure) (a0 : Int) (a1 : Int) (a2 : Int) (w : World) (w0 : (Lit.int .i64 a0).wf = true) (w1 : (Lit.int .i64 a1).wf = true) (w2 : (Lit.int .i64 a2).wf = true) :
    Calls Try.prog 3 #[.int .i64 a0, .int .i64 a1, .int .i64 a2] w fun e w' => e = .returned (.bool true) ∧ Below w.heap.size w w' := by
  obtain ⟨k, h⟩ := P a0 a1 a2 w0 w1 w2
  refine (creelkeep_CutShort.calls k a0 a1 a2 true w h).mono ?_
  rintro e w' ⟨rfl, hd⟩
  exact ⟨rfl, hd⟩

end Go.Proofs.Ytpkidejgilmlpaa.PCutShort
