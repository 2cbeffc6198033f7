-- Written by a program of this session for this claim (wip/myprint.py over the kit's print).
import Derived.Test.YtbhdfjdopphhdaaPCutBackx0
namespace Go.Proofs.Ytbhdfjdopphhdaa.PCutBack
open Go.RowKit Go.Proofs.YtbhdfjdopphhdaaW.PrintWords Go.Proofs.YtbhdfjdopphhdaaW.PrintLast Go.Proofs.YtbhdfjdopphhdaaW.PrintMore
attribute [local go_sem] max2_int min2_int max_two min_two max_three min_three max_four min_four   -- for this text's walks alone
set_option linter.unusedVariables false
set_option linter.unusedSimpArgs false

/-! ### cut_Two: function 25 -/
/-- May the path be cut at byte i? -/
def cutOk (s : ByteArray) (i : Nat) : Prop := bt s i = 47 ∧ 0 < i ∧ i ≤ 155 ∧ i + 1 < s.size ∧ s.size ≤ i + 1 + 100
instance cutOk_dec (s : ByteArray) (i : Nat) : Decidable (cutOk s i) := by unfold cutOk; infer_instance
/-- The first rune from pos on (b runes at most) at which it may be cut. -/
def cutGo (s : ByteArray) : Nat → Nat → Option Nat
  | 0, _ => none
  | b + 1, pos => if pos < s.size then (if cutOk s pos then some pos else cutGo s b (pos + (Utf8.decode s pos).2)) else none
def cut_Two.f (a0 : ByteArray) : Option (ByteArray × ByteArray × Int) :=
  if a0.toList = [] then some ((⟨#[]⟩ : ByteArray), (⟨#[]⟩ : ByteArray), 3) else
  if 0 ≤ Lib.indexByte a0.data.toList 0 then some ((⟨#[]⟩ : ByteArray), (⟨#[]⟩ : ByteArray), 3) else
  if a0.size ≤ 100 then some ((⟨#[]⟩ : ByteArray), a0, 0) else
  if a0.size ≤ 9223372036854775807 then
    match cutGo a0 a0.size 0 with
    | some i => some (a0.extract 0 i, a0.extract (i + 1) a0.size, 0)
    | none => some ((⟨#[]⟩ : ByteArray), (⟨#[]⟩ : ByteArray), 1)
  else none
theorem cut_width_pos (s : ByteArray) (pos : Nat) (h : pos < s.size) : 1 ≤ (Utf8.decode s pos).2 := by
  by_cases ha : (s[pos]'h).toNat < 128
  · rw [decode_ascii s pos h ha]
    exact Nat.le_refl _
  · exact (decode_high s pos h (by omega)).2
theorem cutGo_end (s : ByteArray) (b pos : Nat) (h : ¬ pos < s.size) : cutGo s b pos = none := by
  cases b with
  | zero => rfl
  | succ b => simp [cutGo, h]
theorem cutGo_here (s : ByteArray) (b pos : Nat) (h : pos < s.size) (hb : 0 < b) (ok : cutOk s pos) : cutGo s b pos = some pos := by
  cases b with
  | zero => omega
  | succ b => simp [cutGo, h, ok]
theorem cutGo_on (s : ByteArray) (b pos : Nat) (h : pos < s.size) (ok : ¬ cutOk s pos) : cutGo s (b + 1) pos = cutGo s b (pos + (Utf8.decode s pos).2) := by
  simp [cutGo, h, ok]
def CutRel (s : ByteArray) (w w' : World) (pos b : Nat) : Prop := w' = w.iter s pos ∧ cutGo s b pos = cutGo s s.size 0 ∧ s.size ≤ pos + b
set_option maxHeartbeats 2000000 in
set_option maxRecDepth 100000 in
theorem cut_Two.calls (a0 : ByteArray) (r1 : ByteArray) (r2 : ByteArray) (r3 : Int) (w : World) (h : cut_Two.f a0 = some (r1, r2, r3)) :
    Calls Try.prog 25 #[.string a0] w fun e w' => e = .returned (.tuple #[.string r1, .string r2, .int .i64 r3]) ∧ Below w.heap.size w w' := by
  unfold cut_Two.f at h
  by_cases c1 : a0.toList = []
  · rw [if_pos c1] at h
    simp only [Option.some.injEq, Prod.mk.injEq] at h
    obtain ⟨rfl, rfl, rfl⟩ := h
    have q1 : a0.toList.isEmpty = true := by rw [c1]; rfl
    go_enter Try.func25, Try.ntmps25
    go_wp2
    go_ret3
    exact ⟨rfl, Below.refl _ _⟩
  · rw [if_neg c1] at h
    have q1 : (!a0.toList.isEmpty) = true := by cases hl : a0.toList with | nil => exact absurd hl c1 | cons a l => rfl
    have q2 : a0.toList.isEmpty = false := by simpa using q1
    by_cases c2 : 0 ≤ Lib.indexByte a0.data.toList 0
    · rw [if_pos c2] at h
      simp only [Option.some.injEq, Prod.mk.injEq] at h
      obtain ⟨rfl, rfl, rfl⟩ := h
      have c2b : decide (0 ≤ Lib.indexByte a0.data.toList 0) = true := decide_eq_true c2
      go_enter Try.func25, Try.ntmps25
      go_wp2_with (go_at_call 32; refine (Try.strings_IndexByte _ _ _).mono ?_; rintro e w' ⟨rfl, hw⟩; obtain rfl := hw.symm)
      go_ret3
      exact ⟨rfl, Below.refl _ _⟩
    · rw [if_neg c2] at h
      have c2b : decide (0 ≤ Lib.indexByte a0.data.toList 0) = false := decide_eq_false c2
      by_cases c3 : a0.size ≤ 100
      · rw [if_pos c3] at h
        simp only [Option.some.injEq, Prod.mk.injEq] at h
        obtain ⟨rfl, rfl, rfl⟩ := h
        have c3b : decide (a0.size ≤ 100) = true := decide_eq_true c3
        have c3c : decide ((a0.size : Int) ≤ 100) = true := decide_eq_true (by omega)
        go_enter Try.func25, Try.ntmps25
        go_wp2_with (go_at_call 32; refine (Try.strings_IndexByte _ _ _).mono ?_; rintro e w' ⟨rfl, hw⟩; obtain rfl := hw.symm)
        go_ret3
        exact ⟨rfl, Below.refl _ _⟩
      · rw [if_neg c3] at h
        by_cases c4 : a0.size ≤ 9223372036854775807
        · rw [if_pos c4] at h
          have H := Aside0.mk h
          have c3b : decide (a0.size ≤ 100) = false := decide_eq_false c3
          have c3c : decide ((a0.size : Int) ≤ 100) = false := decide_eq_false (by omega)
          clear h
          go_enter Try.func25, Try.ntmps25
          go_wp2_with (go_at_call 32; refine (Try.strings_IndexByte _ _ _).mono ?_; rintro e w' ⟨rfl, hw⟩; obtain rfl := hw.symm)
          clear c1 q1 q2 c2 c2b c3b c3c
          go_loopw [] (fun w' => ∃ pos b : Nat, CutRel a0 w w' pos b) (fun w' => a0.size - w'.iterPos w.heap.size)
          case atStart => exact ⟨0, a0.size, rfl, rfl, by omega⟩
          case round =>
            obtain ⟨pos, b, rfl, hc, hb⟩ := hrel
            have HC := Aside0.mk hc
            clear hc
            by_cases hp : pos < a0.size
            · have hnx : ∀ ty, (Instr.next (.pointer (some ⟨w.heap.size, 0, none⟩)) true ty).run Try.prog (w.iter a0 pos) = _ := fun ty => run_next_any w a0 pos ty hp
              have hwd := cut_width_pos a0 pos hp
              obtain ⟨wd, hw0⟩ : ∃ wd, (Utf8.decode a0 pos).2 = wd := ⟨_, rfl⟩
              go_wp2
              all_goals
                have hbt : bt a0 (pos : Int) = ((a0[pos]'hp).toNat : Int) := (bt_at a0 pos (by omega)).symm
                first
                | (have nok : ¬ cutOk a0 pos := by (unfold cutOk; rw [hbt]; omega)
                   obtain ⟨b, rfl⟩ : ∃ q, b = q + 1 := ⟨b - 1, by omega⟩
                   have hgo := HC.out
                   rw [cutGo_on a0 b pos hp nok, hw0] at hgo
                   exact ⟨⟨pos + wd, b, rfl, hgo, by omega⟩, by simp; omega⟩)
                | (have ok : cutOk a0 pos := by (unfold cutOk; rw [hbt]; omega)
                   clear hbt
                   have hgo := HC.out
                   rw [cutGo_here a0 b pos hp (by omega) ok] at hgo
                   have h := H.out
                   rw [← hgo] at h
                   simp only [Option.some.injEq, Prod.mk.injEq] at h
                   have HE := Aside0.mk h
                   clear h hgo
                   have hlt : pos + 1 < a0.size := ok.2.2.2.1
                   go_quiet (fail)
                   go_wp2
                   obtain ⟨rfl, rfl, rfl⟩ := HE.out
                   go_ret3
                   exact ⟨rfl, pw_below_drewN (below_alloc (Below.refl _ _) _) _⟩)
            · have hnx : ∀ ty, (Instr.next (.pointer (some ⟨w.heap.size, 0, none⟩)) true ty).run Try.prog (w.iter a0 pos) = _ := fun ty => run_next_end w a0 pos ty hp
              go_wp2
              go_ret3
              have hc := HC.out
              rw [cutGo_end a0 b pos hp] at hc
              have h := H.out
              rw [← hc] at h
              simp only [Option.some.injEq, Prod.mk.injEq] at h
              obtain ⟨rfl, rfl, rfl⟩ := h
              exact ⟨rfl, below_alloc (Below.refl _ _) _⟩
        · rw [if_neg c4] at h
          exact absurd h (by simp)

/-! ### cut_One: function 26 -/
def cut_One.j0 : Nat → ByteArray → ByteArray → Bool → Option (ByteArray × Int)
  | 0, _, _, _ => none
  | k + 1, x0, x1, x22 => if x22 = true then (some ((⟨#[]⟩ : ByteArray), 1)) else (if x0.toList = ([] : List UInt8) then ((cut_Two.f x1).bind fun bt101 => (if bt101.2.2 = 0 then (if bt101.1.toList = x0.toList then (if bt101.2.1.toList = x1.toList then (some (x1, 0)) else (some ((⟨#[]⟩ : ByteArray), 3))) else (some ((⟨#[]⟩ : ByteArray), 3))) else (some ((⟨#[]⟩ : ByteArray), 3)))) else (if x0.size + 1 ≤ 9223372036854775807 then (if (x0 ++ (⟨#[47]⟩ : ByteArray)).size + x1.size ≤ 9223372036854775807 then ((cut_Two.f ((x0 ++ (⟨#[47]⟩ : ByteArray)) ++ x1)).bind fun bt104 => (if bt104.2.2 = 0 then (if bt104.1.toList = x0.toList then (if bt104.2.1.toList = x1.toList then (some ((x0 ++ (⟨#[47]⟩ : ByteArray)) ++ x1, 0)) else (some ((⟨#[]⟩ : ByteArray), 3))) else (some ((⟨#[]⟩ : ByteArray), 3))) else (some ((⟨#[]⟩ : ByteArray), 3)))) else (none)) else (none)))
def cut_One.f (k : Nat) (a0 : ByteArray) (a1 : ByteArray) : Option (ByteArray × Int) := if (a1.size : Int) < 1 then (cut_One.j0 k a0 a1 true) else (if (a1.size : Int) > 100 then (cut_One.j0 k a0 a1 true) else (cut_One.j0 k a0 a1 (decide ((a0.size : Int) > 155))))
theorem cut_One.mono_l : ∀ k, (∀ y0 y1 y2, LeO (cut_One.j0 k y0 y1 y2) (cut_One.j0 (k + 1) y0 y1 y2))
  | 0 => fun _ _ _ r h => by simp [cut_One.j0] at h
  | k + 1 => by
    have ih0 := cut_One.mono_l k
    · intro y0 y1 y2
      unfold cut_One.j0
      repeat' first
      | (with_reducible exact ih0 _ _ _)
      | (with_reducible exact LeO.refl _)
      | (with_reducible exact LeO.none _)
      | (with_reducible refine LeO.ite ?_ ?_)
      | (with_reducible refine LeO.bind ?_ (fun _ => ?_))
      | exact ih0 _ _ _
      | exact LeO.none _
      | refine LeO.ite ?_ ?_
      | refine LeO.bind ?_ (fun _ => ?_)
theorem cut_One.mono : ∀ a0 a1 k, LeO (cut_One.f k a0 a1) (cut_One.f (k + 1) a0 a1) := by
  intro a0 a1 k
  have ih0 := cut_One.mono_l k
  unfold cut_One.f
  repeat' first
      | (with_reducible exact ih0 _ _ _)
      | (with_reducible exact LeO.refl _)
      | (with_reducible exact LeO.none _)
      | (with_reducible refine LeO.ite ?_ ?_)
      | (with_reducible refine LeO.bind ?_ (fun _ => ?_))
      | exact ih0 _ _ _
      | exact LeO.none _
      | refine LeO.ite ?_ ?_
      | refine LeO.bind ?_ (fun _ => ?_)
set_option maxHeartbeats 8000000 in
set_option maxRecDepth 100000 in
theorem cut_One.calls (k : Nat) (a0 : ByteArray) (a1 : ByteArray) (r1 : ByteArray) (r2 : Int) (w : World) (h : cut_One.f k a0 a1 = some (r1, r2)) :
    Calls Try.prog 26 #[.string a0, .string a1] w fun e w' => e = .returned (.tuple #[.string r1, .int .i64 r2]) ∧ Below w.heap.size w w' := by
  have HB := Aside0.mk (Below.refl w.heap.size w)
  have H : (if (a1.size : Int) < 1 then (cut_One.j0 k a0 a1 true) else (if (a1.size : Int) > 100 then (cut_One.j0 k a0 a1 true) else (cut_One.j0 k a0 a1 (decide ((a0.size : Int) > 155))))) = some (r1, r2) := h
  clear h
  have HC3 := Aside0.mk H
  clear H
  go_enter Try.func26, Try.ntmps26
  go_upto_region 1 with (fail)
  go_cut [22] (fun v22 wc => ∃ (kq : Nat) (x22_2 : Bool), v22 = .bool x22_2 ∧ Aside0 (cut_One.j0 kq a0 a1 x22_2 = some (r1, r2)) ∧ Aside0 (kq ≤ k) ∧ Aside0 (Below w.heap.size w wc))
  case first =>
    have H := HC3.out
    clear HC3
    by_cases c4 : (a1.size : Int) < 1
    · rw [if_pos c4] at H
      have c4b0 : decide ((a1.size : Int) < 1) = true := decide_eq_true c4
      have c4b1 : decide (a1.size < 1) = true := decide_eq_true (by omega)
      clear c4
      (first | rw [c4b0] | (simp only [i64_w, i32_w]; rw [c4b0]) | skip)
      have H' := Aside0.mk H
      clear H
      go_wp2
      go_meet
      case rel => exact ⟨_, (true), (by first | rfl | (simp; done) | (simp [*]; done)), H', ⟨by first | omega | exact Nat.le_refl _⟩, ⟨by repeat (first | (with_reducible first | exact HB.out | apply below_alloc | apply pw_below_drewN | apply below_drew1) | exact HB.out)⟩⟩
    · rw [if_neg c4] at H
      have c4b0 : decide ((a1.size : Int) < 1) = false := decide_eq_false c4
      have c4b1 : decide (a1.size < 1) = false := decide_eq_false (by omega)
      clear c4
      (first | rw [c4b0] | (simp only [i64_w, i32_w]; rw [c4b0]) | skip)
      by_cases c5 : (a1.size : Int) > 100
      · rw [if_pos c5] at H
        have c5b0 : decide (100 < (a1.size : Int)) = true := decide_eq_true c5
        have c5b1 : decide (100 < a1.size) = true := decide_eq_true (by omega)
        clear c5
        have H' := Aside0.mk H
        clear H
        go_wp2
        go_meet
        case rel => exact ⟨_, (true), (by first | rfl | (simp; done) | (simp [*]; done)), H', ⟨by first | omega | exact Nat.le_refl _⟩, ⟨by repeat (first | (with_reducible first | exact HB.out | apply below_alloc | apply pw_below_drewN | apply below_drew1) | exact HB.out)⟩⟩
      · rw [if_neg c5] at H
        have c5b0 : decide (100 < (a1.size : Int)) = false := decide_eq_false c5
        have c5b1 : decide (100 < a1.size) = false := decide_eq_false (by omega)
        clear c5
        have H' := Aside0.mk H
        clear H
        go_wp2
        go_meet
        case rel => exact ⟨_, (decide ((a0.size : Int) > 155)), (by first | rfl | (simp; done) | (simp [*]; done)), H', ⟨by first | omega | exact Nat.le_refl _⟩, ⟨by repeat (first | (with_reducible first | exact HB.out | apply below_alloc | apply pw_below_drewN | apply below_drew1) | exact HB.out)⟩⟩
  case rest =>
    clear HC3
    try clear c2
    try clear p2
    try clear c4
    try clear c4b0
    try clear c4b1
    try clear c5
    try clear c5b0
    try clear c5b1
    obtain ⟨kq, x22_2, rfl, HA, HJ2, HB⟩ := hcut
    cases kq with
    | zero => exact absurd HA.out (by simp [cut_One.j0])
    | succ kj2 =>
      have H := HA.out
      clear HA
      simp only [cut_One.j0] at H
      by_cases c6 : x22_2 = true
      · subst c6
        have H1 : (some ((⟨#[]⟩ : ByteArray), 1)) = some (r1, r2) := by rw [if_pos rfl] at H; exact H
        clear H
        have H := H1
        clear H1
        simp only [Option.some.injEq, Prod.mk.injEq] at H
        obtain ⟨rfl, rfl⟩ := H
        go_wp2
        go_ret2
        exact ⟨by first | rfl | (simp [errW_none, errW_some] <;> rfl) | (simp [*, errW_none, errW_some] <;> rfl), by repeat (first | (with_reducible first | exact HB.out | apply below_alloc | apply pw_below_drewN | apply below_drew1) | exact HB.out)⟩
      · replace c6 := Bool.eq_false_iff.mpr c6
        subst c6
        have H1 : (if a0.toList = ([] : List UInt8) then ((cut_Two.f a1).bind fun bt101 => (if bt101.2.2 = 0 then (if bt101.1.toList = a0.toList then (if bt101.2.1.toList = a1.toList then (some (a1, 0)) else (some ((⟨#[]⟩ : ByteArray), 3))) else (some ((⟨#[]⟩ : ByteArray), 3))) else (some ((⟨#[]⟩ : ByteArray), 3)))) else (if a0.size + 1 ≤ 9223372036854775807 then (if (a0 ++ (⟨#[47]⟩ : ByteArray)).size + a1.size ≤ 9223372036854775807 then ((cut_Two.f ((a0 ++ (⟨#[47]⟩ : ByteArray)) ++ a1)).bind fun bt104 => (if bt104.2.2 = 0 then (if bt104.1.toList = a0.toList then (if bt104.2.1.toList = a1.toList then (some ((a0 ++ (⟨#[47]⟩ : ByteArray)) ++ a1, 0)) else (some ((⟨#[]⟩ : ByteArray), 3))) else (some ((⟨#[]⟩ : ByteArray), 3))) else (some ((⟨#[]⟩ : ByteArray), 3)))) else (none)) else (none))) = some (r1, r2) := by rw [if_neg (show ¬ (false = true) by decide)] at H; exact H
        clear H
        have H := H1
        clear H1
        by_cases c7 : a0.toList = ([] : List UInt8)
        · rw [if_pos c7] at H
          have c7b0 : (a0.toList == ([] : List UInt8)) = true := beq_iff_eq.mpr c7
          have c7b1 : (a0.toList != ([] : List UInt8)) = false := bne_eq_false_iff_eq.mpr c7
          clear c7
          replace H := Option.bind_eq_some_iff.mp H
          obtain ⟨⟨t101, t102, t103⟩, A80, H⟩ := H
          replace H : (if t103 = 0 then (if t101.toList = a0.toList then (if t102.toList = a1.toList then (some (a1, 0)) else (some ((⟨#[]⟩ : ByteArray), 3))) else (some ((⟨#[]⟩ : ByteArray), 3))) else (some ((⟨#[]⟩ : ByteArray), 3))) = some (r1, r2) := H
          have A8 := Aside0.mk A80
          clear A80
          by_cases c9 : t103 = 0
          · rw [if_pos c9] at H
            have c9b0 : (t103 == 0) = true := beq_iff_eq.mpr c9
            have c9b1 : (t103 != 0) = false := bne_eq_false_iff_eq.mpr c9
            clear c9
            by_cases c10 : t101.toList = a0.toList
            · rw [if_pos c10] at H
              have c10b0 : (t101.toList == a0.toList) = true := beq_iff_eq.mpr c10
              have c10b1 : (t101.toList != a0.toList) = false := bne_eq_false_iff_eq.mpr c10
              clear c10
              by_cases c11 : t102.toList = a1.toList
              · rw [if_pos c11] at H
                have c11b0 : (t102.toList == a1.toList) = true := beq_iff_eq.mpr c11
                have c11b1 : (t102.toList != a1.toList) = false := bne_eq_false_iff_eq.mpr c11
                clear c11
                simp only [Option.some.injEq, Prod.mk.injEq] at H
                obtain ⟨rfl, rfl⟩ := H
                go_wp2_with (first | ((with_reducible refine gate_callee (f := 25) rfl ?_); refine goesL_ (some 32) rfl rfl Try.func25 (by kernel_rfl) rfl #[.string a1] rfl (by (try simp only [List.map_toArray, List.map_cons, List.map_nil]); first | done | rfl | (simp only [List.length_drop, List.length_take]; rfl)) ?_; (with_reducible refine (cut_Two.calls a1 t101 t102 t103 _ A8.out).mono ?_); rintro e w12 ⟨rfl, hb⟩; refine ⟨_, rfl, ?_⟩; have n0_ := Aside0.mk (below_step (by repeat (first | (with_reducible first | exact HB.out | apply below_alloc | apply pw_below_drewN | apply below_drew1) | exact HB.out)) hb); clear HB; have HB := n0_; clear n0_; (try clear hb); (try clear hb2); (try clear hk); (try clear hi)))
                go_ret2
                exact ⟨by first | rfl | (simp [errW_none, errW_some] <;> rfl) | (simp [*, errW_none, errW_some] <;> rfl), by repeat (first | (with_reducible first | exact HB.out | apply below_alloc | apply pw_below_drewN | apply below_drew1) | exact HB.out)⟩
              · rw [if_neg c11] at H
                have c11b0 : (t102.toList == a1.toList) = false := beq_eq_false_iff_ne.mpr c11
                have c11b1 : (t102.toList != a1.toList) = true := bne_iff_ne.mpr c11
                simp only [Option.some.injEq, Prod.mk.injEq] at H
                obtain ⟨rfl, rfl⟩ := H
                go_wp2_with (first | ((with_reducible refine gate_callee (f := 25) rfl ?_); refine goesL_ (some 32) rfl rfl Try.func25 (by kernel_rfl) rfl #[.string a1] rfl (by (try simp only [List.map_toArray, List.map_cons, List.map_nil]); first | done | rfl | (simp only [List.length_drop, List.length_take]; rfl)) ?_; (with_reducible refine (cut_Two.calls a1 t101 t102 t103 _ A8.out).mono ?_); rintro e w13 ⟨rfl, hb⟩; refine ⟨_, rfl, ?_⟩; have n0_ := Aside0.mk (below_step (by repeat (first | (with_reducible first | exact HB.out | apply below_alloc | apply pw_below_drewN | apply below_drew1) | exact HB.out)) hb); clear HB; have HB := n0_; clear n0_; (try clear hb); (try clear hb2); (try clear hk); (try clear hi)))
                go_ret2
                exact ⟨by first | rfl | (simp [errW_none, errW_some] <;> rfl) | (simp [*, errW_none, errW_some] <;> rfl), by repeat (first | (with_reducible first | exact HB.out | apply below_alloc | apply pw_below_drewN | apply below_drew1) | exact HB.out)⟩
            · rw [if_neg c10] at H
              have c10b0 : (t101.toList == a0.toList) = false := beq_eq_false_iff_ne.mpr c10
              have c10b1 : (t101.toList != a0.toList) = true := bne_iff_ne.mpr c10
              simp only [Option.some.injEq, Prod.mk.injEq] at H
              obtain ⟨rfl, rfl⟩ := H
              go_wp2_with (first | ((with_reducible refine gate_callee (f := 25) rfl ?_); refine goesL_ (some 32) rfl rfl Try.func25 (by kernel_rfl) rfl #[.string a1] rfl (by (try simp only [List.map_toArray, List.map_cons, List.map_nil]); first | done | rfl | (simp only [List.length_drop, List.length_take]; rfl)) ?_; (with_reducible refine (cut_Two.calls a1 t101 t102 t103 _ A8.out).mono ?_); rintro e w14 ⟨rfl, hb⟩; refine ⟨_, rfl, ?_⟩; have n0_ := Aside0.mk (below_step (by repeat (first | (with_reducible first | exact HB.out | apply below_alloc | apply pw_below_drewN | apply below_drew1) | exact HB.out)) hb); clear HB; have HB := n0_; clear n0_; (try clear hb); (try clear hb2); (try clear hk); (try clear hi)))
              go_ret2
              exact ⟨by first | rfl | (simp [errW_none, errW_some] <;> rfl) | (simp [*, errW_none, errW_some] <;> rfl), by repeat (first | (with_reducible first | exact HB.out | apply below_alloc | apply pw_below_drewN | apply below_drew1) | exact HB.out)⟩
          · rw [if_neg c9] at H
            have c9b0 : (t103 == 0) = false := beq_eq_false_iff_ne.mpr c9
            have c9b1 : (t103 != 0) = true := bne_iff_ne.mpr c9
            simp only [Option.some.injEq, Prod.mk.injEq] at H
            obtain ⟨rfl, rfl⟩ := H
            go_wp2_with (first | ((with_reducible refine gate_callee (f := 25) rfl ?_); refine goesL_ (some 32) rfl rfl Try.func25 (by kernel_rfl) rfl #[.string a1] rfl (by (try simp only [List.map_toArray, List.map_cons, List.map_nil]); first | done | rfl | (simp only [List.length_drop, List.length_take]; rfl)) ?_; (with_reducible refine (cut_Two.calls a1 t101 t102 t103 _ A8.out).mono ?_); rintro e w15 ⟨rfl, hb⟩; refine ⟨_, rfl, ?_⟩; have n0_ := Aside0.mk (below_step (by repeat (first | (with_reducible first | exact HB.out | apply below_alloc | apply pw_below_drewN | apply below_drew1) | exact HB.out)) hb); clear HB; have HB := n0_; clear n0_; (try clear hb); (try clear hb2); (try clear hk); (try clear hi)))
            go_ret2
            exact ⟨by first | rfl | (simp [errW_none, errW_some] <;> rfl) | (simp [*, errW_none, errW_some] <;> rfl), by repeat (first | (with_reducible first | exact HB.out | apply below_alloc | apply pw_below_drewN | apply below_drew1) | exact HB.out)⟩
        · rw [if_neg c7] at H
          have c7b0 : (a0.toList == ([] : List UInt8)) = false := beq_eq_false_iff_ne.mpr c7
          have c7b1 : (a0.toList != ([] : List UInt8)) = true := bne_iff_ne.mpr c7
          by_cases c16 : a0.size + 1 ≤ 9223372036854775807
          · rw [if_pos c16] at H
            have c16b0 := eq_true c16
            have c16b1 : decide (a0.size + 1 ≤ 9223372036854775807) = true := decide_eq_true c16
            try have c16b2 : (9223372036854775807 < a0.size + 1) = False := eq_false (Nat.not_lt.2 c16)
            by_cases c17 : (a0 ++ (⟨#[47]⟩ : ByteArray)).size + a1.size ≤ 9223372036854775807
            · rw [if_pos c17] at H
              have c17b0 := eq_true c17
              have c17b1 : decide ((a0 ++ (⟨#[47]⟩ : ByteArray)).size + a1.size ≤ 9223372036854775807) = true := decide_eq_true c17
              try have c17b1s := c17b1
              (try simp only [ByteArray.size_append, show (⟨#[47]⟩ : ByteArray).size = 1 from rfl] at c17b1s)
              try have c17b2 : (9223372036854775807 < (a0 ++ (⟨#[47]⟩ : ByteArray)).size + a1.size) = False := eq_false (Nat.not_lt.2 c17)
              try have c17b2s := c17b2
              (try simp only [ByteArray.size_append, show (⟨#[47]⟩ : ByteArray).size = 1 from rfl] at c17b2s)
              replace H := Option.bind_eq_some_iff.mp H
              obtain ⟨⟨t104, t105, t106⟩, A180, H⟩ := H
              replace H : (if t106 = 0 then (if t104.toList = a0.toList then (if t105.toList = a1.toList then (some ((a0 ++ (⟨#[47]⟩ : ByteArray)) ++ a1, 0)) else (some ((⟨#[]⟩ : ByteArray), 3))) else (some ((⟨#[]⟩ : ByteArray), 3))) else (some ((⟨#[]⟩ : ByteArray), 3))) = some (r1, r2) := H
              have A18 := Aside0.mk A180
              clear A180
              by_cases c19 : t106 = 0
              · rw [if_pos c19] at H
                have c19b0 : (t106 == 0) = true := beq_iff_eq.mpr c19
                have c19b1 : (t106 != 0) = false := bne_eq_false_iff_eq.mpr c19
                clear c19
                by_cases c20 : t104.toList = a0.toList
                · rw [if_pos c20] at H
                  have c20b0 : (t104.toList == a0.toList) = true := beq_iff_eq.mpr c20
                  have c20b1 : (t104.toList != a0.toList) = false := bne_eq_false_iff_eq.mpr c20
                  clear c20
                  by_cases c21 : t105.toList = a1.toList
                  · rw [if_pos c21] at H
                    have c21b0 : (t105.toList == a1.toList) = true := beq_iff_eq.mpr c21
                    have c21b1 : (t105.toList != a1.toList) = false := bne_eq_false_iff_eq.mpr c21
                    clear c21
                    simp only [Option.some.injEq, Prod.mk.injEq] at H
                    obtain ⟨rfl, rfl⟩ := H
                    go_wp2_with (first | ((with_reducible refine gate_callee (f := 25) rfl ?_); refine goesL_ (some 32) rfl rfl Try.func25 (by kernel_rfl) rfl #[.string ((a0 ++ (⟨#[47]⟩ : ByteArray)) ++ a1)] rfl (by (try simp only [List.map_toArray, List.map_cons, List.map_nil]); first | done | rfl | (simp only [List.length_drop, List.length_take]; rfl)) ?_; (with_reducible refine (cut_Two.calls ((a0 ++ (⟨#[47]⟩ : ByteArray)) ++ a1) t104 t105 t106 _ A18.out).mono ?_); rintro e w22 ⟨rfl, hb⟩; refine ⟨_, rfl, ?_⟩; have n0_ := Aside0.mk (below_step (by repeat (first | (with_reducible first | exact HB.out | apply below_alloc | apply pw_below_drewN | apply below_drew1) | exact HB.out)) hb); clear HB; have HB := n0_; clear n0_; (try clear hb); (try clear hb2); (try clear hk); (try clear hi)))
                    go_ret2
                    exact ⟨by first | rfl | (simp [errW_none, errW_some] <;> rfl) | (simp [*, errW_none, errW_some] <;> rfl), by repeat (first | (with_reducible first | exact HB.out | apply below_alloc | apply pw_below_drewN | apply below_drew1) | exact HB.out)⟩
                  · rw [if_neg c21] at H
                    have c21b0 : (t105.toList == a1.toList) = false := beq_eq_false_iff_ne.mpr c21
                    have c21b1 : (t105.toList != a1.toList) = true := bne_iff_ne.mpr c21
                    simp only [Option.some.injEq, Prod.mk.injEq] at H
                    obtain ⟨rfl, rfl⟩ := H
                    go_wp2_with (first | ((with_reducible refine gate_callee (f := 25) rfl ?_); refine goesL_ (some 32) rfl rfl Try.func25 (by kernel_rfl) rfl #[.string ((a0 ++ (⟨#[47]⟩ : ByteArray)) ++ a1)] rfl (by (try simp only [List.map_toArray, List.map_cons, List.map_nil]); first | done | rfl | (simp only [List.length_drop, List.length_take]; rfl)) ?_; (with_reducible refine (cut_Two.calls ((a0 ++ (⟨#[47]⟩ : ByteArray)) ++ a1) t104 t105 t106 _ A18.out).mono ?_); rintro e w23 ⟨rfl, hb⟩; refine ⟨_, rfl, ?_⟩; have n0_ := Aside0.mk (below_step (by repeat (first | (with_reducible first | exact HB.out | apply below_alloc | apply pw_below_drewN | apply below_drew1) | exact HB.out)) hb); clear HB; have HB := n0_; clear n0_; (try clear hb); (try clear hb2); (try clear hk); (try clear hi)))
                    go_ret2
                    exact ⟨by first | rfl | (simp [errW_none, errW_some] <;> rfl) | (simp [*, errW_none, errW_some] <;> rfl), by repeat (first | (with_reducible first | exact HB.out | apply below_alloc | apply pw_below_drewN | apply below_drew1) | exact HB.out)⟩
                · rw [if_neg c20] at H
                  have c20b0 : (t104.toList == a0.toList) = false := beq_eq_false_iff_ne.mpr c20
                  have c20b1 : (t104.toList != a0.toList) = true := bne_iff_ne.mpr c20
                  simp only [Option.some.injEq, Prod.mk.injEq] at H
                  obtain ⟨rfl, rfl⟩ := H
                  go_wp2_with (first | ((with_reducible refine gate_callee (f := 25) rfl ?_); refine goesL_ (some 32) rfl rfl Try.func25 (by kernel_rfl) rfl #[.string ((a0 ++ (⟨#[47]⟩ : ByteArray)) ++ a1)] rfl (by (try simp only [List.map_toArray, List.map_cons, List.map_nil]); first | done | rfl | (simp only [List.length_drop, List.length_take]; rfl)) ?_; (with_reducible refine (cut_Two.calls ((a0 ++ (⟨#[47]⟩ : ByteArray)) ++ a1) t104 t105 t106 _ A18.out).mono ?_); rintro e w24 ⟨rfl, hb⟩; refine ⟨_, rfl, ?_⟩; have n0_ := Aside0.mk (below_step (by repeat (first | (with_reducible first | exact HB.out | apply below_alloc | apply pw_below_drewN | apply below_drew1) | exact HB.out)) hb); clear HB; have HB := n0_; clear n0_; (try clear hb); (try clear hb2); (try clear hk); (try clear hi)))
                  go_ret2
                  exact ⟨by first | rfl | (simp [errW_none, errW_some] <;> rfl) | (simp [*, errW_none, errW_some] <;> rfl), by repeat (first | (with_reducible first | exact HB.out | apply below_alloc | apply pw_below_drewN | apply below_drew1) | exact HB.out)⟩
              · rw [if_neg c19] at H
                have c19b0 : (t106 == 0) = false := beq_eq_false_iff_ne.mpr c19
                have c19b1 : (t106 != 0) = true := bne_iff_ne.mpr c19
                simp only [Option.some.injEq, Prod.mk.injEq] at H
                obtain ⟨rfl, rfl⟩ := H
                go_wp2_with (first | ((with_reducible refine gate_callee (f := 25) rfl ?_); refine goesL_ (some 32) rfl rfl Try.func25 (by kernel_rfl) rfl #[.string ((a0 ++ (⟨#[47]⟩ : ByteArray)) ++ a1)] rfl (by (try simp only [List.map_toArray, List.map_cons, List.map_nil]); first | done | rfl | (simp only [List.length_drop, List.length_take]; rfl)) ?_; (with_reducible refine (cut_Two.calls ((a0 ++ (⟨#[47]⟩ : ByteArray)) ++ a1) t104 t105 t106 _ A18.out).mono ?_); rintro e w25 ⟨rfl, hb⟩; refine ⟨_, rfl, ?_⟩; have n0_ := Aside0.mk (below_step (by repeat (first | (with_reducible first | exact HB.out | apply below_alloc | apply pw_below_drewN | apply below_drew1) | exact HB.out)) hb); clear HB; have HB := n0_; clear n0_; (try clear hb); (try clear hb2); (try clear hk); (try clear hi)))
                go_ret2
                exact ⟨by first | rfl | (simp [errW_none, errW_some] <;> rfl) | (simp [*, errW_none, errW_some] <;> rfl), by repeat (first | (with_reducible first | exact HB.out | apply below_alloc | apply pw_below_drewN | apply below_drew1) | exact HB.out)⟩
            · rw [if_neg c17] at H
              exact absurd H (by simp)
          · rw [if_neg c16] at H
            exact absurd H (by simp)

/-! ### creelkeep_CutBack: function 11 -/
def creelkeep_CutBack.j0 : Nat → ByteArray → ByteArray → ByteArray → Int → Bool → Option (Bool)
  | 0, _, _, _, _, _ => none
  | k + 1, x0, x3, x4, x5, x31 => if x31 = true then (some false) else (if x5 = 0 then ((cut_One.f k x3 x4).bind fun bt113 => (if bt113.2 = 0 then (if bt113.1.toList = x0.toList then (if (x3.size : Int) ≤ 155 then (some (decide ((x4.size : Int) ≤ 100))) else (some false)) else (some false)) else (some false))) else (if x3.toList = ([] : List UInt8) then (some (x4.toList == ([] : List UInt8))) else (some false)))
def creelkeep_CutBack.f (k : Nat) (a0 : ByteArray) : Option (Bool) := (cut_Two.f a0).bind fun bt107 => ((cut_Two.f (⟨#[97, 47, 98]⟩ : ByteArray)).bind fun bt110 => (if bt110.1.toList = ([] : List UInt8) then (if bt110.2.1.toList = ([97, 47, 98] : List UInt8) then (creelkeep_CutBack.j0 k a0 bt107.1 bt107.2.1 bt107.2.2 (bt110.2.2 != 0)) else (creelkeep_CutBack.j0 k a0 bt107.1 bt107.2.1 bt107.2.2 true)) else (creelkeep_CutBack.j0 k a0 bt107.1 bt107.2.1 bt107.2.2 true)))
theorem creelkeep_CutBack.mono_l : ∀ k, (∀ y0 y1 y2 y3 y4, LeO (creelkeep_CutBack.j0 k y0 y1 y2 y3 y4) (creelkeep_CutBack.j0 (k + 1) y0 y1 y2 y3 y4))
  | 0 => fun _ _ _ _ _ r h => by simp [creelkeep_CutBack.j0] at h
  | k + 1 => by
    have ih0 := creelkeep_CutBack.mono_l k
    · intro y0 y1 y2 y3 y4
      unfold creelkeep_CutBack.j0
      repeat' first
      | (with_reducible exact ih0 _ _ _ _ _)
      | (with_reducible exact cut_One.mono _ _ _)
      | (with_reducible exact LeO.refl _)
      | (with_reducible exact LeO.none _)
      | (with_reducible refine LeO.ite ?_ ?_)
      | (with_reducible refine LeO.bind ?_ (fun _ => ?_))
      | exact ih0 _ _ _ _ _
      | exact cut_One.mono _ _ _
      | exact LeO.none _
      | refine LeO.ite ?_ ?_
      | refine LeO.bind ?_ (fun _ => ?_)
theorem creelkeep_CutBack.mono : ∀ a0 k, LeO (creelkeep_CutBack.f k a0) (creelkeep_CutBack.f (k + 1) a0) := by
  intro a0 k
  have ih0 := creelkeep_CutBack.mono_l k
  unfold creelkeep_CutBack.f
  repeat' first
      | (with_reducible exact ih0 _ _ _ _ _)
      | (with_reducible exact cut_One.mono _ _ _)
      | (with_reducible exact LeO.refl _)
      | (with_reducible exact LeO.none _)
      | (with_reducible refine LeO.ite ?_ ?_)
      | (with_reducible refine LeO.bind ?_ (fun _ => ?_))
      | exact ih0 _ _ _ _ _
      | exact cut_One.mono _ _ _
      | exact LeO.none _
      | refine LeO.ite ?_ ?_
      | refine LeO.bind ?_ (fun _ => ?_)
set_option maxHeartbeats 8000000 in
set_option maxRecDepth 100000 in
theorem creelkeep_CutBack.calls (k : Nat) (a0 : ByteArray) (r : Bool) (w : World) (h : creelkeep_CutBack.f k a0 = some r) :
    Calls Try.prog 11 #[.string a0] w fun e w' => e = .returned (.bool r) ∧ Below w.heap.size w w' := by
  have HB := Aside0.mk (Below.refl w.heap.size w)
  have H : ((cut_Two.f a0).bind fun bt107 => ((cut_Two.f (⟨#[97, 47, 98]⟩ : ByteArray)).bind fun bt110 => (if bt110.1.toList = ([] : List UInt8) then (if bt110.2.1.toList = ([97, 47, 98] : List UInt8) then (creelkeep_CutBack.j0 k a0 bt107.1 bt107.2.1 bt107.2.2 (bt110.2.2 != 0)) else (creelkeep_CutBack.j0 k a0 bt107.1 bt107.2.1 bt107.2.2 true)) else (creelkeep_CutBack.j0 k a0 bt107.1 bt107.2.1 bt107.2.2 true)))) = some r := h
  clear h
  replace H := Option.bind_eq_some_iff.mp H
  obtain ⟨⟨t107, t108, t109⟩, A20, H⟩ := H
  replace H : ((cut_Two.f (⟨#[97, 47, 98]⟩ : ByteArray)).bind fun bt110 => (if bt110.1.toList = ([] : List UInt8) then (if bt110.2.1.toList = ([97, 47, 98] : List UInt8) then (creelkeep_CutBack.j0 k a0 t107 t108 t109 (bt110.2.2 != 0)) else (creelkeep_CutBack.j0 k a0 t107 t108 t109 true)) else (creelkeep_CutBack.j0 k a0 t107 t108 t109 true))) = some r := H
  have A2 := Aside0.mk A20
  clear A20
  replace H := Option.bind_eq_some_iff.mp H
  obtain ⟨⟨t110, t111, t112⟩, A30, H⟩ := H
  replace H : (if t110.toList = ([] : List UInt8) then (if t111.toList = ([97, 47, 98] : List UInt8) then (creelkeep_CutBack.j0 k a0 t107 t108 t109 (t112 != 0)) else (creelkeep_CutBack.j0 k a0 t107 t108 t109 true)) else (creelkeep_CutBack.j0 k a0 t107 t108 t109 true)) = some r := H
  have A3 := Aside0.mk A30
  clear A30
  have HC4 := Aside0.mk H
  clear H
  go_enter Try.func11, Try.ntmps11
  go_upto_region 3 with (first | ((with_reducible refine gate_callee (f := 25) rfl ?_); refine goesL_ (some 13) rfl rfl Try.func25 (by kernel_rfl) rfl #[.string a0] rfl (by (try simp only [List.map_toArray, List.map_cons, List.map_nil]); first | done | rfl | (simp only [List.length_drop, List.length_take]; rfl)) ?_; (with_reducible refine (cut_Two.calls a0 t107 t108 t109 _ A2.out).mono ?_); rintro e w5 ⟨rfl, hb⟩; refine ⟨_, rfl, ?_⟩; have n0_ := Aside0.mk (below_step (by repeat (first | (with_reducible first | exact HB.out | apply below_alloc | apply pw_below_drewN | apply below_drew1) | exact HB.out)) hb); clear HB; have HB := n0_; clear n0_; (try clear hb); (try clear hb2); (try clear hk); (try clear hi)) | ((with_reducible refine gate_callee (f := 25) rfl ?_); refine goesL_ (some 18) rfl rfl Try.func25 (by kernel_rfl) rfl #[.string (⟨#[97, 47, 98]⟩ : ByteArray)] rfl (by (try simp only [List.map_toArray, List.map_cons, List.map_nil]); first | done | rfl | (simp only [List.length_drop, List.length_take]; rfl)) ?_; (with_reducible refine (cut_Two.calls (⟨#[97, 47, 98]⟩ : ByteArray) t110 t111 t112 _ A3.out).mono ?_); rintro e w6 ⟨rfl, hb⟩; refine ⟨_, rfl, ?_⟩; have n0_ := Aside0.mk (below_step (by repeat (first | (with_reducible first | exact HB.out | apply below_alloc | apply pw_below_drewN | apply below_drew1) | exact HB.out)) hb); clear HB; have HB := n0_; clear n0_; (try clear hb); (try clear hb2); (try clear hk); (try clear hi)))
  (try simp only [Act.put, List.setIfInBounds_toArray, List.set_cons_zero, List.set_cons_succ])
  go_cut [31] (fun v31 wc => ∃ (kq : Nat) (x31_3 : Bool), v31 = .bool x31_3 ∧ Aside0 (creelkeep_CutBack.j0 kq a0 t107 t108 t109 x31_3 = some r) ∧ Aside0 (kq ≤ k) ∧ Aside0 (Below w.heap.size w wc))
  case first =>
    have H := HC4.out
    clear HC4
    by_cases c7 : t110.toList = ([] : List UInt8)
    · rw [if_pos c7] at H
      have c7b0 : (t110.toList == ([] : List UInt8)) = true := beq_iff_eq.mpr c7
      have c7b1 : (t110.toList != ([] : List UInt8)) = false := bne_eq_false_iff_eq.mpr c7
      clear c7
      (first | rw [c7b0] | (simp only [i64_w, i32_w]; rw [c7b0]) | skip)
      by_cases c8 : t111.toList = ([97, 47, 98] : List UInt8)
      · rw [if_pos c8] at H
        have c8b0 : (t111.toList == ([97, 47, 98] : List UInt8)) = true := beq_iff_eq.mpr c8
        have c8b1 : (t111.toList != ([97, 47, 98] : List UInt8)) = false := bne_eq_false_iff_eq.mpr c8
        clear c8
        have H' := Aside0.mk H
        clear H
        go_wp2
        go_meet
        case rel => exact ⟨_, ((t112 != 0)), (by first | rfl | (simp; done) | (simp [*]; done)), H', ⟨by first | omega | exact Nat.le_refl _⟩, ⟨by repeat (first | (with_reducible first | exact HB.out | apply below_alloc | apply pw_below_drewN | apply below_drew1) | exact HB.out)⟩⟩
      · rw [if_neg c8] at H
        have c8b0 : (t111.toList == ([97, 47, 98] : List UInt8)) = false := beq_eq_false_iff_ne.mpr c8
        have c8b1 : (t111.toList != ([97, 47, 98] : List UInt8)) = true := bne_iff_ne.mpr c8
        have H' := Aside0.mk H
        clear H
        go_wp2
        go_meet
        case rel => exact ⟨_, (true), (by first | rfl | (simp; done) | (simp [*]; done)), H', ⟨by first | omega | exact Nat.le_refl _⟩, ⟨by repeat (first | (with_reducible first | exact HB.out | apply below_alloc | apply pw_below_drewN | apply below_drew1) | exact HB.out)⟩⟩
    · rw [if_neg c7] at H
      have c7b0 : (t110.toList == ([] : List UInt8)) = false := beq_eq_false_iff_ne.mpr c7
      have c7b1 : (t110.toList != ([] : List UInt8)) = true := bne_iff_ne.mpr c7
      (first | rw [c7b0] | (simp only [i64_w, i32_w]; rw [c7b0]) | skip)
      have H' := Aside0.mk H
      clear H
      go_wp2
      go_meet
      case rel => exact ⟨_, (true), (by first | rfl | (simp; done) | (simp [*]; done)), H', ⟨by first | omega | exact Nat.le_refl _⟩, ⟨by repeat (first | (with_reducible first | exact HB.out | apply below_alloc | apply pw_below_drewN | apply below_drew1) | exact HB.out)⟩⟩
  case rest =>
    clear HC4
    try clear c1
    try clear c2
    try clear p2
    try clear c7
    try clear c7b0
    try clear c7b1
    try clear c8
    try clear c8b0
    try clear c8b1
    obtain ⟨kq, x31_3, rfl, HA, HJ3, HB⟩ := hcut
    cases kq with
    | zero => exact absurd HA.out (by simp [creelkeep_CutBack.j0])
    | succ kj3 =>
      have H := HA.out
      clear HA
      simp only [creelkeep_CutBack.j0] at H
      by_cases c9 : x31_3 = true
      · subst c9
        have H1 : (some false) = some r := by rw [if_pos rfl] at H; exact H
        clear H
        have H := H1
        clear H1
        obtain rfl := Option.some.inj H
        go_wp2
        go_ret
        exact ⟨by first | rfl | (simp [errW_none, errW_some] <;> rfl) | (simp [*, errW_none, errW_some] <;> rfl), by repeat (first | (with_reducible first | exact HB.out | apply below_alloc | apply pw_below_drewN | apply below_drew1) | exact HB.out)⟩
      · replace c9 := Bool.eq_false_iff.mpr c9
        subst c9
        have H1 : (if t109 = 0 then ((cut_One.f kj3 t107 t108).bind fun bt113 => (if bt113.2 = 0 then (if bt113.1.toList = a0.toList then (if (t107.size : Int) ≤ 155 then (some (decide ((t108.size : Int) ≤ 100))) else (some false)) else (some false)) else (some false))) else (if t107.toList = ([] : List UInt8) then (some (t108.toList == ([] : List UInt8))) else (some false))) = some r := by rw [if_neg (show ¬ (false = true) by decide)] at H; exact H
        clear H
        have H := H1
        clear H1
        by_cases c10 : t109 = 0
        · rw [if_pos c10] at H
          have c10b0 : (t109 == 0) = true := beq_iff_eq.mpr c10
          have c10b1 : (t109 != 0) = false := bne_eq_false_iff_eq.mpr c10
          clear c10
          replace H := Option.bind_eq_some_iff.mp H
          obtain ⟨⟨t113, t114⟩, A110, H⟩ := H
          replace H : (if t114 = 0 then (if t113.toList = a0.toList then (if (t107.size : Int) ≤ 155 then (some (decide ((t108.size : Int) ≤ 100))) else (some false)) else (some false)) else (some false)) = some r := H
          have A11 := Aside0.mk A110
          clear A110
          by_cases c12 : t114 = 0
          · rw [if_pos c12] at H
            have c12b0 : (t114 == 0) = true := beq_iff_eq.mpr c12
            have c12b1 : (t114 != 0) = false := bne_eq_false_iff_eq.mpr c12
            clear c12
            by_cases c13 : t113.toList = a0.toList
            · rw [if_pos c13] at H
              have c13b0 : (t113.toList == a0.toList) = true := beq_iff_eq.mpr c13
              have c13b1 : (t113.toList != a0.toList) = false := bne_eq_false_iff_eq.mpr c13
              clear c13
              by_cases c14 : (t107.size : Int) ≤ 155
              · rw [if_pos c14] at H
                have c14b0 : decide ((t107.size : Int) ≤ 155) = true := decide_eq_true c14
                have c14b1 : decide (t107.size ≤ 155) = true := decide_eq_true (by omega)
                clear c14
                obtain rfl := Option.some.inj H
                go_wp2_with (first | ((with_reducible refine gate_callee (f := 26) rfl ?_); refine goesL_ (some 43) rfl rfl Try.func26 (by kernel_rfl) rfl #[.string t107, .string t108] rfl (by (try simp only [List.map_toArray, List.map_cons, List.map_nil]); first | done | rfl | (simp only [List.length_drop, List.length_take]; rfl)) ?_; (with_reducible refine (cut_One.calls kj3 t107 t108 t113 t114 _ A11.out).mono ?_); rintro e w15 ⟨rfl, hb⟩; refine ⟨_, rfl, ?_⟩; have n0_ := Aside0.mk (below_step (by repeat (first | (with_reducible first | exact HB.out | apply below_alloc | apply pw_below_drewN | apply below_drew1) | exact HB.out)) hb); clear HB; have HB := n0_; clear n0_; (try clear hb); (try clear hb2); (try clear hk); (try clear hi)))
                go_ret
                exact ⟨by first | rfl | (simp [errW_none, errW_some] <;> rfl) | (simp [*, errW_none, errW_some] <;> rfl), by repeat (first | (with_reducible first | exact HB.out | apply below_alloc | apply pw_below_drewN | apply below_drew1) | exact HB.out)⟩
              · rw [if_neg c14] at H
                have c14b0 : decide ((t107.size : Int) ≤ 155) = false := decide_eq_false c14
                have c14b1 : decide (t107.size ≤ 155) = false := decide_eq_false (by omega)
                clear c14
                obtain rfl := Option.some.inj H
                go_wp2_with (first | ((with_reducible refine gate_callee (f := 26) rfl ?_); refine goesL_ (some 43) rfl rfl Try.func26 (by kernel_rfl) rfl #[.string t107, .string t108] rfl (by (try simp only [List.map_toArray, List.map_cons, List.map_nil]); first | done | rfl | (simp only [List.length_drop, List.length_take]; rfl)) ?_; (with_reducible refine (cut_One.calls kj3 t107 t108 t113 t114 _ A11.out).mono ?_); rintro e w16 ⟨rfl, hb⟩; refine ⟨_, rfl, ?_⟩; have n0_ := Aside0.mk (below_step (by repeat (first | (with_reducible first | exact HB.out | apply below_alloc | apply pw_below_drewN | apply below_drew1) | exact HB.out)) hb); clear HB; have HB := n0_; clear n0_; (try clear hb); (try clear hb2); (try clear hk); (try clear hi)))
                go_ret
                exact ⟨by first | rfl | (simp [errW_none, errW_some] <;> rfl) | (simp [*, errW_none, errW_some] <;> rfl), by repeat (first | (with_reducible first | exact HB.out | apply below_alloc | apply pw_below_drewN | apply below_drew1) | exact HB.out)⟩
            · rw [if_neg c13] at H
              have c13b0 : (t113.toList == a0.toList) = false := beq_eq_false_iff_ne.mpr c13
              have c13b1 : (t113.toList != a0.toList) = true := bne_iff_ne.mpr c13
              obtain rfl := Option.some.inj H
              go_wp2_with (first | ((with_reducible refine gate_callee (f := 26) rfl ?_); refine goesL_ (some 43) rfl rfl Try.func26 (by kernel_rfl) rfl #[.string t107, .string t108] rfl (by (try simp only [List.map_toArray, List.map_cons, List.map_nil]); first | done | rfl | (simp only [List.length_drop, List.length_take]; rfl)) ?_; (with_reducible refine (cut_One.calls kj3 t107 t108 t113 t114 _ A11.out).mono ?_); rintro e w17 ⟨rfl, hb⟩; refine ⟨_, rfl, ?_⟩; have n0_ := Aside0.mk (below_step (by repeat (first | (with_reducible first | exact HB.out | apply below_alloc | apply pw_below_drewN | apply below_drew1) | exact HB.out)) hb); clear HB; have HB := n0_; clear n0_; (try clear hb); (try clear hb2); (try clear hk); (try clear hi)))
              go_ret
              exact ⟨by first | rfl | (simp [errW_none, errW_some] <;> rfl) | (simp [*, errW_none, errW_some] <;> rfl), by repeat (first | (with_reducible first | exact HB.out | apply below_alloc | apply pw_below_drewN | apply below_drew1) | exact HB.out)⟩
          · rw [if_neg c12] at H
            have c12b0 : (t114 == 0) = false := beq_eq_false_iff_ne.mpr c12
            have c12b1 : (t114 != 0) = true := bne_iff_ne.mpr c12
            obtain rfl := Option.some.inj H
            go_wp2_with (first | ((with_reducible refine gate_callee (f := 26) rfl ?_); refine goesL_ (some 43) rfl rfl Try.func26 (by kernel_rfl) rfl #[.string t107, .string t108] rfl (by (try simp only [List.map_toArray, List.map_cons, List.map_nil]); first | done | rfl | (simp only [List.length_drop, List.length_take]; rfl)) ?_; (with_reducible refine (cut_One.calls kj3 t107 t108 t113 t114 _ A11.out).mono ?_); rintro e w18 ⟨rfl, hb⟩; refine ⟨_, rfl, ?_⟩; have n0_ := Aside0.mk (below_step (by repeat (first | (with_reducible first | exact HB.out | apply below_alloc | apply pw_below_drewN | apply below_drew1) | exact HB.out)) hb); clear HB; have HB := n0_; clear n0_; (try clear hb); (try clear hb2); (try clear hk); (try clear hi)))
            go_ret
            exact ⟨by first | rfl | (simp [errW_none, errW_some] <;> rfl) | (simp [*, errW_none, errW_some] <;> rfl), by repeat (first | (with_reducible first | exact HB.out | apply below_alloc | apply pw_below_drewN | apply below_drew1) | exact HB.out)⟩
        · rw [if_neg c10] at H
          have c10b0 : (t109 == 0) = false := beq_eq_false_iff_ne.mpr c10
          have c10b1 : (t109 != 0) = true := bne_iff_ne.mpr c10
          by_cases c19 : t107.toList = ([] : List UInt8)
          · rw [if_pos c19] at H
            have c19b0 : (t107.toList == ([] : List UInt8)) = true := beq_iff_eq.mpr c19
            have c19b1 : (t107.toList != ([] : List UInt8)) = false := bne_eq_false_iff_eq.mpr c19
            clear c19
            obtain rfl := Option.some.inj H
            go_wp2
            go_ret
            exact ⟨by first | rfl | (simp [errW_none, errW_some] <;> rfl) | (simp [*, errW_none, errW_some] <;> rfl), by repeat (first | (with_reducible first | exact HB.out | apply below_alloc | apply pw_below_drewN | apply below_drew1) | exact HB.out)⟩
          · rw [if_neg c19] at H
            have c19b0 : (t107.toList == ([] : List UInt8)) = false := beq_eq_false_iff_ne.mpr c19
            have c19b1 : (t107.toList != ([] : List UInt8)) = true := bne_iff_ne.mpr c19
            obtain rfl := Option.some.inj H
            go_wp2
            go_ret
            exact ⟨by first | rfl | (simp [errW_none, errW_some] <;> rfl) | (simp [*, errW_none, errW_some] <;> rfl), by repeat (first | (with_reducible first | exact HB.out | apply below_alloc | apply pw_below_drewN | apply below_drew1) | exact HB.out)⟩

/-- THE ONE PURE STATEMENT of creelkeep_CutBack: yours. -/
def creelkeep_CutBack.Pure : Prop := ∀ (a0 : ByteArray), a0.size ≤ 140737488351232 → ∃ k, creelkeep_CutBack.f k a0 = some true
theorem creelkeep_CutBack.walk (P : creelkeep_CutBack.Pure) (a0 : ByteArray) (w : World) (w0 : a0.size ≤ 140737488351232) :
    Calls Try.prog 11 #[.string a0] w fun e w' => e = .returned (.bool true) ∧ Below w.heap.size w w' := by
  obtain ⟨k, h⟩ := P a0 w0
  refine (creelkeep_CutBack.calls k a0 true w h).mono ?_
  rintro e w' ⟨rfl, hd⟩
  exact ⟨rfl, hd⟩

end Go.Proofs.Ytbhdfjdopphhdaa.PCutBack
