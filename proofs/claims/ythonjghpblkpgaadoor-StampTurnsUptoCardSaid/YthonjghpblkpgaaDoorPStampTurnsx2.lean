-- Written by a program of this session for this claim (wip/myprint.py over the kit's print).
import Derived.Test.YthonjghpblkpgaaDoorPStampTurnsx0
import Derived.Test.YthonjghpblkpgaaDoorPStampTurnsx1
namespace Go.Proofs.YthonjghpblkpgaaDoor.PStampTurns
open Go.RowKit Go.Proofs.YthonjghpblkpgaaDoorW.PrintWords Go.Proofs.YthonjghpblkpgaaDoorW.PrintLast Go.Proofs.YthonjghpblkpgaaDoorW.PrintMore
attribute [local go_sem] max2_int min2_int max_two min_two max_three min_three max_four min_four   -- for this text's walks alone
set_option linter.unusedVariables false
set_option linter.unusedSimpArgs false

/-! ### stamp_Parse: function 26 -/
def stamp_Parse.j0 : Nat → ByteArray → Bool → Int → Bool → Int → Option (Int × Int × Int)
  | 0, _, _, _, _, _ => none
  | k + 1, x0, x6, x10, x11, x12 => if x11 = true then (if x6 = true then (if x12 > 0 then ((stamp_Text.f k (wrap64 ((wrap64 (-x10)) - 1)) (wrap64 (1000000000 - x12))).bind fun bt119 => (if bt119.2 = 0 then (if bt119.1.toList = x0.toList then (some (wrap64 ((wrap64 (-x10)) - 1), wrap64 (1000000000 - x12), 0)) else (some (0, 0, 3))) else (some (0, 0, 3)))) else ((stamp_Text.f k (wrap64 (-x10)) x12).bind fun bt121 => (if bt121.2 = 0 then (if bt121.1.toList = x0.toList then (some (wrap64 (-x10), x12, 0)) else (some (0, 0, 3))) else (some (0, 0, 3))))) else ((stamp_Text.f k x10 x12).bind fun bt123 => (if bt123.2 = 0 then (if bt123.1.toList = x0.toList then (some (x10, x12, 0)) else (some (0, 0, 3))) else (some (0, 0, 3))))) else (some (0, 0, 3))
def stamp_Parse.f (k : Nat) (a0 : ByteArray) : Option (Int × Int × Int) := (strings_CutPrefix.f a0 (⟨#[45]⟩ : ByteArray)).bind fun bt109 => ((strings_Cut.f bt109.1 (⟨#[46]⟩ : ByteArray)).bind fun bt111 => ((stamp_digits.f k bt111.1 13).bind fun bt114 => (if bt111.2.2 = true then ((strings_Repeat.f (⟨#[48]⟩ : ByteArray) (mx 0 (wrap64 (9 - (bt111.2.1.size : Int))))).bind fun t116 => (if bt111.2.1.size + t116.size ≤ 9223372036854775807 then ((stamp_digits.f k (bt111.2.1 ++ t116) 9).bind fun bt117 => (if bt114.2 = true then (stamp_Parse.j0 k a0 bt109.2 bt114.1 bt117.2 bt117.1) else (stamp_Parse.j0 k a0 bt109.2 bt114.1 false bt117.1))) else (none))) else (stamp_Parse.j0 k a0 bt109.2 bt114.1 bt114.2 0))))
theorem stamp_Parse.mono_l : ∀ k, (∀ y0 y1 y2 y3 y4, LeO (stamp_Parse.j0 k y0 y1 y2 y3 y4) (stamp_Parse.j0 (k + 1) y0 y1 y2 y3 y4))
  | 0 => fun _ _ _ _ _ r h => by simp [stamp_Parse.j0] at h
  | k + 1 => by
    have ih0 := stamp_Parse.mono_l k
    · intro y0 y1 y2 y3 y4
      unfold stamp_Parse.j0
      repeat' first
      | (with_reducible exact ih0 _ _ _ _ _)
      | (with_reducible exact stamp_Text.mono _ _ _)
      | (with_reducible exact stamp_digits.mono _ _ _)
      | (with_reducible exact LeO.refl _)
      | (with_reducible exact LeO.none _)
      | (with_reducible refine LeO.ite ?_ ?_)
      | (with_reducible refine LeO.bind ?_ (fun _ => ?_))
      | exact ih0 _ _ _ _ _
      | exact stamp_Text.mono _ _ _
      | exact stamp_digits.mono _ _ _
      | exact LeO.none _
      | refine LeO.ite ?_ ?_
      | refine LeO.bind ?_ (fun _ => ?_)
theorem stamp_Parse.mono : ∀ a0 k, LeO (stamp_Parse.f k a0) (stamp_Parse.f (k + 1) a0) := by
  intro a0 k
  have ih0 := stamp_Parse.mono_l k
  unfold stamp_Parse.f
  repeat' first
      | (with_reducible exact ih0 _ _ _ _ _)
      | (with_reducible exact stamp_Text.mono _ _ _)
      | (with_reducible exact stamp_digits.mono _ _ _)
      | (with_reducible exact LeO.refl _)
      | (with_reducible exact LeO.none _)
      | (with_reducible refine LeO.ite ?_ ?_)
      | (with_reducible refine LeO.bind ?_ (fun _ => ?_))
      | exact ih0 _ _ _ _ _
      | exact stamp_Text.mono _ _ _
      | exact stamp_digits.mono _ _ _
      | exact LeO.none _
      | refine LeO.ite ?_ ?_
      | refine LeO.bind ?_ (fun _ => ?_)
set_option maxHeartbeats 8000000 in
set_option maxRecDepth 100000 in
theorem stamp_Parse.calls (k : Nat) (a0 : ByteArray) (r1 : Int) (r2 : Int) (r3 : Int) (w : World) (hG0_ : G_ w) (h : stamp_Parse.f k a0 = some (r1, r2, r3)) :
    Calls Tryd.prog 26 #[.string a0] w fun e w' => e = .returned (.tuple #[.int .i64 r1, .int .i64 r2, .int .i64 r3]) ∧ Below w.heap.size w w' := by
  have hG_ := Aside0.mk hG0_
  clear hG0_
  have HB := Aside0.mk (Below.refl w.heap.size w)
  have H : ((strings_CutPrefix.f a0 (⟨#[45]⟩ : ByteArray)).bind fun bt109 => ((strings_Cut.f bt109.1 (⟨#[46]⟩ : ByteArray)).bind fun bt111 => ((stamp_digits.f k bt111.1 13).bind fun bt114 => (if bt111.2.2 = true then ((strings_Repeat.f (⟨#[48]⟩ : ByteArray) (mx 0 (wrap64 (9 - (bt111.2.1.size : Int))))).bind fun t116 => (if bt111.2.1.size + t116.size ≤ 9223372036854775807 then ((stamp_digits.f k (bt111.2.1 ++ t116) 9).bind fun bt117 => (if bt114.2 = true then (stamp_Parse.j0 k a0 bt109.2 bt114.1 bt117.2 bt117.1) else (stamp_Parse.j0 k a0 bt109.2 bt114.1 false bt117.1))) else (none))) else (stamp_Parse.j0 k a0 bt109.2 bt114.1 bt114.2 0))))) = some (r1, r2, r3) := h
  clear h
  replace H := Option.bind_eq_some_iff.mp H
  obtain ⟨⟨t109, t110⟩, A20, H⟩ := H
  replace H : ((strings_Cut.f t109 (⟨#[46]⟩ : ByteArray)).bind fun bt111 => ((stamp_digits.f k bt111.1 13).bind fun bt114 => (if bt111.2.2 = true then ((strings_Repeat.f (⟨#[48]⟩ : ByteArray) (mx 0 (wrap64 (9 - (bt111.2.1.size : Int))))).bind fun t116 => (if bt111.2.1.size + t116.size ≤ 9223372036854775807 then ((stamp_digits.f k (bt111.2.1 ++ t116) 9).bind fun bt117 => (if bt114.2 = true then (stamp_Parse.j0 k a0 t110 bt114.1 bt117.2 bt117.1) else (stamp_Parse.j0 k a0 t110 bt114.1 false bt117.1))) else (none))) else (stamp_Parse.j0 k a0 t110 bt114.1 bt114.2 0)))) = some (r1, r2, r3) := H
  have A2 := Aside0.mk A20
  clear A20
  replace H := Option.bind_eq_some_iff.mp H
  obtain ⟨⟨t111, t112, t113⟩, A30, H⟩ := H
  replace H : ((stamp_digits.f k t111 13).bind fun bt114 => (if t113 = true then ((strings_Repeat.f (⟨#[48]⟩ : ByteArray) (mx 0 (wrap64 (9 - (t112.size : Int))))).bind fun t116 => (if t112.size + t116.size ≤ 9223372036854775807 then ((stamp_digits.f k (t112 ++ t116) 9).bind fun bt117 => (if bt114.2 = true then (stamp_Parse.j0 k a0 t110 bt114.1 bt117.2 bt117.1) else (stamp_Parse.j0 k a0 t110 bt114.1 false bt117.1))) else (none))) else (stamp_Parse.j0 k a0 t110 bt114.1 bt114.2 0))) = some (r1, r2, r3) := H
  have A3 := Aside0.mk A30
  clear A30
  replace H := Option.bind_eq_some_iff.mp H
  obtain ⟨⟨t114, t115⟩, A40, H⟩ := H
  replace H : (if t113 = true then ((strings_Repeat.f (⟨#[48]⟩ : ByteArray) (mx 0 (wrap64 (9 - (t112.size : Int))))).bind fun t116 => (if t112.size + t116.size ≤ 9223372036854775807 then ((stamp_digits.f k (t112 ++ t116) 9).bind fun bt117 => (if t115 = true then (stamp_Parse.j0 k a0 t110 t114 bt117.2 bt117.1) else (stamp_Parse.j0 k a0 t110 t114 false bt117.1))) else (none))) else (stamp_Parse.j0 k a0 t110 t114 t115 0)) = some (r1, r2, r3) := H
  have A4 := Aside0.mk A40
  clear A40
  have HC5 := Aside0.mk H
  clear H
  go_enter Tryd.func26, Tryd.ntmps26
  go_upto_if 32 with (first | ((with_reducible refine gate_callee (f := 60) rfl ?_); refine goesL_ (some 18) rfl rfl Tryd.func60 (by kernel_rfl) rfl #[.string a0, .string (⟨#[45]⟩ : ByteArray)] rfl (by (try simp only [List.map_toArray, List.map_cons, List.map_nil]); first | done | rfl | (simp only [List.length_drop, List.length_take]; rfl)) ?_; (with_reducible refine (strings_CutPrefix.calls a0 (⟨#[45]⟩ : ByteArray) t109 t110 _ A2.out).mono ?_); rintro e w' ⟨rfl, ⟨nd, rfl⟩⟩; refine ⟨_, rfl, ?_⟩) | ((with_reducible refine gate_callee (f := 17) rfl ?_); refine goesL_ (some 23) rfl rfl Tryd.func17 (by kernel_rfl) rfl #[.string t109, .string (⟨#[46]⟩ : ByteArray)] rfl (by (try simp only [List.map_toArray, List.map_cons, List.map_nil]); first | done | rfl | (simp only [List.length_drop, List.length_take]; rfl)) ?_; (with_reducible refine (strings_Cut.calls t109 (⟨#[46]⟩ : ByteArray) t111 t112 t113 _ ?side1 A3.out).mono ?_); (case side1 => exact G_below hG_.out (by repeat (first | (with_reducible first | exact HB.out | apply below_alloc | apply pw_below_drewN | apply below_drew1) | exact HB.out))); rintro e w' ⟨rfl, ⟨nd, rfl⟩⟩; refine ⟨_, rfl, ?_⟩) | ((with_reducible refine gate_callee (f := 61) rfl ?_); refine goesL_ (some 29) rfl rfl Tryd.func61 (by kernel_rfl) rfl #[.string t111, .int .i64 13] rfl (by (try simp only [List.map_toArray, List.map_cons, List.map_nil]); first | done | rfl | (simp only [List.length_drop, List.length_take]; rfl)) ?_; (with_reducible refine (stamp_digits.calls k t111 13 t114 t115 _ A4.out).mono ?_); rintro e w' ⟨rfl, ⟨nd, rfl⟩⟩; refine ⟨_, rfl, ?_⟩))
  (try simp only [Act.put, List.setIfInBounds_toArray, List.set_cons_zero, List.set_cons_succ])
  go_cut [11, 12] (fun v11 v12 wc => ∃ (kq : Nat) (x11_4 : Bool) (x12_4 : Int), v11 = .bool x11_4 ∧ v12 = .int .i64 x12_4 ∧ Aside0 (stamp_Parse.j0 kq a0 t110 t114 x11_4 x12_4 = some (r1, r2, r3)) ∧ Aside0 (kq ≤ k) ∧ Aside0 (Below w.heap.size w wc))
  case first =>
    have H := HC5.out
    clear HC5
    by_cases c6 : t113 = true
    · subst c6
      have H1 : ((strings_Repeat.f (⟨#[48]⟩ : ByteArray) (mx 0 (wrap64 (9 - (t112.size : Int))))).bind fun t116 => (if t112.size + t116.size ≤ 9223372036854775807 then ((stamp_digits.f k (t112 ++ t116) 9).bind fun bt117 => (if t115 = true then (stamp_Parse.j0 k a0 t110 t114 bt117.2 bt117.1) else (stamp_Parse.j0 k a0 t110 t114 false bt117.1))) else (none))) = some (r1, r2, r3) := by rw [if_pos rfl] at H; exact H
      clear H
      have H := H1
      clear H1
      obtain ⟨ji7, hji7⟩ : ∃ j_ : Int, (mx 0 (wrap64 (9 - (t112.size : Int)))) = j_ := ⟨_, rfl⟩
      replace H : ((strings_Repeat.f (⟨#[48]⟩ : ByteArray) (ji7)).bind fun t116 => (if t112.size + t116.size ≤ 9223372036854775807 then ((stamp_digits.f k (t112 ++ t116) 9).bind fun bt117 => (if t115 = true then (stamp_Parse.j0 k a0 t110 t114 bt117.2 bt117.1) else (stamp_Parse.j0 k a0 t110 t114 false bt117.1))) else (none))) = some (r1, r2, r3) := by first | (rw [hji7] at H; exact H) | (simp only [hji7] at H ⊢; exact H)
      (try (have hji7l : 0 ≤ ji7 := by (rw [← hji7]; unfold mx; (repeat' split) <;> omega)))
      (try (have hji7m : 0 ≤ ji7 := by omega))
      have hji7_ : (if 0 < (wrap64 (9 - (t112.size : Int))) then (wrap64 (9 - (t112.size : Int))) else 0) = ji7 := hji7
      replace H := Option.bind_eq_some_iff.mp H
      obtain ⟨t116, A80, H⟩ := H
      replace H : (if t112.size + t116.size ≤ 9223372036854775807 then ((stamp_digits.f k (t112 ++ t116) 9).bind fun bt117 => (if t115 = true then (stamp_Parse.j0 k a0 t110 t114 bt117.2 bt117.1) else (stamp_Parse.j0 k a0 t110 t114 false bt117.1))) else (none)) = some (r1, r2, r3) := H
      have A8 := Aside0.mk A80
      clear A80
      by_cases c9 : t112.size + t116.size ≤ 9223372036854775807
      · rw [if_pos c9] at H
        have c9b0 := eq_true c9
        have c9b1 : decide (t112.size + t116.size ≤ 9223372036854775807) = true := decide_eq_true c9
        try have c9b2 : (9223372036854775807 < t112.size + t116.size) = False := eq_false (Nat.not_lt.2 c9)
        replace H := Option.bind_eq_some_iff.mp H
        obtain ⟨⟨t117, t118⟩, A100, H⟩ := H
        replace H : (if t115 = true then (stamp_Parse.j0 k a0 t110 t114 t118 t117) else (stamp_Parse.j0 k a0 t110 t114 false t117)) = some (r1, r2, r3) := H
        have A10 := Aside0.mk A100
        clear A100
        by_cases c11 : t115 = true
        · subst c11
          have H1 : (stamp_Parse.j0 k a0 t110 t114 t118 t117) = some (r1, r2, r3) := by rw [if_pos rfl] at H; exact H
          clear H
          have H := H1
          clear H1
          have H' := Aside0.mk H
          clear H
          have hw9_ : wrap64 (9 - (t112.size : Int)) = 9 - (t112.size : Int) := by unfold wrap64; omega
          have hj9_ : ji7 = mx 0 (9 - (t112.size : Int)) := by rw [← hji7, hw9_]
          by_cases hq9_ : (t112.size : Int) < 9
          · have hv9_ : ji7 = 9 - (t112.size : Int) := by rw [hj9_]; unfold mx; rw [if_pos (by omega)]
            have hx9_ : (9 - (t112.size : Int) > 0) = True := eq_true (by omega)
            have hy9_ : ((t112.size : Int) < 9) = True := eq_true hq9_
            clear hj9_ hw9_
            go_wp2_with (first | ((with_reducible refine gate_callee (f := 38) rfl ?_); refine goesL_ (some 39) rfl rfl Tryd.func38 (by kernel_rfl) rfl #[.string (⟨#[48]⟩ : ByteArray), .int .i64 ji7] rfl (by (try simp only [List.map_toArray, List.map_cons, List.map_nil]); first | done | (rw [hv9_] <;> rfl) | (simp only [hji7]; rfl) | rfl | (simp only [List.length_drop, List.length_take]; rfl)) ?_; (with_reducible refine (strings_Repeat.calls (⟨#[48]⟩ : ByteArray) ji7 t116 _ A8.out).mono ?_); rintro e w12 ⟨rfl, hb⟩; refine ⟨_, rfl, ?_⟩; have n0_ := Aside0.mk (below_step (by repeat (first | (with_reducible first | exact HB.out | apply below_alloc | apply pw_below_drewN | apply below_drew1) | exact HB.out)) hb); clear HB; have HB := n0_; clear n0_; (try clear hb); (try clear hb2); (try clear hk); (try clear hi)) | ((with_reducible refine gate_callee (f := 61) rfl ?_); refine goesL_ (some 41) rfl rfl Tryd.func61 (by kernel_rfl) rfl #[.string (t112 ++ t116), .int .i64 9] rfl (by (try simp only [List.map_toArray, List.map_cons, List.map_nil]); first | done | rfl | (simp only [List.length_drop, List.length_take]; rfl)) ?_; (with_reducible refine (stamp_digits.calls k (t112 ++ t116) 9 t117 t118 _ A10.out).mono ?_); rintro e w' ⟨rfl, ⟨nd, rfl⟩⟩; refine ⟨_, rfl, ?_⟩))
            go_meet
            case rel => exact ⟨_, (t118), (t117), (by first | rfl | (simp; done) | (simp [*]; done)), (by first | rfl | (simp; done) | (simp [*]; done)), H', ⟨by first | omega | exact Nat.le_refl _⟩, ⟨by repeat (first | (with_reducible first | exact HB.out | apply below_alloc | apply pw_below_drewN | apply below_drew1) | exact HB.out)⟩⟩
          · have hv9_ : ji7 = 0 := by rw [hj9_]; unfold mx; rw [if_neg (by omega)]
            have hx9_ : (9 - (t112.size : Int) > 0) = False := eq_false (by omega)
            have hy9_ : ((t112.size : Int) < 9) = False := eq_false hq9_
            have hu9_ : 9 ≤ (t112.size : Int) := by omega
            clear hj9_ hw9_
            go_wp2_with (first | ((with_reducible refine gate_callee (f := 38) rfl ?_); refine goesL_ (some 39) rfl rfl Tryd.func38 (by kernel_rfl) rfl #[.string (⟨#[48]⟩ : ByteArray), .int .i64 ji7] rfl (by (try simp only [List.map_toArray, List.map_cons, List.map_nil]); first | done | (rw [hv9_] <;> rfl) | (simp only [hji7]; rfl) | rfl | (simp only [List.length_drop, List.length_take]; rfl)) ?_; (with_reducible refine (strings_Repeat.calls (⟨#[48]⟩ : ByteArray) ji7 t116 _ A8.out).mono ?_); rintro e w12 ⟨rfl, hb⟩; refine ⟨_, rfl, ?_⟩; have n0_ := Aside0.mk (below_step (by repeat (first | (with_reducible first | exact HB.out | apply below_alloc | apply pw_below_drewN | apply below_drew1) | exact HB.out)) hb); clear HB; have HB := n0_; clear n0_; (try clear hb); (try clear hb2); (try clear hk); (try clear hi)) | ((with_reducible refine gate_callee (f := 61) rfl ?_); refine goesL_ (some 41) rfl rfl Tryd.func61 (by kernel_rfl) rfl #[.string (t112 ++ t116), .int .i64 9] rfl (by (try simp only [List.map_toArray, List.map_cons, List.map_nil]); first | done | rfl | (simp only [List.length_drop, List.length_take]; rfl)) ?_; (with_reducible refine (stamp_digits.calls k (t112 ++ t116) 9 t117 t118 _ A10.out).mono ?_); rintro e w' ⟨rfl, ⟨nd, rfl⟩⟩; refine ⟨_, rfl, ?_⟩))
            go_meet
            case rel => exact ⟨_, (t118), (t117), (by first | rfl | (simp; done) | (simp [*]; done)), (by first | rfl | (simp; done) | (simp [*]; done)), H', ⟨by first | omega | exact Nat.le_refl _⟩, ⟨by repeat (first | (with_reducible first | exact HB.out | apply below_alloc | apply pw_below_drewN | apply below_drew1) | exact HB.out)⟩⟩
        · replace c11 := Bool.eq_false_iff.mpr c11
          subst c11
          have H1 : (stamp_Parse.j0 k a0 t110 t114 false t117) = some (r1, r2, r3) := by rw [if_neg (show ¬ (false = true) by decide)] at H; exact H
          clear H
          have H := H1
          clear H1
          have H' := Aside0.mk H
          clear H
          have hw9_ : wrap64 (9 - (t112.size : Int)) = 9 - (t112.size : Int) := by unfold wrap64; omega
          have hj9_ : ji7 = mx 0 (9 - (t112.size : Int)) := by rw [← hji7, hw9_]
          by_cases hq9_ : (t112.size : Int) < 9
          · have hv9_ : ji7 = 9 - (t112.size : Int) := by rw [hj9_]; unfold mx; rw [if_pos (by omega)]
            have hx9_ : (9 - (t112.size : Int) > 0) = True := eq_true (by omega)
            have hy9_ : ((t112.size : Int) < 9) = True := eq_true hq9_
            clear hj9_ hw9_
            go_wp2_with (first | ((with_reducible refine gate_callee (f := 38) rfl ?_); refine goesL_ (some 39) rfl rfl Tryd.func38 (by kernel_rfl) rfl #[.string (⟨#[48]⟩ : ByteArray), .int .i64 ji7] rfl (by (try simp only [List.map_toArray, List.map_cons, List.map_nil]); first | done | (rw [hv9_] <;> rfl) | (simp only [hji7]; rfl) | rfl | (simp only [List.length_drop, List.length_take]; rfl)) ?_; (with_reducible refine (strings_Repeat.calls (⟨#[48]⟩ : ByteArray) ji7 t116 _ A8.out).mono ?_); rintro e w13 ⟨rfl, hb⟩; refine ⟨_, rfl, ?_⟩; have n0_ := Aside0.mk (below_step (by repeat (first | (with_reducible first | exact HB.out | apply below_alloc | apply pw_below_drewN | apply below_drew1) | exact HB.out)) hb); clear HB; have HB := n0_; clear n0_; (try clear hb); (try clear hb2); (try clear hk); (try clear hi)) | ((with_reducible refine gate_callee (f := 61) rfl ?_); refine goesL_ (some 41) rfl rfl Tryd.func61 (by kernel_rfl) rfl #[.string (t112 ++ t116), .int .i64 9] rfl (by (try simp only [List.map_toArray, List.map_cons, List.map_nil]); first | done | rfl | (simp only [List.length_drop, List.length_take]; rfl)) ?_; (with_reducible refine (stamp_digits.calls k (t112 ++ t116) 9 t117 t118 _ A10.out).mono ?_); rintro e w' ⟨rfl, ⟨nd, rfl⟩⟩; refine ⟨_, rfl, ?_⟩))
            go_meet
            case rel => exact ⟨_, (false), (t117), (by first | rfl | (simp; done) | (simp [*]; done)), (by first | rfl | (simp; done) | (simp [*]; done)), H', ⟨by first | omega | exact Nat.le_refl _⟩, ⟨by repeat (first | (with_reducible first | exact HB.out | apply below_alloc | apply pw_below_drewN | apply below_drew1) | exact HB.out)⟩⟩
          · have hv9_ : ji7 = 0 := by rw [hj9_]; unfold mx; rw [if_neg (by omega)]
            have hx9_ : (9 - (t112.size : Int) > 0) = False := eq_false (by omega)
            have hy9_ : ((t112.size : Int) < 9) = False := eq_false hq9_
            have hu9_ : 9 ≤ (t112.size : Int) := by omega
            clear hj9_ hw9_
            go_wp2_with (first | ((with_reducible refine gate_callee (f := 38) rfl ?_); refine goesL_ (some 39) rfl rfl Tryd.func38 (by kernel_rfl) rfl #[.string (⟨#[48]⟩ : ByteArray), .int .i64 ji7] rfl (by (try simp only [List.map_toArray, List.map_cons, List.map_nil]); first | done | (rw [hv9_] <;> rfl) | (simp only [hji7]; rfl) | rfl | (simp only [List.length_drop, List.length_take]; rfl)) ?_; (with_reducible refine (strings_Repeat.calls (⟨#[48]⟩ : ByteArray) ji7 t116 _ A8.out).mono ?_); rintro e w13 ⟨rfl, hb⟩; refine ⟨_, rfl, ?_⟩; have n0_ := Aside0.mk (below_step (by repeat (first | (with_reducible first | exact HB.out | apply below_alloc | apply pw_below_drewN | apply below_drew1) | exact HB.out)) hb); clear HB; have HB := n0_; clear n0_; (try clear hb); (try clear hb2); (try clear hk); (try clear hi)) | ((with_reducible refine gate_callee (f := 61) rfl ?_); refine goesL_ (some 41) rfl rfl Tryd.func61 (by kernel_rfl) rfl #[.string (t112 ++ t116), .int .i64 9] rfl (by (try simp only [List.map_toArray, List.map_cons, List.map_nil]); first | done | rfl | (simp only [List.length_drop, List.length_take]; rfl)) ?_; (with_reducible refine (stamp_digits.calls k (t112 ++ t116) 9 t117 t118 _ A10.out).mono ?_); rintro e w' ⟨rfl, ⟨nd, rfl⟩⟩; refine ⟨_, rfl, ?_⟩))
            go_meet
            case rel => exact ⟨_, (false), (t117), (by first | rfl | (simp; done) | (simp [*]; done)), (by first | rfl | (simp; done) | (simp [*]; done)), H', ⟨by first | omega | exact Nat.le_refl _⟩, ⟨by repeat (first | (with_reducible first | exact HB.out | apply below_alloc | apply pw_below_drewN | apply below_drew1) | exact HB.out)⟩⟩
      · rw [if_neg c9] at H
        exact absurd H (by simp)
    · replace c6 := Bool.eq_false_iff.mpr c6
      subst c6
      have H1 : (stamp_Parse.j0 k a0 t110 t114 t115 0) = some (r1, r2, r3) := by rw [if_neg (show ¬ (false = true) by decide)] at H; exact H
      clear H
      have H := H1
      clear H1
      have H' := Aside0.mk H
      clear H
      go_wp2
      go_meet
      case rel => exact ⟨_, (t115), (0), (by first | rfl | (simp; done) | (simp [*]; done)), (by first | rfl | (simp; done) | (simp [*]; done)), H', ⟨by first | omega | exact Nat.le_refl _⟩, ⟨by repeat (first | (with_reducible first | exact HB.out | apply below_alloc | apply pw_below_drewN | apply below_drew1) | exact HB.out)⟩⟩
  case rest =>
    clear HC5
    try clear c1
    try clear c2
    try clear p2
    try clear c3
    try clear c6
    try clear p6
    try clear c9
    try clear c9b0
    try clear c9b1
    try clear c9b2
    try clear c11
    obtain ⟨kq, x11_4, x12_4, rfl, rfl, HA, HJ4, HB⟩ := hcut
    cases kq with
    | zero => exact absurd HA.out (by simp [stamp_Parse.j0])
    | succ kj4 =>
      have H := HA.out
      clear HA
      simp only [stamp_Parse.j0] at H
      by_cases c14 : x11_4 = true
      · subst c14
        have H1 : (if t110 = true then (if x12_4 > 0 then ((stamp_Text.f kj4 (wrap64 ((wrap64 (-t114)) - 1)) (wrap64 (1000000000 - x12_4))).bind fun bt119 => (if bt119.2 = 0 then (if bt119.1.toList = a0.toList then (some (wrap64 ((wrap64 (-t114)) - 1), wrap64 (1000000000 - x12_4), 0)) else (some (0, 0, 3))) else (some (0, 0, 3)))) else ((stamp_Text.f kj4 (wrap64 (-t114)) x12_4).bind fun bt121 => (if bt121.2 = 0 then (if bt121.1.toList = a0.toList then (some (wrap64 (-t114), x12_4, 0)) else (some (0, 0, 3))) else (some (0, 0, 3))))) else ((stamp_Text.f kj4 t114 x12_4).bind fun bt123 => (if bt123.2 = 0 then (if bt123.1.toList = a0.toList then (some (t114, x12_4, 0)) else (some (0, 0, 3))) else (some (0, 0, 3))))) = some (r1, r2, r3) := by rw [if_pos rfl] at H; exact H
        clear H
        have H := H1
        clear H1
        by_cases c15 : t110 = true
        · subst c15
          have H1 : (if x12_4 > 0 then ((stamp_Text.f kj4 (wrap64 ((wrap64 (-t114)) - 1)) (wrap64 (1000000000 - x12_4))).bind fun bt119 => (if bt119.2 = 0 then (if bt119.1.toList = a0.toList then (some (wrap64 ((wrap64 (-t114)) - 1), wrap64 (1000000000 - x12_4), 0)) else (some (0, 0, 3))) else (some (0, 0, 3)))) else ((stamp_Text.f kj4 (wrap64 (-t114)) x12_4).bind fun bt121 => (if bt121.2 = 0 then (if bt121.1.toList = a0.toList then (some (wrap64 (-t114), x12_4, 0)) else (some (0, 0, 3))) else (some (0, 0, 3))))) = some (r1, r2, r3) := by rw [if_pos rfl] at H; exact H
          clear H
          have H := H1
          clear H1
          by_cases c16 : x12_4 > 0
          · rw [if_pos c16] at H
            have c16b0 : decide (0 < x12_4) = true := decide_eq_true c16
            clear c16
            replace H := Option.bind_eq_some_iff.mp H
            obtain ⟨⟨t119, t120⟩, A170, H⟩ := H
            replace H : (if t120 = 0 then (if t119.toList = a0.toList then (some (wrap64 ((wrap64 (-t114)) - 1), wrap64 (1000000000 - x12_4), 0)) else (some (0, 0, 3))) else (some (0, 0, 3))) = some (r1, r2, r3) := H
            have A17 := Aside0.mk A170
            clear A170
            by_cases c18 : t120 = 0
            · rw [if_pos c18] at H
              have c18b0 : (t120 == 0) = true := beq_iff_eq.mpr c18
              have c18b1 : (t120 != 0) = false := bne_eq_false_iff_eq.mpr c18
              clear c18
              by_cases c19 : t119.toList = a0.toList
              · rw [if_pos c19] at H
                have c19b0 : (t119.toList == a0.toList) = true := beq_iff_eq.mpr c19
                have c19b1 : (t119.toList != a0.toList) = false := bne_eq_false_iff_eq.mpr c19
                clear c19
                simp only [Option.some.injEq, Prod.mk.injEq] at H
                obtain ⟨rfl, rfl, rfl⟩ := H
                go_wp2_with (first | ((with_reducible refine gate_callee (f := 25) rfl ?_); refine goesL_ (some 62) rfl rfl Tryd.func25 (by kernel_rfl) rfl #[.int .i64 (wrap64 ((wrap64 (-t114)) - 1)), .int .i64 (wrap64 (1000000000 - x12_4))] rfl (by (try simp only [List.map_toArray, List.map_cons, List.map_nil]); first | done | rfl | (simp only [List.length_drop, List.length_take]; rfl)) ?_; (with_reducible refine (stamp_Text.calls kj4 (wrap64 ((wrap64 (-t114)) - 1)) (wrap64 (1000000000 - x12_4)) t119 t120 _ ?side1 A17.out).mono ?_); (case side1 => exact G_below hG_.out (by repeat (first | (with_reducible first | exact HB.out | apply below_alloc | apply pw_below_drewN | apply below_drew1) | exact HB.out))); rintro e w20 ⟨rfl, hb⟩; refine ⟨_, rfl, ?_⟩; have n0_ := Aside0.mk (below_step (by repeat (first | (with_reducible first | exact HB.out | apply below_alloc | apply pw_below_drewN | apply below_drew1) | exact HB.out)) hb); clear HB; have HB := n0_; clear n0_; (try clear hb); (try clear hb2); (try clear hk); (try clear hi)))
                go_ret3
                exact ⟨by first | rfl | (simp [errW_none, errW_some] <;> rfl) | (simp [*, errW_none, errW_some] <;> rfl), by repeat (first | (with_reducible first | exact HB.out | apply below_alloc | apply pw_below_drewN | apply below_drew1) | exact HB.out)⟩
              · rw [if_neg c19] at H
                have c19b0 : (t119.toList == a0.toList) = false := beq_eq_false_iff_ne.mpr c19
                have c19b1 : (t119.toList != a0.toList) = true := bne_iff_ne.mpr c19
                simp only [Option.some.injEq, Prod.mk.injEq] at H
                obtain ⟨rfl, rfl, rfl⟩ := H
                go_wp2_with (first | ((with_reducible refine gate_callee (f := 25) rfl ?_); refine goesL_ (some 62) rfl rfl Tryd.func25 (by kernel_rfl) rfl #[.int .i64 (wrap64 ((wrap64 (-t114)) - 1)), .int .i64 (wrap64 (1000000000 - x12_4))] rfl (by (try simp only [List.map_toArray, List.map_cons, List.map_nil]); first | done | rfl | (simp only [List.length_drop, List.length_take]; rfl)) ?_; (with_reducible refine (stamp_Text.calls kj4 (wrap64 ((wrap64 (-t114)) - 1)) (wrap64 (1000000000 - x12_4)) t119 t120 _ ?side1 A17.out).mono ?_); (case side1 => exact G_below hG_.out (by repeat (first | (with_reducible first | exact HB.out | apply below_alloc | apply pw_below_drewN | apply below_drew1) | exact HB.out))); rintro e w21 ⟨rfl, hb⟩; refine ⟨_, rfl, ?_⟩; have n0_ := Aside0.mk (below_step (by repeat (first | (with_reducible first | exact HB.out | apply below_alloc | apply pw_below_drewN | apply below_drew1) | exact HB.out)) hb); clear HB; have HB := n0_; clear n0_; (try clear hb); (try clear hb2); (try clear hk); (try clear hi)))
                go_ret3
                exact ⟨by first | rfl | (simp [errW_none, errW_some] <;> rfl) | (simp [*, errW_none, errW_some] <;> rfl), by repeat (first | (with_reducible first | exact HB.out | apply below_alloc | apply pw_below_drewN | apply below_drew1) | exact HB.out)⟩
            · rw [if_neg c18] at H
              have c18b0 : (t120 == 0) = false := beq_eq_false_iff_ne.mpr c18
              have c18b1 : (t120 != 0) = true := bne_iff_ne.mpr c18
              simp only [Option.some.injEq, Prod.mk.injEq] at H
              obtain ⟨rfl, rfl, rfl⟩ := H
              go_wp2_with (first | ((with_reducible refine gate_callee (f := 25) rfl ?_); refine goesL_ (some 62) rfl rfl Tryd.func25 (by kernel_rfl) rfl #[.int .i64 (wrap64 ((wrap64 (-t114)) - 1)), .int .i64 (wrap64 (1000000000 - x12_4))] rfl (by (try simp only [List.map_toArray, List.map_cons, List.map_nil]); first | done | rfl | (simp only [List.length_drop, List.length_take]; rfl)) ?_; (with_reducible refine (stamp_Text.calls kj4 (wrap64 ((wrap64 (-t114)) - 1)) (wrap64 (1000000000 - x12_4)) t119 t120 _ ?side1 A17.out).mono ?_); (case side1 => exact G_below hG_.out (by repeat (first | (with_reducible first | exact HB.out | apply below_alloc | apply pw_below_drewN | apply below_drew1) | exact HB.out))); rintro e w22 ⟨rfl, hb⟩; refine ⟨_, rfl, ?_⟩; have n0_ := Aside0.mk (below_step (by repeat (first | (with_reducible first | exact HB.out | apply below_alloc | apply pw_below_drewN | apply below_drew1) | exact HB.out)) hb); clear HB; have HB := n0_; clear n0_; (try clear hb); (try clear hb2); (try clear hk); (try clear hi)))
              go_ret3
              exact ⟨by first | rfl | (simp [errW_none, errW_some] <;> rfl) | (simp [*, errW_none, errW_some] <;> rfl), by repeat (first | (with_reducible first | exact HB.out | apply below_alloc | apply pw_below_drewN | apply below_drew1) | exact HB.out)⟩
          · rw [if_neg c16] at H
            have c16b0 : decide (0 < x12_4) = false := decide_eq_false c16
            clear c16
            replace H := Option.bind_eq_some_iff.mp H
            obtain ⟨⟨t121, t122⟩, A230, H⟩ := H
            replace H : (if t122 = 0 then (if t121.toList = a0.toList then (some (wrap64 (-t114), x12_4, 0)) else (some (0, 0, 3))) else (some (0, 0, 3))) = some (r1, r2, r3) := H
            have A23 := Aside0.mk A230
            clear A230
            by_cases c24 : t122 = 0
            · rw [if_pos c24] at H
              have c24b0 : (t122 == 0) = true := beq_iff_eq.mpr c24
              have c24b1 : (t122 != 0) = false := bne_eq_false_iff_eq.mpr c24
              clear c24
              by_cases c25 : t121.toList = a0.toList
              · rw [if_pos c25] at H
                have c25b0 : (t121.toList == a0.toList) = true := beq_iff_eq.mpr c25
                have c25b1 : (t121.toList != a0.toList) = false := bne_eq_false_iff_eq.mpr c25
                clear c25
                simp only [Option.some.injEq, Prod.mk.injEq] at H
                obtain ⟨rfl, rfl, rfl⟩ := H
                go_wp2_with (first | ((with_reducible refine gate_callee (f := 25) rfl ?_); refine goesL_ (some 62) rfl rfl Tryd.func25 (by kernel_rfl) rfl #[.int .i64 (wrap64 (-t114)), .int .i64 x12_4] rfl (by (try simp only [List.map_toArray, List.map_cons, List.map_nil]); first | done | rfl | (simp only [List.length_drop, List.length_take]; rfl)) ?_; (with_reducible refine (stamp_Text.calls kj4 (wrap64 (-t114)) x12_4 t121 t122 _ ?side1 A23.out).mono ?_); (case side1 => exact G_below hG_.out (by repeat (first | (with_reducible first | exact HB.out | apply below_alloc | apply pw_below_drewN | apply below_drew1) | exact HB.out))); rintro e w26 ⟨rfl, hb⟩; refine ⟨_, rfl, ?_⟩; have n0_ := Aside0.mk (below_step (by repeat (first | (with_reducible first | exact HB.out | apply below_alloc | apply pw_below_drewN | apply below_drew1) | exact HB.out)) hb); clear HB; have HB := n0_; clear n0_; (try clear hb); (try clear hb2); (try clear hk); (try clear hi)))
                go_ret3
                exact ⟨by first | rfl | (simp [errW_none, errW_some] <;> rfl) | (simp [*, errW_none, errW_some] <;> rfl), by repeat (first | (with_reducible first | exact HB.out | apply below_alloc | apply pw_below_drewN | apply below_drew1) | exact HB.out)⟩
              · rw [if_neg c25] at H
                have c25b0 : (t121.toList == a0.toList) = false := beq_eq_false_iff_ne.mpr c25
                have c25b1 : (t121.toList != a0.toList) = true := bne_iff_ne.mpr c25
                simp only [Option.some.injEq, Prod.mk.injEq] at H
                obtain ⟨rfl, rfl, rfl⟩ := H
                go_wp2_with (first | ((with_reducible refine gate_callee (f := 25) rfl ?_); refine goesL_ (some 62) rfl rfl Tryd.func25 (by kernel_rfl) rfl #[.int .i64 (wrap64 (-t114)), .int .i64 x12_4] rfl (by (try simp only [List.map_toArray, List.map_cons, List.map_nil]); first | done | rfl | (simp only [List.length_drop, List.length_take]; rfl)) ?_; (with_reducible refine (stamp_Text.calls kj4 (wrap64 (-t114)) x12_4 t121 t122 _ ?side1 A23.out).mono ?_); (case side1 => exact G_below hG_.out (by repeat (first | (with_reducible first | exact HB.out | apply below_alloc | apply pw_below_drewN | apply below_drew1) | exact HB.out))); rintro e w27 ⟨rfl, hb⟩; refine ⟨_, rfl, ?_⟩; have n0_ := Aside0.mk (below_step (by repeat (first | (with_reducible first | exact HB.out | apply below_alloc | apply pw_below_drewN | apply below_drew1) | exact HB.out)) hb); clear HB; have HB := n0_; clear n0_; (try clear hb); (try clear hb2); (try clear hk); (try clear hi)))
                go_ret3
                exact ⟨by first | rfl | (simp [errW_none, errW_some] <;> rfl) | (simp [*, errW_none, errW_some] <;> rfl), by repeat (first | (with_reducible first | exact HB.out | apply below_alloc | apply pw_below_drewN | apply below_drew1) | exact HB.out)⟩
            · rw [if_neg c24] at H
              have c24b0 : (t122 == 0) = false := beq_eq_false_iff_ne.mpr c24
              have c24b1 : (t122 != 0) = true := bne_iff_ne.mpr c24
              simp only [Option.some.injEq, Prod.mk.injEq] at H
              obtain ⟨rfl, rfl, rfl⟩ := H
              go_wp2_with (first | ((with_reducible refine gate_callee (f := 25) rfl ?_); refine goesL_ (some 62) rfl rfl Tryd.func25 (by kernel_rfl) rfl #[.int .i64 (wrap64 (-t114)), .int .i64 x12_4] rfl (by (try simp only [List.map_toArray, List.map_cons, List.map_nil]); first | done | rfl | (simp only [List.length_drop, List.length_take]; rfl)) ?_; (with_reducible refine (stamp_Text.calls kj4 (wrap64 (-t114)) x12_4 t121 t122 _ ?side1 A23.out).mono ?_); (case side1 => exact G_below hG_.out (by repeat (first | (with_reducible first | exact HB.out | apply below_alloc | apply pw_below_drewN | apply below_drew1) | exact HB.out))); rintro e w28 ⟨rfl, hb⟩; refine ⟨_, rfl, ?_⟩; have n0_ := Aside0.mk (below_step (by repeat (first | (with_reducible first | exact HB.out | apply below_alloc | apply pw_below_drewN | apply below_drew1) | exact HB.out)) hb); clear HB; have HB := n0_; clear n0_; (try clear hb); (try clear hb2); (try clear hk); (try clear hi)))
              go_ret3
              exact ⟨by first | rfl | (simp [errW_none, errW_some] <;> rfl) | (simp [*, errW_none, errW_some] <;> rfl), by repeat (first | (with_reducible first | exact HB.out | apply below_alloc | apply pw_below_drewN | apply below_drew1) | exact HB.out)⟩
        · replace c15 := Bool.eq_false_iff.mpr c15
          subst c15
          have H1 : ((stamp_Text.f kj4 t114 x12_4).bind fun bt123 => (if bt123.2 = 0 then (if bt123.1.toList = a0.toList then (some (t114, x12_4, 0)) else (some (0, 0, 3))) else (some (0, 0, 3)))) = some (r1, r2, r3) := by rw [if_neg (show ¬ (false = true) by decide)] at H; exact H
          clear H
          have H := H1
          clear H1
          replace H := Option.bind_eq_some_iff.mp H
          obtain ⟨⟨t123, t124⟩, A290, H⟩ := H
          replace H : (if t124 = 0 then (if t123.toList = a0.toList then (some (t114, x12_4, 0)) else (some (0, 0, 3))) else (some (0, 0, 3))) = some (r1, r2, r3) := H
          have A29 := Aside0.mk A290
          clear A290
          by_cases c30 : t124 = 0
          · rw [if_pos c30] at H
            have c30b0 : (t124 == 0) = true := beq_iff_eq.mpr c30
            have c30b1 : (t124 != 0) = false := bne_eq_false_iff_eq.mpr c30
            clear c30
            by_cases c31 : t123.toList = a0.toList
            · rw [if_pos c31] at H
              have c31b0 : (t123.toList == a0.toList) = true := beq_iff_eq.mpr c31
              have c31b1 : (t123.toList != a0.toList) = false := bne_eq_false_iff_eq.mpr c31
              clear c31
              simp only [Option.some.injEq, Prod.mk.injEq] at H
              obtain ⟨rfl, rfl, rfl⟩ := H
              go_wp2_with (first | ((with_reducible refine gate_callee (f := 25) rfl ?_); refine goesL_ (some 62) rfl rfl Tryd.func25 (by kernel_rfl) rfl #[.int .i64 t114, .int .i64 x12_4] rfl (by (try simp only [List.map_toArray, List.map_cons, List.map_nil]); first | done | rfl | (simp only [List.length_drop, List.length_take]; rfl)) ?_; (with_reducible refine (stamp_Text.calls kj4 t114 x12_4 t123 t124 _ ?side1 A29.out).mono ?_); (case side1 => exact G_below hG_.out (by repeat (first | (with_reducible first | exact HB.out | apply below_alloc | apply pw_below_drewN | apply below_drew1) | exact HB.out))); rintro e w32 ⟨rfl, hb⟩; refine ⟨_, rfl, ?_⟩; have n0_ := Aside0.mk (below_step (by repeat (first | (with_reducible first | exact HB.out | apply below_alloc | apply pw_below_drewN | apply below_drew1) | exact HB.out)) hb); clear HB; have HB := n0_; clear n0_; (try clear hb); (try clear hb2); (try clear hk); (try clear hi)))
              go_ret3
              exact ⟨by first | rfl | (simp [errW_none, errW_some] <;> rfl) | (simp [*, errW_none, errW_some] <;> rfl), by repeat (first | (with_reducible first | exact HB.out | apply below_alloc | apply pw_below_drewN | apply below_drew1) | exact HB.out)⟩
            · rw [if_neg c31] at H
              have c31b0 : (t123.toList == a0.toList) = false := beq_eq_false_iff_ne.mpr c31
              have c31b1 : (t123.toList != a0.toList) = true := bne_iff_ne.mpr c31
              simp only [Option.some.injEq, Prod.mk.injEq] at H
              obtain ⟨rfl, rfl, rfl⟩ := H
              go_wp2_with (first | ((with_reducible refine gate_callee (f := 25) rfl ?_); refine goesL_ (some 62) rfl rfl Tryd.func25 (by kernel_rfl) rfl #[.int .i64 t114, .int .i64 x12_4] rfl (by (try simp only [List.map_toArray, List.map_cons, List.map_nil]); first | done | rfl | (simp only [List.length_drop, List.length_take]; rfl)) ?_; (with_reducible refine (stamp_Text.calls kj4 t114 x12_4 t123 t124 _ ?side1 A29.out).mono ?_); (case side1 => exact G_below hG_.out (by repeat (first | (with_reducible first | exact HB.out | apply below_alloc | apply pw_below_drewN | apply below_drew1) | exact HB.out))); rintro e w33 ⟨rfl, hb⟩; refine ⟨_, rfl, ?_⟩; have n0_ := Aside0.mk (below_step (by repeat (first | (with_reducible first | exact HB.out | apply below_alloc | apply pw_below_drewN | apply below_drew1) | exact HB.out)) hb); clear HB; have HB := n0_; clear n0_; (try clear hb); (try clear hb2); (try clear hk); (try clear hi)))
              go_ret3
              exact ⟨by first | rfl | (simp [errW_none, errW_some] <;> rfl) | (simp [*, errW_none, errW_some] <;> rfl), by repeat (first | (with_reducible first | exact HB.out | apply below_alloc | apply pw_below_drewN | apply below_drew1) | exact HB.out)⟩
          · rw [if_neg c30] at H
            have c30b0 : (t124 == 0) = false := beq_eq_false_iff_ne.mpr c30
            have c30b1 : (t124 != 0) = true := bne_iff_ne.mpr c30
            simp only [Option.some.injEq, Prod.mk.injEq] at H
            obtain ⟨rfl, rfl, rfl⟩ := H
            go_wp2_with (first | ((with_reducible refine gate_callee (f := 25) rfl ?_); refine goesL_ (some 62) rfl rfl Tryd.func25 (by kernel_rfl) rfl #[.int .i64 t114, .int .i64 x12_4] rfl (by (try simp only [List.map_toArray, List.map_cons, List.map_nil]); first | done | rfl | (simp only [List.length_drop, List.length_take]; rfl)) ?_; (with_reducible refine (stamp_Text.calls kj4 t114 x12_4 t123 t124 _ ?side1 A29.out).mono ?_); (case side1 => exact G_below hG_.out (by repeat (first | (with_reducible first | exact HB.out | apply below_alloc | apply pw_below_drewN | apply below_drew1) | exact HB.out))); rintro e w34 ⟨rfl, hb⟩; refine ⟨_, rfl, ?_⟩; have n0_ := Aside0.mk (below_step (by repeat (first | (with_reducible first | exact HB.out | apply below_alloc | apply pw_below_drewN | apply below_drew1) | exact HB.out)) hb); clear HB; have HB := n0_; clear n0_; (try clear hb); (try clear hb2); (try clear hk); (try clear hi)))
            go_ret3
            exact ⟨by first | rfl | (simp [errW_none, errW_some] <;> rfl) | (simp [*, errW_none, errW_some] <;> rfl), by repeat (first | (with_reducible first | exact HB.out | apply below_alloc | apply pw_below_drewN | apply below_drew1) | exact HB.out)⟩
      · replace c14 := Bool.eq_false_iff.mpr c14
        subst c14
        have H1 : (some (0, 0, 3)) = some (r1, r2, r3) := by rw [if_neg (show ¬ (false = true) by decide)] at H; exact H
        clear H
        have H := H1
        clear H1
        simp only [Option.some.injEq, Prod.mk.injEq] at H
        obtain ⟨rfl, rfl, rfl⟩ := H
        go_wp2
        go_ret3
        exact ⟨by first | rfl | (simp [errW_none, errW_some] <;> rfl) | (simp [*, errW_none, errW_some] <;> rfl), by repeat (first | (with_reducible first | exact HB.out | apply below_alloc | apply pw_below_drewN | apply below_drew1) | exact HB.out)⟩

/-! ### creelkeep_StampTurns: function 7 -/
def creelkeep_StampTurns.j0 : Nat → ByteArray → Int → Int → Int → Bool → Option (Bool)
  | 0, _, _, _, _, _ => none
  | k + 1, x0, x3, x4, x5, x27 => if x27 = true then (some false) else (if x5 = 0 then ((stamp_Text.f k x3 x4).bind fun bt131 => (if bt131.2 = 0 then (some (bt131.1.toList == x0.toList)) else (some false))) else (if x3 = 0 then (some (x4 == 0)) else (some false)))
def creelkeep_StampTurns.f (k : Nat) (a0 : ByteArray) : Option (Bool) := (stamp_Parse.f k a0).bind fun bt125 => ((stamp_Parse.f k (⟨#[45, 48, 46, 53]⟩ : ByteArray)).bind fun bt128 => (if bt128.2.1 = 500000000 then (creelkeep_StampTurns.j0 k a0 bt125.1 bt125.2.1 bt125.2.2 (bt128.2.2 != 0)) else (creelkeep_StampTurns.j0 k a0 bt125.1 bt125.2.1 bt125.2.2 true)))
theorem creelkeep_StampTurns.mono_l : ∀ k, (∀ y0 y1 y2 y3 y4, LeO (creelkeep_StampTurns.j0 k y0 y1 y2 y3 y4) (creelkeep_StampTurns.j0 (k + 1) y0 y1 y2 y3 y4))
  | 0 => fun _ _ _ _ _ r h => by simp [creelkeep_StampTurns.j0] at h
  | k + 1 => by
    have ih0 := creelkeep_StampTurns.mono_l k
    · intro y0 y1 y2 y3 y4
      unfold creelkeep_StampTurns.j0
      repeat' first
      | (with_reducible exact ih0 _ _ _ _ _)
      | (with_reducible exact stamp_Parse.mono _ _)
      | (with_reducible exact stamp_Text.mono _ _ _)
      | (with_reducible exact LeO.refl _)
      | (with_reducible exact LeO.none _)
      | (with_reducible refine LeO.ite ?_ ?_)
      | (with_reducible refine LeO.bind ?_ (fun _ => ?_))
      | exact ih0 _ _ _ _ _
      | exact stamp_Parse.mono _ _
      | exact stamp_Text.mono _ _ _
      | exact LeO.none _
      | refine LeO.ite ?_ ?_
      | refine LeO.bind ?_ (fun _ => ?_)
theorem creelkeep_StampTurns.mono : ∀ a0 k, LeO (creelkeep_StampTurns.f k a0) (creelkeep_StampTurns.f (k + 1) a0) := by
  intro a0 k
  have ih0 := creelkeep_StampTurns.mono_l k
  unfold creelkeep_StampTurns.f
  repeat' first
      | (with_reducible exact ih0 _ _ _ _ _)
      | (with_reducible exact stamp_Parse.mono _ _)
      | (with_reducible exact stamp_Text.mono _ _ _)
      | (with_reducible exact LeO.refl _)
      | (with_reducible exact LeO.none _)
      | (with_reducible refine LeO.ite ?_ ?_)
      | (with_reducible refine LeO.bind ?_ (fun _ => ?_))
      | exact ih0 _ _ _ _ _
      | exact stamp_Parse.mono _ _
      | exact stamp_Text.mono _ _ _
      | exact LeO.none _
      | refine LeO.ite ?_ ?_
      | refine LeO.bind ?_ (fun _ => ?_)
set_option maxHeartbeats 8000000 in
set_option maxRecDepth 100000 in
theorem creelkeep_StampTurns.calls (k : Nat) (a0 : ByteArray) (r : Bool) (w : World) (hG0_ : G_ w) (h : creelkeep_StampTurns.f k a0 = some r) :
    Calls Tryd.prog 7 #[.string a0] w fun e w' => e = .returned (.bool r) ∧ Below w.heap.size w w' := by
  have hG_ := Aside0.mk hG0_
  clear hG0_
  have HB := Aside0.mk (Below.refl w.heap.size w)
  have H : ((stamp_Parse.f k a0).bind fun bt125 => ((stamp_Parse.f k (⟨#[45, 48, 46, 53]⟩ : ByteArray)).bind fun bt128 => (if bt128.2.1 = 500000000 then (creelkeep_StampTurns.j0 k a0 bt125.1 bt125.2.1 bt125.2.2 (bt128.2.2 != 0)) else (creelkeep_StampTurns.j0 k a0 bt125.1 bt125.2.1 bt125.2.2 true)))) = some r := h
  clear h
  replace H := Option.bind_eq_some_iff.mp H
  obtain ⟨⟨t125, t126, t127⟩, A20, H⟩ := H
  replace H : ((stamp_Parse.f k (⟨#[45, 48, 46, 53]⟩ : ByteArray)).bind fun bt128 => (if bt128.2.1 = 500000000 then (creelkeep_StampTurns.j0 k a0 t125 t126 t127 (bt128.2.2 != 0)) else (creelkeep_StampTurns.j0 k a0 t125 t126 t127 true))) = some r := H
  have A2 := Aside0.mk A20
  clear A20
  replace H := Option.bind_eq_some_iff.mp H
  obtain ⟨⟨t128, t129, t130⟩, A30, H⟩ := H
  replace H : (if t129 = 500000000 then (creelkeep_StampTurns.j0 k a0 t125 t126 t127 (t130 != 0)) else (creelkeep_StampTurns.j0 k a0 t125 t126 t127 true)) = some r := H
  have A3 := Aside0.mk A30
  clear A30
  have HC4 := Aside0.mk H
  clear H
  go_enter Tryd.func7, Tryd.ntmps7
  go_upto_region 3 with (first | ((with_reducible refine gate_callee (f := 26) rfl ?_); refine goesL_ (some 13) rfl rfl Tryd.func26 (by kernel_rfl) rfl #[.string a0] rfl (by (try simp only [List.map_toArray, List.map_cons, List.map_nil]); first | done | rfl | (simp only [List.length_drop, List.length_take]; rfl)) ?_; (with_reducible refine (stamp_Parse.calls k a0 t125 t126 t127 _ ?side1 A2.out).mono ?_); (case side1 => exact G_below hG_.out (by repeat (first | (with_reducible first | exact HB.out | apply below_alloc | apply pw_below_drewN | apply below_drew1) | exact HB.out))); rintro e w5 ⟨rfl, hb⟩; refine ⟨_, rfl, ?_⟩; have n0_ := Aside0.mk (below_step (by repeat (first | (with_reducible first | exact HB.out | apply below_alloc | apply pw_below_drewN | apply below_drew1) | exact HB.out)) hb); clear HB; have HB := n0_; clear n0_; (try clear hb); (try clear hb2); (try clear hk); (try clear hi)) | ((with_reducible refine gate_callee (f := 26) rfl ?_); refine goesL_ (some 18) rfl rfl Tryd.func26 (by kernel_rfl) rfl #[.string (⟨#[45, 48, 46, 53]⟩ : ByteArray)] rfl (by (try simp only [List.map_toArray, List.map_cons, List.map_nil]); first | done | rfl | (simp only [List.length_drop, List.length_take]; rfl)) ?_; (with_reducible refine (stamp_Parse.calls k (⟨#[45, 48, 46, 53]⟩ : ByteArray) t128 t129 t130 _ ?side1 A3.out).mono ?_); (case side1 => exact G_below hG_.out (by repeat (first | (with_reducible first | exact HB.out | apply below_alloc | apply pw_below_drewN | apply below_drew1) | exact HB.out))); rintro e w6 ⟨rfl, hb⟩; refine ⟨_, rfl, ?_⟩; have n0_ := Aside0.mk (below_step (by repeat (first | (with_reducible first | exact HB.out | apply below_alloc | apply pw_below_drewN | apply below_drew1) | exact HB.out)) hb); clear HB; have HB := n0_; clear n0_; (try clear hb); (try clear hb2); (try clear hk); (try clear hi)))
  (try simp only [Act.put, List.setIfInBounds_toArray, List.set_cons_zero, List.set_cons_succ])
  go_cut [27] (fun v27 wc => ∃ (kq : Nat) (x27_3 : Bool), v27 = .bool x27_3 ∧ Aside0 (creelkeep_StampTurns.j0 kq a0 t125 t126 t127 x27_3 = some r) ∧ Aside0 (kq ≤ k) ∧ Aside0 (Below w.heap.size w wc))
  case first =>
    have H := HC4.out
    clear HC4
    by_cases c7 : t129 = 500000000
    · rw [if_pos c7] at H
      have c7b0 : (t129 == 500000000) = true := beq_iff_eq.mpr c7
      have c7b1 : (t129 != 500000000) = false := bne_eq_false_iff_eq.mpr c7
      clear c7
      (first | rw [c7b0] | (simp only [i64_w, i32_w]; rw [c7b0]) | skip)
      have H' := Aside0.mk H
      clear H
      go_wp2
      go_meet
      case rel => exact ⟨_, ((t130 != 0)), (by first | rfl | (simp; done) | (simp [*]; done)), H', ⟨by first | omega | exact Nat.le_refl _⟩, ⟨by repeat (first | (with_reducible first | exact HB.out | apply below_alloc | apply pw_below_drewN | apply below_drew1) | exact HB.out)⟩⟩
    · rw [if_neg c7] at H
      have c7b0 : (t129 == 500000000) = false := beq_eq_false_iff_ne.mpr c7
      have c7b1 : (t129 != 500000000) = true := bne_iff_ne.mpr c7
      (first | rw [c7b0] | (simp only [i64_w, i32_w]; rw [c7b0]) | skip)
      have H' := Aside0.mk H
      clear H
      go_wp2
      go_meet
      case rel => exact ⟨_, (true), (by first | rfl | (simp; done) | (simp [*]; done)), H', ⟨by first | omega | exact Nat.le_refl _⟩, ⟨by repeat (first | (with_reducible first | exact HB.out | apply below_alloc | apply pw_below_drewN | apply below_drew1) | exact HB.out)⟩⟩
  case rest =>
    clear HC4
    try clear c2
    try clear p2
    try clear c7
    try clear c7b0
    try clear c7b1
    obtain ⟨kq, x27_3, rfl, HA, HJ3, HB⟩ := hcut
    cases kq with
    | zero => exact absurd HA.out (by simp [creelkeep_StampTurns.j0])
    | succ kj3 =>
      have H := HA.out
      clear HA
      simp only [creelkeep_StampTurns.j0] at H
      by_cases c8 : x27_3 = true
      · subst c8
        have H1 : (some false) = some r := by rw [if_pos rfl] at H; exact H
        clear H
        have H := H1
        clear H1
        obtain rfl := Option.some.inj H
        go_wp2
        go_ret
        exact ⟨by first | rfl | (simp [errW_none, errW_some] <;> rfl) | (simp [*, errW_none, errW_some] <;> rfl), by repeat (first | (with_reducible first | exact HB.out | apply below_alloc | apply pw_below_drewN | apply below_drew1) | exact HB.out)⟩
      · replace c8 := Bool.eq_false_iff.mpr c8
        subst c8
        have H1 : (if t127 = 0 then ((stamp_Text.f kj3 t125 t126).bind fun bt131 => (if bt131.2 = 0 then (some (bt131.1.toList == a0.toList)) else (some false))) else (if t125 = 0 then (some (t126 == 0)) else (some false))) = some r := by rw [if_neg (show ¬ (false = true) by decide)] at H; exact H
        clear H
        have H := H1
        clear H1
        by_cases c9 : t127 = 0
        · rw [if_pos c9] at H
          have c9b0 : (t127 == 0) = true := beq_iff_eq.mpr c9
          have c9b1 : (t127 != 0) = false := bne_eq_false_iff_eq.mpr c9
          clear c9
          replace H := Option.bind_eq_some_iff.mp H
          obtain ⟨⟨t131, t132⟩, A100, H⟩ := H
          replace H : (if t132 = 0 then (some (t131.toList == a0.toList)) else (some false)) = some r := H
          have A10 := Aside0.mk A100
          clear A100
          by_cases c11 : t132 = 0
          · rw [if_pos c11] at H
            have c11b0 : (t132 == 0) = true := beq_iff_eq.mpr c11
            have c11b1 : (t132 != 0) = false := bne_eq_false_iff_eq.mpr c11
            clear c11
            obtain rfl := Option.some.inj H
            go_wp2_with (first | ((with_reducible refine gate_callee (f := 25) rfl ?_); refine goesL_ (some 39) rfl rfl Tryd.func25 (by kernel_rfl) rfl #[.int .i64 t125, .int .i64 t126] rfl (by (try simp only [List.map_toArray, List.map_cons, List.map_nil]); first | done | rfl | (simp only [List.length_drop, List.length_take]; rfl)) ?_; (with_reducible refine (stamp_Text.calls kj3 t125 t126 t131 t132 _ ?side1 A10.out).mono ?_); (case side1 => exact G_below hG_.out (by repeat (first | (with_reducible first | exact HB.out | apply below_alloc | apply pw_below_drewN | apply below_drew1) | exact HB.out))); rintro e w12 ⟨rfl, hb⟩; refine ⟨_, rfl, ?_⟩; have n0_ := Aside0.mk (below_step (by repeat (first | (with_reducible first | exact HB.out | apply below_alloc | apply pw_below_drewN | apply below_drew1) | exact HB.out)) hb); clear HB; have HB := n0_; clear n0_; (try clear hb); (try clear hb2); (try clear hk); (try clear hi)))
            go_ret
            exact ⟨by first | rfl | (simp [errW_none, errW_some] <;> rfl) | (simp [*, errW_none, errW_some] <;> rfl), by repeat (first | (with_reducible first | exact HB.out | apply below_alloc | apply pw_below_drewN | apply below_drew1) | exact HB.out)⟩
          · rw [if_neg c11] at H
            have c11b0 : (t132 == 0) = false := beq_eq_false_iff_ne.mpr c11
            have c11b1 : (t132 != 0) = true := bne_iff_ne.mpr c11
            obtain rfl := Option.some.inj H
            go_wp2_with (first | ((with_reducible refine gate_callee (f := 25) rfl ?_); refine goesL_ (some 39) rfl rfl Tryd.func25 (by kernel_rfl) rfl #[.int .i64 t125, .int .i64 t126] rfl (by (try simp only [List.map_toArray, List.map_cons, List.map_nil]); first | done | rfl | (simp only [List.length_drop, List.length_take]; rfl)) ?_; (with_reducible refine (stamp_Text.calls kj3 t125 t126 t131 t132 _ ?side1 A10.out).mono ?_); (case side1 => exact G_below hG_.out (by repeat (first | (with_reducible first | exact HB.out | apply below_alloc | apply pw_below_drewN | apply below_drew1) | exact HB.out))); rintro e w13 ⟨rfl, hb⟩; refine ⟨_, rfl, ?_⟩; have n0_ := Aside0.mk (below_step (by repeat (first | (with_reducible first | exact HB.out | apply below_alloc | apply pw_below_drewN | apply below_drew1) | exact HB.out)) hb); clear HB; have HB := n0_; clear n0_; (try clear hb); (try clear hb2); (try clear hk); (try clear hi)))
            go_ret
            exact ⟨by first | rfl | (simp [errW_none, errW_some] <;> rfl) | (simp [*, errW_none, errW_some] <;> rfl), by repeat (first | (with_reducible first | exact HB.out | apply below_alloc | apply pw_below_drewN | apply below_drew1) | exact HB.out)⟩
        · rw [if_neg c9] at H
          have c9b0 : (t127 == 0) = false := beq_eq_false_iff_ne.mpr c9
          have c9b1 : (t127 != 0) = true := bne_iff_ne.mpr c9
          by_cases c14 : t125 = 0
          · rw [if_pos c14] at H
            have c14b0 : (t125 == 0) = true := beq_iff_eq.mpr c14
            have c14b1 : (t125 != 0) = false := bne_eq_false_iff_eq.mpr c14
            clear c14
            obtain rfl := Option.some.inj H
            go_wp2
            go_ret
            exact ⟨by first | rfl | (simp [errW_none, errW_some] <;> rfl) | (simp [*, errW_none, errW_some] <;> rfl), by repeat (first | (with_reducible first | exact HB.out | apply below_alloc | apply pw_below_drewN | apply below_drew1) | exact HB.out)⟩
          · rw [if_neg c14] at H
            have c14b0 : (t125 == 0) = false := beq_eq_false_iff_ne.mpr c14
            have c14b1 : (t125 != 0) = true := bne_iff_ne.mpr c14
            obtain rfl := Option.some.inj H
            go_wp2
            go_ret
            exact ⟨by first | rfl | (simp [errW_none, errW_some] <;> rfl) | (simp [*, errW_none, errW_some] <;> rfl), by repeat (first | (with_reducible first | exact HB.out | apply below_alloc | apply pw_below_drewN | apply below_drew1) | exact HB.out)⟩

/-- THE ONE PURE STATEMENT of creelkeep_StampTurns: yours. -/
def creelkeep_StampTurns.Pure : Prop := ∀ (a0 : ByteArray), a0.size ≤ 1048576 → ∃ k, creelkeep_StampTurns.f k a0 = some true
theorem creelkeep_StampTurns.walk (P : creelkeep_StampTurns.Pure) (a0 : ByteArray) (w : World) (hG0_ : G_ w) (w0 : a0.size ≤ 1048576) :
    Calls Tryd.prog 7 #[.string a0] w fun e w' => e = .returned (.bool true) ∧ Below w.heap.size w w' := by
  obtain ⟨k, h⟩ := P a0 w0
  refine (creelkeep_StampTurns.calls k a0 true w hG0_ h).mono ?_
  rintro e w' ⟨rfl, hd⟩
  exact ⟨rfl, hd⟩

end Go.Proofs.YthonjghpblkpgaaDoor.PStampTurns
