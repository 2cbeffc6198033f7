-- Written by a program of this session for this claim (wip/myprint.py over the kit's print).
import Derived.Test.YthonjghpblkpgaaDoorPStampBackx0
import Derived.Test.YthonjghpblkpgaaDoorPStampBackx1
namespace Go.Proofs.YthonjghpblkpgaaDoor.PStampBack
open Go.RowKit Go.Proofs.YthonjghpblkpgaaDoorW.PrintWords Go.Proofs.YthonjghpblkpgaaDoorW.PrintLast Go.Proofs.YthonjghpblkpgaaDoorW.PrintMore
attribute [local go_sem] max2_int min2_int max_two min_two max_three min_three max_four min_four   -- for this text's walks alone
set_option linter.unusedVariables false
set_option linter.unusedSimpArgs false

/-! ### stamp_Parse: function 26 -/
def stamp_Parse.j0 : Nat → ByteArray → Bool → Int → Bool → Int → Option (Int × Int × Int)
  | 0, _, _, _, _, _ => none
  | k + 1, x0, x6, x10, x11, x12 => if x11 = true then (if x6 = true then (if x12 > 0 then ((stamp_Text.f k (wrap64 ((wrap64 (-x10)) - 1)) (wrap64 (1000000000 - x12))).bind fun bt119 => (if bt119.2 = 0 then (if bt119.1.toList = x0.toList then (some (wrap64 ((wrap64 (-x10)) - 1), wrap64 (1000000000 - x12), 0)) else (some (0, 0, 3))) else (some (0, 0, 3)))) else ((stamp_Text.f k (wrap64 (-x10)) x12).bind fun bt121 => (if bt121.2 = 0 then (if bt121.1.toList = x0.toList then (some (wrap64 (-x10), x12, 0)) else (some (0, 0, 3))) else (some (0, 0, 3))))) else ((stamp_Text.f k x10 x12).bind fun bt123 => (if bt123.2 = 0 then (if bt123.1.toList = x0.toList then (some (x10, x12, 0)) else (some (0, 0, 3))) else (some (0, 0, 3))))) else (some (0, 0, 3))
def stamp_Parse.f (k : Nat) (a0 : ByteArray) : Option (Int × Int × Int) := (strings_CutPrefix.f a0 (⟨#[45]⟩ : ByteArray)).bind fun bt109 => ((strings_Cut.f bt109.1 (⟨#[46]⟩ : ByteArray)).bind fun bt111 => ((stamp_digits.f k bt111.1 13).bind fun bt114 => (if bt111.2.2 = true then ((strings_Repeat.f (⟨#[48]⟩ : ByteArray) (mx 0 (wrap64 (9 - (bt111.2.1.size : Int))))).bind fun t116 => (if bt111.2.1.size + t116.size ≤ 9223372036854775807 then ((stamp_digits.f k (bt111.2.1 ++ t116) 9).bind fun bt117 => (if bt114.2 = true then (stamp_Parse.j0 k a0 bt109.2 bt114.1 bt117.2 bt117.1) else (stamp_Parse.j0 k a0 bt109.2 bt114.1 false bt117.1))) else (none))) else (stamp_Parse.j0 k a0 bt109.2 bt114.1 bt114.2 0))))
theorem stamp_Parse.mono_l : ∀ k, (∀ y0 y1 y2 y3 y4, LeO (stamp_Parse.j0 k y0 y1 y2 y3 y4) (stamp_Parse.j0 (k + 1) y0 y1 y2 y3 y4))
  | 0 => fun _ _ _ _ _ r h => by simp [stamp_Parse.j0] at h
  | k + 1 => by
    have ih0 := stamp_Parse.mono_l k
    · intro y0 y1 y2 y3 y4
      unfold stamp_Parse.j0
      repeat' first
      | (with_reducible exact ih0 _ _ _ _ _)
      | (with_reducible exact stamp_Text.mono _ _ _)
      | (with_reducible exact stamp_digits.mono _ _ _)
      | (with_reducible exact LeO.refl _)
      | (with_reducible exact LeO.none _)
      | (with_reducible refine LeO.ite ?_ ?_)
      | (with_reducible refine LeO.bind ?_ (fun _ => ?_))
      | exact ih0 _ _ _ _ _
      | exact stamp_Text.mono _ _ _
      | exact stamp_digits.mono _ _ _
      | exact LeO.none _
      | refine LeO.ite ?_ ?_
      | refine LeO.bind ?_ (fun _ => ?_)
theorem stamp_Parse.mono : ∀ a0 k, LeO (stamp_Parse.f k a0) (stamp_Parse.f (k + 1) a0) := by
  intro a0 k
  have ih0 := stamp_Parse.mono_l k
  unfold stamp_Parse.f
  repeat' first
      | (with_reducible exact ih0 _ _ _ _ _)
      | (with_reducible exact stamp_Text.mono _ _ _)
      | (with_reducible exact stamp_digits.mono _ _ _)
      | (with_reducible exact LeO.refl _)
      | (with_reducible exact LeO.none _)
      | (with_reducible refine LeO.ite ?_ ?_)
      | (with_reducible refine LeO.bind ?_ (fun _ => ?_))
      | exact ih0 _ _ _ _ _
      | exact stamp_Text.mono _ _ _
      | exact stamp_digits.mono _ _ _
      | exact LeO.none _
      | refine LeO.ite ?_ ?_
      | refine LeO.bind ?_ (fun _ => ?_)
set_option maxHeartbeats 8000000 in
set_option maxRecDepth 100000 in
theorem stamp_Parse.calls (k : Nat) (a0 : ByteArray) (r1 : Int) (r2 : Int) (r3 : Int) (w : World) (hG0_ : G_ w) (h : stamp_Parse.f k a0 = some (r1, r2, r3)) :
    Calls Tryd.prog 26 #[.string a0] w fun e w' => e = .returned (.tuple #[.int .i64 r1, .int .i64 r2, .int .i64 r3]) ∧ Below w.heap.size w w' := by
  have hG_ := Aside0.mk hG0_
  clear hG0_
  have HB := Aside0.mk (Below.refl w.heap.size w)
  have H : ((strings_CutPrefix.f a0 (⟨#[45]⟩ : ByteArray)).bind fun bt109 => ((strings_Cut.f bt109.1 (⟨#[46]⟩ : ByteArray)).bind fun bt111 => ((stamp_digits.f k bt111.1 13).bind fun bt114 => (if bt111.2.2 = true then ((strings_Repeat.f (⟨#[48]⟩ : ByteArray) (mx 0 (wrap64 (9 - (bt111.2.1.size : Int))))).bind fun t116 => (if bt111.2.1.size + t116.size ≤ 9223372036854775807 then ((stamp_digits.f k (bt111.2.1 ++ t116) 9).bind fun bt117 => (if bt114.2 = true then (stamp_Parse.j0 k a0 bt109.2 bt114.1 bt117.2 bt117.1) else (stamp_Parse.j0 k a0 bt109.2 bt114.1 false bt117.1))) else (none))) else (stamp_Parse.j0 k a0 bt109.2 bt114.1 bt114.2 0))))) = some (r1, r2, r3) := h
  clear h
  replace H := Option.bind_eq_some_iff.mp H
  obtain ⟨⟨t109, t110⟩, A20, H⟩ := H
  replace H : ((strings_Cut.f t109 (⟨#[46]⟩ : ByteArray)).bind fun bt111 => ((stamp_digits.f k bt111.1 13).bind fun bt114 => (if bt111.2.2 = true then ((strings_Repeat.f (⟨#[48]⟩ : ByteArray) (mx 0 (wrap64 (9 - (bt111.2.1.size : Int))))).bind fun t116 => (if bt111.2.1.size + t116.size ≤ 9223372036854775807 then ((stamp_digits.f k (bt111.2.1 ++ t116) 9).bind fun bt117 => (if bt114.2 = true then (stamp_Parse.j0 k a0 t110 bt114.1 bt117.2 bt117.1) else (stamp_Parse.j0 k a0 t110 bt114.1 false bt117.1))) else (none))) else (stamp_Parse.j0 k a0 t110 bt114.1 bt114.2 0)))) = some (r1, r2, r3) := H
  have A2 := Aside0.mk A20
  clear A20
  replace H := Option.bind_eq_some_iff.mp H
  obtain ⟨⟨t111, t112, t113⟩, A30, H⟩ := H
  replace H : ((stamp_digits.f k t111 13).bind fun bt114 => (if t113 = true then ((strings_Repeat.f (⟨#[48]⟩ : ByteArray) (mx 0 (wrap64 (9 - (t112.size : Int))))).bind fun t116 => (if t112.size + t116.size ≤ 9223372036854775807 then ((stamp_digits.f k (t112 ++ t116) 9).bind fun bt117 => (if bt114.2 = true then (stamp_Parse.j0 k a0 t110 bt114.1 bt117.2 bt117.1) else (stamp_Parse.j0 k a0 t110 bt114.1 false bt117.1))) else (none))) else (stamp_Parse.j0 k a0 t110 bt114.1 bt114.2 0))) = some (r1, r2, r3) := H
  have A3 := Aside0.mk A30
  clear A30
  replace H := Option.bind_eq_some_iff.mp H
  obtain ⟨⟨t114, t115⟩, A40, H⟩ := H
  replace H : (if t113 = true then ((strings_Repeat.f (⟨#[48]⟩ : ByteArray) (mx 0 (wrap64 (9 - (t112.size : Int))))).bind fun t116 => (if t112.size + t116.size ≤ 9223372036854775807 then ((stamp_digits.f k (t112 ++ t116) 9).bind fun bt117 => (if t115 = true then (stamp_Parse.j0 k a0 t110 t114 bt117.2 bt117.1) else (stamp_Parse.j0 k a0 t110 t114 false bt117.1))) else (none))) else (stamp_Parse.j0 k a0 t110 t114 t115 0)) = some (r1, r2, r3) := H
  have A4 := Aside0.mk A40
  clear A40
  have HC5 := Aside0.mk H
  clear H
  go_enter Tryd.func26, Tryd.ntmps26
  go_upto_if 32 with (first | ((with_reducible refine gate_callee (f := 60) rfl ?_); refine goesL_ (some 18) rfl rfl Tryd.func60 (by kernel_rfl) rfl #[.string a0, .string (⟨#[45]⟩ : ByteArray)] rfl (by (try simp only [List.map_toArray, List.map_cons, List.map_nil]); first | done | rfl | (simp only [List.length_drop, List.length_take]; rfl)) ?_; (with_reducible refine (strings_CutPrefix.calls a0 (⟨#[45]⟩ : ByteArray) t109 t110 _ A2.out).mono ?_); rintro e w' ⟨rfl, ⟨nd, rfl⟩⟩; refine ⟨_, rfl, ?_⟩) | ((with_reducible refine gate_callee (f := 17) rfl ?_); refine goesL_ (some 23) rfl rfl Tryd.func17 (by kernel_rfl) rfl #[.string t109, .string (⟨#[46]⟩ : ByteArray)] rfl (by (try simp only [List.map_toArray, List.map_cons, List.map_nil]); first | done | rfl | (simp only [List.length_drop, List.length_take]; rfl)) ?_; (with_reducible refine (strings_Cut.calls t109 (⟨#[46]⟩ : ByteArray) t111 t112 t113 _ ?side1 A3.out).mono ?_); (case side1 => exact G_below hG_.out (by repeat (first | (with_reducible first | exact HB.out | apply below_alloc | apply pw_below_drewN | apply below_drew1) | exact HB.out))); rintro e w' ⟨rfl, ⟨nd, rfl⟩⟩; refine ⟨_, rfl, ?_⟩) | ((with_reducible refine gate_callee (f := 61) rfl ?_); refine goesL_ (some 29) rfl rfl Tryd.func61 (by kernel_rfl) rfl #[.string t111, .int .i64 13] rfl (by (try simp only [List.map_toArray, List.map_cons, List.map_nil]); first | done | rfl | (simp only [List.length_drop, List.length_take]; rfl)) ?_; (with_reducible refine (stamp_digits.calls k t111 13 t114 t115 _ A4.out).mono ?_); rintro e w' ⟨rfl, ⟨nd, rfl⟩⟩; refine ⟨_, rfl, ?_⟩))
  (try simp only [Act.put, List.setIfInBounds_toArray, List.set_cons_zero, List.set_cons_succ])
  go_cut [11, 12] (fun v11 v12 wc => ∃ (kq : Nat) (x11_4 : Bool) (x12_4 : Int), v11 = .bool x11_4 ∧ v12 = .int .i64 x12_4 ∧ Aside0 (stamp_Parse.j0 kq a0 t110 t114 x11_4 x12_4 = some (r1, r2, r3)) ∧ Aside0 (kq ≤ k) ∧ Aside0 (Below w.heap.size w wc))
  case first =>
    have H := HC5.out
    clear HC5
    by_cases c6 : t113 = true
    · subst c6
      have H1 : ((strings_Repeat.f (⟨#[48]⟩ : ByteArray) (mx 0 (wrap64 (9 - (t112.size : Int))))).bind fun t116 => (if t112.size + t116.size ≤ 9223372036854775807 then ((stamp_digits.f k (t112 ++ t116) 9).bind fun bt117 => (if t115 = true then (stamp_Parse.j0 k a0 t110 t114 bt117.2 bt117.1) else (stamp_Parse.j0 k a0 t110 t114 false bt117.1))) else (none))) = some (r1, r2, r3) := by rw [if_pos rfl] at H; exact H
      clear H
      have H := H1
      clear H1
      obtain ⟨ji7, hji7⟩ : ∃ j_ : Int, (mx 0 (wrap64 (9 - (t112.size : Int)))) = j_ := ⟨_, rfl⟩
      replace H : ((strings_Repeat.f (⟨#[48]⟩ : ByteArray) (ji7)).bind fun t116 => (if t112.size + t116.size ≤ 9223372036854775807 then ((stamp_digits.f k (t112 ++ t116) 9).bind fun bt117 => (if t115 = true then (stamp_Parse.j0 k a0 t110 t114 bt117.2 bt117.1) else (stamp_Parse.j0 k a0 t110 t114 false bt117.1))) else (none))) = some (r1, r2, r3) := by first | (rw [hji7] at H; exact H) | (simp only [hji7] at H ⊢; exact H)
      (try (have hji7l : 0 ≤ ji7 := by (rw [← hji7]; unfold mx; (repeat' split) <;> omega)))
      (try (have hji7m : 0 ≤ ji7 := by omega))
      have hji7_ : (if 0 < (wrap64 (9 - (t112.size : Int))) then (wrap64 (9 - (t112.size : Int))) else 0) = ji7 := hji7
      replace H := Option.bind_eq_some_iff.mp H
      obtain ⟨t116, A80, H⟩ := H
      replace H : (if t112.size + t116.size ≤ 9223372036854775807 then ((stamp_digits.f k (t112 ++ t116) 9).bind fun bt117 => (if t115 = true then (stamp_Parse.j0 k a0 t110 t114 bt117.2 bt117.1) else (stamp_Parse.j0 k a0 t110 t114 false bt117.1))) else (none)) = some (r1, r2, r3) := H
      have A8 := Aside0.mk A80
      clear A80
      by_cases c9 : t112.size + t116.size ≤ 9223372036854775807
      · rw [if_pos c9] at H
        have c9b0 := eq_true c9
        have c9b1 : decide (t112.size + t116.size ≤ 9223372036854775807) = true := decide_eq_true c9
        try have c9b2 : (9223372036854775807 < t112.size + t116.size) = False := eq_false (Nat.not_lt.2 c9)
        replace H := Option.bind_eq_some_iff.mp H
        obtain ⟨⟨t117, t118⟩, A100, H⟩ := H
        replace H : (if t115 = true then (stamp_Parse.j0 k a0 t110 t114 t118 t117) else (stamp_Parse.j0 k a0 t110 t114 false t117)) = some (r1, r2, r3) := H
        have A10 := Aside0.mk A100
        clear A100
        by_cases c11 : t115 = true
        · subst c11
          have H1 : (stamp_Parse.j0 k a0 t110 t114 t118 t117) = some (r1, r2, r3) := by rw [if_pos rfl] at H; exact H
          clear H
          have H := H1
          clear H1
          have H' := Aside0.mk H
          clear H
          have hw9_ : wrap64 (9 - (t112.size : Int)) = 9 - (t112.size : Int) := by unfold wrap64; omega
          have hj9_ : ji7 = mx 0 (9 - (t112.size : Int)) := by rw [← hji7, hw9_]
          by_cases hq9_ : (t112.size : Int) < 9
          · have hv9_ : ji7 = 9 - (t112.size : Int) := by rw [hj9_]; unfold mx; rw [if_pos (by omega)]
            have hx9_ : (9 - (t112.size : Int) > 0) = True := eq_true (by omega)
            have hy9_ : ((t112.size : Int) < 9) = True := eq_true hq9_
            clear hj9_ hw9_
            go_wp2_with (first | ((with_reducible refine gate_callee (f := 38) rfl ?_); refine goesL_ (some 39) rfl rfl Tryd.func38 (by kernel_rfl) rfl #[.string (⟨#[48]⟩ : ByteArray), .int .i64 ji7] rfl (by (try simp only [List.map_toArray, List.map_cons, List.map_nil]); first | done | (rw [hv9_] <;> rfl) | (simp only [hji7]; rfl) | rfl | (simp only [List.length_drop, List.length_take]; rfl)) ?_; (with_reducible refine (strings_Repeat.calls (⟨#[48]⟩ : ByteArray) ji7 t116 _ A8.out).mono ?_); rintro e w12 ⟨rfl, hb⟩; refine ⟨_, rfl, ?_⟩; have n0_ := Aside0.mk (below_step (by repeat (first | (with_reducible first | exact HB.out | apply below_alloc | apply pw_below_drewN | apply below_drew1) | exact HB.out)) hb); clear HB; have HB := n0_; clear n0_; (try clear hb); (try clear hb2); (try clear hk); (try clear hi)) | ((with_reducible refine gate_callee (f := 61) rfl ?_); refine goesL_ (some 41) rfl rfl Tryd.func61 (by kernel_rfl) rfl #[.string (t112 ++ t116), .int .i64 9] rfl (by (try simp only [List.map_toArray, List.map_cons, List.map_nil]); first | done | rfl | (simp only [List.length_drop, List.length_take]; rfl)) ?_; (with_reducible refine (stamp_digits.calls k (t112 ++ t116) 9 t117 t118 _ A10.out).mono ?_); rintro e w' ⟨rfl, ⟨nd, rfl⟩⟩; refine ⟨_, rfl, ?_⟩))
            go_meet
            case rel => exact ⟨_, (t118), (t117), (by first | rfl | (simp; done) | (simp [*]; done)), (by first | rfl | (simp; done) | (simp [*]; done)), H', ⟨by first | omega | exact Nat.le_refl _⟩, ⟨by repeat (first | (with_reducible first | exact HB.out | apply below_alloc | apply pw_below_drewN | apply below_drew1) | exact HB.out)⟩⟩
          · have hv9_ : ji7 = 0 := by rw [hj9_]; unfold mx; rw [if_neg (by omega)]
            have hx9_ : (9 - (t112.size : Int) > 0) = False := eq_false (by omega)
            have hy9_ : ((t112.size : Int) < 9) = False := eq_false hq9_
            have hu9_ : 9 ≤ (t112.size : Int) := by omega
            clear hj9_ hw9_
            go_wp2_with (first | ((with_reducible refine gate_callee (f := 38) rfl ?_); refine goesL_ (some 39) rfl rfl Tryd.func38 (by kernel_rfl) rfl #[.string (⟨#[48]⟩ : ByteArray), .int .i64 ji7] rfl (by (try simp only [List.map_toArray, List.map_cons, List.map_nil]); first | done | (rw [hv9_] <;> rfl) | (simp only [hji7]; rfl) | rfl | (simp only [List.length_drop, List.length_take]; rfl)) ?_; (with_reducible refine (strings_Repeat.calls (⟨#[48]⟩ : ByteArray) ji7 t116 _ A8.out).mono ?_); rintro e w12 ⟨rfl, hb⟩; refine ⟨_, rfl, ?_⟩; have n0_ := Aside0.mk (below_step (by repeat (first | (with_reducible first | exact HB.out | apply below_alloc | apply pw_below_drewN | apply below_drew1) | exact HB.out)) hb); clear HB; have HB := n0_; clear n0_; (try clear hb); (try clear hb2); (try clear hk); (try clear hi)) | ((with_reducible refine gate_callee (f := 61) rfl ?_); refine goesL_ (some 41) rfl rfl Tryd.func61 (by kernel_rfl) rfl #[.string (t112 ++ t116), .int .i64 9] rfl (by (try simp only [List.map_toArray, List.map_cons, List.map_nil]); first | done | rfl | (simp only [List.length_drop, List.length_take]; rfl)) ?_; (with_reducible refine (stamp_digits.calls k (t112 ++ t116) 9 t117 t118 _ A10.out).mono ?_); rintro e w' ⟨rfl, ⟨nd, rfl⟩⟩; refine ⟨_, rfl, ?_⟩))
            go_meet
            case rel => exact ⟨_, (t118), (t117), (by first | rfl | (simp; done) | (simp [*]; done)), (by first | rfl | (simp; done) | (simp [*]; done)), H', ⟨by first | omega | exact Nat.le_refl _⟩, ⟨by repeat (first | (with_reducible first | exact HB.out | apply below_alloc | apply pw_below_drewN | apply below_drew1) | exact HB.out)⟩⟩
        · replace c11 := Bool.eq_false_iff.mpr c11
          subst c11
          have H1 : (stamp_Parse.j0 k a0 t110 t114 false t117) = some (r1, r2, r3) := by rw [if_neg (show ¬ (false = true) by decide)] at H; exact H
          clear H
          have H := H1
          clear H1
          have H' := Aside0.mk H
          clear H
          have hw9_ : wrap64 (9 - (t112.size : Int)) = 9 - (t112.size : Int) := by unfold wrap64; omega
          have hj9_ : ji7 = mx 0 (9 - (t112.size : Int)) := by rw [← hji7, hw9_]
          by_cases hq9_ : (t112.size : Int) < 9
          · have hv9_ : ji7 = 9 - (t112.size : Int) := by rw [hj9_]; unfold mx; rw [if_pos (by omega)]
            have hx9_ : (9 - (t112.size : Int) > 0) = True := eq_true (by omega)
            have hy9_ : ((t112.size : Int) < 9) = True := eq_true hq9_
            clear hj9_ hw9_
            go_wp2_with (first | ((with_reducible refine gate_callee (f := 38) rfl ?_); refine goesL_ (some 39) rfl rfl Tryd.func38 (by kernel_rfl) rfl #[.string (⟨#[48]⟩ : ByteArray), .int .i64 ji7] rfl (by (try simp only [List.map_toArray, List.map_cons, List.map_nil]); first | done | (rw [hv9_] <;> rfl) | (simp only [hji7]; rfl) | rfl | (simp only [List.length_drop, List.length_take]; rfl)) ?_; (with_reducible refine (strings_Repeat.calls (⟨#[48]⟩ : ByteArray) ji7 t116 _ A8.out).mono ?_); rintro e w13 ⟨rfl, hb⟩; refine ⟨_, rfl, ?_⟩; have n0_ := Aside0.mk (below_step (by repeat (first | (with_reducible first | exact HB.out | apply below_alloc | apply pw_below_drewN | apply below_drew1) | exact HB.out)) hb); clear HB; have HB := n0_; clear n0_; (try clear hb); (try clear hb2); (try clear hk); (try clear hi)) | ((with_reducible refine gate_callee (f := 61) rfl ?_); refine goesL_ (some 41) rfl rfl Tryd.func61 (by kernel_rfl) rfl #[.string (t112 ++ t116), .int .i64 9] rfl (by (try simp only [List.map_toArray, List.map_cons, List.map_nil]); first | done | rfl | (simp only [List.length_drop, List.length_take]; rfl)) ?_; (with_reducible refine (stamp_digits.calls k (t112 ++ t116) 9 t117 t118 _ A10.out).mono ?_); rintro e w' ⟨rfl, ⟨nd, rfl⟩⟩; refine ⟨_, rfl, ?_⟩))
            go_meet
            case rel => exact ⟨_, (false), (t117), (by first | rfl | (simp; done) | (simp [*]; done)), (by first | rfl | (simp; done) | (simp [*]; done)), H', ⟨by first | omega | exact Nat.le_refl _⟩, ⟨by repeat (first | (with_reducible first | exact HB.out | apply below_alloc | apply pw_below_drewN | apply below_drew1) | exact HB.out)⟩⟩
          · have hv9_ : ji7 = 0 := by rw [hj9_]; unfold mx; rw [if_neg (by omega)]
            have hx9_ : (9 - (t112.size : Int) > 0) = False := eq_false (by omega)
            have hy9_ : ((t112.size : Int) < 9) = False := eq_false hq9_
            have hu9_ : 9 ≤ (t112.size : Int) := by omega
            clear hj9_ hw9_
            go_wp2_with (first | ((with_reducible refine gate_callee (f := 38) rfl ?_); refine goesL_ (some 39) rfl rfl Tryd.func38 (by kernel_rfl) rfl #[.string (⟨#[48]⟩ : ByteArray), .int .i64 ji7] rfl (by (try simp only [List.map_toArray, List.map_cons, List.map_nil]); first | done | (rw [hv9_] <;> rfl) | (simp only [hji7]; rfl) | rfl | (simp only [List.length_drop, List.length_take]; rfl)) ?_; (with_reducible refine (strings_Repeat.calls (⟨#[48]⟩ : ByteArray) ji7 t116 _ A8.out).mono ?_); rintro e w13 ⟨rfl, hb⟩; refine ⟨_, rfl, ?_⟩; have n0_ := Aside0.mk (below_step (by repeat (first | (with_reducible first | exact HB.out | apply below_alloc | apply pw_below_drewN | apply below_drew1) | exact HB.out)) hb); clear HB; have HB := n0_; clear n0_; (try clear hb); (try clear hb2); (try clear hk); (try clear hi)) | ((with_reducible refine gate_callee (f := 61) rfl ?_); refine goesL_ (some 41) rfl rfl Tryd.func61 (by kernel_rfl) rfl #[.string (t112 ++ t116), .int .i64 9] rfl (by (try simp only [List.map_toArray, List.map_cons, List.map_nil]); first | done | rfl | (simp only [List.length_drop, List.length_take]; rfl)) ?_; (with_reducible refine (stamp_digits.calls k (t112 ++ t116) 9 t117 t118 _ A10.out).mono ?_); rintro e w' ⟨rfl, ⟨nd, rfl⟩⟩; refine ⟨_, rfl, ?_⟩))
            go_meet
            case rel => exact ⟨_, (false), (t117), (by first | rfl | (simp; done) | (simp [*]; done)), (by first | rfl | (simp; done) | (simp [*]; done)), H', ⟨by first | omega | exact Nat.le_refl _⟩, ⟨by repeat (first | (with_reducible first | exact HB.out | apply below_alloc | apply pw_below_drewN | apply below_drew1) | exact HB.out)⟩⟩
      · rw [if_neg c9] at H
        exact absurd H (by simp)
    · replace c6 := Bool.eq_false_iff.mpr c6
      subst c6
      have H1 : (stamp_Parse.j0 k a0 t110 t114 t115 0) = some (r1, r2, r3) := by rw [if_neg (show ¬ (false = true) by decide)] at H; exact H
      clear H
      have H := H1
      clear H1
      have H' := Aside0.mk H
      clear H
      go_wp2
      go_meet
      case rel => exact ⟨_, (t115), (0), (by first | rfl | (simp; done) | (simp [*]; done)), (by first | rfl | (simp; done) | (simp [*]; done)), H', ⟨by first | omega | exact Nat.le_refl _⟩, ⟨by repeat (first | (with_reducible first | exact HB.out | apply below_alloc | apply pw_below_drewN | apply below_drew1) | exact HB.out)⟩⟩
  case rest =>
    clear HC5
    try clear c1
    try clear c2
    try clear p2
    try clear c3
    try clear c6
    try clear p6
    try clear c9
    try clear c9b0
    try clear c9b1
    try clear c9b2
    try clear c11
    obtain ⟨kq, x11_4, x12_4, rfl, rfl, HA, HJ4, HB⟩ := hcut
    cases kq with
    | zero => exact absurd HA.out (by simp [stamp_Parse.j0])
    | succ kj4 =>
      have H := HA.out
      clear HA
      simp only [stamp_Parse.j0] at H
      by_cases c14 : x11_4 = true
      · subst c14
        have H1 : (if t110 = true then (if x12_4 > 0 then ((stamp_Text.f kj4 (wrap64 ((wrap64 (-t114)) - 1)) (wrap64 (1000000000 - x12_4))).bind fun bt119 => (if bt119.2 = 0 then (if bt119.1.toList = a0.toList then (some (wrap64 ((wrap64 (-t114)) - 1), wrap64 (1000000000 - x12_4), 0)) else (some (0, 0, 3))) else (some (0, 0, 3)))) else ((stamp_Text.f kj4 (wrap64 (-t114)) x12_4).bind fun bt121 => (if bt121.2 = 0 then (if bt121.1.toList = a0.toList then (some (wrap64 (-t114), x12_4, 0)) else (some (0, 0, 3))) else (some (0, 0, 3))))) else ((stamp_Text.f kj4 t114 x12_4).bind fun bt123 => (if bt123.2 = 0 then (if bt123.1.toList = a0.toList then (some (t114, x12_4, 0)) else (some (0, 0, 3))) else (some (0, 0, 3))))) = some (r1, r2, r3) := by rw [if_pos rfl] at H; exact H
        clear H
        have H := H1
        clear H1
        by_cases c15 : t110 = true
        · subst c15
          have H1 : (if x12_4 > 0 then ((stamp_Text.f kj4 (wrap64 ((wrap64 (-t114)) - 1)) (wrap64 (1000000000 - x12_4))).bind fun bt119 => (if bt119.2 = 0 then (if bt119.1.toList = a0.toList then (some (wrap64 ((wrap64 (-t114)) - 1), wrap64 (1000000000 - x12_4), 0)) else (some (0, 0, 3))) else (some (0, 0, 3)))) else ((stamp_Text.f kj4 (wrap64 (-t114)) x12_4).bind fun bt121 => (if bt121.2 = 0 then (if bt121.1.toList = a0.toList then (some (wrap64 (-t114), x12_4, 0)) else (some (0, 0, 3))) else (some (0, 0, 3))))) = some (r1, r2, r3) := by rw [if_pos rfl] at H; exact H
          clear H
          have H := H1
          clear H1
          by_cases c16 : x12_4 > 0
          · rw [if_pos c16] at H
            have c16b0 : decide (0 < x12_4) = true := decide_eq_true c16
            clear c16
            replace H := Option.bind_eq_some_iff.mp H
            obtain ⟨⟨t119, t120⟩, A170, H⟩ := H
            replace H : (if t120 = 0 then (if t119.toList = a0.toList then (some (wrap64 ((wrap64 (-t114)) - 1), wrap64 (1000000000 - x12_4), 0)) else (some (0, 0, 3))) else (some (0, 0, 3))) = some (r1, r2, r3) := H
            have A17 := Aside0.mk A170
            clear A170
            by_cases c18 : t120 = 0
            · rw [if_pos c18] at H
              have c18b0 : (t120 == 0) = true := beq_iff_eq.mpr c18
              have c18b1 : (t120 != 0) = false := bne_eq_false_iff_eq.mpr c18
              clear c18
              by_cases c19 : t119.toList = a0.toList
              · rw [if_pos c19] at H
                have c19b0 : (t119.toList == a0.toList) = true := beq_iff_eq.mpr c19
                have c19b1 : (t119.toList != a0.toList) = false := bne_eq_false_iff_eq.mpr c19
                clear c19
                simp only [Option.some.injEq, Prod.mk.injEq] at H
                obtain ⟨rfl, rfl, rfl⟩ := H
                go_wp2_with (first | ((with_reducible refine gate_callee (f := 25) rfl ?_); refine goesL_ (some 62) rfl rfl Tryd.func25 (by kernel_rfl) rfl #[.int .i64 (wrap64 ((wrap64 (-t114)) - 1)), .int .i64 (wrap64 (1000000000 - x12_4))] rfl (by (try simp only [List.map_toArray, List.map_cons, List.map_nil]); first | done | rfl | (simp only [List.length_drop, List.length_take]; rfl)) ?_; (with_reducible refine (stamp_Text.calls kj4 (wrap64 ((wrap64 (-t114)) - 1)) (wrap64 (1000000000 - x12_4)) t119 t120 _ ?side1 A17.out).mono ?_); (case side1 => exact G_below hG_.out (by repeat (first | (with_reducible first | exact HB.out | apply below_alloc | apply pw_below_drewN | apply below_drew1) | exact HB.out))); rintro e w20 ⟨rfl, hb⟩; refine ⟨_, rfl, ?_⟩; have n0_ := Aside0.mk (below_step (by repeat (first | (with_reducible first | exact HB.out | apply below_alloc | apply pw_below_drewN | apply below_drew1) | exact HB.out)) hb); clear HB; have HB := n0_; clear n0_; (try clear hb); (try clear hb2); (try clear hk); (try clear hi)))
                go_ret3
                exact ⟨by first | rfl | (simp [errW_none, errW_some] <;> rfl) | (simp [*, errW_none, errW_some] <;> rfl), by repeat (first | (with_reducible first | exact HB.out | apply below_alloc | apply pw_below_drewN | apply below_drew1) | exact HB.out)⟩
              · rw [if_neg c19] at H
                have c19b0 : (t119.toList == a0.toList) = false := beq_eq_false_iff_ne.mpr c19
                have c19b1 : (t119.toList != a0.toList) = true := bne_iff_ne.mpr c19
                simp only [Option.some.injEq, Prod.mk.injEq] at H
                obtain ⟨rfl, rfl, rfl⟩ := H
                go_wp2_with (first | ((with_reducible refine gate_callee (f := 25) rfl ?_); refine goesL_ (some 62) rfl rfl Tryd.func25 (by kernel_rfl) rfl #[.int .i64 (wrap64 ((wrap64 (-t114)) - 1)), .int .i64 (wrap64 (1000000000 - x12_4))] rfl (by (try simp only [List.map_toArray, List.map_cons, List.map_nil]); first | done | rfl | (simp only [List.length_drop, List.length_take]; rfl)) ?_; (with_reducible refine (stamp_Text.calls kj4 (wrap64 ((wrap64 (-t114)) - 1)) (wrap64 (1000000000 - x12_4)) t119 t120 _ ?side1 A17.out).mono ?_); (case side1 => exact G_below hG_.out (by repeat (first | (with_reducible first | exact HB.out | apply below_alloc | apply pw_below_drewN | apply below_drew1) | exact HB.out))); rintro e w21 ⟨rfl, hb⟩; refine ⟨_, rfl, ?_⟩; have n0_ := Aside0.mk (below_step (by repeat (first | (with_reducible first | exact HB.out | apply below_alloc | apply pw_below_drewN | apply below_drew1) | exact HB.out)) hb); clear HB; have HB := n0_; clear n0_; (try clear hb); (try clear hb2); (try clear hk); (try clear hi)))
                go_ret3
                exact ⟨by first | rfl | (simp [errW_none, errW_some] <;> rfl) | (simp [*, errW_none, errW_some] <;> rfl), by repeat (first | (with_reducible first | exact HB.out | apply below_alloc | apply pw_below_drewN | apply below_drew1) | exact HB.out)⟩
            · rw [if_neg c18] at H
              have c18b0 : (t120 == 0) = false := beq_eq_false_iff_ne.mpr c18
              have c18b1 : (t120 != 0) = true := bne_iff_ne.mpr c18
              simp only [Option.some.injEq, Prod.mk.injEq] at H
              obtain ⟨rfl, rfl, rfl⟩ := H
              go_wp2_with (first | ((with_reducible refine gate_callee (f := 25) rfl ?_); refine goesL_ (some 62) rfl rfl Tryd.func25 (by kernel_rfl) rfl #[.int .i64 (wrap64 ((wrap64 (-t114)) - 1)), .int .i64 (wrap64 (1000000000 - x12_4))] rfl (by (try simp only [List.map_toArray, List.map_cons, List.map_nil]); first | done | rfl | (simp only [List.length_drop, List.length_take]; rfl)) ?_; (with_reducible refine (stamp_Text.calls kj4 (wrap64 ((wrap64 (-t114)) - 1)) (wrap64 (1000000000 - x12_4)) t119 t120 _ ?side1 A17.out).mono ?_); (case side1 => exact G_below hG_.out (by repeat (first | (with_reducible first | exact HB.out | apply below_alloc | apply pw_below_drewN | apply below_drew1) | exact HB.out))); rintro e w22 ⟨rfl, hb⟩; refine ⟨_, rfl, ?_⟩; have n0_ := Aside0.mk (below_step (by repeat (first | (with_reducible first | exact HB.out | apply below_alloc | apply pw_below_drewN | apply below_drew1) | exact HB.out)) hb); clear HB; have HB := n0_; clear n0_; (try clear hb); (try clear hb2); (try clear hk); (try clear hi)))
              go_ret3
              exact ⟨by first | rfl | (simp [errW_none, errW_some] <;> rfl) | (simp [*, errW_none, errW_some] <;> rfl), by repeat (first | (with_reducible first | exact HB.out | apply below_alloc | apply pw_below_drewN | apply below_drew1) | exact HB.out)⟩
          · rw [if_neg c16] at H
            have c16b0 : decide (0 < x12_4) = false := decide_eq_false c16
            clear c16
            replace H := Option.bind_eq_some_iff.mp H
            obtain ⟨⟨t121, t122⟩, A230, H⟩ := H
            replace H : (if t122 = 0 then (if t121.toList = a0.toList then (some (wrap64 (-t114), x12_4, 0)) else (some (0, 0, 3))) else (some (0, 0, 3))) = some (r1, r2, r3) := H
            have A23 := Aside0.mk A230
            clear A230
            by_cases c24 : t122 = 0
            · rw [if_pos c24] at H
              have c24b0 : (t122 == 0) = true := beq_iff_eq.mpr c24
              have c24b1 : (t122 != 0) = false := bne_eq_false_iff_eq.mpr c24
              clear c24
              by_cases c25 : t121.toList = a0.toList
              · rw [if_pos c25] at H
                have c25b0 : (t121.toList == a0.toList) = true := beq_iff_eq.mpr c25
                have c25b1 : (t121.toList != a0.toList) = false := bne_eq_false_iff_eq.mpr c25
                clear c25
                simp only [Option.some.injEq, Prod.mk.injEq] at H
                obtain ⟨rfl, rfl, rfl⟩ := H
                go_wp2_with (first | ((with_reducible refine gate_callee (f := 25) rfl ?_); refine goesL_ (some 62) rfl rfl Tryd.func25 (by kernel_rfl) rfl #[.int .i64 (wrap64 (-t114)), .int .i64 x12_4] rfl (by (try simp only [List.map_toArray, List.map_cons, List.map_nil]); first | done | rfl | (simp only [List.length_drop, List.length_take]; rfl)) ?_; (with_reducible refine (stamp_Text.calls kj4 (wrap64 (-t114)) x12_4 t121 t122 _ ?side1 A23.out).mono ?_); (case side1 => exact G_below hG_.out (by repeat (first | (with_reducible first | exact HB.out | apply below_alloc | apply pw_below_drewN | apply below_drew1) | exact HB.out))); rintro e w26 ⟨rfl, hb⟩; refine ⟨_, rfl, ?_⟩; have n0_ := Aside0.mk (below_step (by repeat (first | (with_reducible first | exact HB.out | apply below_alloc | apply pw_below_drewN | apply below_drew1) | exact HB.out)) hb); clear HB; have HB := n0_; clear n0_; (try clear hb); (try clear hb2); (try clear hk); (try clear hi)))
                go_ret3
                exact ⟨by first | rfl | (simp [errW_none, errW_some] <;> rfl) | (simp [*, errW_none, errW_some] <;> rfl), by repeat (first | (with_reducible first | exact HB.out | apply below_alloc | apply pw_below_drewN | apply below_drew1) | exact HB.out)⟩
              · rw [if_neg c25] at H
                have c25b0 : (t121.toList == a0.toList) = false := beq_eq_false_iff_ne.mpr c25
                have c25b1 : (t121.toList != a0.toList) = true := bne_iff_ne.mpr c25
                simp only [Option.some.injEq, Prod.mk.injEq] at H
                obtain ⟨rfl, rfl, rfl⟩ := H
                go_wp2_with (first | ((with_reducible refine gate_callee (f := 25) rfl ?_); refine goesL_ (some 62) rfl rfl Tryd.func25 (by kernel_rfl) rfl #[.int .i64 (wrap64 (-t114)), .int .i64 x12_4] rfl (by (try simp only [List.map_toArray, List.map_cons, List.map_nil]); first | done | rfl | (simp only [List.length_drop, List.length_take]; rfl)) ?_; (with_reducible refine (stamp_Text.calls kj4 (wrap64 (-t114)) x12_4 t121 t122 _ ?side1 A23.out).mono ?_); (case side1 => exact G_below hG_.out (by repeat (first | (with_reducible first | exact HB.out | apply below_alloc | apply pw_below_drewN | apply below_drew1) | exact HB.out))); rintro e w27 ⟨rfl, hb⟩; refine ⟨_, rfl, ?_⟩; have n0_ := Aside0.mk (below_step (by repeat (first | (with_reducible first | exact HB.out | apply below_alloc | apply pw_below_drewN | apply below_drew1) | exact HB.out)) hb); clear HB; have HB := n0_; clear n0_; (try clear hb); (try clear hb2); (try clear hk); (try clear hi)))
                go_ret3
                exact ⟨by first | rfl | (simp [errW_none, errW_some] <;> rfl) | (simp [*, errW_none, errW_some] <;> rfl), by repeat (first | (with_reducible first | exact HB.out | apply below_alloc | apply pw_below_drewN | apply below_drew1) | exact HB.out)⟩
            · rw [if_neg c24] at H
              have c24b0 : (t122 == 0) = false := beq_eq_false_iff_ne.mpr c24
              have c24b1 : (t122 != 0) = true := bne_iff_ne.mpr c24
              simp only [Option.some.injEq, Prod.mk.injEq] at H
              obtain ⟨rfl, rfl, rfl⟩ := H
              go_wp2_with (first | ((with_reducible refine gate_callee (f := 25) rfl ?_); refine goesL_ (some 62) rfl rfl Tryd.func25 (by kernel_rfl) rfl #[.int .i64 (wrap64 (-t114)), .int .i64 x12_4] rfl (by (try simp only [List.map_toArray, List.map_cons, List.map_nil]); first | done | rfl | (simp only [List.length_drop, List.length_take]; rfl)) ?_; (with_reducible refine (stamp_Text.calls kj4 (wrap64 (-t114)) x12_4 t121 t122 _ ?side1 A23.out).mono ?_); (case side1 => exact G_below hG_.out (by repeat (first | (with_reducible first | exact HB.out | apply below_alloc | apply pw_below_drewN | apply below_drew1) | exact HB.out))); rintro e w28 ⟨rfl, hb⟩; refine ⟨_, rfl, ?_⟩; have n0_ := Aside0.mk (below_step (by repeat (first | (with_reducible first | exact HB.out | apply below_alloc | apply pw_below_drewN | apply below_drew1) | exact HB.out)) hb); clear HB; have HB := n0_; clear n0_; (try clear hb); (try clear hb2); (try clear hk); (try clear hi)))
              go_ret3
              exact ⟨by first | rfl | (simp [errW_none, errW_some] <;> rfl) | (simp [*, errW_none, errW_some] <;> rfl), by repeat (first | (with_reducible first | exact HB.out | apply below_alloc | apply pw_below_drewN | apply below_drew1) | exact HB.out)⟩
        · replace c15 := Bool.eq_false_iff.mpr c15
          subst c15
          have H1 : ((stamp_Text.f kj4 t114 x12_4).bind fun bt123 => (if bt123.2 = 0 then (if bt123.1.toList = a0.toList then (some (t114, x12_4, 0)) else (some (0, 0, 3))) else (some (0, 0, 3)))) = some (r1, r2, r3) := by rw [if_neg (show ¬ (false = true) by decide)] at H; exact H
          clear H
          have H := H1
          clear H1
          replace H := Option.bind_eq_some_iff.mp H
          obtain ⟨⟨t123, t124⟩, A290, H⟩ := H
          replace H : (if t124 = 0 then (if t123.toList = a0.toList then (some (t114, x12_4, 0)) else (some (0, 0, 3))) else (some (0, 0, 3))) = some (r1, r2, r3) := H
          have A29 := Aside0.mk A290
          clear A290
          by_cases c30 : t124 = 0
          · rw [if_pos c30] at H
            have c30b0 : (t124 == 0) = true := beq_iff_eq.mpr c30
            have c30b1 : (t124 != 0) = false := bne_eq_false_iff_eq.mpr c30
            clear c30
            by_cases c31 : t123.toList = a0.toList
            · rw [if_pos c31] at H
              have c31b0 : (t123.toList == a0.toList) = true := beq_iff_eq.mpr c31
              have c31b1 : (t123.toList != a0.toList) = false := bne_eq_false_iff_eq.mpr c31
              clear c31
              simp only [Option.some.injEq, Prod.mk.injEq] at H
              obtain ⟨rfl, rfl, rfl⟩ := H
              go_wp2_with (first | ((with_reducible refine gate_callee (f := 25) rfl ?_); refine goesL_ (some 62) rfl rfl Tryd.func25 (by kernel_rfl) rfl #[.int .i64 t114, .int .i64 x12_4] rfl (by (try simp only [List.map_toArray, List.map_cons, List.map_nil]); first | done | rfl | (simp only [List.length_drop, List.length_take]; rfl)) ?_; (with_reducible refine (stamp_Text.calls kj4 t114 x12_4 t123 t124 _ ?side1 A29.out).mono ?_); (case side1 => exact G_below hG_.out (by repeat (first | (with_reducible first | exact HB.out | apply below_alloc | apply pw_below_drewN | apply below_drew1) | exact HB.out))); rintro e w32 ⟨rfl, hb⟩; refine ⟨_, rfl, ?_⟩; have n0_ := Aside0.mk (below_step (by repeat (first | (with_reducible first | exact HB.out | apply below_alloc | apply pw_below_drewN | apply below_drew1) | exact HB.out)) hb); clear HB; have HB := n0_; clear n0_; (try clear hb); (try clear hb2); (try clear hk); (try clear hi)))
              go_ret3
              exact ⟨by first | rfl | (simp [errW_none, errW_some] <;> rfl) | (simp [*, errW_none, errW_some] <;> rfl), by repeat (first | (with_reducible first | exact HB.out | apply below_alloc | apply pw_below_drewN | apply below_drew1) | exact HB.out)⟩
            · rw [if_neg c31] at H
              have c31b0 : (t123.toList == a0.toList) = false := beq_eq_false_iff_ne.mpr c31
              have c31b1 : (t123.toList != a0.toList) = true := bne_iff_ne.mpr c31
              simp only [Option.some.injEq, Prod.mk.injEq] at H
              obtain ⟨rfl, rfl, rfl⟩ := H
              go_wp2_with (first | ((with_reducible refine gate_callee (f := 25) rfl ?_); refine goesL_ (some 62) rfl rfl Tryd.func25 (by kernel_rfl) rfl #[.int .i64 t114, .int .i64 x12_4] rfl (by (try simp only [List.map_toArray, List.map_cons, List.map_nil]); first | done | rfl | (simp only [List.length_drop, List.length_take]; rfl)) ?_; (with_reducible refine (stamp_Text.calls kj4 t114 x12_4 t123 t124 _ ?side1 A29.out).mono ?_); (case side1 => exact G_below hG_.out (by repeat (first | (with_reducible first | exact HB.out | apply below_alloc | apply pw_below_drewN | apply below_drew1) | exact HB.out))); rintro e w33 ⟨rfl, hb⟩; refine ⟨_, rfl, ?_⟩; have n0_ := Aside0.mk (below_step (by repeat (first | (with_reducible first | exact HB.out | apply below_alloc | apply pw_below_drewN | apply below_drew1) | exact HB.out)) hb); clear HB; have HB := n0_; clear n0_; (try clear hb); (try clear hb2); (try clear hk); (try clear hi)))
              go_ret3
              exact ⟨by first | rfl | (simp [errW_none, errW_some] <;> rfl) | (simp [*, errW_none, errW_some] <;> rfl), by repeat (first | (with_reducible first | exact HB.out | apply below_alloc | apply pw_below_drewN | apply below_drew1) | exact HB.out)⟩
          · rw [if_neg c30] at H
            have c30b0 : (t124 == 0) = false := beq_eq_false_iff_ne.mpr c30
            have c30b1 : (t124 != 0) = true := bne_iff_ne.mpr c30
            simp only [Option.some.injEq, Prod.mk.injEq] at H
            obtain ⟨rfl, rfl, rfl⟩ := H
            go_wp2_with (first | ((with_reducible refine gate_callee (f := 25) rfl ?_); refine goesL_ (some 62) rfl rfl Tryd.func25 (by kernel_rfl) rfl #[.int .i64 t114, .int .i64 x12_4] rfl (by (try simp only [List.map_toArray, List.map_cons, List.map_nil]); first | done | rfl | (simp only [List.length_drop, List.length_take]; rfl)) ?_; (with_reducible refine (stamp_Text.calls kj4 t114 x12_4 t123 t124 _ ?side1 A29.out).mono ?_); (case side1 => exact G_below hG_.out (by repeat (first | (with_reducible first | exact HB.out | apply below_alloc | apply pw_below_drewN | apply below_drew1) | exact HB.out))); rintro e w34 ⟨rfl, hb⟩; refine ⟨_, rfl, ?_⟩; have n0_ := Aside0.mk (below_step (by repeat (first | (with_reducible first | exact HB.out | apply below_alloc | apply pw_below_drewN | apply below_drew1) | exact HB.out)) hb); clear HB; have HB := n0_; clear n0_; (try clear hb); (try clear hb2); (try clear hk); (try clear hi)))
            go_ret3
            exact ⟨by first | rfl | (simp [errW_none, errW_some] <;> rfl) | (simp [*, errW_none, errW_some] <;> rfl), by repeat (first | (with_reducible first | exact HB.out | apply below_alloc | apply pw_below_drewN | apply below_drew1) | exact HB.out)⟩
      · replace c14 := Bool.eq_false_iff.mpr c14
        subst c14
        have H1 : (some (0, 0, 3)) = some (r1, r2, r3) := by rw [if_neg (show ¬ (false = true) by decide)] at H; exact H
        clear H
        have H := H1
        clear H1
        simp only [Option.some.injEq, Prod.mk.injEq] at H
        obtain ⟨rfl, rfl, rfl⟩ := H
        go_wp2
        go_ret3
        exact ⟨by first | rfl | (simp [errW_none, errW_some] <;> rfl) | (simp [*, errW_none, errW_some] <;> rfl), by repeat (first | (with_reducible first | exact HB.out | apply below_alloc | apply pw_below_drewN | apply below_drew1) | exact HB.out)⟩

/-! ### creelkeep_StampBack: function 6 -/
def creelkeep_StampBack.f (k : Nat) (a0 : Int) (a1 : Int) : Option (Bool) := (creelkeep_picked.f a0 2199023255553).bind fun t125 => ((creelkeep_picked.f a1 1000000000).bind fun t126 => ((stamp_Text.f k (wrap64 (t125 - 1099511627776)) t126).bind fun bt127 => ((stamp_Parse.f k bt127.1).bind fun bt129 => (if bt127.2 = 0 then (if bt129.2.2 = 0 then (if bt129.1 = (wrap64 (t125 - 1099511627776)) then (some (bt129.2.1 == t126)) else (some false)) else (some false)) else (some false)))))
theorem creelkeep_StampBack.mono : ∀ a0 a1 k, LeO (creelkeep_StampBack.f k a0 a1) (creelkeep_StampBack.f (k + 1) a0 a1) := by
  intro a0 a1 k
  unfold creelkeep_StampBack.f
  repeat' first
      | (with_reducible exact stamp_Parse.mono _ _)
      | (with_reducible exact stamp_Text.mono _ _ _)
      | (with_reducible exact LeO.refl _)
      | (with_reducible exact LeO.none _)
      | (with_reducible refine LeO.ite ?_ ?_)
      | (with_reducible refine LeO.bind ?_ (fun _ => ?_))
      | exact stamp_Parse.mono _ _
      | exact stamp_Text.mono _ _ _
      | exact LeO.none _
      | refine LeO.ite ?_ ?_
      | refine LeO.bind ?_ (fun _ => ?_)
set_option maxHeartbeats 8000000 in
set_option maxRecDepth 100000 in
theorem creelkeep_StampBack.calls (k : Nat) (a0 : Int) (a1 : Int) (r : Bool) (w : World) (hG0_ : G_ w) (h : creelkeep_StampBack.f k a0 a1 = some r) :
    Calls Tryd.prog 6 #[.int .i64 a0, .int .i64 a1] w fun e w' => e = .returned (.bool r) ∧ Below w.heap.size w w' := by
  have hG_ := Aside0.mk hG0_
  clear hG0_
  have HB := Aside0.mk (Below.refl w.heap.size w)
  have H : ((creelkeep_picked.f a0 2199023255553).bind fun t125 => ((creelkeep_picked.f a1 1000000000).bind fun t126 => ((stamp_Text.f k (wrap64 (t125 - 1099511627776)) t126).bind fun bt127 => ((stamp_Parse.f k bt127.1).bind fun bt129 => (if bt127.2 = 0 then (if bt129.2.2 = 0 then (if bt129.1 = (wrap64 (t125 - 1099511627776)) then (some (bt129.2.1 == t126)) else (some false)) else (some false)) else (some false)))))) = some r := h
  clear h
  replace H := Option.bind_eq_some_iff.mp H
  obtain ⟨t125, A30, H⟩ := H
  replace H : ((creelkeep_picked.f a1 1000000000).bind fun t126 => ((stamp_Text.f k (wrap64 (t125 - 1099511627776)) t126).bind fun bt127 => ((stamp_Parse.f k bt127.1).bind fun bt129 => (if bt127.2 = 0 then (if bt129.2.2 = 0 then (if bt129.1 = (wrap64 (t125 - 1099511627776)) then (some (bt129.2.1 == t126)) else (some false)) else (some false)) else (some false))))) = some r := H
  have A3 := Aside0.mk A30
  clear A30
  replace H := Option.bind_eq_some_iff.mp H
  obtain ⟨t126, A40, H⟩ := H
  replace H : ((stamp_Text.f k (wrap64 (t125 - 1099511627776)) t126).bind fun bt127 => ((stamp_Parse.f k bt127.1).bind fun bt129 => (if bt127.2 = 0 then (if bt129.2.2 = 0 then (if bt129.1 = (wrap64 (t125 - 1099511627776)) then (some (bt129.2.1 == t126)) else (some false)) else (some false)) else (some false)))) = some r := H
  have A4 := Aside0.mk A40
  clear A40
  replace H := Option.bind_eq_some_iff.mp H
  obtain ⟨⟨t127, t128⟩, A50, H⟩ := H
  replace H : ((stamp_Parse.f k t127).bind fun bt129 => (if t128 = 0 then (if bt129.2.2 = 0 then (if bt129.1 = (wrap64 (t125 - 1099511627776)) then (some (bt129.2.1 == t126)) else (some false)) else (some false)) else (some false))) = some r := H
  have A5 := Aside0.mk A50
  clear A50
  replace H := Option.bind_eq_some_iff.mp H
  obtain ⟨⟨t129, t130, t131⟩, A60, H⟩ := H
  replace H : (if t128 = 0 then (if t131 = 0 then (if t129 = (wrap64 (t125 - 1099511627776)) then (some (t130 == t126)) else (some false)) else (some false)) else (some false)) = some r := H
  have A6 := Aside0.mk A60
  clear A60
  by_cases c7 : t128 = 0
  · rw [if_pos c7] at H
    have c7b0 : (t128 == 0) = true := beq_iff_eq.mpr c7
    have c7b1 : (t128 != 0) = false := bne_eq_false_iff_eq.mpr c7
    clear c7
    by_cases c8 : t131 = 0
    · rw [if_pos c8] at H
      have c8b0 : (t131 == 0) = true := beq_iff_eq.mpr c8
      have c8b1 : (t131 != 0) = false := bne_eq_false_iff_eq.mpr c8
      clear c8
      by_cases c9 : t129 = (wrap64 (t125 - 1099511627776))
      · rw [if_pos c9] at H
        have c9b0 : (t129 == (wrap64 (t125 - 1099511627776))) = true := beq_iff_eq.mpr c9
        have c9b1 : (t129 != (wrap64 (t125 - 1099511627776))) = false := bne_eq_false_iff_eq.mpr c9
        clear c9
        obtain rfl := Option.some.inj H
        go_enter Tryd.func6, Tryd.ntmps6
        go_wp2_with (first | ((with_reducible refine gate_callee (f := 24) rfl ?_); refine goesL_ (some 11) rfl rfl Tryd.func24 (by kernel_rfl) rfl #[.int .i64 a0, .int .i64 2199023255553] rfl (by (try simp only [List.map_toArray, List.map_cons, List.map_nil]); first | done | rfl | (simp only [List.length_drop, List.length_take]; rfl)) ?_; (with_reducible refine (creelkeep_picked.calls a0 2199023255553 t125 _ A3.out).mono ?_); rintro e w' ⟨rfl, ⟨nd, rfl⟩⟩; refine ⟨_, rfl, ?_⟩) | ((with_reducible refine gate_callee (f := 24) rfl ?_); refine goesL_ (some 14) rfl rfl Tryd.func24 (by kernel_rfl) rfl #[.int .i64 a1, .int .i64 1000000000] rfl (by (try simp only [List.map_toArray, List.map_cons, List.map_nil]); first | done | rfl | (simp only [List.length_drop, List.length_take]; rfl)) ?_; (with_reducible refine (creelkeep_picked.calls a1 1000000000 t126 _ A4.out).mono ?_); rintro e w' ⟨rfl, ⟨nd, rfl⟩⟩; refine ⟨_, rfl, ?_⟩) | ((with_reducible refine gate_callee (f := 25) rfl ?_); refine goesL_ (some 18) rfl rfl Tryd.func25 (by kernel_rfl) rfl #[.int .i64 (wrap64 (t125 - 1099511627776)), .int .i64 t126] rfl (by (try simp only [List.map_toArray, List.map_cons, List.map_nil]); first | done | rfl | (simp only [List.length_drop, List.length_take]; rfl)) ?_; (with_reducible refine (stamp_Text.calls k (wrap64 (t125 - 1099511627776)) t126 t127 t128 _ ?side1 A5.out).mono ?_); (case side1 => exact G_below hG_.out (by repeat (first | (with_reducible first | exact HB.out | apply below_alloc | apply pw_below_drewN | apply below_drew1) | exact HB.out))); rintro e w10 ⟨rfl, hb⟩; refine ⟨_, rfl, ?_⟩; have n0_ := Aside0.mk (below_step (by repeat (first | (with_reducible first | exact HB.out | apply below_alloc | apply pw_below_drewN | apply below_drew1) | exact HB.out)) hb); clear HB; have HB := n0_; clear n0_; (try clear hb); (try clear hb2); (try clear hk); (try clear hi)) | ((with_reducible refine gate_callee (f := 26) rfl ?_); refine goesL_ (some 23) rfl rfl Tryd.func26 (by kernel_rfl) rfl #[.string t127] rfl (by (try simp only [List.map_toArray, List.map_cons, List.map_nil]); first | done | rfl | (simp only [List.length_drop, List.length_take]; rfl)) ?_; (with_reducible refine (stamp_Parse.calls k t127 t129 t130 t131 _ ?side1 A6.out).mono ?_); (case side1 => exact G_below hG_.out (by repeat (first | (with_reducible first | exact HB.out | apply below_alloc | apply pw_below_drewN | apply below_drew1) | exact HB.out))); rintro e w11 ⟨rfl, hb⟩; refine ⟨_, rfl, ?_⟩; have n0_ := Aside0.mk (below_step (by repeat (first | (with_reducible first | exact HB.out | apply below_alloc | apply pw_below_drewN | apply below_drew1) | exact HB.out)) hb); clear HB; have HB := n0_; clear n0_; (try clear hb); (try clear hb2); (try clear hk); (try clear hi)))
        go_ret
        exact ⟨by first | rfl | (simp [errW_none, errW_some] <;> rfl) | (simp [*, errW_none, errW_some] <;> rfl), by repeat (first | (with_reducible first | exact HB.out | apply below_alloc | apply pw_below_drewN | apply below_drew1) | exact HB.out)⟩
      · rw [if_neg c9] at H
        have c9b0 : (t129 == (wrap64 (t125 - 1099511627776))) = false := beq_eq_false_iff_ne.mpr c9
        have c9b1 : (t129 != (wrap64 (t125 - 1099511627776))) = true := bne_iff_ne.mpr c9
        obtain rfl := Option.some.inj H
        go_enter Tryd.func6, Tryd.ntmps6
        go_wp2_with (first | ((with_reducible refine gate_callee (f := 24) rfl ?_); refine goesL_ (some 11) rfl rfl Tryd.func24 (by kernel_rfl) rfl #[.int .i64 a0, .int .i64 2199023255553] rfl (by (try simp only [List.map_toArray, List.map_cons, List.map_nil]); first | done | rfl | (simp only [List.length_drop, List.length_take]; rfl)) ?_; (with_reducible refine (creelkeep_picked.calls a0 2199023255553 t125 _ A3.out).mono ?_); rintro e w' ⟨rfl, ⟨nd, rfl⟩⟩; refine ⟨_, rfl, ?_⟩) | ((with_reducible refine gate_callee (f := 24) rfl ?_); refine goesL_ (some 14) rfl rfl Tryd.func24 (by kernel_rfl) rfl #[.int .i64 a1, .int .i64 1000000000] rfl (by (try simp only [List.map_toArray, List.map_cons, List.map_nil]); first | done | rfl | (simp only [List.length_drop, List.length_take]; rfl)) ?_; (with_reducible refine (creelkeep_picked.calls a1 1000000000 t126 _ A4.out).mono ?_); rintro e w' ⟨rfl, ⟨nd, rfl⟩⟩; refine ⟨_, rfl, ?_⟩) | ((with_reducible refine gate_callee (f := 25) rfl ?_); refine goesL_ (some 18) rfl rfl Tryd.func25 (by kernel_rfl) rfl #[.int .i64 (wrap64 (t125 - 1099511627776)), .int .i64 t126] rfl (by (try simp only [List.map_toArray, List.map_cons, List.map_nil]); first | done | rfl | (simp only [List.length_drop, List.length_take]; rfl)) ?_; (with_reducible refine (stamp_Text.calls k (wrap64 (t125 - 1099511627776)) t126 t127 t128 _ ?side1 A5.out).mono ?_); (case side1 => exact G_below hG_.out (by repeat (first | (with_reducible first | exact HB.out | apply below_alloc | apply pw_below_drewN | apply below_drew1) | exact HB.out))); rintro e w12 ⟨rfl, hb⟩; refine ⟨_, rfl, ?_⟩; have n0_ := Aside0.mk (below_step (by repeat (first | (with_reducible first | exact HB.out | apply below_alloc | apply pw_below_drewN | apply below_drew1) | exact HB.out)) hb); clear HB; have HB := n0_; clear n0_; (try clear hb); (try clear hb2); (try clear hk); (try clear hi)) | ((with_reducible refine gate_callee (f := 26) rfl ?_); refine goesL_ (some 23) rfl rfl Tryd.func26 (by kernel_rfl) rfl #[.string t127] rfl (by (try simp only [List.map_toArray, List.map_cons, List.map_nil]); first | done | rfl | (simp only [List.length_drop, List.length_take]; rfl)) ?_; (with_reducible refine (stamp_Parse.calls k t127 t129 t130 t131 _ ?side1 A6.out).mono ?_); (case side1 => exact G_below hG_.out (by repeat (first | (with_reducible first | exact HB.out | apply below_alloc | apply pw_below_drewN | apply below_drew1) | exact HB.out))); rintro e w13 ⟨rfl, hb⟩; refine ⟨_, rfl, ?_⟩; have n0_ := Aside0.mk (below_step (by repeat (first | (with_reducible first | exact HB.out | apply below_alloc | apply pw_below_drewN | apply below_drew1) | exact HB.out)) hb); clear HB; have HB := n0_; clear n0_; (try clear hb); (try clear hb2); (try clear hk); (try clear hi)))
        go_ret
        exact ⟨by first | rfl | (simp [errW_none, errW_some] <;> rfl) | (simp [*, errW_none, errW_some] <;> rfl), by repeat (first | (with_reducible first | exact HB.out | apply below_alloc | apply pw_below_drewN | apply below_drew1) | exact HB.out)⟩
    · rw [if_neg c8] at H
      have c8b0 : (t131 == 0) = false := beq_eq_false_iff_ne.mpr c8
      have c8b1 : (t131 != 0) = true := bne_iff_ne.mpr c8
      obtain rfl := Option.some.inj H
      go_enter Tryd.func6, Tryd.ntmps6
      go_wp2_with (first | ((with_reducible refine gate_callee (f := 24) rfl ?_); refine goesL_ (some 11) rfl rfl Tryd.func24 (by kernel_rfl) rfl #[.int .i64 a0, .int .i64 2199023255553] rfl (by (try simp only [List.map_toArray, List.map_cons, List.map_nil]); first | done | rfl | (simp only [List.length_drop, List.length_take]; rfl)) ?_; (with_reducible refine (creelkeep_picked.calls a0 2199023255553 t125 _ A3.out).mono ?_); rintro e w' ⟨rfl, ⟨nd, rfl⟩⟩; refine ⟨_, rfl, ?_⟩) | ((with_reducible refine gate_callee (f := 24) rfl ?_); refine goesL_ (some 14) rfl rfl Tryd.func24 (by kernel_rfl) rfl #[.int .i64 a1, .int .i64 1000000000] rfl (by (try simp only [List.map_toArray, List.map_cons, List.map_nil]); first | done | rfl | (simp only [List.length_drop, List.length_take]; rfl)) ?_; (with_reducible refine (creelkeep_picked.calls a1 1000000000 t126 _ A4.out).mono ?_); rintro e w' ⟨rfl, ⟨nd, rfl⟩⟩; refine ⟨_, rfl, ?_⟩) | ((with_reducible refine gate_callee (f := 25) rfl ?_); refine goesL_ (some 18) rfl rfl Tryd.func25 (by kernel_rfl) rfl #[.int .i64 (wrap64 (t125 - 1099511627776)), .int .i64 t126] rfl (by (try simp only [List.map_toArray, List.map_cons, List.map_nil]); first | done | rfl | (simp only [List.length_drop, List.length_take]; rfl)) ?_; (with_reducible refine (stamp_Text.calls k (wrap64 (t125 - 1099511627776)) t126 t127 t128 _ ?side1 A5.out).mono ?_); (case side1 => exact G_below hG_.out (by repeat (first | (with_reducible first | exact HB.out | apply below_alloc | apply pw_below_drewN | apply below_drew1) | exact HB.out))); rintro e w14 ⟨rfl, hb⟩; refine ⟨_, rfl, ?_⟩; have n0_ := Aside0.mk (below_step (by repeat (first | (with_reducible first | exact HB.out | apply below_alloc | apply pw_below_drewN | apply below_drew1) | exact HB.out)) hb); clear HB; have HB := n0_; clear n0_; (try clear hb); (try clear hb2); (try clear hk); (try clear hi)) | ((with_reducible refine gate_callee (f := 26) rfl ?_); refine goesL_ (some 23) rfl rfl Tryd.func26 (by kernel_rfl) rfl #[.string t127] rfl (by (try simp only [List.map_toArray, List.map_cons, List.map_nil]); first | done | rfl | (simp only [List.length_drop, List.length_take]; rfl)) ?_; (with_reducible refine (stamp_Parse.calls k t127 t129 t130 t131 _ ?side1 A6.out).mono ?_); (case side1 => exact G_below hG_.out (by repeat (first | (with_reducible first | exact HB.out | apply below_alloc | apply pw_below_drewN | apply below_drew1) | exact HB.out))); rintro e w15 ⟨rfl, hb⟩; refine ⟨_, rfl, ?_⟩; have n0_ := Aside0.mk (below_step (by repeat (first | (with_reducible first | exact HB.out | apply below_alloc | apply pw_below_drewN | apply below_drew1) | exact HB.out)) hb); clear HB; have HB := n0_; clear n0_; (try clear hb); (try clear hb2); (try clear hk); (try clear hi)))
      go_ret
      exact ⟨by first | rfl | (simp [errW_none, errW_some] <;> rfl) | (simp [*, errW_none, errW_some] <;> rfl), by repeat (first | (with_reducible first | exact HB.out | apply below_alloc | apply pw_below_drewN | apply below_drew1) | exact HB.out)⟩
  · rw [if_neg c7] at H
    have c7b0 : (t128 == 0) = false := beq_eq_false_iff_ne.mpr c7
    have c7b1 : (t128 != 0) = true := bne_iff_ne.mpr c7
    obtain rfl := Option.some.inj H
    go_enter Tryd.func6, Tryd.ntmps6
    go_wp2_with (first | ((with_reducible refine gate_callee (f := 24) rfl ?_); refine goesL_ (some 11) rfl rfl Tryd.func24 (by kernel_rfl) rfl #[.int .i64 a0, .int .i64 2199023255553] rfl (by (try simp only [List.map_toArray, List.map_cons, List.map_nil]); first | done | rfl | (simp only [List.length_drop, List.length_take]; rfl)) ?_; (with_reducible refine (creelkeep_picked.calls a0 2199023255553 t125 _ A3.out).mono ?_); rintro e w' ⟨rfl, ⟨nd, rfl⟩⟩; refine ⟨_, rfl, ?_⟩) | ((with_reducible refine gate_callee (f := 24) rfl ?_); refine goesL_ (some 14) rfl rfl Tryd.func24 (by kernel_rfl) rfl #[.int .i64 a1, .int .i64 1000000000] rfl (by (try simp only [List.map_toArray, List.map_cons, List.map_nil]); first | done | rfl | (simp only [List.length_drop, List.length_take]; rfl)) ?_; (with_reducible refine (creelkeep_picked.calls a1 1000000000 t126 _ A4.out).mono ?_); rintro e w' ⟨rfl, ⟨nd, rfl⟩⟩; refine ⟨_, rfl, ?_⟩) | ((with_reducible refine gate_callee (f := 25) rfl ?_); refine goesL_ (some 18) rfl rfl Tryd.func25 (by kernel_rfl) rfl #[.int .i64 (wrap64 (t125 - 1099511627776)), .int .i64 t126] rfl (by (try simp only [List.map_toArray, List.map_cons, List.map_nil]); first | done | rfl | (simp only [List.length_drop, List.length_take]; rfl)) ?_; (with_reducible refine (stamp_Text.calls k (wrap64 (t125 - 1099511627776)) t126 t127 t128 _ ?side1 A5.out).mono ?_); (case side1 => exact G_below hG_.out (by repeat (first | (with_reducible first | exact HB.out | apply below_alloc | apply pw_below_drewN | apply below_drew1) | exact HB.out))); rintro e w16 ⟨rfl, hb⟩; refine ⟨_, rfl, ?_⟩; have n0_ := Aside0.mk (below_step (by repeat (first | (with_reducible first | exact HB.out | apply below_alloc | apply pw_below_drewN | apply below_drew1) | exact HB.out)) hb); clear HB; have HB := n0_; clear n0_; (try clear hb); (try clear hb2); (try clear hk); (try clear hi)) | ((with_reducible refine gate_callee (f := 26) rfl ?_); refine goesL_ (some 23) rfl rfl Tryd.func26 (by kernel_rfl) rfl #[.string t127] rfl (by (try simp only [List.map_toArray, List.map_cons, List.map_nil]); first | done | rfl | (simp only [List.length_drop, List.length_take]; rfl)) ?_; (with_reducible refine (stamp_Parse.calls k t127 t129 t130 t131 _ ?side1 A6.out).mono ?_); (case side1 => exact G_below hG_.out (by repeat (first | (with_reducible first | exact HB.out | apply below_alloc | apply pw_below_drewN | apply below_drew1) | exact HB.out))); rintro e w17 ⟨rfl, hb⟩; refine ⟨_, rfl, ?_⟩; have n0_ := Aside0.mk (below_step (by repeat (first | (with_reducible first | exact HB.out | apply below_alloc | apply pw_below_drewN | apply below_drew1) | exact HB.out)) hb); clear HB; have HB := n0_; clear n0_; (try clear hb); (try clear hb2); (try clear hk); (try clear hi)))
    go_ret
    exact ⟨by first | rfl | (simp [errW_none, errW_some] <;> rfl) | (simp [*, errW_none, errW_some] <;> rfl), by repeat (first | (with_reducible first | exact HB.out | apply below_alloc | apply pw_below_drewN | apply below_drew1) | exact HB.out)⟩

/-- THE ONE PURE STATEMENT of creelkeep_StampBack: yours. -/
def creelkeep_StampBack.Pure : Prop := ∀ (a0 : Int) (a1 : Int), (Lit.int .i64 a0).wf = true → (Lit.int .i64 a1).wf = true → ∃ k, creelkeep_StampBack.f k a0 a1 = some true
theorem creelkeep_StampBack.walk (P : creelkeep_StampBack.Pure) (a0 : Int) (a1 : Int) (w : World) (hG0_ : G_ w) (w0 : (Lit.int .i64 a0).wf = true) (w1 : (Lit.int .i64 a1).wf = true) :
    Calls Tryd.prog 6 #[.int .i64 a0, .int .i64 a1] w fun e w' => e = .returned (.bool true) ∧ Below w.heap.size w w' := by
  obtain ⟨k, h⟩ := P a0 a1 w0 w1
  refine (creelkeep_StampBack.calls k a0 a1 true w hG0_ h).mono ?_
  rintro e w' ⟨rfl, hd⟩
  exact ⟨rfl, hd⟩

end Go.Proofs.YthonjghpblkpgaaDoor.PStampBack
