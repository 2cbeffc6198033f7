-- Written by a program of this session for this claim (wip/myprint.py over the kit's print).
import Derived.Test.YthonjghpblkpgaaDoorPGlobJoinsx0
namespace Go.Proofs.YthonjghpblkpgaaDoor.PGlobJoins
open Go.RowKit Go.Proofs.YthonjghpblkpgaaDoorW.PrintWords Go.Proofs.YthonjghpblkpgaaDoorW.PrintLast Go.Proofs.YthonjghpblkpgaaDoorW.PrintMore
attribute [local go_sem] max2_int min2_int max_two min_two max_three min_three max_four min_four   -- for this text's walks alone
set_option linter.unusedVariables false
set_option linter.unusedSimpArgs false

/-- The model's 'greater' on strings is 'less' turned round. -/
theorem str_swap : ∀ x y : List UInt8, Op.bytesLess y x = !(Op.bytesLess x y || x == y)
  | [], [] => by simp [Op.bytesLess]
  | [], _ :: _ => by simp [Op.bytesLess]
  | _ :: _, [] => by simp [Op.bytesLess]
  | a :: x, b :: y => by
    rw [Op.bytesLess, Op.bytesLess, str_swap x y]
    rcases Nat.lt_trichotomy a.toNat b.toNat with h | h | h
    · have h1 : a < b := UInt8.lt_iff_toNat_lt.2 h
      have h2 : ¬ b < a := fun q => by have := UInt8.lt_iff_toNat_lt.1 q; omega
      have h3 : a ≠ b := fun q => by rw [q] at h; omega
      simp [h1, h2, h3, Ne.symm h3]
    · have h1 : a = b := UInt8.toNat_inj.1 h
      subst h1
      simp
    · have h1 : b < a := UInt8.lt_iff_toNat_lt.2 h
      have h2 : ¬ a < b := fun q => by have := UInt8.lt_iff_toNat_lt.1 q; omega
      have h3 : a ≠ b := fun q => by rw [q] at h; omega
      simp [h1, h2, h3, Ne.symm h3]
/-! ### creelkeep_picked: function 24 -/
def creelkeep_picked.f (a0 : Int) (a1 : Int) : Option (Int) := if a0 < 0 then (if a1 = 0 then (none) else (some (Int.tmod (wrap64 (-(wrap64 (a0 + 1)))) a1))) else (if a1 = 0 then (none) else (some (Int.tmod a0 a1)))
set_option maxHeartbeats 8000000 in
set_option maxRecDepth 100000 in
theorem creelkeep_picked.calls (a0 : Int) (a1 : Int) (r : Int) (w : World) (h : creelkeep_picked.f a0 a1 = some r) :
    Calls Tryd.prog 24 #[.int .i64 a0, .int .i64 a1] w fun e w' => e = .returned (.int .i64 r) ∧ Drawn0 w w' := by
  have H : (if a0 < 0 then (if a1 = 0 then (none) else (some (Int.tmod (wrap64 (-(wrap64 (a0 + 1)))) a1))) else (if a1 = 0 then (none) else (some (Int.tmod a0 a1)))) = some r := h
  clear h
  by_cases c3 : a0 < 0
  · rw [if_pos c3] at H
    have c3b0 : decide (a0 < 0) = true := decide_eq_true c3
    clear c3
    by_cases c4 : a1 = 0
    · rw [if_pos c4] at H
      exact absurd H (by simp)
    · rw [if_neg c4] at H
      have c4b0 : (a1 == 0) = false := beq_eq_false_iff_ne.mpr c4
      have c4b1 : (a1 != 0) = true := bne_iff_ne.mpr c4
      obtain rfl := Option.some.inj H
      go_enter Tryd.func24, Tryd.ntmps24
      go_wp2
      go_ret
      exact ⟨by first | rfl | (simp; done) | (simp [*]; done), by repeat (first | exact Drawn0.refl _ | apply Drawn0.step)⟩
  · rw [if_neg c3] at H
    have c3b0 : decide (a0 < 0) = false := decide_eq_false c3
    clear c3
    by_cases c5 : a1 = 0
    · rw [if_pos c5] at H
      exact absurd H (by simp)
    · rw [if_neg c5] at H
      have c5b0 : (a1 == 0) = false := beq_eq_false_iff_ne.mpr c5
      have c5b1 : (a1 != 0) = true := bne_iff_ne.mpr c5
      obtain rfl := Option.some.inj H
      go_enter Tryd.func24, Tryd.ntmps24
      go_wp2
      go_ret
      exact ⟨by first | rfl | (simp; done) | (simp [*]; done), by repeat (first | exact Drawn0.refl _ | apply Drawn0.step)⟩

/-! ### strings_ReplaceAll: function 83 -/
def strings_ReplaceAll.f (a0 : ByteArray) (a1 : ByteArray) (a2 : ByteArray) : Option ByteArray := if a0.size < 4294967281 then (if 1 ≤ a1.size then (if a0.size + Lib.countB a0 a1 * a2.size ≤ 140737488355328 then some ⟨(Lib.replaceAll a0.data.toList a1.data.toList a2.data.toList).toArray⟩ else none) else none) else none
theorem strings_ReplaceAll.calls (a0 : ByteArray) (a1 : ByteArray) (a2 : ByteArray) (r : ByteArray) (w : World) (hG : G_ w) (h : strings_ReplaceAll.f a0 a1 a2 = some r) :
    Calls Tryd.prog 83 #[.string a0, .string a1, .string a2] w fun e w' => e = .returned (.string r) ∧ Below w.heap.size w w' := by
  unfold strings_ReplaceAll.f at h
  by_cases c0 : a0.size < 4294967281
  · rw [if_pos c0] at h
    by_cases c1 : 1 ≤ a1.size
    · rw [if_pos c1] at h
      by_cases c2 : a0.size + Lib.countB a0 a1 * a2.size ≤ 140737488355328
      · rw [if_pos c2] at h
        obtain rfl := Option.some.inj h
        obtain ⟨m, hm⟩ := hG.1
        exact Tryd.strings_ReplaceAll a0 a1 a2 m w c0 hm c1 c2
      · rw [if_neg c2] at h; cases h
    · rw [if_neg c1] at h; cases h
  · rw [if_neg c0] at h; cases h

/-! ### creelkeep_clean: function 41 -/
def creelkeep_clean.f (a0 : ByteArray) (a1 : Int) : Option (ByteArray) := (strings_ReplaceAll.f a0 (⟨#[0]⟩ : ByteArray) (⟨#[48]⟩ : ByteArray)).bind fun t101 => (if 0 ≤ (mn (t101.size : Int) a1) then (if (mn (t101.size : Int) a1) ≤ (t101.size : Int) then (some (t101.extract 0 ((mn (t101.size : Int) a1) : Int).toNat)) else (none)) else (none))
set_option maxHeartbeats 8000000 in
set_option maxRecDepth 100000 in
theorem creelkeep_clean.calls (a0 : ByteArray) (a1 : Int) (r : ByteArray) (w : World) (hG0_ : G_ w) (h : creelkeep_clean.f a0 a1 = some r) :
    Calls Tryd.prog 41 #[.string a0, .int .i64 a1] w fun e w' => e = .returned (.string r) ∧ Below w.heap.size w w' := by
  have hG_ := Aside0.mk hG0_
  clear hG0_
  have HB := Aside0.mk (Below.refl w.heap.size w)
  have H : ((strings_ReplaceAll.f a0 (⟨#[0]⟩ : ByteArray) (⟨#[48]⟩ : ByteArray)).bind fun t101 => (if 0 ≤ (mn (t101.size : Int) a1) then (if (mn (t101.size : Int) a1) ≤ (t101.size : Int) then (some (t101.extract 0 ((mn (t101.size : Int) a1) : Int).toNat)) else (none)) else (none))) = some r := h
  clear h
  replace H := Option.bind_eq_some_iff.mp H
  obtain ⟨t101, A30, H⟩ := H
  replace H : (if 0 ≤ (mn (t101.size : Int) a1) then (if (mn (t101.size : Int) a1) ≤ (t101.size : Int) then (some (t101.extract 0 ((mn (t101.size : Int) a1) : Int).toNat)) else (none)) else (none)) = some r := H
  have A3 := Aside0.mk A30
  clear A30
  obtain ⟨ji4, hji4⟩ : ∃ j_ : Int, (mn (t101.size : Int) a1) = j_ := ⟨_, rfl⟩
  replace H : (if 0 ≤ (ji4) then (if (ji4) ≤ (t101.size : Int) then (some (t101.extract 0 ((ji4) : Int).toNat)) else (none)) else (none)) = some r := by first | (rw [hji4] at H; exact H) | (simp only [hji4] at H ⊢; exact H)
  (try rw [hji4] at A3)
  have hji4_ : (if a1 < (t101.size : Int) then a1 else (t101.size : Int)) = ji4 := hji4
  by_cases c5 : 0 ≤ (ji4)
  · rw [if_pos c5] at H
    have c5b0 := eq_true c5
    have c5b1 : decide (0 ≤ (ji4)) = true := decide_eq_true c5
    clear c5
    by_cases c6 : (ji4) ≤ (t101.size : Int)
    · rw [if_pos c6] at H
      have c6b0 := eq_true c6
      have c6b1 : decide ((ji4) ≤ (t101.size : Int)) = true := decide_eq_true c6
      clear c6
      obtain rfl := Option.some.inj H
      go_enter Tryd.func41, Tryd.ntmps41
      go_wp2_with (first | ((with_reducible refine gate_callee (f := 83) rfl ?_); refine goesL_ (some 6) rfl rfl Tryd.func83 (by kernel_rfl) rfl #[.string a0, .string (⟨#[0]⟩ : ByteArray), .string (⟨#[48]⟩ : ByteArray)] rfl (by (try simp only [List.map_toArray, List.map_cons, List.map_nil]); first | done | rfl | (simp only [List.length_drop, List.length_take]; rfl)) ?_; (with_reducible refine (strings_ReplaceAll.calls a0 (⟨#[0]⟩ : ByteArray) (⟨#[48]⟩ : ByteArray) t101 _ ?side1 A3.out).mono ?_); (case side1 => exact G_below hG_.out (by repeat (first | (with_reducible first | exact HB.out | apply below_alloc | apply pw_below_drewN | apply below_drew1) | exact HB.out))); rintro e w7 ⟨rfl, hb⟩; refine ⟨_, rfl, ?_⟩; have n0_ := Aside0.mk (below_step (by repeat (first | (with_reducible first | exact HB.out | apply below_alloc | apply pw_below_drewN | apply below_drew1) | exact HB.out)) hb); clear HB; have HB := n0_; clear n0_; (try clear hb); (try clear hb2); (try clear hk); (try clear hi)))
      go_ret
      exact ⟨by first | rfl | (simp [errW_none, errW_some] <;> rfl) | (simp only [← hji4]; first | rfl | (simp [errW_none, errW_some] <;> rfl)) | (simp [*, errW_none, errW_some] <;> rfl), by repeat (first | (with_reducible first | exact HB.out | apply below_alloc | apply pw_below_drewN | apply below_drew1) | exact HB.out)⟩
    · rw [if_neg c6] at H
      exact absurd H (by simp)
  · rw [if_neg c5] at H
    exact absurd H (by simp)

/-! ### strings_Repeat: function 38 -/
def strings_Repeat.f (a0 : ByteArray) (a1 : Int) : Option ByteArray := if 0 ≤ a1 then (if a1 ≤ 9223372036854775807 then (if a0.size * a1.toNat ≤ 140737488355328 then some ⟨(Lib.repeatL a0.data.toList a1.toNat).toArray⟩ else none) else none) else none
theorem strings_Repeat.calls (a0 : ByteArray) (a1 : Int) (r : ByteArray) (w : World) (h : strings_Repeat.f a0 a1 = some r) :
    Calls Tryd.prog 38 #[.string a0, .int .i64 a1] w fun e w' => e = .returned (.string r) ∧ Below w.heap.size w w' := by
  unfold strings_Repeat.f at h
  by_cases c0 : 0 ≤ a1
  · rw [if_pos c0] at h
    by_cases c1 : a1 ≤ 9223372036854775807
    · rw [if_pos c1] at h
      by_cases c2 : a0.size * a1.toNat ≤ 140737488355328
      · rw [if_pos c2] at h
        obtain rfl := Option.some.inj h
        have hc := Tryd.strings_Repeat a0 a1.toNat w (by omega) c2
        rw [Int.toNat_of_nonneg c0] at hc
        exact hc
      · rw [if_neg c2] at h; cases h
    · rw [if_neg c1] at h; cases h
  · rw [if_neg c0] at h; cases h

/-! ### creelkeep_names: function 62 -/
def creelkeep_names.f  : Option (List ByteArray) := (strings_Repeat.f (⟨#[110]⟩ : ByteArray) 60).bind fun t102 => ((strings_Repeat.f (⟨#[109]⟩ : ByteArray) 130).bind fun t103 => (some (([(⟨#[97]⟩ : ByteArray), (⟨#[98]⟩ : ByteArray), (⟨#[97, 98]⟩ : ByteArray), (⟨#[66]⟩ : ByteArray), (⟨#[120, 32, 121]⟩ : ByteArray), (⟨#[195, 169]⟩ : ByteArray), (⟨#[99, 46, 116, 120, 116]⟩ : ByteArray), t102, t103, (⟨#[97, 33]⟩ : ByteArray), (⟨#[45]⟩ : ByteArray)] : List ByteArray))))
set_option maxHeartbeats 8000000 in
set_option maxRecDepth 100000 in
theorem creelkeep_names.calls  (r : List ByteArray) (w : World) (h : creelkeep_names.f  = some r) :
    Calls Tryd.prog 62 #[] w fun e w' => ∃ v0_ : Value, e = .returned (v0_) ∧ Kd.R Kd.string 9 w' w.heap.size (fun _ => True) v0_ r ∧ Below w.heap.size w w' := by
  have HB := Aside0.mk (Below.refl w.heap.size w)
  have H : ((strings_Repeat.f (⟨#[110]⟩ : ByteArray) 60).bind fun t102 => ((strings_Repeat.f (⟨#[109]⟩ : ByteArray) 130).bind fun t103 => (some (([(⟨#[97]⟩ : ByteArray), (⟨#[98]⟩ : ByteArray), (⟨#[97, 98]⟩ : ByteArray), (⟨#[66]⟩ : ByteArray), (⟨#[120, 32, 121]⟩ : ByteArray), (⟨#[195, 169]⟩ : ByteArray), (⟨#[99, 46, 116, 120, 116]⟩ : ByteArray), t102, t103, (⟨#[97, 33]⟩ : ByteArray), (⟨#[45]⟩ : ByteArray)] : List ByteArray))))) = some r := h
  clear h
  replace H := Option.bind_eq_some_iff.mp H
  obtain ⟨t102, A10, H⟩ := H
  replace H : ((strings_Repeat.f (⟨#[109]⟩ : ByteArray) 130).bind fun t103 => (some (([(⟨#[97]⟩ : ByteArray), (⟨#[98]⟩ : ByteArray), (⟨#[97, 98]⟩ : ByteArray), (⟨#[66]⟩ : ByteArray), (⟨#[120, 32, 121]⟩ : ByteArray), (⟨#[195, 169]⟩ : ByteArray), (⟨#[99, 46, 116, 120, 116]⟩ : ByteArray), t102, t103, (⟨#[97, 33]⟩ : ByteArray), (⟨#[45]⟩ : ByteArray)] : List ByteArray)))) = some r := H
  have A1 := Aside0.mk A10
  clear A10
  replace H := Option.bind_eq_some_iff.mp H
  obtain ⟨t103, A20, H⟩ := H
  replace H : (some (([(⟨#[97]⟩ : ByteArray), (⟨#[98]⟩ : ByteArray), (⟨#[97, 98]⟩ : ByteArray), (⟨#[66]⟩ : ByteArray), (⟨#[120, 32, 121]⟩ : ByteArray), (⟨#[195, 169]⟩ : ByteArray), (⟨#[99, 46, 116, 120, 116]⟩ : ByteArray), t102, t103, (⟨#[97, 33]⟩ : ByteArray), (⟨#[45]⟩ : ByteArray)] : List ByteArray))) = some r := H
  have A2 := Aside0.mk A20
  clear A20
  obtain ⟨y104, hy104⟩ : ∃ y_ : List ByteArray, y_ = (([(⟨#[97]⟩ : ByteArray), (⟨#[98]⟩ : ByteArray), (⟨#[97, 98]⟩ : ByteArray), (⟨#[66]⟩ : ByteArray), (⟨#[120, 32, 121]⟩ : ByteArray), (⟨#[195, 169]⟩ : ByteArray), (⟨#[99, 46, 116, 120, 116]⟩ : ByteArray), t102, t103, (⟨#[97, 33]⟩ : ByteArray), (⟨#[45]⟩ : ByteArray)] : List ByteArray)) := ⟨_, rfl⟩
  replace H : (some y104) = some r := by first | (rw [hy104]; with_reducible exact H) | (have H2_ := (Option.bind_some _ _).symm.trans H; rw [hy104]; with_reducible exact H2_) | (have H2_ := (Option.bind_some _ _).symm.trans H; with_reducible exact H2_) | with_reducible exact H | (rw [hy104]; exact H) | exact H
  have Ny104 := Aside0.mk hy104
  clear hy104
  obtain rfl := Option.some.inj H
  go_enter Tryd.func62, Tryd.ntmps62
  go_wp2_with (first | ((with_reducible refine gate_callee (f := 38) rfl ?_); refine goesL_ (some 1) rfl rfl Tryd.func38 (by kernel_rfl) rfl #[.string (⟨#[110]⟩ : ByteArray), .int .i64 60] rfl (by (try simp only [List.map_toArray, List.map_cons, List.map_nil]); first | done | rfl | (simp only [List.length_drop, List.length_take]; rfl)) ?_; (with_reducible refine (strings_Repeat.calls (⟨#[110]⟩ : ByteArray) 60 t102 _ A1.out).mono ?_); rintro e w3 ⟨rfl, hb⟩; refine ⟨_, rfl, ?_⟩; have n0_ := Aside0.mk (below_step (by repeat (first | (with_reducible first | exact HB.out | apply below_alloc | apply pw_below_drewN | apply below_drew1) | exact HB.out)) hb); clear HB; have HB := n0_; clear n0_; (try clear hb); (try clear hb2); (try clear hk); (try clear hi)) | ((with_reducible refine gate_callee (f := 38) rfl ?_); refine goesL_ (some 2) rfl rfl Tryd.func38 (by kernel_rfl) rfl #[.string (⟨#[109]⟩ : ByteArray), .int .i64 130] rfl (by (try simp only [List.map_toArray, List.map_cons, List.map_nil]); first | done | rfl | (simp only [List.length_drop, List.length_take]; rfl)) ?_; (with_reducible refine (strings_Repeat.calls (⟨#[109]⟩ : ByteArray) 130 t103 _ A2.out).mono ?_); rintro e w4 ⟨rfl, hb⟩; refine ⟨_, rfl, ?_⟩; have n0_ := Aside0.mk (below_step (by repeat (first | (with_reducible first | exact HB.out | apply below_alloc | apply pw_below_drewN | apply below_drew1) | exact HB.out)) hb); clear HB; have HB := n0_; clear n0_; (try clear hb); (try clear hb2); (try clear hk); (try clear hi)) | ((with_reducible refine gate_dst (N := 3) rfl ?_); refine Kd.R_lit Kd.string _ 9 ?hg (N := 3) ?hd (xs := ([(⟨#[97]⟩ : ByteArray), (⟨#[98]⟩ : ByteArray), (⟨#[97, 98]⟩ : ByteArray), (⟨#[66]⟩ : ByteArray), (⟨#[120, 32, 121]⟩ : ByteArray), (⟨#[195, 169]⟩ : ByteArray), (⟨#[99, 46, 116, 120, 116]⟩ : ByteArray), t102, t103, (⟨#[97, 33]⟩ : ByteArray), (⟨#[45]⟩ : ByteArray)] : List ByteArray)) (inner := [.string (⟨#[97]⟩ : ByteArray), .string (⟨#[98]⟩ : ByteArray), .string (⟨#[97, 98]⟩ : ByteArray), .string (⟨#[66]⟩ : ByteArray), .string (⟨#[120, 32, 121]⟩ : ByteArray), .string (⟨#[195, 169]⟩ : ByteArray), .string (⟨#[99, 46, 116, 120, 116]⟩ : ByteArray), .string t102, .string t103, .string (⟨#[97, 33]⟩ : ByteArray), .string (⟨#[45]⟩ : ByteArray)]) (ok := fun _ => True) (okp := fun _ => True) ?hr ?hp (fun _ hk => hk) trivial (Below.refl _ _) (Nat.le_refl _) (by simp) ?_; (case hd => rfl); (case hg => rfl); (case hr => first | (go_simp; done) | (go_simp; rfl)); (case hp => exact (Reps.one (show Kd.M Kd.string _ _ _ (⟨#[97]⟩ : ByteArray) [.string (⟨#[97]⟩ : ByteArray)] from rfl) (Reps.one (show Kd.M Kd.string _ _ _ (⟨#[98]⟩ : ByteArray) [.string (⟨#[98]⟩ : ByteArray)] from rfl) (Reps.one (show Kd.M Kd.string _ _ _ (⟨#[97, 98]⟩ : ByteArray) [.string (⟨#[97, 98]⟩ : ByteArray)] from rfl) (Reps.one (show Kd.M Kd.string _ _ _ (⟨#[66]⟩ : ByteArray) [.string (⟨#[66]⟩ : ByteArray)] from rfl) (Reps.one (show Kd.M Kd.string _ _ _ (⟨#[120, 32, 121]⟩ : ByteArray) [.string (⟨#[120, 32, 121]⟩ : ByteArray)] from rfl) (Reps.one (show Kd.M Kd.string _ _ _ (⟨#[195, 169]⟩ : ByteArray) [.string (⟨#[195, 169]⟩ : ByteArray)] from rfl) (Reps.one (show Kd.M Kd.string _ _ _ (⟨#[99, 46, 116, 120, 116]⟩ : ByteArray) [.string (⟨#[99, 46, 116, 120, 116]⟩ : ByteArray)] from rfl) (Reps.one (show Kd.M Kd.string _ _ _ t102 [.string t102] from rfl) (Reps.one (show Kd.M Kd.string _ _ _ t103 [.string t103] from rfl) (Reps.one (show Kd.M Kd.string _ _ _ (⟨#[97, 33]⟩ : ByteArray) [.string (⟨#[97, 33]⟩ : ByteArray)] from rfl) (Reps.one (show Kd.M Kd.string _ _ _ (⟨#[45]⟩ : ByteArray) [.string (⟨#[45]⟩ : ByteArray)] from rfl) (Reps.none _ _))))))))))))); intro v105 w5 ho6 hb hg_ hnew_; clear hg_ hnew_; (first | rw [← Ny104.out] at ho6 | (simp only [Int.reduceToNat] at ho6; rw [← Ny104.out] at ho6)); have n0_ := Aside0.mk (Kd.R_lower ho6 (below_size (by repeat (first | (with_reducible first | exact HB.out | apply below_alloc | apply pw_below_drewN | apply below_drew1) | exact HB.out)))); have n1_ := Aside0.mk (below_step (by repeat (first | (with_reducible first | exact HB.out | apply below_alloc | apply pw_below_drewN | apply below_drew1) | exact HB.out)) hb); clear HB; have HO106 := n0_; have HB := n1_; clear n0_ n1_; clear hb ho6))
  go_ret
  exact ⟨_, by first | rfl | (simp [errW_none, errW_some] <;> rfl) | (simp [*, errW_none, errW_some] <;> rfl), by (with_reducible repeat (first | apply Kd.R_alloc | apply Kd.R_drewN | apply Kd.R_drew)); exact HO106.out, by repeat (first | (with_reducible first | exact HB.out | apply below_alloc | apply pw_below_drewN | apply below_drew1) | exact HB.out)⟩

/-! ### creelkeep_Meta: function 63 -/
def creelkeep_Meta.f (a0_0 : Int) (a0_1 : Int) (a0_2 : Int) (a0_3 : ByteArray) : Option (Int × Int × Int × ByteArray × ByteArray × Int × Int) := (creelkeep_picked.f a0_1 4096).bind fun t112 => ((creelkeep_picked.f a0_2 3000).bind fun t113 => ((creelkeep_picked.f a0_1 3000).bind fun t114 => ((creelkeep_clean.f a0_3 40).bind fun t115 => ((creelkeep_picked.f a0_2 17179869184).bind fun t116 => ((creelkeep_picked.f a0_0 9).bind fun t118 => (if t118 = 0 then ((creelkeep_picked.f a0_1 1000000000).bind fun t119 => (some (t112, t113, t114, t115, (⟨#[115, 116, 97, 102, 102]⟩ : ByteArray), t116, t119))) else (if t118 = 1 then (some (t112, t113, t114, t115, (⟨#[115, 116, 97, 102, 102]⟩ : ByteArray), wrap64 ((wrap64 (-t116)) - 1), 0)) else (if t118 = 2 then ((creelkeep_picked.f a0_2 1125899906842625).bind fun t120 => (some (t112, t120, t114, t115, (⟨#[115, 116, 97, 102, 102]⟩ : ByteArray), t116, 0))) else (if t118 = 3 then ((creelkeep_picked.f a0_1 1125899906842625).bind fun t121 => (some (t112, t113, t121, t115, (⟨#[115, 116, 97, 102, 102]⟩ : ByteArray), t116, 0))) else (if t118 = 4 then ((creelkeep_picked.f a0_1 61).bind fun t122 => ((strings_Repeat.f (⟨#[103]⟩ : ByteArray) t122).bind fun t123 => (some (t112, t113, t114, t115, t123, t116, 0)))) else (some (t112, t113, t114, t115, (⟨#[115, 116, 97, 102, 102]⟩ : ByteArray), t116, 0))))))))))))
set_option maxHeartbeats 4000000 in
set_option maxRecDepth 100000 in
theorem creelkeep_Meta.calls (a0_0 : Int) (a0_1 : Int) (a0_2 : Int) (a0_3 : ByteArray) (r1 : Int) (r2 : Int) (r3 : Int) (r4 : ByteArray) (r5 : ByteArray) (r6 : Int) (r7 : Int) (w : World) (hG0_ : G_ w) (h : creelkeep_Meta.f a0_0 a0_1 a0_2 a0_3 = some (r1, r2, r3, r4, r5, r6, r7)) :
    Calls Tryd.prog 63 #[.agg #[.int .i64 a0_0, .int .i64 a0_1, .int .i64 a0_2, .string a0_3]] w fun e w' => e = .returned (.agg #[.int .i64 r1, .int .i64 r2, .int .i64 r3, .string r4, .string r5, .int .i64 r6, .int .i64 r7]) ∧ Below w.heap.size w w' := by
  unfold creelkeep_Meta.f at h
  rw [Option.bind_eq_some_iff] at h; obtain ⟨p1, A1, h⟩ := h
  rw [Option.bind_eq_some_iff] at h; obtain ⟨p2, A2, h⟩ := h
  rw [Option.bind_eq_some_iff] at h; obtain ⟨p3, A3, h⟩ := h
  rw [Option.bind_eq_some_iff] at h; obtain ⟨p4, A4, h⟩ := h
  rw [Option.bind_eq_some_iff] at h; obtain ⟨p5, A5, h⟩ := h
  rw [Option.bind_eq_some_iff] at h; obtain ⟨p6, A6, h⟩ := h
  have B1 := Aside0.mk A1; have B2 := Aside0.mk A2; have B3 := Aside0.mk A3; have B4 := Aside0.mk A4; have B5 := Aside0.mk A5; have B6 := Aside0.mk A6
  have H := Aside0.mk h; have hG := Aside0.mk hG0_
  clear A1 A2 A3 A4 A5 A6 h hG0_
  go_enter Tryd.func63, Tryd.ntmps63
  go_wp2
  obtain ⟨W, hW0⟩ : ∃ W : World, W = ((w.alloc (Obj.cells #[Value.int IntKind.i64 a0_0, Value.int IntKind.i64 a0_1, Value.int IntKind.i64 a0_2, Value.string a0_3] 23)).alloc (Obj.cells #[Value.int IntKind.i64 0, Value.int IntKind.i64 0, Value.int IntKind.i64 0, Value.string { data := #[] }, Value.string { data := #[] }, Value.int IntKind.i64 0, Value.int IntKind.i64 0] 51)) := ⟨_, rfl⟩
  rw [← hW0]
  have hW : Below w.heap.size w W := by rw [hW0]; exact below_alloc (below_alloc (Below.refl _ _) _) _
  have hz : w.heap.size + 1 < W.heap.size := by rw [hW0]; simp
  have b0 : W.heap[w.heap.size]? = some (.cells #[Value.int IntKind.i64 a0_0, Value.int IntKind.i64 a0_1, Value.int IntKind.i64 a0_2, Value.string a0_3] 23 (0, 0)) := by rw [hW0]; exact (Below.heap_alloc _ _ _ (by simp)).trans (heap_alloc_new _ _)
  have b1 : W.heap[w.heap.size + 1]? = some (.cells #[Value.int IntKind.i64 0, Value.int IntKind.i64 0, Value.int IntKind.i64 0, Value.string { data := #[] }, Value.string { data := #[] }, Value.int IntKind.i64 0, Value.int IntKind.i64 0] 51 (0, 0)) := by rw [hW0]; have := heap_alloc_new (w.alloc (Obj.cells #[Value.int IntKind.i64 a0_0, Value.int IntKind.i64 a0_1, Value.int IntKind.i64 a0_2, Value.string a0_3] 23)) (Obj.cells #[Value.int IntKind.i64 0, Value.int IntKind.i64 0, Value.int IntKind.i64 0, Value.string { data := #[] }, Value.string { data := #[] }, Value.int IntKind.i64 0, Value.int IntKind.i64 0] 51); simpa using this
  clear hW0
  have hS : ∀ w', Below W.heap.size W w' → w'.cell? ⟨w.heap.size, 0, none⟩ = some (.int .i64 a0_0) ∧ w'.cell? ⟨w.heap.size, 1, none⟩ = some (.int .i64 a0_1) ∧ w'.cell? ⟨w.heap.size, 2, none⟩ = some (.int .i64 a0_2) ∧ w'.cell? ⟨w.heap.size, 3, none⟩ = some (.string a0_3) := fun w' hb => by
    have c := (hb.block w.heap.size (by omega)).trans b0
    exact ⟨(blk_cell c 0).trans rfl, (blk_cell c 1).trans rfl, (blk_cell c 2).trans rfl, (blk_cell c 3).trans rfl⟩
  refine region_calm 17 [eqv (.pointer (some ⟨w.heap.size, 1, none⟩)), eqv (.int .i64 a0_1), eqv (.int .i64 p1), eqv (.pointer (some ⟨w.heap.size, 2, none⟩)), eqv (.int .i64 a0_2), eqv (.int .i64 p2), eqv (.pointer (some ⟨w.heap.size, 1, none⟩)), eqv (.int .i64 a0_1), eqv (.int .i64 p3), eqv (.pointer (some ⟨w.heap.size, 3, none⟩)), eqv (.string a0_3), eqv (.string p4), eqv (.pointer (some ⟨w.heap.size, 2, none⟩)), eqv (.int .i64 a0_2), eqv (.int .i64 p5), eqv (.agg #[.int .i64 p1, .int .i64 p2, .int .i64 p3, .string p4, .string ⟨#[115, 116, 97, 102, 102]⟩, .int .i64 p5, .int .i64 0]), newv W.heap.size #[.int .i64 0, .int .i64 0, .int .i64 0, .string ⟨#[]⟩, .string ⟨#[]⟩, .int .i64 0, .int .i64 0] 51] (by kernel_rfl) rfl (by kernel_rfl) ?_ (fun vals => ?_) ?_ ?_
  rotate_left
  · simp only [List.take_succ_cons, List.take_zero, putsFrom, Act.put, List.setIfInBounds_toArray, List.set_cons_zero, List.set_cons_succ]
    rfl
  · show calmAll _ _ _ _ _ _ [_, _, _, _, _, _, _, _, _, _, _, _, _, _, _, _, _] 0
    refine ⟨?_, ?_, ?_, ?_, ?_, ?_, ?_, ?_, ?_, ?_, ?_, ?_, ?_, ?_, ?_, ?_, ?_, trivial⟩
    · intro vals w' hb hv
      obtain ⟨s0, s1, s2, s3⟩ := hS w' hb
      clear hv
      go_wp2
      exact ⟨Below.refl _ _, rfl, rfl⟩
    · intro vals w' hb hv
      obtain ⟨s0, s1, s2, s3⟩ := hS w' hb
      have e0 : vals 0 = .pointer (some ⟨w.heap.size, 1, none⟩) := hv 0 (by decide) (by kernel_rfl)
      clear hv
      go_wp2
      exact ⟨Below.refl _ _, rfl, rfl⟩
    · intro vals w' hb hv
      obtain ⟨s0, s1, s2, s3⟩ := hS w' hb
      have e1 : vals 1 = .int .i64 a0_1 := hv 1 (by decide) (by kernel_rfl)
      clear hv
      go_wp2_with fail
      refine (creelkeep_picked.calls _ _ _ _ B1.out).mono ?_
      rintro e w1 ⟨rfl, hb1⟩
      go_wp2
      exact ⟨hb1.below, rfl, rfl⟩
    · intro vals w' hb hv
      obtain ⟨s0, s1, s2, s3⟩ := hS w' hb
      clear hv
      go_wp2
      exact ⟨Below.refl _ _, rfl, rfl⟩
    · intro vals w' hb hv
      obtain ⟨s0, s1, s2, s3⟩ := hS w' hb
      have e3 : vals 3 = .pointer (some ⟨w.heap.size, 2, none⟩) := hv 3 (by decide) (by kernel_rfl)
      clear hv
      go_wp2
      exact ⟨Below.refl _ _, rfl, rfl⟩
    · intro vals w' hb hv
      obtain ⟨s0, s1, s2, s3⟩ := hS w' hb
      have e4 : vals 4 = .int .i64 a0_2 := hv 4 (by decide) (by kernel_rfl)
      clear hv
      go_wp2_with fail
      refine (creelkeep_picked.calls _ _ _ _ B2.out).mono ?_
      rintro e w1 ⟨rfl, hb1⟩
      go_wp2
      exact ⟨hb1.below, rfl, rfl⟩
    · intro vals w' hb hv
      obtain ⟨s0, s1, s2, s3⟩ := hS w' hb
      clear hv
      go_wp2
      exact ⟨Below.refl _ _, rfl, rfl⟩
    · intro vals w' hb hv
      obtain ⟨s0, s1, s2, s3⟩ := hS w' hb
      have e6 : vals 6 = .pointer (some ⟨w.heap.size, 1, none⟩) := hv 6 (by decide) (by kernel_rfl)
      clear hv
      go_wp2
      exact ⟨Below.refl _ _, rfl, rfl⟩
    · intro vals w' hb hv
      obtain ⟨s0, s1, s2, s3⟩ := hS w' hb
      have e7 : vals 7 = .int .i64 a0_1 := hv 7 (by decide) (by kernel_rfl)
      clear hv
      go_wp2_with fail
      refine (creelkeep_picked.calls _ _ _ _ B3.out).mono ?_
      rintro e w1 ⟨rfl, hb1⟩
      go_wp2
      exact ⟨hb1.below, rfl, rfl⟩
    · intro vals w' hb hv
      obtain ⟨s0, s1, s2, s3⟩ := hS w' hb
      clear hv
      go_wp2
      exact ⟨Below.refl _ _, rfl, rfl⟩
    · intro vals w' hb hv
      obtain ⟨s0, s1, s2, s3⟩ := hS w' hb
      have e9 : vals 9 = .pointer (some ⟨w.heap.size, 3, none⟩) := hv 9 (by decide) (by kernel_rfl)
      clear hv
      go_wp2
      exact ⟨Below.refl _ _, rfl, rfl⟩
    · intro vals w' hb hv
      obtain ⟨s0, s1, s2, s3⟩ := hS w' hb
      have e10 : vals 10 = .string a0_3 := hv 10 (by decide) (by kernel_rfl)
      clear hv
      go_wp2_with fail
      refine (creelkeep_clean.calls _ _ _ _ (G_below hG.out (hW.trans ⟨hb.os, hb.tape, hb.output, hb.size, fun i hi => hb.block i (Nat.lt_of_lt_of_le hi hW.size)⟩)) B4.out).mono ?_
      rintro e w1 ⟨rfl, hb1⟩
      go_wp2
      exact ⟨hb1, rfl, rfl⟩
    · intro vals w' hb hv
      obtain ⟨s0, s1, s2, s3⟩ := hS w' hb
      clear hv
      go_wp2
      exact ⟨Below.refl _ _, rfl, rfl⟩
    · intro vals w' hb hv
      obtain ⟨s0, s1, s2, s3⟩ := hS w' hb
      have e12 : vals 12 = .pointer (some ⟨w.heap.size, 2, none⟩) := hv 12 (by decide) (by kernel_rfl)
      clear hv
      go_wp2
      exact ⟨Below.refl _ _, rfl, rfl⟩
    · intro vals w' hb hv
      obtain ⟨s0, s1, s2, s3⟩ := hS w' hb
      have e13 : vals 13 = .int .i64 a0_2 := hv 13 (by decide) (by kernel_rfl)
      clear hv
      go_wp2_with fail
      refine (creelkeep_picked.calls _ _ _ _ B5.out).mono ?_
      rintro e w1 ⟨rfl, hb1⟩
      go_wp2
      exact ⟨hb1.below, rfl, rfl⟩
    · intro vals w' hb hv
      obtain ⟨s0, s1, s2, s3⟩ := hS w' hb
      have e2 : vals 2 = .int .i64 p1 := hv 2 (by decide) (by kernel_rfl)
      have e5 : vals 5 = .int .i64 p2 := hv 5 (by decide) (by kernel_rfl)
      have e8 : vals 8 = .int .i64 p3 := hv 8 (by decide) (by kernel_rfl)
      have e11 : vals 11 = .string p4 := hv 11 (by decide) (by kernel_rfl)
      have e14 : vals 14 = .int .i64 p5 := hv 14 (by decide) (by kernel_rfl)
      clear hv
      go_wp2
      exact ⟨Below.refl _ _, rfl, rfl⟩
    · intro vals w' hb hv
      obtain ⟨s0, s1, s2, s3⟩ := hS w' hb
      clear hv
      go_wp2
      exact ⟨below_alloc (Below.refl _ _) _, rfl, ⟨_, rfl, hb.size, heap_alloc_new _ _⟩⟩
  · rintro vals w' hb ⟨e0, e1, e2, e3, e4, e5, e6, e7, e8, e9, e10, e11, e12, e13, e14, e15, e16, -⟩
    obtain ⟨g, f16, hgb, hgc⟩ := e16
    have f15 : vals 15 = .agg #[.int .i64 p1, .int .i64 p2, .int .i64 p3, .string p4, .string ⟨#[115, 116, 97, 102, 102]⟩, .int .i64 p5, .int .i64 0] := e15
    rw [f16, f15]
    clear e0 e1 e2 e3 e4 e5 e6 e7 e8 e9 e10 e11 e12 e13 e14 e15 f16
    simp only [List.drop_succ_cons, List.drop_zero]
    obtain ⟨s0, s1, s2, s3⟩ := hS w' hb
    refine ev_store_agg rfl rfl 51 (.tmp 3) (.tmp 19) rfl g 0 #[.int .i64 p1, .int .i64 p2, .int .i64 p3, .string p4, .string ⟨#[115, 116, 97, 102, 102]⟩, .int .i64 p5, .int .i64 0] _ #[.int .i64 p1, .int .i64 p2, .int .i64 p3, .string p4, .string ⟨#[115, 116, 97, 102, 102]⟩, .int .i64 p5, .int .i64 0] 51 rfl rfl hgc (by simp) (by kernel_rfl) (by simp [Value.oneCell']) rfl (fun w1 ht bm => ?_)
    have hr := ht.blk ((hb.block w.heap.size (by omega)).trans b0) (by omega)
    have ho := ht.blk ((hb.block (w.heap.size + 1) (by omega)).trans b1) (by omega)
    have HB := Aside0.mk (ht.below (below_step hW hb) (by omega))
    have t0 := (blk_cell hr 0).trans rfl
    have t1 := (blk_cell hr 1).trans rfl
    have t2 := (blk_cell hr 2).trans rfl
    have G1 := Aside0.mk (show g ≠ w.heap.size ∧ g ≠ w.heap.size + 1 ∧ w.heap.size ≤ g from ⟨by omega, by omega, by omega⟩)
    have BM := Aside0.mk bm
    have BO := Aside0.mk ho
    have m5 := (blk_cell bm 5).trans rfl
    clear bm ho hr s0 s1 s2 s3 hS b0 b1 hgb hgc ht f15 hz hb hW B1 B2 B3 B4 B5
    generalize vals = vs at *
    have h := H.out
    clear H
    by_cases c0 : p6 = 0
    · rw [if_pos c0] at h
      have d0 : (p6 == 0) = true := beq_iff_eq.mpr c0
      clear c0
      rw [Option.bind_eq_some_iff] at h
      obtain ⟨q, Aq, h⟩ := h
      simp only [Option.some.injEq, Prod.mk.injEq] at h
      obtain ⟨rfl, rfl, rfl, rfl, rfl, rfl, rfl⟩ := h
      have BQ := Aside0.mk Aq
      clear Aq
      go_wp2_with (first | ((with_reducible refine gate_store (x := .tmp 28) (y := .tmp 27) rfl ?_); refine ev_store_one rfl rfl 3 (.tmp 28) (.tmp 27) rfl g 6 (.int .i64 q) _ #[.int .i64 p1, .int .i64 p2, .int .i64 p3, .string p4, .string ⟨#[115, 116, 97, 102, 102]⟩, .int .i64 p5, .int .i64 q] 51 rfl rfl (by first | exact bmr | exact BM.out) (by simp) (by kernel_rfl) rfl rfl ?_; intro w2 ht2 bm2) | ((with_reducible refine gate_load (T := 51) (x := .tmp 3) rfl ?_); refine ev_load_agg rfl 51 (.tmp 3) rfl g 0 _ 51 [.int .i64 p1, .int .i64 p2, .int .i64 p3, .string p4, .string ⟨#[115, 116, 97, 102, 102]⟩, .int .i64 p5, .int .i64 q] _ rfl (by first | exact bm2 | exact BM.out) rfl Tryd.underlying51 rfl (by kernel_rfl) ?_) | ((with_reducible refine gate_store (x := .tmp 2) (y := .tmp 55) rfl ?_); refine ev_store_agg rfl rfl 51 (.tmp 2) (.tmp 55) rfl (w.heap.size + 1) 0 #[.int .i64 p1, .int .i64 p2, .int .i64 p3, .string p4, .string ⟨#[115, 116, 97, 102, 102]⟩, .int .i64 p5, .int .i64 q] _ #[.int .i64 p1, .int .i64 p2, .int .i64 p3, .string p4, .string ⟨#[115, 116, 97, 102, 102]⟩, .int .i64 p5, .int .i64 q] 51 rfl rfl (by first | exact ht2.blk (by first | exact bor | exact BO.out) G1.out.2.1.symm | exact BO.out) (by simp) (by kernel_rfl) (by simp [Value.oneCell']) rfl ?_; intro w3 ht3 bo3) | (go_at_call 24; refine (creelkeep_picked.calls _ _ _ _ (by first | exact B6.out | exact BQ.out)).mono ?_; rintro e w' ⟨rfl, ⟨nd, rfl⟩⟩))
      refine bodyPost_ret (results_cell_row rfl _ _ (w.heap.size + 1) 51 #[.int .i64 p1, .int .i64 p2, .int .i64 p3, .string p4, .string ⟨#[115, 116, 97, 102, 102]⟩, .int .i64 p5, .int .i64 q] (0, 0) _ rfl bo3 Tryd.underlying51 rfl (by kernel_rfl)) rfl ?_
      exact ⟨rfl, ht3.below (ht2.below (by first | exact HBr | exact pw_below_drewN HB.out _) G1.out.2.2) (by omega)⟩
    rw [if_neg c0] at h
    have d0 : (p6 == 0) = false := beq_eq_false_iff_ne.mpr c0
    by_cases c1 : p6 = 1
    · rw [if_pos c1] at h
      have d1 : (p6 == 1) = true := beq_iff_eq.mpr c1
      clear c1
      simp only [Option.some.injEq, Prod.mk.injEq] at h
      obtain ⟨rfl, rfl, rfl, rfl, rfl, rfl, rfl⟩ := h
      go_wp2_with (first | ((with_reducible refine gate_store (x := .tmp 35) (y := .tmp 34) rfl ?_); refine ev_store_one rfl rfl 3 (.tmp 35) (.tmp 34) rfl g 5 (.int .i64 (wrap64 (wrap64 (-p5) - 1))) _ #[.int .i64 p1, .int .i64 p2, .int .i64 p3, .string p4, .string ⟨#[115, 116, 97, 102, 102]⟩, .int .i64 (wrap64 (wrap64 (-p5) - 1)), .int .i64 0] 51 rfl rfl (by first | exact bmr | exact BM.out) (by simp) (by kernel_rfl) rfl rfl ?_; intro w2 ht2 bm2) | ((with_reducible refine gate_load (T := 51) (x := .tmp 3) rfl ?_); refine ev_load_agg rfl 51 (.tmp 3) rfl g 0 _ 51 [.int .i64 p1, .int .i64 p2, .int .i64 p3, .string p4, .string ⟨#[115, 116, 97, 102, 102]⟩, .int .i64 (wrap64 (wrap64 (-p5) - 1)), .int .i64 0] _ rfl (by first | exact bm2 | exact BM.out) rfl Tryd.underlying51 rfl (by kernel_rfl) ?_) | ((with_reducible refine gate_store (x := .tmp 2) (y := .tmp 55) rfl ?_); refine ev_store_agg rfl rfl 51 (.tmp 2) (.tmp 55) rfl (w.heap.size + 1) 0 #[.int .i64 p1, .int .i64 p2, .int .i64 p3, .string p4, .string ⟨#[115, 116, 97, 102, 102]⟩, .int .i64 (wrap64 (wrap64 (-p5) - 1)), .int .i64 0] _ #[.int .i64 p1, .int .i64 p2, .int .i64 p3, .string p4, .string ⟨#[115, 116, 97, 102, 102]⟩, .int .i64 (wrap64 (wrap64 (-p5) - 1)), .int .i64 0] 51 rfl rfl (by first | exact ht2.blk (by first | exact bor | exact BO.out) G1.out.2.1.symm | exact BO.out) (by simp) (by kernel_rfl) (by simp [Value.oneCell']) rfl ?_; intro w3 ht3 bo3) | (go_at_call 24; refine (creelkeep_picked.calls _ _ _ _ B6.out).mono ?_; rintro e w' ⟨rfl, ⟨nd, rfl⟩⟩))
      refine bodyPost_ret (results_cell_row rfl _ _ (w.heap.size + 1) 51 #[.int .i64 p1, .int .i64 p2, .int .i64 p3, .string p4, .string ⟨#[115, 116, 97, 102, 102]⟩, .int .i64 (wrap64 (wrap64 (-p5) - 1)), .int .i64 0] (0, 0) _ rfl bo3 Tryd.underlying51 rfl (by kernel_rfl)) rfl ?_
      exact ⟨rfl, ht3.below (ht2.below (by first | exact HBr | exact pw_below_drewN HB.out _) G1.out.2.2) (by omega)⟩
    rw [if_neg c1] at h
    have d1 : (p6 == 1) = false := beq_eq_false_iff_ne.mpr c1
    by_cases c2 : p6 = 2
    · rw [if_pos c2] at h
      have d2 : (p6 == 2) = true := beq_iff_eq.mpr c2
      clear c2
      rw [Option.bind_eq_some_iff] at h
      obtain ⟨q, Aq, h⟩ := h
      simp only [Option.some.injEq, Prod.mk.injEq] at h
      obtain ⟨rfl, rfl, rfl, rfl, rfl, rfl, rfl⟩ := h
      have BQ := Aside0.mk Aq
      clear Aq
      go_wp2_with (first | ((with_reducible refine gate_store (x := .tmp 41) (y := .tmp 40) rfl ?_); refine ev_store_one rfl rfl 3 (.tmp 41) (.tmp 40) rfl g 1 (.int .i64 q) _ #[.int .i64 p1, .int .i64 q, .int .i64 p3, .string p4, .string ⟨#[115, 116, 97, 102, 102]⟩, .int .i64 p5, .int .i64 0] 51 rfl rfl (by first | exact bmr | exact BM.out) (by simp) (by kernel_rfl) rfl rfl ?_; intro w2 ht2 bm2) | ((with_reducible refine gate_load (T := 51) (x := .tmp 3) rfl ?_); refine ev_load_agg rfl 51 (.tmp 3) rfl g 0 _ 51 [.int .i64 p1, .int .i64 q, .int .i64 p3, .string p4, .string ⟨#[115, 116, 97, 102, 102]⟩, .int .i64 p5, .int .i64 0] _ rfl (by first | exact bm2 | exact BM.out) rfl Tryd.underlying51 rfl (by kernel_rfl) ?_) | ((with_reducible refine gate_store (x := .tmp 2) (y := .tmp 55) rfl ?_); refine ev_store_agg rfl rfl 51 (.tmp 2) (.tmp 55) rfl (w.heap.size + 1) 0 #[.int .i64 p1, .int .i64 q, .int .i64 p3, .string p4, .string ⟨#[115, 116, 97, 102, 102]⟩, .int .i64 p5, .int .i64 0] _ #[.int .i64 p1, .int .i64 q, .int .i64 p3, .string p4, .string ⟨#[115, 116, 97, 102, 102]⟩, .int .i64 p5, .int .i64 0] 51 rfl rfl (by first | exact ht2.blk (by first | exact bor | exact BO.out) G1.out.2.1.symm | exact BO.out) (by simp) (by kernel_rfl) (by simp [Value.oneCell']) rfl ?_; intro w3 ht3 bo3) | (go_at_call 24; refine (creelkeep_picked.calls _ _ _ _ (by first | exact B6.out | exact BQ.out)).mono ?_; rintro e w' ⟨rfl, ⟨nd, rfl⟩⟩))
      refine bodyPost_ret (results_cell_row rfl _ _ (w.heap.size + 1) 51 #[.int .i64 p1, .int .i64 q, .int .i64 p3, .string p4, .string ⟨#[115, 116, 97, 102, 102]⟩, .int .i64 p5, .int .i64 0] (0, 0) _ rfl bo3 Tryd.underlying51 rfl (by kernel_rfl)) rfl ?_
      exact ⟨rfl, ht3.below (ht2.below (by first | exact HBr | exact pw_below_drewN HB.out _) G1.out.2.2) (by omega)⟩
    rw [if_neg c2] at h
    have d2 : (p6 == 2) = false := beq_eq_false_iff_ne.mpr c2
    by_cases c3 : p6 = 3
    · rw [if_pos c3] at h
      have d3 : (p6 == 3) = true := beq_iff_eq.mpr c3
      clear c3
      rw [Option.bind_eq_some_iff] at h
      obtain ⟨q, Aq, h⟩ := h
      simp only [Option.some.injEq, Prod.mk.injEq] at h
      obtain ⟨rfl, rfl, rfl, rfl, rfl, rfl, rfl⟩ := h
      have BQ := Aside0.mk Aq
      clear Aq
      go_wp2_with (first | ((with_reducible refine gate_store (x := .tmp 47) (y := .tmp 46) rfl ?_); refine ev_store_one rfl rfl 3 (.tmp 47) (.tmp 46) rfl g 2 (.int .i64 q) _ #[.int .i64 p1, .int .i64 p2, .int .i64 q, .string p4, .string ⟨#[115, 116, 97, 102, 102]⟩, .int .i64 p5, .int .i64 0] 51 rfl rfl (by first | exact bmr | exact BM.out) (by simp) (by kernel_rfl) rfl rfl ?_; intro w2 ht2 bm2) | ((with_reducible refine gate_load (T := 51) (x := .tmp 3) rfl ?_); refine ev_load_agg rfl 51 (.tmp 3) rfl g 0 _ 51 [.int .i64 p1, .int .i64 p2, .int .i64 q, .string p4, .string ⟨#[115, 116, 97, 102, 102]⟩, .int .i64 p5, .int .i64 0] _ rfl (by first | exact bm2 | exact BM.out) rfl Tryd.underlying51 rfl (by kernel_rfl) ?_) | ((with_reducible refine gate_store (x := .tmp 2) (y := .tmp 55) rfl ?_); refine ev_store_agg rfl rfl 51 (.tmp 2) (.tmp 55) rfl (w.heap.size + 1) 0 #[.int .i64 p1, .int .i64 p2, .int .i64 q, .string p4, .string ⟨#[115, 116, 97, 102, 102]⟩, .int .i64 p5, .int .i64 0] _ #[.int .i64 p1, .int .i64 p2, .int .i64 q, .string p4, .string ⟨#[115, 116, 97, 102, 102]⟩, .int .i64 p5, .int .i64 0] 51 rfl rfl (by first | exact ht2.blk (by first | exact bor | exact BO.out) G1.out.2.1.symm | exact BO.out) (by simp) (by kernel_rfl) (by simp [Value.oneCell']) rfl ?_; intro w3 ht3 bo3) | (go_at_call 24; refine (creelkeep_picked.calls _ _ _ _ (by first | exact B6.out | exact BQ.out)).mono ?_; rintro e w' ⟨rfl, ⟨nd, rfl⟩⟩))
      refine bodyPost_ret (results_cell_row rfl _ _ (w.heap.size + 1) 51 #[.int .i64 p1, .int .i64 p2, .int .i64 q, .string p4, .string ⟨#[115, 116, 97, 102, 102]⟩, .int .i64 p5, .int .i64 0] (0, 0) _ rfl bo3 Tryd.underlying51 rfl (by kernel_rfl)) rfl ?_
      exact ⟨rfl, ht3.below (ht2.below (by first | exact HBr | exact pw_below_drewN HB.out _) G1.out.2.2) (by omega)⟩
    rw [if_neg c3] at h
    have d3 : (p6 == 3) = false := beq_eq_false_iff_ne.mpr c3
    by_cases c4 : p6 = 4
    · rw [if_pos c4] at h
      have d4 : (p6 == 4) = true := beq_iff_eq.mpr c4
      clear c4
      rw [Option.bind_eq_some_iff] at h
      obtain ⟨q, Aq, h⟩ := h
      rw [Option.bind_eq_some_iff] at h
      obtain ⟨q2, Aq2, h⟩ := h
      simp only [Option.some.injEq, Prod.mk.injEq] at h
      obtain ⟨rfl, rfl, rfl, rfl, rfl, rfl, rfl⟩ := h
      have BQ := Aside0.mk Aq
      have BQ2 := Aside0.mk Aq2
      clear Aq Aq2
      go_wp2_with (first | ((with_reducible refine gate_store (x := .tmp 54) (y := .tmp 53) rfl ?_); refine ev_store_one rfl rfl 9 (.tmp 54) (.tmp 53) rfl g 4 (.string q2) _ #[.int .i64 p1, .int .i64 p2, .int .i64 p3, .string p4, .string q2, .int .i64 p5, .int .i64 0] 51 rfl rfl (by first | exact bmr | exact BM.out) (by simp) (by kernel_rfl) rfl rfl ?_; intro w2 ht2 bm2) | ((with_reducible refine gate_load (T := 51) (x := .tmp 3) rfl ?_); refine ev_load_agg rfl 51 (.tmp 3) rfl g 0 _ 51 [.int .i64 p1, .int .i64 p2, .int .i64 p3, .string p4, .string q2, .int .i64 p5, .int .i64 0] _ rfl (by first | exact bm2 | exact BM.out) rfl Tryd.underlying51 rfl (by kernel_rfl) ?_) | ((with_reducible refine gate_store (x := .tmp 2) (y := .tmp 55) rfl ?_); refine ev_store_agg rfl rfl 51 (.tmp 2) (.tmp 55) rfl (w.heap.size + 1) 0 #[.int .i64 p1, .int .i64 p2, .int .i64 p3, .string p4, .string q2, .int .i64 p5, .int .i64 0] _ #[.int .i64 p1, .int .i64 p2, .int .i64 p3, .string p4, .string q2, .int .i64 p5, .int .i64 0] 51 rfl rfl (by first | exact ht2.blk (by first | exact bor | exact BO.out) G1.out.2.1.symm | exact BO.out) (by simp) (by kernel_rfl) (by simp [Value.oneCell']) rfl ?_; intro w3 ht3 bo3) | (go_at_call 24; refine (creelkeep_picked.calls _ _ _ _ (by first | exact B6.out | exact BQ.out)).mono ?_; rintro e w' ⟨rfl, ⟨nd, rfl⟩⟩) | (go_at_call 38; refine (strings_Repeat.calls _ _ _ _ BQ2.out).mono ?_; rintro e w5 ⟨rfl, hbr⟩; have bmr := blk_below (show (World.drewN w1 _).heap[g]? = _ from BM.out) hbr; have bor := blk_below (show (World.drewN w1 _).heap[w.heap.size + 1]? = _ from BO.out) hbr; have HBr := below_step (pw_below_drewN HB.out _) hbr))
      refine bodyPost_ret (results_cell_row rfl _ _ (w.heap.size + 1) 51 #[.int .i64 p1, .int .i64 p2, .int .i64 p3, .string p4, .string q2, .int .i64 p5, .int .i64 0] (0, 0) _ rfl bo3 Tryd.underlying51 rfl (by kernel_rfl)) rfl ?_
      exact ⟨rfl, ht3.below (ht2.below (by first | exact HBr | exact pw_below_drewN HB.out _) G1.out.2.2) (by omega)⟩
    rw [if_neg c4] at h
    have d4 : (p6 == 4) = false := beq_eq_false_iff_ne.mpr c4
    simp only [Option.some.injEq, Prod.mk.injEq] at h
    obtain ⟨rfl, rfl, rfl, rfl, rfl, rfl, rfl⟩ := h
    go_wp2_with (first | ((with_reducible refine gate_load (T := 51) (x := .tmp 3) rfl ?_); refine ev_load_agg rfl 51 (.tmp 3) rfl g 0 _ 51 [.int .i64 p1, .int .i64 p2, .int .i64 p3, .string p4, .string ⟨#[115, 116, 97, 102, 102]⟩, .int .i64 p5, .int .i64 0] _ rfl (by first | exact bm2 | exact BM.out) rfl Tryd.underlying51 rfl (by kernel_rfl) ?_) | ((with_reducible refine gate_store (x := .tmp 2) (y := .tmp 55) rfl ?_); refine ev_store_agg rfl rfl 51 (.tmp 2) (.tmp 55) rfl (w.heap.size + 1) 0 #[.int .i64 p1, .int .i64 p2, .int .i64 p3, .string p4, .string ⟨#[115, 116, 97, 102, 102]⟩, .int .i64 p5, .int .i64 0] _ #[.int .i64 p1, .int .i64 p2, .int .i64 p3, .string p4, .string ⟨#[115, 116, 97, 102, 102]⟩, .int .i64 p5, .int .i64 0] 51 rfl rfl (by first | exact ht2.blk (by first | exact bor | exact BO.out) G1.out.2.1.symm | exact BO.out) (by simp) (by kernel_rfl) (by simp [Value.oneCell']) rfl ?_; intro w3 ht3 bo3) | (go_at_call 24; refine (creelkeep_picked.calls _ _ _ _ B6.out).mono ?_; rintro e w' ⟨rfl, ⟨nd, rfl⟩⟩))
    refine bodyPost_ret (results_cell_row rfl _ _ (w.heap.size + 1) 51 #[.int .i64 p1, .int .i64 p2, .int .i64 p3, .string p4, .string ⟨#[115, 116, 97, 102, 102]⟩, .int .i64 p5, .int .i64 0] (0, 0) _ rfl bo3 Tryd.underlying51 rfl (by kernel_rfl)) rfl ?_
    exact ⟨rfl, ht3.below (pw_below_drewN HB.out _) (by omega)⟩

/-! ### slices_Clone_byte_byte: function 57 -/
-- info 5
def slices_Clone_byte_byte.f (l0 : List Int) : Option (List Int) := if l0.length < 140737488355328 then some l0 else none
set_option maxHeartbeats 800000 in
theorem slices_Clone_byte_byte.calls (A0 : Option Addr) (c0 : Nat) (l0 : List Int) (r : List Int) (w : World) (hr0 : Kd.C (Kd.int .u8) w A0 l0.length l0) (hc0 : l0.length ≤ c0) (h : slices_Clone_byte_byte.f l0 = some r) :
    Calls Tryd.prog 57 #[.slice A0 l0.length c0] w fun e w' => ∃ v0_ : Value, e = .returned (v0_) ∧ Kd.R (Kd.int .u8) 5 w' w.heap.size (fun _ => True) v0_ r ∧ Below w.heap.size w w' := by
  have H : (if l0.length < 140737488355328 then some l0 else none) = some r := h
  clear h
  have HR0 := Aside0.mk hr0
  clear hr0
  by_cases c2 : l0.length < 140737488355328
  · rw [if_pos c2] at H
    obtain rfl := Option.some.inj H
    cases A0 with
    | none =>
      have hn : l0 = [] := by
        obtain ⟨h1, h2, h3⟩ := HR0.out
        by_cases e : l0.length = 0
        · exact List.length_eq_zero_iff.1 e
        · obtain ⟨ad, ha, _⟩ := h3 (by omega)
          cases ha
      subst hn
      clear HR0 c2 H hc0
      have hq := fun (W : World) (n c : Nat) => Lib.run_eql_slice_nil (P := Tryd.prog) W 41 5 none n c 0 0 Tryd.underlying41
      go_enter Tryd.func57, Tryd.ntmps57
      go_wp2
      go_ret
      exact ⟨_, rfl, Kd.R_nil _ _ _ _ _, Below.refl _ _⟩
    | some a =>
      have LM := Aside0.mk c2
      have hq := fun (W : World) (n c : Nat) => Lib.run_eql_slice_nil (P := Tryd.prog) W 41 5 (some a) n c 0 0 Tryd.underlying41
      clear c2 H
      have h0 : Kd.R (Kd.int .u8) 5 (w.alloc (.cells #[] 5)) w.heap.size (fun _ => True) (.slice (some ⟨w.heap.size, 0, none⟩) 0 0) ([] : List Int) := Kd.R_of_own (h1 := fun _ => rfl) (ok := fun _ => True) (own_lit w w.heap.size 5 .u8 [] (Nat.le_refl _) (by simp)) (fun _ _ => trivial)
      have HO := Aside0.mk h0
      clear h0
      go_enter Tryd.func57, Tryd.ntmps57
      go_wp2_with (first | ((with_reducible refine gate_builtin (b := .append) (xs := #[.tmp 5, .tmp 6]) rfl ?_); at_builtin; refine Kd.R_append_rows (Kd.int .u8) (w0 := w) w.heap.size rfl (.tmp 5) (.tmp 6) 41 5 (.int .u8 0) 1 rfl Tryd.underlying41 info5 rfl (by decide) (by omega) (.slice (some ⟨w.heap.size, 0, none⟩) 0 0) ([] : List Int) l0 _ _ _ (fun _ => True) (fun _ => False) rfl rfl ?aO ?aR (fun _ _ h => h) (fun _ h => h.elim) ?aF ?aB ?aS ?aL ?_; (case aR => exact Kd.C_alloc HR0.out _); (case aB => exact below_alloc (Below.refl _ _) _); (case aF => exact (fun _ _ => trivial)); (case aO => exact HO.out); (case aS => exact below_size (below_alloc (Below.refl _ _) _)); (case aL => have := LM.out; simp; omega); intro v1 w1 ho hb hg hat; have HB := Aside0.mk hb; have HO1 := Aside0.mk ho; clear ho hb hg hat))
      go_ret
      exact ⟨_, rfl, by have := HO1.out; simpa using this, HB.out⟩
  · rw [if_neg c2] at H
    exact absurd H (by simp)

/-! ### strings_Split: function 73 -/
/-- The parts of a text between signs: the next part so far, and what is ahead. -/
def splitGo (c : UInt8) : List UInt8 → List UInt8 → List (List UInt8)
  | cur, [] => [cur.reverse]
  | cur, b :: l => if b = c then cur.reverse :: splitGo c [] l else splitGo c (b :: cur) l
def splitL (c : UInt8) (l : List UInt8) : List (List UInt8) := splitGo c [] l
def strings_Split.f (a0 : ByteArray) (a1 : ByteArray) : Option (List ByteArray) := if a1.size = 1 then (if a0.size < 4294967281 then some (Lib.splitB a1 0 (Lib.countB a0 a1) a0) else none) else none
theorem strings_Split.calls (a0 : ByteArray) (a1 : ByteArray) (r : List ByteArray) (w : World) (hG : G_ w) (h : strings_Split.f a0 a1 = some r) :
    Calls Tryd.prog 73 #[.string a0, .string a1] w fun e w' => ∃ v0_ : Value, e = .returned (v0_) ∧ Kd.R Kd.string 9 w' w.heap.size (fun _ => True) v0_ r ∧ Below w.heap.size w w' := by
  unfold strings_Split.f at h
  by_cases c1 : a1.size = 1
  · rw [if_pos c1] at h
    by_cases c2 : a0.size < 4294967281
    · rw [if_pos c2] at h
      obtain rfl := Option.some.inj h
      obtain ⟨m, hm⟩ := hG.1
      refine (Tryd.strings_Split a0 a1 m w c2 hm (by omega)).mono ?_
      rintro e w' ⟨rfl, rfl⟩
      have hlen : (Lib.splitB a1 0 (Lib.countB a0 a1) a0).length = Lib.countB a0 a1 + 1 := Lib.splitB_all a1 (by omega) 0 _ a0 rfl
      have hle := Lib.countB_le a1 (by omega) a0.size a0 (Nat.le_refl _)
      have ho := own_lit_of (enc := Value.string) w w.heap.size 9 (Lib.splitB a1 0 (Lib.countB a0 a1) a0) (Nat.le_refl _) (by omega)
      rw [hlen] at ho
      exact ⟨_, rfl, Kd.R_of_own (h1 := fun _ => rfl) (by rw [hlen]; exact ho) (fun _ _ => trivial), below_alloc (Below.refl _ _) _⟩
    · rw [if_neg c2] at h
      cases h
  · rw [if_neg c1] at h
    cases h

/-! ### cmp_isNaN_string: function 134 -/
def cmp_isNaN_string.f (a0 : ByteArray) : Option (Bool) := some (a0.toList != a0.toList)
set_option maxHeartbeats 8000000 in
set_option maxRecDepth 100000 in
theorem cmp_isNaN_string.calls (a0 : ByteArray) (r : Bool) (w : World) (h : cmp_isNaN_string.f a0 = some r) :
    Calls Tryd.prog 134 #[.string a0] w fun e w' => e = .returned (.bool r) ∧ Drawn0 w w' := by
  have H : (some (a0.toList != a0.toList)) = some r := h
  clear h
  obtain rfl := Option.some.inj H
  go_enter Tryd.func134, Tryd.ntmps134
  go_wp2
  go_ret
  exact ⟨by first | rfl | (simp; done) | (simp [*]; done), by repeat (first | exact Drawn0.refl _ | apply Drawn0.step)⟩

/-! ### cmp_Compare_string: function 102 -/
def cmp_Compare_string.f (a0 : ByteArray) (a1 : ByteArray) : Option (Int) := (cmp_isNaN_string.f a0).bind fun t107 => ((cmp_isNaN_string.f a1).bind fun t108 => (if t107 = true then (if t108 = true then (some 0) else (some (-1))) else (if t108 = true then (some 1) else (if (Op.bytesLess a0.toList a1.toList) = true then (some (-1)) else (if (Op.bytesLess a1.toList a0.toList) = true then (some 1) else (some 0))))))
set_option maxHeartbeats 8000000 in
set_option maxRecDepth 100000 in
theorem cmp_Compare_string.calls (a0 : ByteArray) (a1 : ByteArray) (r : Int) (w : World) (h : cmp_Compare_string.f a0 a1 = some r) :
    Calls Tryd.prog 102 #[.string a0, .string a1] w fun e w' => e = .returned (.int .i64 r) ∧ Drawn0 w w' := by
  have H : ((cmp_isNaN_string.f a0).bind fun t107 => ((cmp_isNaN_string.f a1).bind fun t108 => (if t107 = true then (if t108 = true then (some 0) else (some (-1))) else (if t108 = true then (some 1) else (if (Op.bytesLess a0.toList a1.toList) = true then (some (-1)) else (if (Op.bytesLess a1.toList a0.toList) = true then (some 1) else (some 0))))))) = some r := h
  clear h
  replace H := Option.bind_eq_some_iff.mp H
  obtain ⟨t107, A30, H⟩ := H
  replace H : ((cmp_isNaN_string.f a1).bind fun t108 => (if t107 = true then (if t108 = true then (some 0) else (some (-1))) else (if t108 = true then (some 1) else (if (Op.bytesLess a0.toList a1.toList) = true then (some (-1)) else (if (Op.bytesLess a1.toList a0.toList) = true then (some 1) else (some 0)))))) = some r := H
  have A3 := Aside0.mk A30
  clear A30
  replace H := Option.bind_eq_some_iff.mp H
  obtain ⟨t108, A40, H⟩ := H
  replace H : (if t107 = true then (if t108 = true then (some 0) else (some (-1))) else (if t108 = true then (some 1) else (if (Op.bytesLess a0.toList a1.toList) = true then (some (-1)) else (if (Op.bytesLess a1.toList a0.toList) = true then (some 1) else (some 0))))) = some r := H
  have A4 := Aside0.mk A40
  clear A40
  by_cases c5 : t107 = true
  · subst c5
    have H1 : (if t108 = true then (some 0) else (some (-1))) = some r := by rw [if_pos rfl] at H; exact H
    clear H
    have H := H1
    clear H1
    by_cases c6 : t108 = true
    · subst c6
      have H1 : (some 0) = some r := by rw [if_pos rfl] at H; exact H
      clear H
      have H := H1
      clear H1
      obtain rfl := Option.some.inj H
      go_enter Tryd.func102, Tryd.ntmps102
      go_wp2_with (first | ((with_reducible refine gate_callee (f := 134) rfl ?_); refine goesL_ (some 8) rfl rfl Tryd.func134 (by kernel_rfl) rfl #[.string a0] rfl (by (try simp only [List.map_toArray, List.map_cons, List.map_nil]); first | done | rfl | (simp only [List.length_drop, List.length_take]; rfl)) ?_; (with_reducible refine (cmp_isNaN_string.calls a0 true _ A3.out).mono ?_); rintro e w' ⟨rfl, ⟨nd, rfl⟩⟩; refine ⟨_, rfl, ?_⟩) | ((with_reducible refine gate_callee (f := 134) rfl ?_); refine goesL_ (some 10) rfl rfl Tryd.func134 (by kernel_rfl) rfl #[.string a1] rfl (by (try simp only [List.map_toArray, List.map_cons, List.map_nil]); first | done | rfl | (simp only [List.length_drop, List.length_take]; rfl)) ?_; (with_reducible refine (cmp_isNaN_string.calls a1 true _ A4.out).mono ?_); rintro e w' ⟨rfl, ⟨nd, rfl⟩⟩; refine ⟨_, rfl, ?_⟩))
      go_ret
      exact ⟨by first | rfl | (simp; done) | (simp [*]; done), by repeat (first | exact Drawn0.refl _ | apply Drawn0.step)⟩
    · replace c6 := Bool.eq_false_iff.mpr c6
      subst c6
      have H1 : (some (-1)) = some r := by rw [if_neg (show ¬ (false = true) by decide)] at H; exact H
      clear H
      have H := H1
      clear H1
      obtain rfl := Option.some.inj H
      go_enter Tryd.func102, Tryd.ntmps102
      go_wp2_with (first | ((with_reducible refine gate_callee (f := 134) rfl ?_); refine goesL_ (some 8) rfl rfl Tryd.func134 (by kernel_rfl) rfl #[.string a0] rfl (by (try simp only [List.map_toArray, List.map_cons, List.map_nil]); first | done | rfl | (simp only [List.length_drop, List.length_take]; rfl)) ?_; (with_reducible refine (cmp_isNaN_string.calls a0 true _ A3.out).mono ?_); rintro e w' ⟨rfl, ⟨nd, rfl⟩⟩; refine ⟨_, rfl, ?_⟩) | ((with_reducible refine gate_callee (f := 134) rfl ?_); refine goesL_ (some 10) rfl rfl Tryd.func134 (by kernel_rfl) rfl #[.string a1] rfl (by (try simp only [List.map_toArray, List.map_cons, List.map_nil]); first | done | rfl | (simp only [List.length_drop, List.length_take]; rfl)) ?_; (with_reducible refine (cmp_isNaN_string.calls a1 false _ A4.out).mono ?_); rintro e w' ⟨rfl, ⟨nd, rfl⟩⟩; refine ⟨_, rfl, ?_⟩))
      go_ret
      exact ⟨by first | rfl | (simp; done) | (simp [*]; done), by repeat (first | exact Drawn0.refl _ | apply Drawn0.step)⟩
  · replace c5 := Bool.eq_false_iff.mpr c5
    subst c5
    have H1 : (if t108 = true then (some 1) else (if (Op.bytesLess a0.toList a1.toList) = true then (some (-1)) else (if (Op.bytesLess a1.toList a0.toList) = true then (some 1) else (some 0)))) = some r := by rw [if_neg (show ¬ (false = true) by decide)] at H; exact H
    clear H
    have H := H1
    clear H1
    by_cases c7 : t108 = true
    · subst c7
      have H1 : (some 1) = some r := by rw [if_pos rfl] at H; exact H
      clear H
      have H := H1
      clear H1
      obtain rfl := Option.some.inj H
      go_enter Tryd.func102, Tryd.ntmps102
      go_wp2_with (first | ((with_reducible refine gate_callee (f := 134) rfl ?_); refine goesL_ (some 8) rfl rfl Tryd.func134 (by kernel_rfl) rfl #[.string a0] rfl (by (try simp only [List.map_toArray, List.map_cons, List.map_nil]); first | done | rfl | (simp only [List.length_drop, List.length_take]; rfl)) ?_; (with_reducible refine (cmp_isNaN_string.calls a0 false _ A3.out).mono ?_); rintro e w' ⟨rfl, ⟨nd, rfl⟩⟩; refine ⟨_, rfl, ?_⟩) | ((with_reducible refine gate_callee (f := 134) rfl ?_); refine goesL_ (some 10) rfl rfl Tryd.func134 (by kernel_rfl) rfl #[.string a1] rfl (by (try simp only [List.map_toArray, List.map_cons, List.map_nil]); first | done | rfl | (simp only [List.length_drop, List.length_take]; rfl)) ?_; (with_reducible refine (cmp_isNaN_string.calls a1 true _ A4.out).mono ?_); rintro e w' ⟨rfl, ⟨nd, rfl⟩⟩; refine ⟨_, rfl, ?_⟩))
      go_ret
      exact ⟨by first | rfl | (simp; done) | (simp [*]; done), by repeat (first | exact Drawn0.refl _ | apply Drawn0.step)⟩
    · replace c7 := Bool.eq_false_iff.mpr c7
      subst c7
      have H1 : (if (Op.bytesLess a0.toList a1.toList) = true then (some (-1)) else (if (Op.bytesLess a1.toList a0.toList) = true then (some 1) else (some 0))) = some r := by rw [if_neg (show ¬ (false = true) by decide)] at H; exact H
      clear H
      have H := H1
      clear H1
      by_cases c8 : (Op.bytesLess a0.toList a1.toList) = true
      · rw [if_pos c8] at H
        have c8b0 : (Op.bytesLess a0.toList a1.toList) = true := c8
        clear c8
        obtain rfl := Option.some.inj H
        go_enter Tryd.func102, Tryd.ntmps102
        go_wp2_with (first | ((with_reducible refine gate_callee (f := 134) rfl ?_); refine goesL_ (some 8) rfl rfl Tryd.func134 (by kernel_rfl) rfl #[.string a0] rfl (by (try simp only [List.map_toArray, List.map_cons, List.map_nil]); first | done | rfl | (simp only [List.length_drop, List.length_take]; rfl)) ?_; (with_reducible refine (cmp_isNaN_string.calls a0 false _ A3.out).mono ?_); rintro e w' ⟨rfl, ⟨nd, rfl⟩⟩; refine ⟨_, rfl, ?_⟩) | ((with_reducible refine gate_callee (f := 134) rfl ?_); refine goesL_ (some 10) rfl rfl Tryd.func134 (by kernel_rfl) rfl #[.string a1] rfl (by (try simp only [List.map_toArray, List.map_cons, List.map_nil]); first | done | rfl | (simp only [List.length_drop, List.length_take]; rfl)) ?_; (with_reducible refine (cmp_isNaN_string.calls a1 false _ A4.out).mono ?_); rintro e w' ⟨rfl, ⟨nd, rfl⟩⟩; refine ⟨_, rfl, ?_⟩))
        go_ret
        exact ⟨by first | rfl | (simp; done) | (simp [*]; done), by repeat (first | exact Drawn0.refl _ | apply Drawn0.step)⟩
      · rw [if_neg c8] at H
        have c8b0 : (Op.bytesLess a0.toList a1.toList) = false := by simpa using c8
        clear c8
        by_cases c9 : (Op.bytesLess a1.toList a0.toList) = true
        · rw [if_pos c9] at H
          have c9b0 : (Op.bytesLess a1.toList a0.toList) = true := c9
          have c9b0g : (a0.toList == a1.toList) = false := by have h_ := str_swap a0.toList a1.toList; rw [c8b0, c9b0] at h_; simpa using h_
          clear c9
          obtain rfl := Option.some.inj H
          go_enter Tryd.func102, Tryd.ntmps102
          go_wp2_with (first | ((with_reducible refine gate_callee (f := 134) rfl ?_); refine goesL_ (some 8) rfl rfl Tryd.func134 (by kernel_rfl) rfl #[.string a0] rfl (by (try simp only [List.map_toArray, List.map_cons, List.map_nil]); first | done | rfl | (simp only [List.length_drop, List.length_take]; rfl)) ?_; (with_reducible refine (cmp_isNaN_string.calls a0 false _ A3.out).mono ?_); rintro e w' ⟨rfl, ⟨nd, rfl⟩⟩; refine ⟨_, rfl, ?_⟩) | ((with_reducible refine gate_callee (f := 134) rfl ?_); refine goesL_ (some 10) rfl rfl Tryd.func134 (by kernel_rfl) rfl #[.string a1] rfl (by (try simp only [List.map_toArray, List.map_cons, List.map_nil]); first | done | rfl | (simp only [List.length_drop, List.length_take]; rfl)) ?_; (with_reducible refine (cmp_isNaN_string.calls a1 false _ A4.out).mono ?_); rintro e w' ⟨rfl, ⟨nd, rfl⟩⟩; refine ⟨_, rfl, ?_⟩))
          go_ret
          exact ⟨by first | rfl | (simp; done) | (simp [*]; done), by repeat (first | exact Drawn0.refl _ | apply Drawn0.step)⟩
        · rw [if_neg c9] at H
          have c9b0 : (Op.bytesLess a1.toList a0.toList) = false := by simpa using c9
          have c9b0g : (a0.toList == a1.toList) = true := by have h_ := str_swap a0.toList a1.toList; rw [c8b0, c9b0] at h_; simpa using h_
          clear c9
          obtain rfl := Option.some.inj H
          go_enter Tryd.func102, Tryd.ntmps102
          go_wp2_with (first | ((with_reducible refine gate_callee (f := 134) rfl ?_); refine goesL_ (some 8) rfl rfl Tryd.func134 (by kernel_rfl) rfl #[.string a0] rfl (by (try simp only [List.map_toArray, List.map_cons, List.map_nil]); first | done | rfl | (simp only [List.length_drop, List.length_take]; rfl)) ?_; (with_reducible refine (cmp_isNaN_string.calls a0 false _ A3.out).mono ?_); rintro e w' ⟨rfl, ⟨nd, rfl⟩⟩; refine ⟨_, rfl, ?_⟩) | ((with_reducible refine gate_callee (f := 134) rfl ?_); refine goesL_ (some 10) rfl rfl Tryd.func134 (by kernel_rfl) rfl #[.string a1] rfl (by (try simp only [List.map_toArray, List.map_cons, List.map_nil]); first | done | rfl | (simp only [List.length_drop, List.length_take]; rfl)) ?_; (with_reducible refine (cmp_isNaN_string.calls a1 false _ A4.out).mono ?_); rintro e w' ⟨rfl, ⟨nd, rfl⟩⟩; refine ⟨_, rfl, ?_⟩))
          go_ret
          exact ⟨by first | rfl | (simp; done) | (simp [*]; done), by repeat (first | exact Drawn0.refl _ | apply Drawn0.step)⟩

/-! ### slices_Compare_string_string: function 69 -/
def slices_Compare_string_string.l0 : Nat → List ByteArray → List ByteArray → List ByteArray → Int → Int → Option (Int)
  | 0, _, _, _, _, _ => none
  | k + 1, x0, x1, x9, x10, x11 => if x11 < x10 then (if 0 ≤ x11 then (if x11 < (x9.length : Int) then (if x11 ≥ (x1.length : Int) then (some 1) else (if x11 < (x1.length : Int) then ((cmp_Compare_string.f (rdOf ByteArray.empty x9 x11) (rdOf ByteArray.empty x1 x11)).bind fun t111 => (if t111 = 0 then (slices_Compare_string_string.l0 k x0 x1 x9 x10 (wrap64 (x11 + 1))) else (some t111))) else (none))) else (none)) else (none)) else (if (x0.length : Int) < (x1.length : Int) then (some (-1)) else (some 0))
def slices_Compare_string_string.f (k : Nat) (l0 : List ByteArray) (l1 : List ByteArray) : Option (Int) := slices_Compare_string_string.l0 k l0 l1 l0 (l0.length : Int) 0
theorem slices_Compare_string_string.mono_l : ∀ k, (∀ y0 y1 y2 y3 y4, LeO (slices_Compare_string_string.l0 k y0 y1 y2 y3 y4) (slices_Compare_string_string.l0 (k + 1) y0 y1 y2 y3 y4))
  | 0 => fun _ _ _ _ _ r h => by simp [slices_Compare_string_string.l0] at h
  | k + 1 => by
    have ih0 := slices_Compare_string_string.mono_l k
    · intro y0 y1 y2 y3 y4
      unfold slices_Compare_string_string.l0
      repeat' first
      | (with_reducible exact ih0 _ _ _ _ _)
      | (with_reducible exact LeO.refl _)
      | (with_reducible exact LeO.none _)
      | (with_reducible refine LeO.ite ?_ ?_)
      | (with_reducible refine LeO.bind ?_ (fun _ => ?_))
      | exact ih0 _ _ _ _ _
      | exact LeO.none _
      | refine LeO.ite ?_ ?_
      | refine LeO.bind ?_ (fun _ => ?_)
theorem slices_Compare_string_string.mono : ∀ a0 a1 k, LeO (slices_Compare_string_string.f k a0 a1) (slices_Compare_string_string.f (k + 1) a0 a1) := by
  intro a0 a1 k
  have ih0 := slices_Compare_string_string.mono_l k
  unfold slices_Compare_string_string.f
  repeat' first
      | (with_reducible exact ih0 _ _ _ _ _)
      | (with_reducible exact LeO.refl _)
      | (with_reducible exact LeO.none _)
      | (with_reducible refine LeO.ite ?_ ?_)
      | (with_reducible refine LeO.bind ?_ (fun _ => ?_))
      | exact ih0 _ _ _ _ _
      | exact LeO.none _
      | refine LeO.ite ?_ ?_
      | refine LeO.bind ?_ (fun _ => ?_)
set_option maxHeartbeats 8000000 in
set_option maxRecDepth 100000 in
theorem slices_Compare_string_string.calls (k : Nat) (A0 : Option Addr) (c0 : Nat) (l0 : List ByteArray) (A1 : Option Addr) (c1 : Nat) (l1 : List ByteArray) (r : Int) (w : World) (hr0 : Kd.C Kd.string w A0 l0.length l0) (hc0 : l0.length ≤ c0) (hr1 : Kd.C Kd.string w A1 l1.length l1) (hc1 : l1.length ≤ c1) (h : slices_Compare_string_string.f k l0 l1 = some r) :
    Calls Tryd.prog 69 #[.slice A0 l0.length c0, .slice A1 l1.length c1] w fun e w' => e = .returned (.int .i64 r) ∧ Drawn0 w w' := by
  have HR0 := Aside0.mk hr0
  have HC0 := Aside0.mk hc0
  clear hr0 hc0
  have HR1 := Aside0.mk hr1
  have HC1 := Aside0.mk hc1
  clear hr1 hc1
  have H : (slices_Compare_string_string.l0 k l0 l1 l0 (l0.length : Int) 0) = some r := h
  clear h
  have H' := Aside0.mk H
  clear H
  go_enter Tryd.func69, Tryd.ntmps69
  go_wp2
  go_loopg [11] k (fun kq v11 w' => ∃ (x11_1 : Int), v11 = .int .i64 x11_1 ∧ Aside0 (slices_Compare_string_string.l0 kq l0 l1 l0 (l0.length : Int) x11_1 = some r) ∧ Aside0 (kq ≤ k) ∧ Drawn0 w w')
  case atStart => exact ⟨(0), (by first | rfl | (simp; done) | (simp [*]; done)), H', ⟨Nat.le_refl _⟩, by repeat (first | exact Drawn0.refl _ | apply Drawn0.step)⟩
  case round =>
    clear H'
    try clear c1
    try clear p2
    obtain ⟨x11_1, rfl, HA, HK1, ⟨m1, rfl⟩⟩ := hrel
    cases gk with
    | zero => exact absurd HA.out (by simp [slices_Compare_string_string.l0])
    | succ k1 =>
      have H := HA.out
      clear HA
      simp only [slices_Compare_string_string.l0] at H
      by_cases c3 : x11_1 < (l0.length : Int)
      · rw [if_pos c3] at H
        have c3b0 : decide (x11_1 < (l0.length : Int)) = true := decide_eq_true c3
        clear c3
        by_cases c4 : 0 ≤ x11_1
        · rw [if_pos c4] at H
          have c4b0 : decide (0 ≤ x11_1) = true := decide_eq_true c4
          clear c4
          by_cases c5 : x11_1 < (l0.length : Int)
          · rw [if_pos c5] at H
            have c5b0 : decide (x11_1 < (l0.length : Int)) = true := decide_eq_true c5
            clear c5
            by_cases c6 : x11_1 ≥ (l1.length : Int)
            · rw [if_pos c6] at H
              have c6b0 : decide ((l1.length : Int) ≤ x11_1) = true := decide_eq_true c6
              clear c6
              obtain rfl := Option.some.inj H
              have p109 : 0 ≤ (x11_1 : Int) := of_decide_eq_true (by first | (with_reducible assumption) | assumption)
              have q109 : x11_1 < (l0.length : Int) := of_decide_eq_true (by first | (with_reducible assumption) | assumption)
              obtain ⟨ad109, e109, hx109_0⟩ := Kd.at_string HR0.out x11_1 p109 q109
              cases e109
              replace p109 := eq_true p109
              replace q109 := eq_true q109
              go_wp2
              go_ret
              exact ⟨by first | rfl | (simp; done) | (simp [*]; done), by repeat (first | exact Drawn0.refl _ | apply Drawn0.step)⟩
            · rw [if_neg c6] at H
              have c6b0 : decide ((l1.length : Int) ≤ x11_1) = false := decide_eq_false c6
              clear c6
              by_cases c7 : x11_1 < (l1.length : Int)
              · rw [if_pos c7] at H
                have c7b0 : decide (x11_1 < (l1.length : Int)) = true := decide_eq_true c7
                clear c7
                replace H := Option.bind_eq_some_iff.mp H
                obtain ⟨t111, A80, H⟩ := H
                replace H : (if t111 = 0 then (slices_Compare_string_string.l0 k1 l0 l1 l0 (l0.length : Int) (wrap64 (x11_1 + 1))) else (some t111)) = some r := H
                have A8 := Aside0.mk A80
                clear A80
                by_cases c9 : t111 = 0
                · rw [if_pos c9] at H
                  have c9b0 : (t111 == 0) = true := beq_iff_eq.mpr c9
                  have c9b1 : (t111 != 0) = false := bne_eq_false_iff_eq.mpr c9
                  clear c9
                  have H' := Aside0.mk H
                  clear H
                  have p109 : 0 ≤ (x11_1 : Int) := of_decide_eq_true (by first | (with_reducible assumption) | assumption)
                  have q109 : x11_1 < (l0.length : Int) := of_decide_eq_true (by first | (with_reducible assumption) | assumption)
                  obtain ⟨ad109, e109, hx109_0⟩ := Kd.at_string HR0.out x11_1 p109 q109
                  cases e109
                  replace p109 := eq_true p109
                  replace q109 := eq_true q109
                  have p110 : 0 ≤ (x11_1 : Int) := of_decide_eq_true (by first | (with_reducible assumption) | assumption)
                  have q110 : x11_1 < (l1.length : Int) := of_decide_eq_true (by first | (with_reducible assumption) | assumption)
                  obtain ⟨ad110, e110, hx110_0⟩ := Kd.at_string HR1.out x11_1 p110 q110
                  cases e110
                  replace p110 := eq_true p110
                  replace q110 := eq_true q110
                  go_wp2_with (first | ((with_reducible refine gate_callee (f := 102) rfl ?_); refine goesL_ (some 26) rfl rfl Tryd.func102 (by kernel_rfl) rfl #[.string (rdOf ByteArray.empty l0 x11_1), .string (rdOf ByteArray.empty l1 x11_1)] rfl (by (try simp only [List.map_toArray, List.map_cons, List.map_nil]); first | done | rfl | (simp only [List.length_drop, List.length_take]; rfl)) ?_; (with_reducible refine (cmp_Compare_string.calls (rdOf ByteArray.empty l0 x11_1) (rdOf ByteArray.empty l1 x11_1) t111 _ A8.out).mono ?_); rintro e w' ⟨rfl, ⟨nd, rfl⟩⟩; refine ⟨_, rfl, ?_⟩))
                  go_roundg k1
                  case measure => have := HK1.out; omega
                  case rel => exact ⟨(wrap64 (x11_1 + 1)), (by first | rfl | (simp; done) | (simp [*]; done)), H', ⟨by have := HK1.out; omega⟩, by repeat (first | exact Drawn0.refl _ | apply Drawn0.step)⟩
                · rw [if_neg c9] at H
                  have c9b0 : (t111 == 0) = false := beq_eq_false_iff_ne.mpr c9
                  have c9b1 : (t111 != 0) = true := bne_iff_ne.mpr c9
                  obtain rfl := Option.some.inj H
                  have p109 : 0 ≤ (x11_1 : Int) := of_decide_eq_true (by first | (with_reducible assumption) | assumption)
                  have q109 : x11_1 < (l0.length : Int) := of_decide_eq_true (by first | (with_reducible assumption) | assumption)
                  obtain ⟨ad109, e109, hx109_0⟩ := Kd.at_string HR0.out x11_1 p109 q109
                  cases e109
                  replace p109 := eq_true p109
                  replace q109 := eq_true q109
                  have p110 : 0 ≤ (x11_1 : Int) := of_decide_eq_true (by first | (with_reducible assumption) | assumption)
                  have q110 : x11_1 < (l1.length : Int) := of_decide_eq_true (by first | (with_reducible assumption) | assumption)
                  obtain ⟨ad110, e110, hx110_0⟩ := Kd.at_string HR1.out x11_1 p110 q110
                  cases e110
                  replace p110 := eq_true p110
                  replace q110 := eq_true q110
                  go_wp2_with (first | ((with_reducible refine gate_callee (f := 102) rfl ?_); refine goesL_ (some 26) rfl rfl Tryd.func102 (by kernel_rfl) rfl #[.string (rdOf ByteArray.empty l0 x11_1), .string (rdOf ByteArray.empty l1 x11_1)] rfl (by (try simp only [List.map_toArray, List.map_cons, List.map_nil]); first | done | rfl | (simp only [List.length_drop, List.length_take]; rfl)) ?_; (with_reducible refine (cmp_Compare_string.calls (rdOf ByteArray.empty l0 x11_1) (rdOf ByteArray.empty l1 x11_1) t111 _ A8.out).mono ?_); rintro e w' ⟨rfl, ⟨nd, rfl⟩⟩; refine ⟨_, rfl, ?_⟩))
                  go_ret
                  exact ⟨by first | rfl | (simp; done) | (simp [*]; done), by repeat (first | exact Drawn0.refl _ | apply Drawn0.step)⟩
              · rw [if_neg c7] at H
                exact absurd H (by simp)
          · rw [if_neg c5] at H
            exact absurd H (by simp)
        · rw [if_neg c4] at H
          exact absurd H (by simp)
      · rw [if_neg c3] at H
        have c3b0 : decide (x11_1 < (l0.length : Int)) = false := decide_eq_false c3
        clear c3
        by_cases c10 : (l0.length : Int) < (l1.length : Int)
        · rw [if_pos c10] at H
          have c10b0 : decide ((l0.length : Int) < (l1.length : Int)) = true := decide_eq_true c10
          have c10b1 : decide (l0.length < l1.length) = true := decide_eq_true (Int.ofNat_lt.mp c10)
          clear c10
          obtain rfl := Option.some.inj H
          go_wp2
          go_ret
          exact ⟨by first | rfl | (simp; done) | (simp [*]; done), by repeat (first | exact Drawn0.refl _ | apply Drawn0.step)⟩
        · rw [if_neg c10] at H
          have c10b0 : decide ((l0.length : Int) < (l1.length : Int)) = false := decide_eq_false c10
          have c10b1 : decide (l0.length < l1.length) = false := decide_eq_false (fun h => c10 (Int.ofNat_lt.mpr h))
          clear c10
          obtain rfl := Option.some.inj H
          go_wp2
          go_ret
          exact ⟨by first | rfl | (simp; done) | (simp [*]; done), by repeat (first | exact Drawn0.refl _ | apply Drawn0.step)⟩

end Go.Proofs.YthonjghpblkpgaaDoor.PGlobJoins
