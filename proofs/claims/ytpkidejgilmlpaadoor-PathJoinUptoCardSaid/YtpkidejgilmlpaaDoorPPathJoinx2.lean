-- Written by a program of this session for this claim (wip/myprint.py over the kit's print).
import Derived.Test.YtpkidejgilmlpaaDoorPPathJoinx0
import Derived.Test.YtpkidejgilmlpaaDoorPPathJoinx1
namespace Go.Proofs.YtpkidejgilmlpaaDoor.PPathJoin
open Go.RowKit Go.Proofs.YtpkidejgilmlpaaDoorW.PrintWords Go.Proofs.YtpkidejgilmlpaaDoorW.PrintLast Go.Proofs.YtpkidejgilmlpaaDoorW.PrintMore
attribute [local go_sem] max2_int min2_int max_two min_two max_three min_three max_four min_four   -- for this text's walks alone
set_option linter.unusedVariables false
set_option linter.unusedSimpArgs false

/-! ### creelkeep_PathJoin: function 6 -/
def creelkeep_PathJoin.j0 : Nat → ByteArray → List ByteArray → ByteArray → ByteArray → Bool → Option (Bool)
  | 0, _, _, _, _, _ => none
  | k + 1, x0, x3, x4, x5, x18 => if x18 = true then (some false) else ((strings_Contains.f x0 (⟨#[47]⟩ : ByteArray)).bind fun t119 => (if t119 = true then (if x4.size + 1 ≤ 9223372036854775807 then (if (x4 ++ (⟨#[47]⟩ : ByteArray)).size + x5.size ≤ 9223372036854775807 then (if ((x4 ++ (⟨#[47]⟩ : ByteArray)) ++ x5).toList = x0.toList then ((strings_Join.f x3 (⟨#[47]⟩ : ByteArray)).bind fun t120 => (if t120.toList = x0.toList then (if x0.toList = ([] : List UInt8) then (some true) else (if 0 ≤ (wrap64 ((x3.length : Int) - 1)) then (if (wrap64 ((x3.length : Int) - 1)) < (x3.length : Int) then (some ((rdOf ByteArray.empty x3 (wrap64 ((x3.length : Int) - 1))).toList == x5.toList)) else (none)) else (none))) else (some false))) else (some false)) else (none)) else (none)) else (if x5.toList = x0.toList then ((strings_Join.f x3 (⟨#[47]⟩ : ByteArray)).bind fun t122 => (if t122.toList = x0.toList then (if x0.toList = ([] : List UInt8) then (some true) else (if 0 ≤ (wrap64 ((x3.length : Int) - 1)) then (if (wrap64 ((x3.length : Int) - 1)) < (x3.length : Int) then (some ((rdOf ByteArray.empty x3 (wrap64 ((x3.length : Int) - 1))).toList == x5.toList)) else (none)) else (none))) else (some false))) else (some false))))
def creelkeep_PathJoin.f (k : Nat) (a0 : ByteArray) : Option (Bool) := (path_Parts.f a0).bind fun t112 => ((path_Up.f k a0).bind fun t115 => ((path_Base.f k a0).bind fun t116 => ((path_Check.f k (⟨#[97, 47, 98]⟩ : ByteArray)).bind fun t117 => (if t117 = 0 then ((path_Up.f k (⟨#[97, 47, 98]⟩ : ByteArray)).bind fun t118 => (creelkeep_PathJoin.j0 k a0 t112 t115 t116 (t118.toList != ([97] : List UInt8)))) else (creelkeep_PathJoin.j0 k a0 t112 t115 t116 true)))))
theorem creelkeep_PathJoin.mono_l : ∀ k, (∀ y0 y1 y2 y3 y4, LeO (creelkeep_PathJoin.j0 k y0 y1 y2 y3 y4) (creelkeep_PathJoin.j0 (k + 1) y0 y1 y2 y3 y4))
  | 0 => fun _ _ _ _ _ r h => by simp [creelkeep_PathJoin.j0] at h
  | k + 1 => by
    have ih0 := creelkeep_PathJoin.mono_l k
    · intro y0 y1 y2 y3 y4
      unfold creelkeep_PathJoin.j0
      repeat' first
      | (with_reducible exact ih0 _ _ _ _ _)
      | (with_reducible exact path_Base.mono _ _)
      | (with_reducible exact path_Check.mono _ _)
      | (with_reducible exact path_Up.mono _ _)
      | (with_reducible exact LeO.refl _)
      | (with_reducible exact LeO.none _)
      | (with_reducible refine LeO.ite ?_ ?_)
      | (with_reducible refine LeO.bind ?_ (fun _ => ?_))
      | exact ih0 _ _ _ _ _
      | exact path_Base.mono _ _
      | exact path_Check.mono _ _
      | exact path_Up.mono _ _
      | exact LeO.none _
      | refine LeO.ite ?_ ?_
      | refine LeO.bind ?_ (fun _ => ?_)
theorem creelkeep_PathJoin.mono : ∀ a0 k, LeO (creelkeep_PathJoin.f k a0) (creelkeep_PathJoin.f (k + 1) a0) := by
  intro a0 k
  have ih0 := creelkeep_PathJoin.mono_l k
  unfold creelkeep_PathJoin.f
  repeat' first
      | (with_reducible exact ih0 _ _ _ _ _)
      | (with_reducible exact path_Base.mono _ _)
      | (with_reducible exact path_Check.mono _ _)
      | (with_reducible exact path_Up.mono _ _)
      | (with_reducible exact LeO.refl _)
      | (with_reducible exact LeO.none _)
      | (with_reducible refine LeO.ite ?_ ?_)
      | (with_reducible refine LeO.bind ?_ (fun _ => ?_))
      | exact ih0 _ _ _ _ _
      | exact path_Base.mono _ _
      | exact path_Check.mono _ _
      | exact path_Up.mono _ _
      | exact LeO.none _
      | refine LeO.ite ?_ ?_
      | refine LeO.bind ?_ (fun _ => ?_)
set_option maxHeartbeats 8000000 in
set_option maxRecDepth 100000 in
theorem creelkeep_PathJoin.calls (k : Nat) (a0 : ByteArray) (r : Bool) (w : World) (hG0_ : G_ w) (h : creelkeep_PathJoin.f k a0 = some r) :
    Calls Tryd.prog 6 #[.string a0] w fun e w' => e = .returned (.bool r) ∧ Below w.heap.size w w' := by
  have hG_ := Aside0.mk hG0_
  clear hG0_
  have HB := Aside0.mk (Below.refl w.heap.size w)
  have H : ((path_Parts.f a0).bind fun t112 => ((path_Up.f k a0).bind fun t115 => ((path_Base.f k a0).bind fun t116 => ((path_Check.f k (⟨#[97, 47, 98]⟩ : ByteArray)).bind fun t117 => (if t117 = 0 then ((path_Up.f k (⟨#[97, 47, 98]⟩ : ByteArray)).bind fun t118 => (creelkeep_PathJoin.j0 k a0 t112 t115 t116 (t118.toList != ([97] : List UInt8)))) else (creelkeep_PathJoin.j0 k a0 t112 t115 t116 true)))))) = some r := h
  clear h
  replace H := Option.bind_eq_some_iff.mp H
  obtain ⟨t112, A20, H⟩ := H
  replace H : ((path_Up.f k a0).bind fun t115 => ((path_Base.f k a0).bind fun t116 => ((path_Check.f k (⟨#[97, 47, 98]⟩ : ByteArray)).bind fun t117 => (if t117 = 0 then ((path_Up.f k (⟨#[97, 47, 98]⟩ : ByteArray)).bind fun t118 => (creelkeep_PathJoin.j0 k a0 t112 t115 t116 (t118.toList != ([97] : List UInt8)))) else (creelkeep_PathJoin.j0 k a0 t112 t115 t116 true))))) = some r := H
  have A2 := Aside0.mk A20
  clear A20
  replace H := Option.bind_eq_some_iff.mp H
  obtain ⟨t115, A30, H⟩ := H
  replace H : ((path_Base.f k a0).bind fun t116 => ((path_Check.f k (⟨#[97, 47, 98]⟩ : ByteArray)).bind fun t117 => (if t117 = 0 then ((path_Up.f k (⟨#[97, 47, 98]⟩ : ByteArray)).bind fun t118 => (creelkeep_PathJoin.j0 k a0 t112 t115 t116 (t118.toList != ([97] : List UInt8)))) else (creelkeep_PathJoin.j0 k a0 t112 t115 t116 true)))) = some r := H
  have A3 := Aside0.mk A30
  clear A30
  replace H := Option.bind_eq_some_iff.mp H
  obtain ⟨t116, A40, H⟩ := H
  replace H : ((path_Check.f k (⟨#[97, 47, 98]⟩ : ByteArray)).bind fun t117 => (if t117 = 0 then ((path_Up.f k (⟨#[97, 47, 98]⟩ : ByteArray)).bind fun t118 => (creelkeep_PathJoin.j0 k a0 t112 t115 t116 (t118.toList != ([97] : List UInt8)))) else (creelkeep_PathJoin.j0 k a0 t112 t115 t116 true))) = some r := H
  have A4 := Aside0.mk A40
  clear A40
  have HC5 := Aside0.mk H
  clear H
  go_enter Tryd.func6, Tryd.ntmps6
  go_upto_region 3 with (first | ((with_reducible refine gate_callee (f := 22) rfl ?_); refine goesL_ (some 8) rfl rfl Tryd.func22 (by kernel_rfl) rfl #[.string a0] rfl (by (try simp only [List.map_toArray, List.map_cons, List.map_nil]); first | done | rfl | (simp only [List.length_drop, List.length_take]; rfl)) ?_; (with_reducible refine (path_Parts.calls a0 t112 _ ?side1 A2.out).mono ?_); (case side1 => exact G_below hG_.out (by repeat (first | (with_reducible first | exact HB.out | apply below_alloc | apply pw_below_drewN | apply below_drew1) | exact HB.out))); rintro e w6 ⟨v113, rfl, ho0, hb⟩; refine ⟨_, rfl, ?_⟩; have n0_ := Aside0.mk (Kd.R_lower ho0 (below_size (by repeat (first | (with_reducible first | exact HB.out | apply below_alloc | apply pw_below_drewN | apply below_drew1) | exact HB.out)))); have n1_ := Aside0.mk (below_step (by repeat (first | (with_reducible first | exact HB.out | apply below_alloc | apply pw_below_drewN | apply below_drew1) | exact HB.out)) hb); clear HB; have HO114 := n0_; have HB := n1_; clear n0_ n1_; (try clear hb); (try clear hb2); (try clear hk); (try clear hi); (try clear ho0)) | ((with_reducible refine gate_callee (f := 23) rfl ?_); refine goesL_ (some 10) rfl rfl Tryd.func23 (by kernel_rfl) rfl #[.string a0] rfl (by (try simp only [List.map_toArray, List.map_cons, List.map_nil]); first | done | rfl | (simp only [List.length_drop, List.length_take]; rfl)) ?_; (with_reducible refine (path_Up.calls k a0 t115 _ A3.out).mono ?_); rintro e w' ⟨rfl, ⟨nd, rfl⟩⟩; refine ⟨_, rfl, ?_⟩) | ((with_reducible refine gate_callee (f := 24) rfl ?_); refine goesL_ (some 12) rfl rfl Tryd.func24 (by kernel_rfl) rfl #[.string a0] rfl (by (try simp only [List.map_toArray, List.map_cons, List.map_nil]); first | done | rfl | (simp only [List.length_drop, List.length_take]; rfl)) ?_; (with_reducible refine (path_Base.calls k a0 t116 _ A4.out).mono ?_); rintro e w' ⟨rfl, ⟨nd, rfl⟩⟩; refine ⟨_, rfl, ?_⟩))
  (try simp only [Act.put, List.setIfInBounds_toArray, List.set_cons_zero, List.set_cons_succ])
  go_cut [18] (fun v18 wc => ∃ (kq : Nat) (x18_4 : Bool), v18 = .bool x18_4 ∧ Aside0 (creelkeep_PathJoin.j0 kq a0 t112 t115 t116 x18_4 = some r) ∧ Aside0 (kq ≤ k) ∧ Aside0 (Kd.R Kd.string 9 wc w.heap.size (fun _ => True) v113 t112) ∧ Aside0 (Below w.heap.size w wc))
  case first =>
    have H := HC5.out
    clear HC5
    replace H := Option.bind_eq_some_iff.mp H
    obtain ⟨t117, A70, H⟩ := H
    replace H : (if t117 = 0 then ((path_Up.f k (⟨#[97, 47, 98]⟩ : ByteArray)).bind fun t118 => (creelkeep_PathJoin.j0 k a0 t112 t115 t116 (t118.toList != ([97] : List UInt8)))) else (creelkeep_PathJoin.j0 k a0 t112 t115 t116 true)) = some r := H
    have A7 := Aside0.mk A70
    clear A70
    by_cases c8 : t117 = 0
    · rw [if_pos c8] at H
      have c8b0 : (t117 == 0) = true := beq_iff_eq.mpr c8
      have c8b1 : (t117 != 0) = false := bne_eq_false_iff_eq.mpr c8
      clear c8
      (first | rw [c8b0] | (simp only [i64_w, i32_w]; rw [c8b0]) | skip)
      replace H := Option.bind_eq_some_iff.mp H
      obtain ⟨t118, A90, H⟩ := H
      replace H : (creelkeep_PathJoin.j0 k a0 t112 t115 t116 (t118.toList != ([97] : List UInt8))) = some r := H
      have A9 := Aside0.mk A90
      clear A90
      have H' := Aside0.mk H
      clear H
      go_wp2_with (first | ((with_reducible refine gate_callee (f := 25) rfl ?_); refine goesL_ (some 13) rfl rfl Tryd.func25 (by kernel_rfl) rfl #[.string (⟨#[97, 47, 98]⟩ : ByteArray)] rfl (by (try simp only [List.map_toArray, List.map_cons, List.map_nil]); first | done | rfl | (simp only [List.length_drop, List.length_take]; rfl)) ?_; (with_reducible refine (path_Check.calls k (⟨#[97, 47, 98]⟩ : ByteArray) t117 _ ?side1 A7.out).mono ?_); (case side1 => exact G_below hG_.out (by repeat (first | (with_reducible first | exact HB.out | apply below_alloc | apply pw_below_drewN | apply below_drew1) | exact HB.out))); rintro e w10 ⟨rfl, hb⟩; refine ⟨_, rfl, ?_⟩; have n0_ := Aside0.mk (Kd.R_below (by (with_reducible repeat (first | apply Kd.R_alloc | apply Kd.R_drewN | apply Kd.R_drew)); exact HO114.out) hb); have n1_ := Aside0.mk (below_step (by repeat (first | (with_reducible first | exact HB.out | apply below_alloc | apply pw_below_drewN | apply below_drew1) | exact HB.out)) hb); clear HO114; clear HB; have HO114 := n0_; have HB := n1_; clear n0_ n1_; (try clear hb); (try clear hb2); (try clear hk); (try clear hi)) | (go_at_call 23; (with_reducible refine (path_Up.calls k (⟨#[97, 47, 98]⟩ : ByteArray) t118 _ A9.out).mono ?_); rintro e w' ⟨rfl, ⟨nd, rfl⟩⟩))
      go_meet
      case rel => exact ⟨_, ((t118.toList != ([97] : List UInt8))), (by first | rfl | (simp; done) | (simp [*]; done)), H', ⟨by first | omega | exact Nat.le_refl _⟩, ⟨by (with_reducible repeat (first | apply Kd.R_alloc | apply Kd.R_drewN | apply Kd.R_drew)); exact HO114.out⟩, ⟨by repeat (first | (with_reducible first | exact HB.out | apply below_alloc | apply pw_below_drewN | apply below_drew1) | exact HB.out)⟩⟩
    · rw [if_neg c8] at H
      have c8b0 : (t117 == 0) = false := beq_eq_false_iff_ne.mpr c8
      have c8b1 : (t117 != 0) = true := bne_iff_ne.mpr c8
      (first | rw [c8b0] | (simp only [i64_w, i32_w]; rw [c8b0]) | skip)
      have H' := Aside0.mk H
      clear H
      go_wp2_with (first | ((with_reducible refine gate_callee (f := 25) rfl ?_); refine goesL_ (some 13) rfl rfl Tryd.func25 (by kernel_rfl) rfl #[.string (⟨#[97, 47, 98]⟩ : ByteArray)] rfl (by (try simp only [List.map_toArray, List.map_cons, List.map_nil]); first | done | rfl | (simp only [List.length_drop, List.length_take]; rfl)) ?_; (with_reducible refine (path_Check.calls k (⟨#[97, 47, 98]⟩ : ByteArray) t117 _ ?side1 A7.out).mono ?_); (case side1 => exact G_below hG_.out (by repeat (first | (with_reducible first | exact HB.out | apply below_alloc | apply pw_below_drewN | apply below_drew1) | exact HB.out))); rintro e w11 ⟨rfl, hb⟩; refine ⟨_, rfl, ?_⟩; have n0_ := Aside0.mk (Kd.R_below (by (with_reducible repeat (first | apply Kd.R_alloc | apply Kd.R_drewN | apply Kd.R_drew)); exact HO114.out) hb); have n1_ := Aside0.mk (below_step (by repeat (first | (with_reducible first | exact HB.out | apply below_alloc | apply pw_below_drewN | apply below_drew1) | exact HB.out)) hb); clear HO114; clear HB; have HO114 := n0_; have HB := n1_; clear n0_ n1_; (try clear hb); (try clear hb2); (try clear hk); (try clear hi)))
      go_meet
      case rel => exact ⟨_, (true), (by first | rfl | (simp; done) | (simp [*]; done)), H', ⟨by first | omega | exact Nat.le_refl _⟩, ⟨by (with_reducible repeat (first | apply Kd.R_alloc | apply Kd.R_drewN | apply Kd.R_drew)); exact HO114.out⟩, ⟨by repeat (first | (with_reducible first | exact HB.out | apply below_alloc | apply pw_below_drewN | apply below_drew1) | exact HB.out)⟩⟩
  case rest =>
    clear HC5
    try clear c2
    try clear p2
    try clear c6
    try clear c8
    try clear c8b0
    try clear c8b1
    obtain ⟨kq, x18_4, rfl, HA, HJ4, HO_3, HB⟩ := hcut
    cases kq with
    | zero => exact absurd HA.out (by simp [creelkeep_PathJoin.j0])
    | succ kj4 =>
      have H := HA.out
      clear HA
      simp only [creelkeep_PathJoin.j0] at H
      by_cases c12 : x18_4 = true
      · subst c12
        have H1 : (some false) = some r := by rw [if_pos rfl] at H; exact H
        clear H
        have H := H1
        clear H1
        obtain rfl := Option.some.inj H
        go_wp2
        go_ret
        exact ⟨by first | rfl | (simp [errW_none, errW_some] <;> rfl) | (simp [*, errW_none, errW_some] <;> rfl), by repeat (first | (with_reducible first | exact HB.out | apply below_alloc | apply pw_below_drewN | apply below_drew1) | exact HB.out)⟩
      · replace c12 := Bool.eq_false_iff.mpr c12
        subst c12
        have H1 : ((strings_Contains.f a0 (⟨#[47]⟩ : ByteArray)).bind fun t119 => (if t119 = true then (if t115.size + 1 ≤ 9223372036854775807 then (if (t115 ++ (⟨#[47]⟩ : ByteArray)).size + t116.size ≤ 9223372036854775807 then (if ((t115 ++ (⟨#[47]⟩ : ByteArray)) ++ t116).toList = a0.toList then ((strings_Join.f t112 (⟨#[47]⟩ : ByteArray)).bind fun t120 => (if t120.toList = a0.toList then (if a0.toList = ([] : List UInt8) then (some true) else (if 0 ≤ (wrap64 ((t112.length : Int) - 1)) then (if (wrap64 ((t112.length : Int) - 1)) < (t112.length : Int) then (some ((rdOf ByteArray.empty t112 (wrap64 ((t112.length : Int) - 1))).toList == t116.toList)) else (none)) else (none))) else (some false))) else (some false)) else (none)) else (none)) else (if t116.toList = a0.toList then ((strings_Join.f t112 (⟨#[47]⟩ : ByteArray)).bind fun t122 => (if t122.toList = a0.toList then (if a0.toList = ([] : List UInt8) then (some true) else (if 0 ≤ (wrap64 ((t112.length : Int) - 1)) then (if (wrap64 ((t112.length : Int) - 1)) < (t112.length : Int) then (some ((rdOf ByteArray.empty t112 (wrap64 ((t112.length : Int) - 1))).toList == t116.toList)) else (none)) else (none))) else (some false))) else (some false)))) = some r := by rw [if_neg (show ¬ (false = true) by decide)] at H; exact H
        clear H
        have H := H1
        clear H1
        replace H := Option.bind_eq_some_iff.mp H
        obtain ⟨t119, A130, H⟩ := H
        replace H : (if t119 = true then (if t115.size + 1 ≤ 9223372036854775807 then (if (t115 ++ (⟨#[47]⟩ : ByteArray)).size + t116.size ≤ 9223372036854775807 then (if ((t115 ++ (⟨#[47]⟩ : ByteArray)) ++ t116).toList = a0.toList then ((strings_Join.f t112 (⟨#[47]⟩ : ByteArray)).bind fun t120 => (if t120.toList = a0.toList then (if a0.toList = ([] : List UInt8) then (some true) else (if 0 ≤ (wrap64 ((t112.length : Int) - 1)) then (if (wrap64 ((t112.length : Int) - 1)) < (t112.length : Int) then (some ((rdOf ByteArray.empty t112 (wrap64 ((t112.length : Int) - 1))).toList == t116.toList)) else (none)) else (none))) else (some false))) else (some false)) else (none)) else (none)) else (if t116.toList = a0.toList then ((strings_Join.f t112 (⟨#[47]⟩ : ByteArray)).bind fun t122 => (if t122.toList = a0.toList then (if a0.toList = ([] : List UInt8) then (some true) else (if 0 ≤ (wrap64 ((t112.length : Int) - 1)) then (if (wrap64 ((t112.length : Int) - 1)) < (t112.length : Int) then (some ((rdOf ByteArray.empty t112 (wrap64 ((t112.length : Int) - 1))).toList == t116.toList)) else (none)) else (none))) else (some false))) else (some false))) = some r := H
        have A13 := Aside0.mk A130
        clear A130
        by_cases c14 : t119 = true
        · subst c14
          have H1 : (if t115.size + 1 ≤ 9223372036854775807 then (if (t115 ++ (⟨#[47]⟩ : ByteArray)).size + t116.size ≤ 9223372036854775807 then (if ((t115 ++ (⟨#[47]⟩ : ByteArray)) ++ t116).toList = a0.toList then ((strings_Join.f t112 (⟨#[47]⟩ : ByteArray)).bind fun t120 => (if t120.toList = a0.toList then (if a0.toList = ([] : List UInt8) then (some true) else (if 0 ≤ (wrap64 ((t112.length : Int) - 1)) then (if (wrap64 ((t112.length : Int) - 1)) < (t112.length : Int) then (some ((rdOf ByteArray.empty t112 (wrap64 ((t112.length : Int) - 1))).toList == t116.toList)) else (none)) else (none))) else (some false))) else (some false)) else (none)) else (none)) = some r := by rw [if_pos rfl] at H; exact H
          clear H
          have H := H1
          clear H1
          by_cases c15 : t115.size + 1 ≤ 9223372036854775807
          · rw [if_pos c15] at H
            have c15b0 := eq_true c15
            have c15b1 : decide (t115.size + 1 ≤ 9223372036854775807) = true := decide_eq_true c15
            try have c15b2 : (9223372036854775807 < t115.size + 1) = False := eq_false (Nat.not_lt.2 c15)
            by_cases c16 : (t115 ++ (⟨#[47]⟩ : ByteArray)).size + t116.size ≤ 9223372036854775807
            · rw [if_pos c16] at H
              have c16b0 := eq_true c16
              have c16b1 : decide ((t115 ++ (⟨#[47]⟩ : ByteArray)).size + t116.size ≤ 9223372036854775807) = true := decide_eq_true c16
              try have c16b1s := c16b1
              (try simp only [ByteArray.size_append, show (⟨#[47]⟩ : ByteArray).size = 1 from rfl] at c16b1s)
              try have c16b2 : (9223372036854775807 < (t115 ++ (⟨#[47]⟩ : ByteArray)).size + t116.size) = False := eq_false (Nat.not_lt.2 c16)
              try have c16b2s := c16b2
              (try simp only [ByteArray.size_append, show (⟨#[47]⟩ : ByteArray).size = 1 from rfl] at c16b2s)
              by_cases c17 : ((t115 ++ (⟨#[47]⟩ : ByteArray)) ++ t116).toList = a0.toList
              · rw [if_pos c17] at H
                have c17b0 : (((t115 ++ (⟨#[47]⟩ : ByteArray)) ++ t116).toList == a0.toList) = true := beq_iff_eq.mpr c17
                have c17b1 : (((t115 ++ (⟨#[47]⟩ : ByteArray)) ++ t116).toList != a0.toList) = false := bne_eq_false_iff_eq.mpr c17
                clear c17
                replace H := Option.bind_eq_some_iff.mp H
                obtain ⟨t120, A180, H⟩ := H
                replace H : (if t120.toList = a0.toList then (if a0.toList = ([] : List UInt8) then (some true) else (if 0 ≤ (wrap64 ((t112.length : Int) - 1)) then (if (wrap64 ((t112.length : Int) - 1)) < (t112.length : Int) then (some ((rdOf ByteArray.empty t112 (wrap64 ((t112.length : Int) - 1))).toList == t116.toList)) else (none)) else (none))) else (some false)) = some r := H
                have A18 := Aside0.mk A180
                clear A180
                by_cases c19 : t120.toList = a0.toList
                · rw [if_pos c19] at H
                  have c19b0 : (t120.toList == a0.toList) = true := beq_iff_eq.mpr c19
                  have c19b1 : (t120.toList != a0.toList) = false := bne_eq_false_iff_eq.mpr c19
                  clear c19
                  by_cases c20 : a0.toList = ([] : List UInt8)
                  · rw [if_pos c20] at H
                    have c20b0 : (a0.toList == ([] : List UInt8)) = true := beq_iff_eq.mpr c20
                    have c20b1 : (a0.toList != ([] : List UInt8)) = false := bne_eq_false_iff_eq.mpr c20
                    clear c20
                    obtain rfl := Option.some.inj H
                    go_wp2_with (first | ((with_reducible refine gate_callee (f := 26) rfl ?_); refine goesL_ (some 21) rfl rfl Tryd.func26 (by kernel_rfl) rfl #[.string a0, .string (⟨#[47]⟩ : ByteArray)] rfl (by (try simp only [List.map_toArray, List.map_cons, List.map_nil]); first | done | rfl | (simp only [List.length_drop, List.length_take]; rfl)) ?_; (with_reducible refine (strings_Contains.calls a0 (⟨#[47]⟩ : ByteArray) true _ ?side1 A13.out).mono ?_); (case side1 => exact G_below hG_.out (by repeat (first | (with_reducible first | exact HB.out | apply below_alloc | apply pw_below_drewN | apply below_drew1) | exact HB.out))); rintro e w' ⟨rfl, ⟨nd, rfl⟩⟩; refine ⟨_, rfl, ?_⟩; obtain ⟨Ao21, co21, eo21⟩ := Kd.R_slice HO_3.out; subst eo21) | (go_at_call 27; (with_reducible refine (strings_Join.calls _ _ t112 (⟨#[47]⟩ : ByteArray) t120 _ ?side1 ?side2 A18.out).mono ?_); (case side1 => repeat (first | exact (Kd.R_reads' HO_3.out).2.2 | (with_reducible refine Kd.C_alloc ?_ _) | (with_reducible refine Kd.C_drewN ?_ _) | (with_reducible refine Kd.C_drew ?_))); (case side2 => exact (Kd.R_reads' HO_3.out).2.1); rintro e w22 ⟨rfl, hb⟩; have n0_ := Aside0.mk (Kd.R_below (by (with_reducible repeat (first | apply Kd.R_alloc | apply Kd.R_drewN | apply Kd.R_drew)); exact HO_3.out) hb); have n1_ := Aside0.mk (below_step (by repeat (first | (with_reducible first | exact HB.out | apply below_alloc | apply pw_below_drewN | apply below_drew1) | exact HB.out)) hb); clear HO_3; clear HB; have HO_3 := n0_; have HB := n1_; clear n0_ n1_; (try clear hb); (try clear hb2); (try clear hk); (try clear hi)))
                    go_ret
                    exact ⟨by first | rfl | (simp [errW_none, errW_some] <;> rfl) | (simp [*, errW_none, errW_some] <;> rfl), by repeat (first | (with_reducible first | exact HB.out | apply below_alloc | apply pw_below_drewN | apply below_drew1) | exact HB.out)⟩
                  · rw [if_neg c20] at H
                    have c20b0 : (a0.toList == ([] : List UInt8)) = false := beq_eq_false_iff_ne.mpr c20
                    have c20b1 : (a0.toList != ([] : List UInt8)) = true := bne_iff_ne.mpr c20
                    obtain ⟨ji23, hji23⟩ : ∃ j_ : Int, (wrap64 ((t112.length : Int) - 1)) = j_ := ⟨_, rfl⟩
                    replace H : (if 0 ≤ (ji23) then (if (ji23) < (t112.length : Int) then (some ((rdOf ByteArray.empty t112 (ji23)).toList == t116.toList)) else (none)) else (none)) = some r := by first | (rw [hji23] at H; exact H) | (simp only [hji23] at H ⊢; exact H)
                    (try rw [hji23] at A13)
                    (try rw [hji23] at A18)
                    have hji23w : (IntKind.i64.wrap ((t112.length : Int) - 1)) = ji23 := (i64_w _).trans hji23
                    by_cases c24 : 0 ≤ (ji23)
                    · rw [if_pos c24] at H
                      have c24b0 : decide (0 ≤ (ji23)) = true := decide_eq_true c24
                      clear c24
                      by_cases c25 : (ji23) < (t112.length : Int)
                      · rw [if_pos c25] at H
                        have c25b0 : decide ((ji23) < (t112.length : Int)) = true := decide_eq_true c25
                        clear c25
                        obtain rfl := Option.some.inj H
                        go_wp2_with (first | ((with_reducible refine gate_callee (f := 26) rfl ?_); refine goesL_ (some 21) rfl rfl Tryd.func26 (by kernel_rfl) rfl #[.string a0, .string (⟨#[47]⟩ : ByteArray)] rfl (by (try simp only [List.map_toArray, List.map_cons, List.map_nil]); first | done | rfl | (simp only [List.length_drop, List.length_take]; rfl)) ?_; (with_reducible refine (strings_Contains.calls a0 (⟨#[47]⟩ : ByteArray) true _ ?side1 A13.out).mono ?_); (case side1 => exact G_below hG_.out (by repeat (first | (with_reducible first | exact HB.out | apply below_alloc | apply pw_below_drewN | apply below_drew1) | exact HB.out))); rintro e w' ⟨rfl, ⟨nd, rfl⟩⟩; refine ⟨_, rfl, ?_⟩; obtain ⟨Ao26, co26, eo26⟩ := Kd.R_slice HO_3.out; subst eo26) | (go_at_call 27; (with_reducible refine (strings_Join.calls _ _ t112 (⟨#[47]⟩ : ByteArray) t120 _ ?side1 ?side2 A18.out).mono ?_); (case side1 => repeat (first | exact (Kd.R_reads' HO_3.out).2.2 | (with_reducible refine Kd.C_alloc ?_ _) | (with_reducible refine Kd.C_drewN ?_ _) | (with_reducible refine Kd.C_drew ?_))); (case side2 => exact (Kd.R_reads' HO_3.out).2.1); rintro e w27 ⟨rfl, hb⟩; have n0_ := Aside0.mk (Kd.R_below (by (with_reducible repeat (first | apply Kd.R_alloc | apply Kd.R_drewN | apply Kd.R_drew)); exact HO_3.out) hb); have n1_ := Aside0.mk (below_step (by repeat (first | (with_reducible first | exact HB.out | apply below_alloc | apply pw_below_drewN | apply below_drew1) | exact HB.out)) hb); clear HO_3; clear HB; have HO_3 := n0_; have HB := n1_; clear n0_ n1_; (try clear hb); (try clear hb2); (try clear hk); (try clear hi); have p121 : 0 ≤ ((ji23) : Int) := of_decide_eq_true (by first | (with_reducible assumption) | assumption); have q121 : (ji23) < (t112.length : Int) := of_decide_eq_true (by first | (with_reducible assumption) | assumption); obtain ⟨ad121, e121, hx121_0⟩ := Kd.at_string (Kd.R_reads' HO_3.out).2.2 (ji23) p121 q121; cases e121; replace p121 := eq_true p121; replace q121 := eq_true q121))
                        go_ret
                        exact ⟨by first | rfl | (simp [errW_none, errW_some] <;> rfl) | (simp only [← hji23]; first | rfl | (simp [errW_none, errW_some] <;> rfl)) | (simp [*, errW_none, errW_some] <;> rfl), by repeat (first | (with_reducible first | exact HB.out | apply below_alloc | apply pw_below_drewN | apply below_drew1) | exact HB.out)⟩
                      · rw [if_neg c25] at H
                        exact absurd H (by simp)
                    · rw [if_neg c24] at H
                      exact absurd H (by simp)
                · rw [if_neg c19] at H
                  have c19b0 : (t120.toList == a0.toList) = false := beq_eq_false_iff_ne.mpr c19
                  have c19b1 : (t120.toList != a0.toList) = true := bne_iff_ne.mpr c19
                  obtain rfl := Option.some.inj H
                  go_wp2_with (first | ((with_reducible refine gate_callee (f := 26) rfl ?_); refine goesL_ (some 21) rfl rfl Tryd.func26 (by kernel_rfl) rfl #[.string a0, .string (⟨#[47]⟩ : ByteArray)] rfl (by (try simp only [List.map_toArray, List.map_cons, List.map_nil]); first | done | rfl | (simp only [List.length_drop, List.length_take]; rfl)) ?_; (with_reducible refine (strings_Contains.calls a0 (⟨#[47]⟩ : ByteArray) true _ ?side1 A13.out).mono ?_); (case side1 => exact G_below hG_.out (by repeat (first | (with_reducible first | exact HB.out | apply below_alloc | apply pw_below_drewN | apply below_drew1) | exact HB.out))); rintro e w' ⟨rfl, ⟨nd, rfl⟩⟩; refine ⟨_, rfl, ?_⟩; obtain ⟨Ao28, co28, eo28⟩ := Kd.R_slice HO_3.out; subst eo28) | (go_at_call 27; (with_reducible refine (strings_Join.calls _ _ t112 (⟨#[47]⟩ : ByteArray) t120 _ ?side1 ?side2 A18.out).mono ?_); (case side1 => repeat (first | exact (Kd.R_reads' HO_3.out).2.2 | (with_reducible refine Kd.C_alloc ?_ _) | (with_reducible refine Kd.C_drewN ?_ _) | (with_reducible refine Kd.C_drew ?_))); (case side2 => exact (Kd.R_reads' HO_3.out).2.1); rintro e w29 ⟨rfl, hb⟩; have n0_ := Aside0.mk (Kd.R_below (by (with_reducible repeat (first | apply Kd.R_alloc | apply Kd.R_drewN | apply Kd.R_drew)); exact HO_3.out) hb); have n1_ := Aside0.mk (below_step (by repeat (first | (with_reducible first | exact HB.out | apply below_alloc | apply pw_below_drewN | apply below_drew1) | exact HB.out)) hb); clear HO_3; clear HB; have HO_3 := n0_; have HB := n1_; clear n0_ n1_; (try clear hb); (try clear hb2); (try clear hk); (try clear hi)))
                  go_ret
                  exact ⟨by first | rfl | (simp [errW_none, errW_some] <;> rfl) | (simp [*, errW_none, errW_some] <;> rfl), by repeat (first | (with_reducible first | exact HB.out | apply below_alloc | apply pw_below_drewN | apply below_drew1) | exact HB.out)⟩
              · rw [if_neg c17] at H
                have c17b0 : (((t115 ++ (⟨#[47]⟩ : ByteArray)) ++ t116).toList == a0.toList) = false := beq_eq_false_iff_ne.mpr c17
                have c17b1 : (((t115 ++ (⟨#[47]⟩ : ByteArray)) ++ t116).toList != a0.toList) = true := bne_iff_ne.mpr c17
                obtain rfl := Option.some.inj H
                go_wp2_with (first | ((with_reducible refine gate_callee (f := 26) rfl ?_); refine goesL_ (some 21) rfl rfl Tryd.func26 (by kernel_rfl) rfl #[.string a0, .string (⟨#[47]⟩ : ByteArray)] rfl (by (try simp only [List.map_toArray, List.map_cons, List.map_nil]); first | done | rfl | (simp only [List.length_drop, List.length_take]; rfl)) ?_; (with_reducible refine (strings_Contains.calls a0 (⟨#[47]⟩ : ByteArray) true _ ?side1 A13.out).mono ?_); (case side1 => exact G_below hG_.out (by repeat (first | (with_reducible first | exact HB.out | apply below_alloc | apply pw_below_drewN | apply below_drew1) | exact HB.out))); rintro e w' ⟨rfl, ⟨nd, rfl⟩⟩; refine ⟨_, rfl, ?_⟩))
                go_ret
                exact ⟨by first | rfl | (simp [errW_none, errW_some] <;> rfl) | (simp [*, errW_none, errW_some] <;> rfl), by repeat (first | (with_reducible first | exact HB.out | apply below_alloc | apply pw_below_drewN | apply below_drew1) | exact HB.out)⟩
            · rw [if_neg c16] at H
              exact absurd H (by simp)
          · rw [if_neg c15] at H
            exact absurd H (by simp)
        · replace c14 := Bool.eq_false_iff.mpr c14
          subst c14
          have H1 : (if t116.toList = a0.toList then ((strings_Join.f t112 (⟨#[47]⟩ : ByteArray)).bind fun t122 => (if t122.toList = a0.toList then (if a0.toList = ([] : List UInt8) then (some true) else (if 0 ≤ (wrap64 ((t112.length : Int) - 1)) then (if (wrap64 ((t112.length : Int) - 1)) < (t112.length : Int) then (some ((rdOf ByteArray.empty t112 (wrap64 ((t112.length : Int) - 1))).toList == t116.toList)) else (none)) else (none))) else (some false))) else (some false)) = some r := by rw [if_neg (show ¬ (false = true) by decide)] at H; exact H
          clear H
          have H := H1
          clear H1
          by_cases c30 : t116.toList = a0.toList
          · rw [if_pos c30] at H
            have c30b0 : (t116.toList == a0.toList) = true := beq_iff_eq.mpr c30
            have c30b1 : (t116.toList != a0.toList) = false := bne_eq_false_iff_eq.mpr c30
            clear c30
            replace H := Option.bind_eq_some_iff.mp H
            obtain ⟨t122, A310, H⟩ := H
            replace H : (if t122.toList = a0.toList then (if a0.toList = ([] : List UInt8) then (some true) else (if 0 ≤ (wrap64 ((t112.length : Int) - 1)) then (if (wrap64 ((t112.length : Int) - 1)) < (t112.length : Int) then (some ((rdOf ByteArray.empty t112 (wrap64 ((t112.length : Int) - 1))).toList == t116.toList)) else (none)) else (none))) else (some false)) = some r := H
            have A31 := Aside0.mk A310
            clear A310
            by_cases c32 : t122.toList = a0.toList
            · rw [if_pos c32] at H
              have c32b0 : (t122.toList == a0.toList) = true := beq_iff_eq.mpr c32
              have c32b1 : (t122.toList != a0.toList) = false := bne_eq_false_iff_eq.mpr c32
              clear c32
              by_cases c33 : a0.toList = ([] : List UInt8)
              · rw [if_pos c33] at H
                have c33b0 : (a0.toList == ([] : List UInt8)) = true := beq_iff_eq.mpr c33
                have c33b1 : (a0.toList != ([] : List UInt8)) = false := bne_eq_false_iff_eq.mpr c33
                clear c33
                obtain rfl := Option.some.inj H
                go_wp2_with (first | ((with_reducible refine gate_callee (f := 26) rfl ?_); refine goesL_ (some 21) rfl rfl Tryd.func26 (by kernel_rfl) rfl #[.string a0, .string (⟨#[47]⟩ : ByteArray)] rfl (by (try simp only [List.map_toArray, List.map_cons, List.map_nil]); first | done | rfl | (simp only [List.length_drop, List.length_take]; rfl)) ?_; (with_reducible refine (strings_Contains.calls a0 (⟨#[47]⟩ : ByteArray) false _ ?side1 A13.out).mono ?_); (case side1 => exact G_below hG_.out (by repeat (first | (with_reducible first | exact HB.out | apply below_alloc | apply pw_below_drewN | apply below_drew1) | exact HB.out))); rintro e w' ⟨rfl, ⟨nd, rfl⟩⟩; refine ⟨_, rfl, ?_⟩; obtain ⟨Ao34, co34, eo34⟩ := Kd.R_slice HO_3.out; subst eo34) | (go_at_call 27; (with_reducible refine (strings_Join.calls _ _ t112 (⟨#[47]⟩ : ByteArray) t122 _ ?side1 ?side2 A31.out).mono ?_); (case side1 => repeat (first | exact (Kd.R_reads' HO_3.out).2.2 | (with_reducible refine Kd.C_alloc ?_ _) | (with_reducible refine Kd.C_drewN ?_ _) | (with_reducible refine Kd.C_drew ?_))); (case side2 => exact (Kd.R_reads' HO_3.out).2.1); rintro e w35 ⟨rfl, hb⟩; have n0_ := Aside0.mk (Kd.R_below (by (with_reducible repeat (first | apply Kd.R_alloc | apply Kd.R_drewN | apply Kd.R_drew)); exact HO_3.out) hb); have n1_ := Aside0.mk (below_step (by repeat (first | (with_reducible first | exact HB.out | apply below_alloc | apply pw_below_drewN | apply below_drew1) | exact HB.out)) hb); clear HO_3; clear HB; have HO_3 := n0_; have HB := n1_; clear n0_ n1_; (try clear hb); (try clear hb2); (try clear hk); (try clear hi)))
                go_ret
                exact ⟨by first | rfl | (simp [errW_none, errW_some] <;> rfl) | (simp [*, errW_none, errW_some] <;> rfl), by repeat (first | (with_reducible first | exact HB.out | apply below_alloc | apply pw_below_drewN | apply below_drew1) | exact HB.out)⟩
              · rw [if_neg c33] at H
                have c33b0 : (a0.toList == ([] : List UInt8)) = false := beq_eq_false_iff_ne.mpr c33
                have c33b1 : (a0.toList != ([] : List UInt8)) = true := bne_iff_ne.mpr c33
                obtain ⟨ji36, hji36⟩ : ∃ j_ : Int, (wrap64 ((t112.length : Int) - 1)) = j_ := ⟨_, rfl⟩
                replace H : (if 0 ≤ (ji36) then (if (ji36) < (t112.length : Int) then (some ((rdOf ByteArray.empty t112 (ji36)).toList == t116.toList)) else (none)) else (none)) = some r := by first | (rw [hji36] at H; exact H) | (simp only [hji36] at H ⊢; exact H)
                (try rw [hji36] at A13)
                (try rw [hji36] at A31)
                have hji36w : (IntKind.i64.wrap ((t112.length : Int) - 1)) = ji36 := (i64_w _).trans hji36
                by_cases c37 : 0 ≤ (ji36)
                · rw [if_pos c37] at H
                  have c37b0 : decide (0 ≤ (ji36)) = true := decide_eq_true c37
                  clear c37
                  by_cases c38 : (ji36) < (t112.length : Int)
                  · rw [if_pos c38] at H
                    have c38b0 : decide ((ji36) < (t112.length : Int)) = true := decide_eq_true c38
                    clear c38
                    obtain rfl := Option.some.inj H
                    go_wp2_with (first | ((with_reducible refine gate_callee (f := 26) rfl ?_); refine goesL_ (some 21) rfl rfl Tryd.func26 (by kernel_rfl) rfl #[.string a0, .string (⟨#[47]⟩ : ByteArray)] rfl (by (try simp only [List.map_toArray, List.map_cons, List.map_nil]); first | done | rfl | (simp only [List.length_drop, List.length_take]; rfl)) ?_; (with_reducible refine (strings_Contains.calls a0 (⟨#[47]⟩ : ByteArray) false _ ?side1 A13.out).mono ?_); (case side1 => exact G_below hG_.out (by repeat (first | (with_reducible first | exact HB.out | apply below_alloc | apply pw_below_drewN | apply below_drew1) | exact HB.out))); rintro e w' ⟨rfl, ⟨nd, rfl⟩⟩; refine ⟨_, rfl, ?_⟩; obtain ⟨Ao39, co39, eo39⟩ := Kd.R_slice HO_3.out; subst eo39) | (go_at_call 27; (with_reducible refine (strings_Join.calls _ _ t112 (⟨#[47]⟩ : ByteArray) t122 _ ?side1 ?side2 A31.out).mono ?_); (case side1 => repeat (first | exact (Kd.R_reads' HO_3.out).2.2 | (with_reducible refine Kd.C_alloc ?_ _) | (with_reducible refine Kd.C_drewN ?_ _) | (with_reducible refine Kd.C_drew ?_))); (case side2 => exact (Kd.R_reads' HO_3.out).2.1); rintro e w40 ⟨rfl, hb⟩; have n0_ := Aside0.mk (Kd.R_below (by (with_reducible repeat (first | apply Kd.R_alloc | apply Kd.R_drewN | apply Kd.R_drew)); exact HO_3.out) hb); have n1_ := Aside0.mk (below_step (by repeat (first | (with_reducible first | exact HB.out | apply below_alloc | apply pw_below_drewN | apply below_drew1) | exact HB.out)) hb); clear HO_3; clear HB; have HO_3 := n0_; have HB := n1_; clear n0_ n1_; (try clear hb); (try clear hb2); (try clear hk); (try clear hi); have p123 : 0 ≤ ((ji36) : Int) := of_decide_eq_true (by first | (with_reducible assumption) | assumption); have q123 : (ji36) < (t112.length : Int) := of_decide_eq_true (by first | (with_reducible assumption) | assumption); obtain ⟨ad123, e123, hx123_0⟩ := Kd.at_string (Kd.R_reads' HO_3.out).2.2 (ji36) p123 q123; cases e123; replace p123 := eq_true p123; replace q123 := eq_true q123))
                    go_ret
                    exact ⟨by first | rfl | (simp [errW_none, errW_some] <;> rfl) | (simp only [← hji36]; first | rfl | (simp [errW_none, errW_some] <;> rfl)) | (simp [*, errW_none, errW_some] <;> rfl), by repeat (first | (with_reducible first | exact HB.out | apply below_alloc | apply pw_below_drewN | apply below_drew1) | exact HB.out)⟩
                  · rw [if_neg c38] at H
                    exact absurd H (by simp)
                · rw [if_neg c37] at H
                  exact absurd H (by simp)
            · rw [if_neg c32] at H
              have c32b0 : (t122.toList == a0.toList) = false := beq_eq_false_iff_ne.mpr c32
              have c32b1 : (t122.toList != a0.toList) = true := bne_iff_ne.mpr c32
              obtain rfl := Option.some.inj H
              go_wp2_with (first | ((with_reducible refine gate_callee (f := 26) rfl ?_); refine goesL_ (some 21) rfl rfl Tryd.func26 (by kernel_rfl) rfl #[.string a0, .string (⟨#[47]⟩ : ByteArray)] rfl (by (try simp only [List.map_toArray, List.map_cons, List.map_nil]); first | done | rfl | (simp only [List.length_drop, List.length_take]; rfl)) ?_; (with_reducible refine (strings_Contains.calls a0 (⟨#[47]⟩ : ByteArray) false _ ?side1 A13.out).mono ?_); (case side1 => exact G_below hG_.out (by repeat (first | (with_reducible first | exact HB.out | apply below_alloc | apply pw_below_drewN | apply below_drew1) | exact HB.out))); rintro e w' ⟨rfl, ⟨nd, rfl⟩⟩; refine ⟨_, rfl, ?_⟩; obtain ⟨Ao41, co41, eo41⟩ := Kd.R_slice HO_3.out; subst eo41) | (go_at_call 27; (with_reducible refine (strings_Join.calls _ _ t112 (⟨#[47]⟩ : ByteArray) t122 _ ?side1 ?side2 A31.out).mono ?_); (case side1 => repeat (first | exact (Kd.R_reads' HO_3.out).2.2 | (with_reducible refine Kd.C_alloc ?_ _) | (with_reducible refine Kd.C_drewN ?_ _) | (with_reducible refine Kd.C_drew ?_))); (case side2 => exact (Kd.R_reads' HO_3.out).2.1); rintro e w42 ⟨rfl, hb⟩; have n0_ := Aside0.mk (Kd.R_below (by (with_reducible repeat (first | apply Kd.R_alloc | apply Kd.R_drewN | apply Kd.R_drew)); exact HO_3.out) hb); have n1_ := Aside0.mk (below_step (by repeat (first | (with_reducible first | exact HB.out | apply below_alloc | apply pw_below_drewN | apply below_drew1) | exact HB.out)) hb); clear HO_3; clear HB; have HO_3 := n0_; have HB := n1_; clear n0_ n1_; (try clear hb); (try clear hb2); (try clear hk); (try clear hi)))
              go_ret
              exact ⟨by first | rfl | (simp [errW_none, errW_some] <;> rfl) | (simp [*, errW_none, errW_some] <;> rfl), by repeat (first | (with_reducible first | exact HB.out | apply below_alloc | apply pw_below_drewN | apply below_drew1) | exact HB.out)⟩
          · rw [if_neg c30] at H
            have c30b0 : (t116.toList == a0.toList) = false := beq_eq_false_iff_ne.mpr c30
            have c30b1 : (t116.toList != a0.toList) = true := bne_iff_ne.mpr c30
            obtain rfl := Option.some.inj H
            go_wp2_with (first | ((with_reducible refine gate_callee (f := 26) rfl ?_); refine goesL_ (some 21) rfl rfl Tryd.func26 (by kernel_rfl) rfl #[.string a0, .string (⟨#[47]⟩ : ByteArray)] rfl (by (try simp only [List.map_toArray, List.map_cons, List.map_nil]); first | done | rfl | (simp only [List.length_drop, List.length_take]; rfl)) ?_; (with_reducible refine (strings_Contains.calls a0 (⟨#[47]⟩ : ByteArray) false _ ?side1 A13.out).mono ?_); (case side1 => exact G_below hG_.out (by repeat (first | (with_reducible first | exact HB.out | apply below_alloc | apply pw_below_drewN | apply below_drew1) | exact HB.out))); rintro e w' ⟨rfl, ⟨nd, rfl⟩⟩; refine ⟨_, rfl, ?_⟩))
            go_ret
            exact ⟨by first | rfl | (simp [errW_none, errW_some] <;> rfl) | (simp [*, errW_none, errW_some] <;> rfl), by repeat (first | (with_reducible first | exact HB.out | apply below_alloc | apply pw_below_drewN | apply below_drew1) | exact HB.out)⟩

/-- THE ONE PURE STATEMENT of creelkeep_PathJoin: yours. -/
def creelkeep_PathJoin.Pure : Prop := ∀ (a0 : ByteArray), a0.size ≤ 1048576 → ∃ k, creelkeep_PathJoin.f k a0 = some true
theorem creelkeep_PathJoin.walk (P : creelkeep_PathJoin.Pure) (a0 : ByteArray) (w : World) (hG0_ : G_ w) (w0 : a0.size ≤ 1048576) :
    Calls Tryd.prog 6 #[.string a0] w fun e w' => e = .returned (.bool true) ∧ Below w.heap.size w w' := by
  obtain ⟨k, h⟩ := P a0 w0
  refine (creelkeep_PathJoin.calls k a0 true w hG0_ h).mono ?_
  rintro e w' ⟨rfl, hd⟩
  exact ⟨rfl, hd⟩

end Go.Proofs.YtpkidejgilmlpaaDoor.PPathJoin
