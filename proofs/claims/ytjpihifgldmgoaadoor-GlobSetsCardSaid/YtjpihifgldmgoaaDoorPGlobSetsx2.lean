-- Written by a program of this session for this claim (wip/myprint.py over the kit's print).
import Derived.Test.YtjpihifgldmgoaaDoorPGlobSetsx0
import Derived.Test.YtjpihifgldmgoaaDoorPGlobSetsx1
namespace Go.Proofs.YtjpihifgldmgoaaDoor.PGlobSets
open Go.RowKit Go.Proofs.YtjpihifgldmgoaaDoorW.PrintWords Go.Proofs.YtjpihifgldmgoaaDoorW.PrintLast Go.Proofs.YtjpihifgldmgoaaDoorW.PrintMore
attribute [local go_sem] max2_int min2_int max_two min_two max_three min_three max_four min_four   -- for this text's walks alone
set_option linter.unusedVariables false
set_option linter.unusedSimpArgs false

/-! ### path_Check: function 19 -/
mutual
def path_Check.j0 : Nat → ByteArray → Bool → Option (Int)
  | 0, _, _ => none
  | k + 1, x0, x12 => if x12 = true then (some 1) else ((strings_IndexByte.f x0 0).bind fun t109 => (if t109 ≥ 0 then (some 3) else ((strings_Split.f x0 (⟨#[47]⟩ : ByteArray)).bind fun t110 => (path_Check.l0 k t110 (t110.length : Int) 0))))
def path_Check.l0 : Nat → List ByteArray → Int → Int → Option (Int)
  | 0, _, _, _ => none
  | k + 1, x17, x18, x19 => if x19 < x18 then (if 0 ≤ x19 then (if x19 < (x17.length : Int) then (if (rdOf ByteArray.empty x17 x19).toList = ([] : List UInt8) then (some 9) else (if (rdOf ByteArray.empty x17 x19).toList = ([46] : List UInt8) then (some 9) else (if (rdOf ByteArray.empty x17 x19).toList = ([46, 46] : List UInt8) then (some 9) else (path_Check.l0 k x17 x18 (wrap64 (x19 + 1)))))) else (none)) else (none)) else (some 0)
end
def path_Check.f (k : Nat) (a0 : ByteArray) : Option (Int) := if (a0.size : Int) < 1 then (path_Check.j0 k a0 true) else (path_Check.j0 k a0 (decide ((a0.size : Int) > 400)))
theorem path_Check.mono_l : ∀ k, (∀ y0 y1, LeO (path_Check.j0 k y0 y1) (path_Check.j0 (k + 1) y0 y1)) ∧ (∀ y0 y1 y2, LeO (path_Check.l0 k y0 y1 y2) (path_Check.l0 (k + 1) y0 y1 y2))
  | 0 => ⟨fun _ _ r h => by simp [path_Check.j0] at h, fun _ _ _ r h => by simp [path_Check.l0] at h⟩
  | k + 1 => by
    obtain ⟨ih0, ih1⟩ := path_Check.mono_l k
    refine ⟨?_, ?_⟩
    · intro y0 y1
      unfold path_Check.j0
      repeat' first
      | (with_reducible exact ih0 _ _)
      | (with_reducible exact ih1 _ _ _)
      | (with_reducible exact LeO.refl _)
      | (with_reducible exact LeO.none _)
      | (with_reducible refine LeO.ite ?_ ?_)
      | (with_reducible refine LeO.bind ?_ (fun _ => ?_))
      | exact ih0 _ _
      | exact ih1 _ _ _
      | exact LeO.none _
      | refine LeO.ite ?_ ?_
      | refine LeO.bind ?_ (fun _ => ?_)
    · intro y0 y1 y2
      unfold path_Check.l0
      repeat' first
      | (with_reducible exact ih0 _ _)
      | (with_reducible exact ih1 _ _ _)
      | (with_reducible exact LeO.refl _)
      | (with_reducible exact LeO.none _)
      | (with_reducible refine LeO.ite ?_ ?_)
      | (with_reducible refine LeO.bind ?_ (fun _ => ?_))
      | exact ih0 _ _
      | exact ih1 _ _ _
      | exact LeO.none _
      | refine LeO.ite ?_ ?_
      | refine LeO.bind ?_ (fun _ => ?_)
theorem path_Check.mono : ∀ a0 k, LeO (path_Check.f k a0) (path_Check.f (k + 1) a0) := by
  intro a0 k
  obtain ⟨ih0, ih1⟩ := path_Check.mono_l k
  unfold path_Check.f
  repeat' first
      | (with_reducible exact ih0 _ _)
      | (with_reducible exact ih1 _ _ _)
      | (with_reducible exact LeO.refl _)
      | (with_reducible exact LeO.none _)
      | (with_reducible refine LeO.ite ?_ ?_)
      | (with_reducible refine LeO.bind ?_ (fun _ => ?_))
      | exact ih0 _ _
      | exact ih1 _ _ _
      | exact LeO.none _
      | refine LeO.ite ?_ ?_
      | refine LeO.bind ?_ (fun _ => ?_)
set_option maxHeartbeats 8000000 in
set_option maxRecDepth 100000 in
theorem path_Check.calls (k : Nat) (a0 : ByteArray) (r : Int) (w : World) (hG0_ : G_ w) (h : path_Check.f k a0 = some r) :
    Calls Tryd.prog 19 #[.string a0] w fun e w' => e = .returned (.int .i64 r) ∧ Below w.heap.size w w' := by
  have hG_ := Aside0.mk hG0_
  clear hG0_
  have HB := Aside0.mk (Below.refl w.heap.size w)
  have H : (if (a0.size : Int) < 1 then (path_Check.j0 k a0 true) else (path_Check.j0 k a0 (decide ((a0.size : Int) > 400)))) = some r := h
  clear h
  have HC2 := Aside0.mk H
  clear H
  go_enter Tryd.func19, Tryd.ntmps19
  go_upto_region 1 with (fail)
  go_cut [12] (fun v12 wc => ∃ (kq : Nat) (x12_1 : Bool), v12 = .bool x12_1 ∧ Aside0 (path_Check.j0 kq a0 x12_1 = some r) ∧ Aside0 (kq ≤ k) ∧ Aside0 (Below w.heap.size w wc))
  case first =>
    have H := HC2.out
    clear HC2
    by_cases c3 : (a0.size : Int) < 1
    · rw [if_pos c3] at H
      have c3b0 : decide ((a0.size : Int) < 1) = true := decide_eq_true c3
      have c3b1 : decide (a0.size < 1) = true := decide_eq_true (by omega)
      clear c3
      (first | rw [c3b0] | (simp only [i64_w, i32_w]; rw [c3b0]) | skip)
      have H' := Aside0.mk H
      clear H
      go_wp2
      go_meet
      case rel => exact ⟨_, (true), (by first | rfl | (simp; done) | (simp [*]; done)), H', ⟨by first | omega | exact Nat.le_refl _⟩, ⟨by repeat (first | (with_reducible first | exact HB.out | apply below_alloc | apply pw_below_drewN | apply below_drew1) | exact HB.out)⟩⟩
    · rw [if_neg c3] at H
      have c3b0 : decide ((a0.size : Int) < 1) = false := decide_eq_false c3
      have c3b1 : decide (a0.size < 1) = false := decide_eq_false (by omega)
      clear c3
      (first | rw [c3b0] | (simp only [i64_w, i32_w]; rw [c3b0]) | skip)
      have H' := Aside0.mk H
      clear H
      go_wp2
      go_meet
      case rel => exact ⟨_, (decide ((a0.size : Int) > 400)), (by first | rfl | (simp; done) | (simp [*]; done)), H', ⟨by first | omega | exact Nat.le_refl _⟩, ⟨by repeat (first | (with_reducible first | exact HB.out | apply below_alloc | apply pw_below_drewN | apply below_drew1) | exact HB.out)⟩⟩
  case rest =>
    clear HC2
    try clear c1
    try clear p2
    try clear c3
    try clear c3b0
    try clear c3b1
    obtain ⟨kq, x12_1, rfl, HA, HJ1, HB⟩ := hcut
    cases kq with
    | zero => exact absurd HA.out (by simp [path_Check.j0])
    | succ kj1 =>
      have H := HA.out
      clear HA
      simp only [path_Check.j0] at H
      by_cases c4 : x12_1 = true
      · subst c4
        have H1 : (some 1) = some r := by rw [if_pos rfl] at H; exact H
        clear H
        have H := H1
        clear H1
        obtain rfl := Option.some.inj H
        go_wp2
        go_ret
        exact ⟨by first | rfl | (simp [errW_none, errW_some] <;> rfl) | (simp [*, errW_none, errW_some] <;> rfl) | (simp [errW_none, errW_some] <;> (generalize ByteArray.toList _ = l_ <;> cases l_ <;> rfl)), by repeat (first | (with_reducible first | exact HB.out | apply below_alloc | apply pw_below_drewN | apply below_drew1) | exact HB.out)⟩
      · replace c4 := Bool.eq_false_iff.mpr c4
        subst c4
        have H1 : ((strings_IndexByte.f a0 0).bind fun t109 => (if t109 ≥ 0 then (some 3) else ((strings_Split.f a0 (⟨#[47]⟩ : ByteArray)).bind fun t110 => (path_Check.l0 kj1 t110 (t110.length : Int) 0)))) = some r := by rw [if_neg (show ¬ (false = true) by decide)] at H; exact H
        clear H
        have H := H1
        clear H1
        replace H := Option.bind_eq_some_iff.mp H
        obtain ⟨t109, A50, H⟩ := H
        replace H : (if t109 ≥ 0 then (some 3) else ((strings_Split.f a0 (⟨#[47]⟩ : ByteArray)).bind fun t110 => (path_Check.l0 kj1 t110 (t110.length : Int) 0))) = some r := H
        have A5 := Aside0.mk A50
        clear A50
        by_cases c6 : t109 ≥ 0
        · rw [if_pos c6] at H
          have c6b0 : decide (0 ≤ t109) = true := decide_eq_true c6
          clear c6
          obtain rfl := Option.some.inj H
          go_wp2_with (first | ((with_reducible refine gate_callee (f := 11) rfl ?_); refine goesL_ (some 14) rfl rfl Tryd.func11 (by kernel_rfl) rfl #[.string a0, .int .u8 0] rfl (by (try simp only [List.map_toArray, List.map_cons, List.map_nil]); first | done | rfl | (simp only [List.length_drop, List.length_take]; rfl)) ?_; (with_reducible refine (strings_IndexByte.calls a0 0 t109 _ A5.out).mono ?_); rintro e w' ⟨rfl, ⟨nd, rfl⟩⟩; refine ⟨_, rfl, ?_⟩))
          go_ret
          exact ⟨by first | rfl | (simp [errW_none, errW_some] <;> rfl) | (simp [*, errW_none, errW_some] <;> rfl) | (simp [errW_none, errW_some] <;> (generalize ByteArray.toList _ = l_ <;> cases l_ <;> rfl)), by repeat (first | (with_reducible first | exact HB.out | apply below_alloc | apply pw_below_drewN | apply below_drew1) | exact HB.out)⟩
        · rw [if_neg c6] at H
          have c6b0 : decide (0 ≤ t109) = false := decide_eq_false c6
          clear c6
          replace H := Option.bind_eq_some_iff.mp H
          obtain ⟨t110, A70, H⟩ := H
          replace H : (path_Check.l0 kj1 t110 (t110.length : Int) 0) = some r := H
          have A7 := Aside0.mk A70
          clear A70
          have H' := Aside0.mk H
          clear H
          go_wp2_with (first | ((with_reducible refine gate_callee (f := 11) rfl ?_); refine goesL_ (some 14) rfl rfl Tryd.func11 (by kernel_rfl) rfl #[.string a0, .int .u8 0] rfl (by (try simp only [List.map_toArray, List.map_cons, List.map_nil]); first | done | rfl | (simp only [List.length_drop, List.length_take]; rfl)) ?_; (with_reducible refine (strings_IndexByte.calls a0 0 t109 _ A5.out).mono ?_); rintro e w' ⟨rfl, ⟨nd, rfl⟩⟩; refine ⟨_, rfl, ?_⟩) | ((with_reducible refine gate_callee (f := 36) rfl ?_); refine goesL_ (some 17) rfl rfl Tryd.func36 (by kernel_rfl) rfl #[.string a0, .string (⟨#[47]⟩ : ByteArray)] rfl (by (try simp only [List.map_toArray, List.map_cons, List.map_nil]); first | done | rfl | (simp only [List.length_drop, List.length_take]; rfl)) ?_; (with_reducible refine (strings_Split.calls a0 (⟨#[47]⟩ : ByteArray) t110 _ ?side1 A7.out).mono ?_); (case side1 => exact G_below hG_.out (by repeat (first | (with_reducible first | exact HB.out | apply below_alloc | apply pw_below_drewN | apply below_drew1) | exact HB.out))); rintro e w8 ⟨v111, rfl, ho0, hb⟩; refine ⟨_, rfl, ?_⟩; have n0_ := Aside0.mk (Kd.R_lower ho0 (below_size (by repeat (first | (with_reducible first | exact HB.out | apply below_alloc | apply pw_below_drewN | apply below_drew1) | exact HB.out)))); have n1_ := Aside0.mk (below_step (by repeat (first | (with_reducible first | exact HB.out | apply below_alloc | apply pw_below_drewN | apply below_drew1) | exact HB.out)) hb); clear HB; have HO112 := n0_; have HB := n1_; clear n0_ n1_; (try clear hb); (try clear hb2); (try clear hk); (try clear hi); (try clear ho0); obtain ⟨Ao9, co9, eo9⟩ := Kd.R_slice HO112.out; subst eo9))
          go_loopg [19] kj1 (fun kq v19 w' => ∃ (x19_2 : Int), v19 = .int .i64 x19_2 ∧ Aside0 (path_Check.l0 kq t110 (t110.length : Int) x19_2 = some r) ∧ Aside0 (kq ≤ kj1) ∧ Aside0 (Kd.R Kd.string 9 w' w.heap.size (fun _ => True) (.slice Ao9 t110.length co9) t110) ∧ Aside0 (Below w.heap.size w w'))
          case atStart => exact ⟨(0), (by first | rfl | (simp; done) | (simp [*]; done)), H', ⟨Nat.le_refl _⟩, ⟨by (with_reducible repeat (first | apply Kd.R_alloc | apply Kd.R_drewN | apply Kd.R_drew)); exact HO112.out⟩, ⟨by repeat (first | (with_reducible first | exact HB.out | apply below_alloc | apply pw_below_drewN | apply below_drew1) | exact HB.out)⟩⟩
          case round =>
            clear H'
            try clear c1
            try clear p2
            try clear c3
            try clear c3b0
            try clear c3b1
            try clear c4
            try clear c6
            try clear c6b0
            try clear p2
            obtain ⟨x19_2, rfl, HA, HK2, HO_17, HB⟩ := hrel
            cases gk with
            | zero => exact absurd HA.out (by simp [path_Check.l0])
            | succ k2 =>
              have H := HA.out
              clear HA
              simp only [path_Check.l0] at H
              by_cases c10 : x19_2 < (t110.length : Int)
              · rw [if_pos c10] at H
                have c10b0 : decide (x19_2 < (t110.length : Int)) = true := decide_eq_true c10
                clear c10
                by_cases c11 : 0 ≤ x19_2
                · rw [if_pos c11] at H
                  have c11b0 : decide (0 ≤ x19_2) = true := decide_eq_true c11
                  clear c11
                  by_cases c12 : x19_2 < (t110.length : Int)
                  · rw [if_pos c12] at H
                    have c12b0 : decide (x19_2 < (t110.length : Int)) = true := decide_eq_true c12
                    clear c12
                    by_cases c13 : (rdOf ByteArray.empty t110 x19_2).toList = ([] : List UInt8)
                    · rw [if_pos c13] at H
                      have c13b0 : ((rdOf ByteArray.empty t110 x19_2).toList == ([] : List UInt8)) = true := beq_iff_eq.mpr c13
                      have c13b1 : ((rdOf ByteArray.empty t110 x19_2).toList != ([] : List UInt8)) = false := bne_eq_false_iff_eq.mpr c13
                      clear c13
                      obtain rfl := Option.some.inj H
                      have p113 : 0 ≤ (x19_2 : Int) := of_decide_eq_true (by first | (with_reducible assumption) | assumption)
                      have q113 : x19_2 < (t110.length : Int) := of_decide_eq_true (by first | (with_reducible assumption) | assumption)
                      obtain ⟨ad113, e113, hx113_0⟩ := Kd.at_string (Kd.R_reads' HO_17.out).2.2 x19_2 p113 q113
                      cases e113
                      replace p113 := eq_true p113
                      replace q113 := eq_true q113
                      go_wp2
                      go_ret
                      exact ⟨by first | rfl | (simp [errW_none, errW_some] <;> rfl) | (simp [*, errW_none, errW_some] <;> rfl) | (simp [errW_none, errW_some] <;> (generalize ByteArray.toList _ = l_ <;> cases l_ <;> rfl)), by repeat (first | (with_reducible first | exact HB.out | apply below_alloc | apply pw_below_drewN | apply below_drew1) | exact HB.out)⟩
                    · rw [if_neg c13] at H
                      have c13b0 : ((rdOf ByteArray.empty t110 x19_2).toList == ([] : List UInt8)) = false := beq_eq_false_iff_ne.mpr c13
                      have c13b1 : ((rdOf ByteArray.empty t110 x19_2).toList != ([] : List UInt8)) = true := bne_iff_ne.mpr c13
                      by_cases c14 : (rdOf ByteArray.empty t110 x19_2).toList = ([46] : List UInt8)
                      · rw [if_pos c14] at H
                        have c14b0 : ((rdOf ByteArray.empty t110 x19_2).toList == ([46] : List UInt8)) = true := beq_iff_eq.mpr c14
                        have c14b1 : ((rdOf ByteArray.empty t110 x19_2).toList != ([46] : List UInt8)) = false := bne_eq_false_iff_eq.mpr c14
                        clear c14
                        obtain rfl := Option.some.inj H
                        have p113 : 0 ≤ (x19_2 : Int) := of_decide_eq_true (by first | (with_reducible assumption) | assumption)
                        have q113 : x19_2 < (t110.length : Int) := of_decide_eq_true (by first | (with_reducible assumption) | assumption)
                        obtain ⟨ad113, e113, hx113_0⟩ := Kd.at_string (Kd.R_reads' HO_17.out).2.2 x19_2 p113 q113
                        cases e113
                        replace p113 := eq_true p113
                        replace q113 := eq_true q113
                        go_wp2
                        go_ret
                        exact ⟨by first | rfl | (simp [errW_none, errW_some] <;> rfl) | (simp [*, errW_none, errW_some] <;> rfl) | (simp [errW_none, errW_some] <;> (generalize ByteArray.toList _ = l_ <;> cases l_ <;> rfl)), by repeat (first | (with_reducible first | exact HB.out | apply below_alloc | apply pw_below_drewN | apply below_drew1) | exact HB.out)⟩
                      · rw [if_neg c14] at H
                        have c14b0 : ((rdOf ByteArray.empty t110 x19_2).toList == ([46] : List UInt8)) = false := beq_eq_false_iff_ne.mpr c14
                        have c14b1 : ((rdOf ByteArray.empty t110 x19_2).toList != ([46] : List UInt8)) = true := bne_iff_ne.mpr c14
                        by_cases c15 : (rdOf ByteArray.empty t110 x19_2).toList = ([46, 46] : List UInt8)
                        · rw [if_pos c15] at H
                          have c15b0 : ((rdOf ByteArray.empty t110 x19_2).toList == ([46, 46] : List UInt8)) = true := beq_iff_eq.mpr c15
                          have c15b1 : ((rdOf ByteArray.empty t110 x19_2).toList != ([46, 46] : List UInt8)) = false := bne_eq_false_iff_eq.mpr c15
                          clear c15
                          obtain rfl := Option.some.inj H
                          have p113 : 0 ≤ (x19_2 : Int) := of_decide_eq_true (by first | (with_reducible assumption) | assumption)
                          have q113 : x19_2 < (t110.length : Int) := of_decide_eq_true (by first | (with_reducible assumption) | assumption)
                          obtain ⟨ad113, e113, hx113_0⟩ := Kd.at_string (Kd.R_reads' HO_17.out).2.2 x19_2 p113 q113
                          cases e113
                          replace p113 := eq_true p113
                          replace q113 := eq_true q113
                          go_wp2
                          go_ret
                          exact ⟨by first | rfl | (simp [errW_none, errW_some] <;> rfl) | (simp [*, errW_none, errW_some] <;> rfl) | (simp [errW_none, errW_some] <;> (generalize ByteArray.toList _ = l_ <;> cases l_ <;> rfl)), by repeat (first | (with_reducible first | exact HB.out | apply below_alloc | apply pw_below_drewN | apply below_drew1) | exact HB.out)⟩
                        · rw [if_neg c15] at H
                          have c15b0 : ((rdOf ByteArray.empty t110 x19_2).toList == ([46, 46] : List UInt8)) = false := beq_eq_false_iff_ne.mpr c15
                          have c15b1 : ((rdOf ByteArray.empty t110 x19_2).toList != ([46, 46] : List UInt8)) = true := bne_iff_ne.mpr c15
                          have H' := Aside0.mk H
                          clear H
                          have p113 : 0 ≤ (x19_2 : Int) := of_decide_eq_true (by first | (with_reducible assumption) | assumption)
                          have q113 : x19_2 < (t110.length : Int) := of_decide_eq_true (by first | (with_reducible assumption) | assumption)
                          obtain ⟨ad113, e113, hx113_0⟩ := Kd.at_string (Kd.R_reads' HO_17.out).2.2 x19_2 p113 q113
                          cases e113
                          replace p113 := eq_true p113
                          replace q113 := eq_true q113
                          go_wp2
                          go_roundg k2
                          case measure => have := HJ1.out; have := HK2.out; omega
                          case rel => exact ⟨(wrap64 (x19_2 + 1)), (by first | rfl | (simp; done) | (simp [*]; done)), H', ⟨by have := HJ1.out; have := HK2.out; omega⟩, ⟨by (with_reducible repeat (first | apply Kd.R_alloc | apply Kd.R_drewN | apply Kd.R_drew)); exact HO_17.out⟩, ⟨by repeat (first | (with_reducible first | exact HB.out | apply below_alloc | apply pw_below_drewN | apply below_drew1) | exact HB.out)⟩⟩
                  · rw [if_neg c12] at H
                    exact absurd H (by simp)
                · rw [if_neg c11] at H
                  exact absurd H (by simp)
              · rw [if_neg c10] at H
                have c10b0 : decide (x19_2 < (t110.length : Int)) = false := decide_eq_false c10
                clear c10
                obtain rfl := Option.some.inj H
                go_wp2
                go_ret
                exact ⟨by first | rfl | (simp [errW_none, errW_some] <;> rfl) | (simp [*, errW_none, errW_some] <;> rfl) | (simp [errW_none, errW_some] <;> (generalize ByteArray.toList _ = l_ <;> cases l_ <;> rfl)), by repeat (first | (with_reducible first | exact HB.out | apply below_alloc | apply pw_below_drewN | apply below_drew1) | exact HB.out)⟩

/-! ### glob_split: function 52 -/
def glob_split.l0 : Nat → ByteArray → List ByteArray → Option (List ByteArray)
  | 0, _, _ => none
  | k + 1, x0, x3 => if x0.toList = ([] : List UInt8) then (some x3) else (if 0 < (x0.size : Int) then (if (bt x0 0) = 91 then ((glob_end.f k x0).bind fun t114 => (if 0 ≤ t114 then (if t114 ≤ (x0.size : Int) then (if x3.length < 8796093022208 then (glob_split.l0 k (x0.extract (t114 : Int).toNat x0.size) (x3 ++ [x0.extract 0 (t114 : Int).toNat])) else (none)) else (none)) else (none))) else (if 0 ≤ 1 then (if 1 ≤ (x0.size : Int) then (if x3.length < 8796093022208 then (glob_split.l0 k (x0.extract 1 x0.size) (x3 ++ [x0.extract 0 1])) else (none)) else (none)) else (none))) else (none))
def glob_split.f (k : Nat) (a0 : ByteArray) : Option (List ByteArray) := glob_split.l0 k a0 ([] : List ByteArray)
theorem glob_split.mono_l : ∀ k, (∀ y0 y1, LeO (glob_split.l0 k y0 y1) (glob_split.l0 (k + 1) y0 y1))
  | 0 => fun _ _ r h => by simp [glob_split.l0] at h
  | k + 1 => by
    have ih0 := glob_split.mono_l k
    · intro y0 y1
      unfold glob_split.l0
      repeat' first
      | (with_reducible exact ih0 _ _)
      | (with_reducible exact glob_end.mono _ _)
      | (with_reducible exact LeO.refl _)
      | (with_reducible exact LeO.none _)
      | (with_reducible refine LeO.ite ?_ ?_)
      | (with_reducible refine LeO.bind ?_ (fun _ => ?_))
      | exact ih0 _ _
      | exact glob_end.mono _ _
      | exact LeO.none _
      | refine LeO.ite ?_ ?_
      | refine LeO.bind ?_ (fun _ => ?_)
theorem glob_split.mono : ∀ a0 k, LeO (glob_split.f k a0) (glob_split.f (k + 1) a0) := by
  intro a0 k
  have ih0 := glob_split.mono_l k
  unfold glob_split.f
  repeat' first
      | (with_reducible exact ih0 _ _)
      | (with_reducible exact glob_end.mono _ _)
      | (with_reducible exact LeO.refl _)
      | (with_reducible exact LeO.none _)
      | (with_reducible refine LeO.ite ?_ ?_)
      | (with_reducible refine LeO.bind ?_ (fun _ => ?_))
      | exact ih0 _ _
      | exact glob_end.mono _ _
      | exact LeO.none _
      | refine LeO.ite ?_ ?_
      | refine LeO.bind ?_ (fun _ => ?_)
set_option maxHeartbeats 8000000 in
set_option maxRecDepth 100000 in
theorem glob_split.calls (k : Nat) (a0 : ByteArray) (r : List ByteArray) (w : World) (h : glob_split.f k a0 = some r) :
    Calls Tryd.prog 52 #[.string a0] w fun e w' => ∃ v0_ : Value, e = .returned (v0_) ∧ Kd.R Kd.string 9 w' w.heap.size (fun _ => True) v0_ r ∧ Below w.heap.size w w' := by
  have HB := Aside0.mk (Below.refl w.heap.size w)
  have H : (glob_split.l0 k a0 ([] : List ByteArray)) = some r := h
  clear h
  have H' := Aside0.mk H
  clear H
  go_enter Tryd.func52, Tryd.ntmps52
  go_wp2
  go_loopg [0, 3] k (fun kq v0 v3 w' => ∃ (x0_1 : ByteArray) (x3_1 : List ByteArray), v0 = .string x0_1 ∧ Aside0 (glob_split.l0 kq x0_1 x3_1 = some r) ∧ Aside0 (kq ≤ k) ∧ Aside0 (Kd.R Kd.string 9 w' w.heap.size (fun _ => True) v3 x3_1) ∧ Aside0 (Below w.heap.size w w'))
  case atStart => exact ⟨(a0), (([] : List ByteArray)), (by first | rfl | (simp; done) | (simp [*]; done)), H', ⟨Nat.le_refl _⟩, ⟨by first | exact Kd.R_nil _ _ _ _ _ | exact Kd.N_nil _ _ _ _ _ | exact Kd.V_nil _ _ _ _ _ | exact Kd.Q_nil _ _ _ _ _ | exact Kd.S_nil _ _ _ _ _⟩, ⟨by repeat (first | (with_reducible first | exact HB.out | apply below_alloc | apply pw_below_drewN | apply below_drew1) | exact HB.out)⟩⟩
  case round =>
    clear H'
    obtain ⟨x0_1, x3_1, rfl, HA, HK1, HO_3, HB⟩ := hrel
    cases gk with
    | zero => exact absurd HA.out (by simp [glob_split.l0])
    | succ k1 =>
      have H := HA.out
      clear HA
      simp only [glob_split.l0] at H
      by_cases c2 : x0_1.toList = ([] : List UInt8)
      · rw [if_pos c2] at H
        have c2b0 : (x0_1.toList == ([] : List UInt8)) = true := beq_iff_eq.mpr c2
        have c2b1 : (x0_1.toList != ([] : List UInt8)) = false := bne_eq_false_iff_eq.mpr c2
        clear c2
        obtain rfl := Option.some.inj H
        go_wp2
        go_ret
        exact ⟨_, by first | rfl | (simp [errW_none, errW_some] <;> rfl) | (simp [*, errW_none, errW_some] <;> rfl), by (with_reducible repeat (first | apply Kd.R_alloc | apply Kd.R_drewN | apply Kd.R_drew)); exact HO_3.out, by repeat (first | (with_reducible first | exact HB.out | apply below_alloc | apply pw_below_drewN | apply below_drew1) | exact HB.out)⟩
      · rw [if_neg c2] at H
        have c2b0 : (x0_1.toList == ([] : List UInt8)) = false := beq_eq_false_iff_ne.mpr c2
        have c2b1 : (x0_1.toList != ([] : List UInt8)) = true := bne_iff_ne.mpr c2
        by_cases c3 : 0 < (x0_1.size : Int)
        · rw [if_pos c3] at H
          have c3b0 : decide (0 < (x0_1.size : Int)) = true := decide_eq_true c3
          have c3b1 : decide (0 < x0_1.size) = true := decide_eq_true (by omega)
          clear c3
          by_cases c5 : (bt x0_1 0) = 91
          · rw [if_pos c5] at H
            have c5b0 : ((bt x0_1 0) == 91) = true := beq_iff_eq.mpr c5
            have c5b1 : ((bt x0_1 0) != 91) = false := bne_eq_false_iff_eq.mpr c5
            clear c5
            replace H := Option.bind_eq_some_iff.mp H
            obtain ⟨t114, A60, H⟩ := H
            replace H : (if 0 ≤ t114 then (if t114 ≤ (x0_1.size : Int) then (if x3_1.length < 8796093022208 then (glob_split.l0 k1 (x0_1.extract (t114 : Int).toNat x0_1.size) (x3_1 ++ [x0_1.extract 0 (t114 : Int).toNat])) else (none)) else (none)) else (none)) = some r := H
            have A6 := Aside0.mk A60
            clear A60
            by_cases c7 : 0 ≤ t114
            · rw [if_pos c7] at H
              have c7b0 := eq_true c7
              have c7b1 : decide (0 ≤ t114) = true := decide_eq_true c7
              clear c7
              by_cases c8 : t114 ≤ (x0_1.size : Int)
              · rw [if_pos c8] at H
                have c8b0 := eq_true c8
                have c8b1 : decide (t114 ≤ (x0_1.size : Int)) = true := decide_eq_true c8
                clear c8
                by_cases c9 : x3_1.length < 8796093022208
                · rw [if_pos c9] at H
                  have LMc9 := Aside0.mk c9
                  clear c9
                  obtain ⟨y115, hy115⟩ : ∃ y_ : List ByteArray, y_ = (x3_1 ++ [x0_1.extract 0 (t114 : Int).toNat]) := ⟨_, rfl⟩
                  replace H : (glob_split.l0 k1 (x0_1.extract (t114 : Int).toNat x0_1.size) y115) = some r := by first | (rw [hy115]; with_reducible exact H) | (have H2_ := (Option.bind_some _ _).symm.trans H; rw [hy115]; with_reducible exact H2_) | (have H2_ := (Option.bind_some _ _).symm.trans H; with_reducible exact H2_) | with_reducible exact H | (rw [hy115]; exact H) | exact H
                  have Ny115 := Aside0.mk hy115
                  clear hy115
                  have c10b0 := eq_true (of_decide_eq_true (by first | (with_reducible assumption) | assumption) : 0 ≤ t114)
                  have c11b0 := eq_true (of_decide_eq_true (by first | (with_reducible assumption) | assumption) : t114 ≤ (x0_1.size : Int))
                  have H' := Aside0.mk H
                  clear H
                  have p4 : 0 ≤ (0 : Int) := (by omega)
                  have q4 : 0 < x0_1.size := (by have : (0 : Int) < (x0_1.size : Int) := of_decide_eq_true (by first | (with_reducible assumption) | assumption); omega)
                  have hx4 : ∀ h : 0 < x0_1.size, ((x0_1[0]'h).toNat : Int) = bt x0_1 0 := bt_at x0_1 0
                  clear p4
                  have qi4 : (0 < (x0_1.size : Int)) = True := eq_true (of_decide_eq_true (by first | (with_reducible assumption) | assumption))
                  replace q4 := eq_true q4
                  go_wp2_with (first | ((with_reducible refine gate_callee (f := 37) rfl ?_); refine goesL_ (some 11) rfl rfl Tryd.func37 (by kernel_rfl) rfl #[.string x0_1] rfl (by (try simp only [List.map_toArray, List.map_cons, List.map_nil]); first | done | rfl | (simp only [List.length_drop, List.length_take]; rfl)) ?_; (with_reducible refine (glob_end.calls k1 x0_1 t114 _ A6.out).mono ?_); rintro e w' ⟨rfl, ⟨nd, rfl⟩⟩; refine ⟨_, rfl, ?_⟩) | ((with_reducible refine gate_builtin (b := .append) (xs := #[.tmp 12, .tmp 16]) rfl ?_); at_builtin; refine Kd.R_append Kd.string (w0 := w) w.heap.size rfl (.tmp 12) (.tmp 16) 44 9 (.string ⟨#[]⟩) 16 rfl Tryd.underlying44 info9 rfl (by decide) (by omega) u3 x3_1 (x0_1.extract 0 (t114 : Int).toNat) [.string (x0_1.extract 0 (t114 : Int).toNat)] (fun _ => True) (fun _ => False) rfl rfl ?aP (fun _ hk => hk.elim) ?aF ?aO ?aB ?aS ?aL ?_; (case aP => exact rfl); (case aB => exact (by repeat (first | (with_reducible first | exact HB.out | apply below_alloc | apply pw_below_drewN | apply below_drew1) | exact HB.out))); (case aF => exact (fun _ _ => trivial)); (case aO => exact (by (with_reducible repeat (first | apply Kd.R_alloc | apply Kd.R_drewN | apply Kd.R_drew)); exact HO_3.out)); (case aS => exact (below_size (by repeat (first | (with_reducible first | exact HB.out | apply below_alloc | apply pw_below_drewN | apply below_drew1) | exact HB.out)))); (case aL => have := LMc9.out; omega); intro v116 w12 ho hb hg hat; rw [← Ny115.out] at ho; have n0_ := Aside0.mk (hb); have n1_ := Aside0.mk (ho); clear HB; clear HO_3; have HB := n0_; have HO117 := n1_; clear n0_ n1_; clear ho hb hg hat))
                  go_roundg k1
                  case measure => have := HK1.out; omega
                  case rel => exact ⟨(x0_1.extract (t114 : Int).toNat x0_1.size), (y115), (by first | rfl | (simp; done) | (simp [*]; done)), H', ⟨by have := HK1.out; omega⟩, ⟨by (with_reducible repeat (first | apply Kd.R_alloc | apply Kd.R_drewN | apply Kd.R_drew)); exact HO117.out⟩, ⟨by repeat (first | (with_reducible first | exact HB.out | apply below_alloc | apply pw_below_drewN | apply below_drew1) | exact HB.out)⟩⟩
                · rw [if_neg c9] at H
                  exact absurd H (by simp)
              · rw [if_neg c8] at H
                exact absurd H (by simp)
            · rw [if_neg c7] at H
              exact absurd H (by simp)
          · rw [if_neg c5] at H
            have c5b0 : ((bt x0_1 0) == 91) = false := beq_eq_false_iff_ne.mpr c5
            have c5b1 : ((bt x0_1 0) != 91) = true := bne_iff_ne.mpr c5
            by_cases c13 : 0 ≤ 1
            · rw [if_pos c13] at H
              have c13b0 := eq_true c13
              have c13b1 : decide (0 ≤ 1) = true := decide_eq_true c13
              clear c13
              by_cases c14 : 1 ≤ (x0_1.size : Int)
              · rw [if_pos c14] at H
                have c14b0 := eq_true c14
                have c14b1 : decide (1 ≤ (x0_1.size : Int)) = true := decide_eq_true c14
                clear c14
                by_cases c15 : x3_1.length < 8796093022208
                · rw [if_pos c15] at H
                  have LMc15 := Aside0.mk c15
                  clear c15
                  obtain ⟨y118, hy118⟩ : ∃ y_ : List ByteArray, y_ = (x3_1 ++ [x0_1.extract 0 1]) := ⟨_, rfl⟩
                  replace H : (glob_split.l0 k1 (x0_1.extract 1 x0_1.size) y118) = some r := by first | (rw [hy118]; with_reducible exact H) | (have H2_ := (Option.bind_some _ _).symm.trans H; rw [hy118]; with_reducible exact H2_) | (have H2_ := (Option.bind_some _ _).symm.trans H; with_reducible exact H2_) | with_reducible exact H | (rw [hy118]; exact H) | exact H
                  have Ny118 := Aside0.mk hy118
                  clear hy118
                  have c16b0 := eq_true (of_decide_eq_true (by first | (with_reducible assumption) | assumption) : 1 ≤ (x0_1.size : Int))
                  have H' := Aside0.mk H
                  clear H
                  have p4 : 0 ≤ (0 : Int) := (by omega)
                  have q4 : 0 < x0_1.size := (by have : (0 : Int) < (x0_1.size : Int) := of_decide_eq_true (by first | (with_reducible assumption) | assumption); omega)
                  have hx4 : ∀ h : 0 < x0_1.size, ((x0_1[0]'h).toNat : Int) = bt x0_1 0 := bt_at x0_1 0
                  clear p4
                  have qi4 : (0 < (x0_1.size : Int)) = True := eq_true (of_decide_eq_true (by first | (with_reducible assumption) | assumption))
                  replace q4 := eq_true q4
                  go_wp2_with (first | ((with_reducible refine gate_builtin (b := .append) (xs := #[.tmp 12, .tmp 16]) rfl ?_); at_builtin; refine Kd.R_append Kd.string (w0 := w) w.heap.size rfl (.tmp 12) (.tmp 16) 44 9 (.string ⟨#[]⟩) 16 rfl Tryd.underlying44 info9 rfl (by decide) (by omega) u3 x3_1 (x0_1.extract 0 1) [.string (x0_1.extract 0 1)] (fun _ => True) (fun _ => False) rfl rfl ?aP (fun _ hk => hk.elim) ?aF ?aO ?aB ?aS ?aL ?_; (case aP => exact rfl); (case aB => exact (by repeat (first | (with_reducible first | exact HB.out | apply below_alloc | apply pw_below_drewN | apply below_drew1) | exact HB.out))); (case aF => exact (fun _ _ => trivial)); (case aO => exact (by (with_reducible repeat (first | apply Kd.R_alloc | apply Kd.R_drewN | apply Kd.R_drew)); exact HO_3.out)); (case aS => exact (below_size (by repeat (first | (with_reducible first | exact HB.out | apply below_alloc | apply pw_below_drewN | apply below_drew1) | exact HB.out)))); (case aL => have := LMc15.out; omega); intro v119 w17 ho hb hg hat; rw [← Ny118.out] at ho; have n0_ := Aside0.mk (hb); have n1_ := Aside0.mk (ho); clear HB; clear HO_3; have HB := n0_; have HO120 := n1_; clear n0_ n1_; clear ho hb hg hat))
                  go_roundg k1
                  case measure => have := HK1.out; omega
                  case rel => exact ⟨(x0_1.extract 1 x0_1.size), (y118), (by first | rfl | (simp; done) | (simp [*]; done)), H', ⟨by have := HK1.out; omega⟩, ⟨by (with_reducible repeat (first | apply Kd.R_alloc | apply Kd.R_drewN | apply Kd.R_drew)); exact HO120.out⟩, ⟨by repeat (first | (with_reducible first | exact HB.out | apply below_alloc | apply pw_below_drewN | apply below_drew1) | exact HB.out)⟩⟩
                · rw [if_neg c15] at H
                  exact absurd H (by simp)
              · rw [if_neg c14] at H
                exact absurd H (by simp)
            · rw [if_neg c13] at H
              exact absurd H (by simp)
        · rw [if_neg c3] at H
          exact absurd H (by simp)

/-! ### glob_set: function 64 -/
/-- One sign, or a range, of a set: its lowest, its highest, what is behind it. -/
def setStep (x : ByteArray) : Int × Int × ByteArray :=
  if 2 < (x.extract 1 x.size).size ∧ bt (x.extract 1 x.size) 0 = 45 ∧ bt (x.extract 1 x.size) 1 ≠ 93 then (bt x 0, bt (x.extract 1 x.size) 1, (x.extract 1 x.size).extract 2 (x.extract 1 x.size).size) else (bt x 0, bt x 0, x.extract 1 x.size)
def setL (c : Int) (nt : Bool) : Nat → ByteArray → Bool → Int → Option (Bool × ByteArray)
  | 0, _, _, _ => none
  | f + 1, x, i, k => if x.size = 0 ∨ x.size > 1000000000 ∨ k > 1000000000 then none else if k > 0 ∧ bt x 0 = 93 then some (i != nt, x.extract 1 x.size)
    else setL c nt f (setStep x).2.2 (i || (decide ((setStep x).1 ≤ c) && decide (c ≤ (setStep x).2.1))) (k + 1)
def glob_set.f (a0 : ByteArray) (a1 : Int) : Option (Bool × ByteArray) := if 1 ≤ a0.size then (strings_HasPrefix.f (a0.extract 1 a0.size) (⟨#[33]⟩ : ByteArray)).bind fun nt => if nt = true then (if 1 ≤ (a0.extract 1 a0.size).size then setL a1 nt (a0.size + 1) ((a0.extract 1 a0.size).extract 1 (a0.extract 1 a0.size).size) false 0 else none) else setL a1 nt (a0.size + 1) (a0.extract 1 a0.size) false 0 else none
set_option maxHeartbeats 4000000 in
set_option maxRecDepth 100000 in
theorem glob_set.calls (a0 : ByteArray) (a1 : Int) (r1 : Bool) (r2 : ByteArray) (w : World) (h : glob_set.f a0 a1 = some (r1, r2)) :
    Calls Tryd.prog 64 #[.string a0, .int .u8 a1] w fun e w' => e = .returned (.tuple #[.bool r1, .string r2]) ∧ Drawn0 w w' := by
  unfold glob_set.f at h
  split at h
  case isFalse => cases h
  rename_i h1
  rw [Option.bind_eq_some_iff] at h
  obtain ⟨nt, hp, h⟩ := h
  have HP := Aside0.mk hp
  have h1i : (1 : Int) ≤ (a0.size : Int) := by omega
  have key : ∃ x, (if nt = true then 1 ≤ (a0.extract 1 a0.size).size ∧ x = ((a0.extract 1 a0.size).extract 1 (a0.extract 1 a0.size).size) else x = a0.extract 1 a0.size) ∧ setL a1 nt (a0.size + 1) x false 0 = some (r1, r2) := by
    split at h
    · rename_i hn
      split at h
      case isFalse => cases h
      rename_i h2
      exact ⟨_, by rw [if_pos hn]; exact ⟨h2, rfl⟩, h⟩
    · rename_i hn
      exact ⟨_, by rw [if_neg hn], h⟩
  obtain ⟨x0, hx0, hs⟩ := key
  have HS := Aside0.mk hs
  have HX := Aside0.mk hx0
  clear h hp hs hx0
  go_enter Tryd.func64, Tryd.ntmps64
  go_upto_if 16 with (go_at_call 23; refine (strings_HasPrefix.calls _ _ _ _ HP.out).mono ?_; rintro e w' ⟨rfl, ⟨nd, rfl⟩⟩)
  go_cut [6] from 17 to 18 (fun v6 wx => v6 = .string x0 ∧ ∃ n, wx = w.drewN n)
  case first =>
    cases nt with
    | true =>
      have h2 := HX.out
      rw [if_pos rfl] at h2
      obtain ⟨h3, h4⟩ := h2
      have h3i : (1 : Int) ≤ ((a0.extract 1 a0.size).size : Int) := by omega
      have H4 := Aside0.mk h4
      clear h4
      go_wp2_with fail
      go_meet
      case rel => exact ⟨by rw [H4.out]; simp [ByteArray.size_extract], _, rfl⟩
    | false =>
      have h2 := HX.out
      rw [if_neg (by decide)] at h2
      have H4 := Aside0.mk h2
      clear h2
      go_wp2_with fail
      go_meet
      case rel => exact ⟨by rw [H4.out], _, rfl⟩
  case rest =>
    obtain ⟨rfl, n0, rfl⟩ := hcut
    clear HX
    go_wp2_with fail
    go_loopg [6, 8, 9] (a0.size + 1) (fun kq v6 v8 v9 w' => ∃ (x : ByteArray) (i : Bool) (k : Int), v6 = .string x ∧ v8 = .bool i ∧ v9 = .int .i64 k ∧ Aside0 (setL a1 nt kq x i k = some (r1, r2)) ∧ Aside0 (0 ≤ k) ∧ Drawn0 w w')
    case atStart => exact ⟨x0, false, 0, rfl, rfl, rfl, HS, ⟨Int.le_refl _⟩, ⟨_, rfl⟩⟩
    case round =>
      obtain ⟨x, i, k, rfl, rfl, rfl, HA, HK, nd, rfl⟩ := hrel
      cases gk with
      | zero => exact absurd HA.out (by simp [setL])
      | succ g =>
        have h := HA.out
        rw [setL] at h
        split at h
        case isTrue => cases h
        rename_i hsz
        have hs1 : 1 ≤ x.size := by omega
        have hs1i : (1 : Int) ≤ (x.size : Int) := by omega
        have hs0i : (0 : Int) < (x.size : Int) := by omega
        have HK1 := Aside0.mk (show k ≤ 1000000000 by omega)
        clear hsz HS HA
        split at h
        · rename_i hk
          obtain ⟨hk1, hk2⟩ := hk
          have hb : (bt x 0 == 93) = true := beq_iff_eq.mpr hk2
          injection h with h
          injection h with h5 h6
          subst h5
          subst h6
          clear hk2
          have hb1 : (k > 0) = True := eq_true hk1
          have hbk : (0 < k) = True := eq_true hk1
          have hx0 : ∀ h : 0 < x.size, ((x[0]'h).toNat : Int) = bt x 0 := bt_at x 0
          go_upto_region 9 with (fail)
          go_quiet (fail)
          all_goals go_wp2
          all_goals go_ret2
          all_goals exact ⟨by first | rfl | (simp; done), by first | exact ⟨_, rfl⟩ | exact ⟨_, World.drewN_drewN _ _ _⟩⟩
        · rename_i hk
          by_cases hk1 : k > 0
          · have hb2 : bt x 0 ≠ 93 := fun e => hk ⟨hk1, e⟩
            have hb : (bt x 0 == 93) = false := beq_eq_false_iff_ne.mpr hb2
            have hbk : (0 < k) = True := eq_true hk1
            clear hk hb2
            have hx0 : ∀ h : 0 < x.size, ((x[0]'h).toNat : Int) = bt x 0 := bt_at x 0
            have HH := Aside0.mk h
            clear h
            go_upto_region 13 with (fail)
            obtain ⟨y, hy⟩ : ∃ y, y = x.extract 1 x.size := ⟨_, rfl⟩
            rw [← hy]
            replace hy := hy.symm
            have hy0 : ∀ h : 0 < y.size, ((y[0]'h).toNat : Int) = bt y 0 := bt_at y 0
            have hy1 : ∀ h : 1 < y.size, ((y[1]'h).toNat : Int) = bt y 1 := bt_at y 1
            have HY := Aside0.mk hy
            clear hy
            by_cases g2 : 2 < y.size
            · have g2i : (2 < (y.size : Int)) = True := eq_true (by omega)
              have g0n : (0 : Int) < (y.size : Int) := by omega
              have g1n : (1 : Int) < (y.size : Int) := by omega
              have g2n : (2 : Int) ≤ (y.size : Int) := by omega
              have g0m : 0 < y.size := by omega
              have g1m : 1 < y.size := by omega
              have g2m : 2 ≤ y.size := by omega
              by_cases g45 : bt y 0 = 45
              · have g45b : (bt y 0 == 45) = true := beq_iff_eq.mpr g45
                by_cases g93 : bt y 1 = 93
                · have g93b : (bt y 1 != 93) = false := by rw [g93]; rfl
                  have HST := Aside0.mk (show setStep x = (bt x 0, bt x 0, y) from by unfold setStep; rw [HY.out]; rw [if_neg (fun h => h.2.2 g93)])
                  clear g2 g45 g93
                  go_upto_region 16 with (fail)
                  cases i with
                  | true =>
                    go_wp2_with fail
                    go_roundg g
                    case measure => omega
                    case rel => exact ⟨y, true, k + 1, rfl, rfl, by rw [w64 (by have := HK.out; omega) (by have := HK1.out; omega)], ⟨by have := HH.out; rw [HST.out] at this; simpa using this⟩, ⟨by have := HK.out; omega⟩, ⟨_, rfl⟩⟩
                  | false =>
                    by_cases hlo : bt x 0 ≤ a1
                    · have hlo1 : decide (bt x 0 ≤ a1) = true := decide_eq_true hlo
                      go_wp2_with fail
                      go_roundg g
                      case measure => omega
                      case rel => exact ⟨y, decide (a1 ≤ bt x 0), k + 1, rfl, by first | rfl | simp, by rw [w64 (by have := HK.out; omega) (by have := HK1.out; omega)], ⟨by have := HH.out; rw [HST.out] at this; simpa [hlo] using this⟩, ⟨by have := HK.out; omega⟩, ⟨_, rfl⟩⟩
                    · have hlo1 : decide (bt x 0 ≤ a1) = false := decide_eq_false hlo
                      go_wp2_with fail
                      go_roundg g
                      case measure => omega
                      case rel => exact ⟨y, false, k + 1, rfl, by first | rfl | simp, by rw [w64 (by have := HK.out; omega) (by have := HK1.out; omega)], ⟨by have := HH.out; rw [HST.out] at this; dsimp only at this; rw [hlo1, Bool.false_and, Bool.or_false] at this; exact this⟩, ⟨by have := HK.out; omega⟩, ⟨_, rfl⟩⟩
                · have g93b : (bt y 1 != 93) = true := bne_iff_ne.mpr g93
                  have HST := Aside0.mk (show setStep x = (bt x 0, bt y 1, (y.extract 2 y.size)) from by unfold setStep; rw [HY.out]; rw [if_pos ⟨g2, g45, g93⟩])
                  clear g2 g45 g93
                  go_upto_region 16 with (fail)
                  cases i with
                  | true =>
                    go_wp2_with fail
                    go_roundg g
                    case measure => omega
                    case rel => exact ⟨(y.extract 2 y.size), true, k + 1, rfl, rfl, by rw [w64 (by have := HK.out; omega) (by have := HK1.out; omega)], ⟨by have := HH.out; rw [HST.out] at this; simpa using this⟩, ⟨by have := HK.out; omega⟩, ⟨_, rfl⟩⟩
                  | false =>
                    by_cases hlo : bt x 0 ≤ a1
                    · have hlo1 : decide (bt x 0 ≤ a1) = true := decide_eq_true hlo
                      go_wp2_with fail
                      go_roundg g
                      case measure => omega
                      case rel => exact ⟨(y.extract 2 y.size), decide (a1 ≤ bt y 1), k + 1, rfl, by first | rfl | simp, by rw [w64 (by have := HK.out; omega) (by have := HK1.out; omega)], ⟨by have := HH.out; rw [HST.out] at this; simpa [hlo] using this⟩, ⟨by have := HK.out; omega⟩, ⟨_, rfl⟩⟩
                    · have hlo1 : decide (bt x 0 ≤ a1) = false := decide_eq_false hlo
                      go_wp2_with fail
                      go_roundg g
                      case measure => omega
                      case rel => exact ⟨(y.extract 2 y.size), false, k + 1, rfl, by first | rfl | simp, by rw [w64 (by have := HK.out; omega) (by have := HK1.out; omega)], ⟨by have := HH.out; rw [HST.out] at this; dsimp only at this; rw [hlo1, Bool.false_and, Bool.or_false] at this; exact this⟩, ⟨by have := HK.out; omega⟩, ⟨_, rfl⟩⟩
              · have g45b : (bt y 0 == 45) = false := beq_eq_false_iff_ne.mpr g45
                have HST := Aside0.mk (show setStep x = (bt x 0, bt x 0, y) from by unfold setStep; rw [HY.out]; rw [if_neg (fun h => g45 h.2.1)])
                clear g2 g45
                go_upto_region 16 with (fail)
                cases i with
                | true =>
                  go_wp2_with fail
                  go_roundg g
                  case measure => omega
                  case rel => exact ⟨y, true, k + 1, rfl, rfl, by rw [w64 (by have := HK.out; omega) (by have := HK1.out; omega)], ⟨by have := HH.out; rw [HST.out] at this; simpa using this⟩, ⟨by have := HK.out; omega⟩, ⟨_, rfl⟩⟩
                | false =>
                  by_cases hlo : bt x 0 ≤ a1
                  · have hlo1 : decide (bt x 0 ≤ a1) = true := decide_eq_true hlo
                    go_wp2_with fail
                    go_roundg g
                    case measure => omega
                    case rel => exact ⟨y, decide (a1 ≤ bt x 0), k + 1, rfl, by first | rfl | simp, by rw [w64 (by have := HK.out; omega) (by have := HK1.out; omega)], ⟨by have := HH.out; rw [HST.out] at this; simpa [hlo] using this⟩, ⟨by have := HK.out; omega⟩, ⟨_, rfl⟩⟩
                  · have hlo1 : decide (bt x 0 ≤ a1) = false := decide_eq_false hlo
                    go_wp2_with fail
                    go_roundg g
                    case measure => omega
                    case rel => exact ⟨y, false, k + 1, rfl, by first | rfl | simp, by rw [w64 (by have := HK.out; omega) (by have := HK1.out; omega)], ⟨by have := HH.out; rw [HST.out] at this; dsimp only at this; rw [hlo1, Bool.false_and, Bool.or_false] at this; exact this⟩, ⟨by have := HK.out; omega⟩, ⟨_, rfl⟩⟩
            · have g2i : (2 < (y.size : Int)) = False := eq_false (by omega)
              have HST := Aside0.mk (show setStep x = (bt x 0, bt x 0, y) from by unfold setStep; rw [HY.out]; rw [if_neg (fun h => g2 h.1)])
              clear g2
              go_upto_region 16 with (fail)
              cases i with
              | true =>
                go_wp2_with fail
                go_roundg g
                case measure => omega
                case rel => exact ⟨y, true, k + 1, rfl, rfl, by rw [w64 (by have := HK.out; omega) (by have := HK1.out; omega)], ⟨by have := HH.out; rw [HST.out] at this; simpa using this⟩, ⟨by have := HK.out; omega⟩, ⟨_, rfl⟩⟩
              | false =>
                by_cases hlo : bt x 0 ≤ a1
                · have hlo1 : decide (bt x 0 ≤ a1) = true := decide_eq_true hlo
                  go_wp2_with fail
                  go_roundg g
                  case measure => omega
                  case rel => exact ⟨y, decide (a1 ≤ bt x 0), k + 1, rfl, by first | rfl | simp, by rw [w64 (by have := HK.out; omega) (by have := HK1.out; omega)], ⟨by have := HH.out; rw [HST.out] at this; simpa [hlo] using this⟩, ⟨by have := HK.out; omega⟩, ⟨_, rfl⟩⟩
                · have hlo1 : decide (bt x 0 ≤ a1) = false := decide_eq_false hlo
                  go_wp2_with fail
                  go_roundg g
                  case measure => omega
                  case rel => exact ⟨y, false, k + 1, rfl, by first | rfl | simp, by rw [w64 (by have := HK.out; omega) (by have := HK1.out; omega)], ⟨by have := HH.out; rw [HST.out] at this; dsimp only at this; rw [hlo1, Bool.false_and, Bool.or_false] at this; exact this⟩, ⟨by have := HK.out; omega⟩, ⟨_, rfl⟩⟩
          · have hbk : (0 < k) = False := eq_false hk1
            clear hk
            have hx0 : ∀ h : 0 < x.size, ((x[0]'h).toNat : Int) = bt x 0 := bt_at x 0
            have HH := Aside0.mk h
            clear h
            go_upto_region 13 with (fail)
            obtain ⟨y, hy⟩ : ∃ y, y = x.extract 1 x.size := ⟨_, rfl⟩
            rw [← hy]
            replace hy := hy.symm
            have hy0 : ∀ h : 0 < y.size, ((y[0]'h).toNat : Int) = bt y 0 := bt_at y 0
            have hy1 : ∀ h : 1 < y.size, ((y[1]'h).toNat : Int) = bt y 1 := bt_at y 1
            have HY := Aside0.mk hy
            clear hy
            by_cases g2 : 2 < y.size
            · have g2i : (2 < (y.size : Int)) = True := eq_true (by omega)
              have g0n : (0 : Int) < (y.size : Int) := by omega
              have g1n : (1 : Int) < (y.size : Int) := by omega
              have g2n : (2 : Int) ≤ (y.size : Int) := by omega
              have g0m : 0 < y.size := by omega
              have g1m : 1 < y.size := by omega
              have g2m : 2 ≤ y.size := by omega
              by_cases g45 : bt y 0 = 45
              · have g45b : (bt y 0 == 45) = true := beq_iff_eq.mpr g45
                by_cases g93 : bt y 1 = 93
                · have g93b : (bt y 1 != 93) = false := by rw [g93]; rfl
                  have HST := Aside0.mk (show setStep x = (bt x 0, bt x 0, y) from by unfold setStep; rw [HY.out]; rw [if_neg (fun h => h.2.2 g93)])
                  clear g2 g45 g93
                  go_upto_region 16 with (fail)
                  cases i with
                  | true =>
                    go_wp2_with fail
                    go_roundg g
                    case measure => omega
                    case rel => exact ⟨y, true, k + 1, rfl, rfl, by rw [w64 (by have := HK.out; omega) (by have := HK1.out; omega)], ⟨by have := HH.out; rw [HST.out] at this; simpa using this⟩, ⟨by have := HK.out; omega⟩, ⟨_, rfl⟩⟩
                  | false =>
                    by_cases hlo : bt x 0 ≤ a1
                    · have hlo1 : decide (bt x 0 ≤ a1) = true := decide_eq_true hlo
                      go_wp2_with fail
                      go_roundg g
                      case measure => omega
                      case rel => exact ⟨y, decide (a1 ≤ bt x 0), k + 1, rfl, by first | rfl | simp, by rw [w64 (by have := HK.out; omega) (by have := HK1.out; omega)], ⟨by have := HH.out; rw [HST.out] at this; simpa [hlo] using this⟩, ⟨by have := HK.out; omega⟩, ⟨_, rfl⟩⟩
                    · have hlo1 : decide (bt x 0 ≤ a1) = false := decide_eq_false hlo
                      go_wp2_with fail
                      go_roundg g
                      case measure => omega
                      case rel => exact ⟨y, false, k + 1, rfl, by first | rfl | simp, by rw [w64 (by have := HK.out; omega) (by have := HK1.out; omega)], ⟨by have := HH.out; rw [HST.out] at this; dsimp only at this; rw [hlo1, Bool.false_and, Bool.or_false] at this; exact this⟩, ⟨by have := HK.out; omega⟩, ⟨_, rfl⟩⟩
                · have g93b : (bt y 1 != 93) = true := bne_iff_ne.mpr g93
                  have HST := Aside0.mk (show setStep x = (bt x 0, bt y 1, (y.extract 2 y.size)) from by unfold setStep; rw [HY.out]; rw [if_pos ⟨g2, g45, g93⟩])
                  clear g2 g45 g93
                  go_upto_region 16 with (fail)
                  cases i with
                  | true =>
                    go_wp2_with fail
                    go_roundg g
                    case measure => omega
                    case rel => exact ⟨(y.extract 2 y.size), true, k + 1, rfl, rfl, by rw [w64 (by have := HK.out; omega) (by have := HK1.out; omega)], ⟨by have := HH.out; rw [HST.out] at this; simpa using this⟩, ⟨by have := HK.out; omega⟩, ⟨_, rfl⟩⟩
                  | false =>
                    by_cases hlo : bt x 0 ≤ a1
                    · have hlo1 : decide (bt x 0 ≤ a1) = true := decide_eq_true hlo
                      go_wp2_with fail
                      go_roundg g
                      case measure => omega
                      case rel => exact ⟨(y.extract 2 y.size), decide (a1 ≤ bt y 1), k + 1, rfl, by first | rfl | simp, by rw [w64 (by have := HK.out; omega) (by have := HK1.out; omega)], ⟨by have := HH.out; rw [HST.out] at this; simpa [hlo] using this⟩, ⟨by have := HK.out; omega⟩, ⟨_, rfl⟩⟩
                    · have hlo1 : decide (bt x 0 ≤ a1) = false := decide_eq_false hlo
                      go_wp2_with fail
                      go_roundg g
                      case measure => omega
                      case rel => exact ⟨(y.extract 2 y.size), false, k + 1, rfl, by first | rfl | simp, by rw [w64 (by have := HK.out; omega) (by have := HK1.out; omega)], ⟨by have := HH.out; rw [HST.out] at this; dsimp only at this; rw [hlo1, Bool.false_and, Bool.or_false] at this; exact this⟩, ⟨by have := HK.out; omega⟩, ⟨_, rfl⟩⟩
              · have g45b : (bt y 0 == 45) = false := beq_eq_false_iff_ne.mpr g45
                have HST := Aside0.mk (show setStep x = (bt x 0, bt x 0, y) from by unfold setStep; rw [HY.out]; rw [if_neg (fun h => g45 h.2.1)])
                clear g2 g45
                go_upto_region 16 with (fail)
                cases i with
                | true =>
                  go_wp2_with fail
                  go_roundg g
                  case measure => omega
                  case rel => exact ⟨y, true, k + 1, rfl, rfl, by rw [w64 (by have := HK.out; omega) (by have := HK1.out; omega)], ⟨by have := HH.out; rw [HST.out] at this; simpa using this⟩, ⟨by have := HK.out; omega⟩, ⟨_, rfl⟩⟩
                | false =>
                  by_cases hlo : bt x 0 ≤ a1
                  · have hlo1 : decide (bt x 0 ≤ a1) = true := decide_eq_true hlo
                    go_wp2_with fail
                    go_roundg g
                    case measure => omega
                    case rel => exact ⟨y, decide (a1 ≤ bt x 0), k + 1, rfl, by first | rfl | simp, by rw [w64 (by have := HK.out; omega) (by have := HK1.out; omega)], ⟨by have := HH.out; rw [HST.out] at this; simpa [hlo] using this⟩, ⟨by have := HK.out; omega⟩, ⟨_, rfl⟩⟩
                  · have hlo1 : decide (bt x 0 ≤ a1) = false := decide_eq_false hlo
                    go_wp2_with fail
                    go_roundg g
                    case measure => omega
                    case rel => exact ⟨y, false, k + 1, rfl, by first | rfl | simp, by rw [w64 (by have := HK.out; omega) (by have := HK1.out; omega)], ⟨by have := HH.out; rw [HST.out] at this; dsimp only at this; rw [hlo1, Bool.false_and, Bool.or_false] at this; exact this⟩, ⟨by have := HK.out; omega⟩, ⟨_, rfl⟩⟩
            · have g2i : (2 < (y.size : Int)) = False := eq_false (by omega)
              have HST := Aside0.mk (show setStep x = (bt x 0, bt x 0, y) from by unfold setStep; rw [HY.out]; rw [if_neg (fun h => g2 h.1)])
              clear g2
              go_upto_region 16 with (fail)
              cases i with
              | true =>
                go_wp2_with fail
                go_roundg g
                case measure => omega
                case rel => exact ⟨y, true, k + 1, rfl, rfl, by rw [w64 (by have := HK.out; omega) (by have := HK1.out; omega)], ⟨by have := HH.out; rw [HST.out] at this; simpa using this⟩, ⟨by have := HK.out; omega⟩, ⟨_, rfl⟩⟩
              | false =>
                by_cases hlo : bt x 0 ≤ a1
                · have hlo1 : decide (bt x 0 ≤ a1) = true := decide_eq_true hlo
                  go_wp2_with fail
                  go_roundg g
                  case measure => omega
                  case rel => exact ⟨y, decide (a1 ≤ bt x 0), k + 1, rfl, by first | rfl | simp, by rw [w64 (by have := HK.out; omega) (by have := HK1.out; omega)], ⟨by have := HH.out; rw [HST.out] at this; simpa [hlo] using this⟩, ⟨by have := HK.out; omega⟩, ⟨_, rfl⟩⟩
                · have hlo1 : decide (bt x 0 ≤ a1) = false := decide_eq_false hlo
                  go_wp2_with fail
                  go_roundg g
                  case measure => omega
                  case rel => exact ⟨y, false, k + 1, rfl, by first | rfl | simp, by rw [w64 (by have := HK.out; omega) (by have := HK1.out; omega)], ⟨by have := HH.out; rw [HST.out] at this; dsimp only at this; rw [hlo1, Bool.false_and, Bool.or_false] at this; exact this⟩, ⟨by have := HK.out; omega⟩, ⟨_, rfl⟩⟩

/-! ### glob_sign: function 55 -/
def glob_sign.f (a0 : ByteArray) (a1 : Int) : Option (Bool) := if 0 < (a0.size : Int) then (if (bt a0 0) = 63 then (some true) else (if (bt a0 0) = 91 then ((glob_set.f a0 a1).bind fun bt121 => (some bt121.1)) else (some ((bt a0 0) == a1)))) else (none)
set_option maxHeartbeats 8000000 in
set_option maxRecDepth 100000 in
theorem glob_sign.calls (a0 : ByteArray) (a1 : Int) (r : Bool) (w : World) (h : glob_sign.f a0 a1 = some r) :
    Calls Tryd.prog 55 #[.string a0, .int .u8 a1] w fun e w' => e = .returned (.bool r) ∧ Drawn0 w w' := by
  have H : (if 0 < (a0.size : Int) then (if (bt a0 0) = 63 then (some true) else (if (bt a0 0) = 91 then ((glob_set.f a0 a1).bind fun bt121 => (some bt121.1)) else (some ((bt a0 0) == a1)))) else (none)) = some r := h
  clear h
  by_cases c3 : 0 < (a0.size : Int)
  · rw [if_pos c3] at H
    have c3b0 : decide (0 < (a0.size : Int)) = true := decide_eq_true c3
    have c3b1 : decide (0 < a0.size) = true := decide_eq_true (by omega)
    clear c3
    by_cases c5 : (bt a0 0) = 63
    · rw [if_pos c5] at H
      have c5b0 : ((bt a0 0) == 63) = true := beq_iff_eq.mpr c5
      have c5b1 : ((bt a0 0) != 63) = false := bne_eq_false_iff_eq.mpr c5
      clear c5
      obtain rfl := Option.some.inj H
      have p4 : 0 ≤ (0 : Int) := (by omega)
      have q4 : 0 < a0.size := (by have : (0 : Int) < (a0.size : Int) := of_decide_eq_true (by first | (with_reducible assumption) | assumption); omega)
      have hx4 : ∀ h : 0 < a0.size, ((a0[0]'h).toNat : Int) = bt a0 0 := bt_at a0 0
      clear p4
      have qi4 : (0 < (a0.size : Int)) = True := eq_true (of_decide_eq_true (by first | (with_reducible assumption) | assumption))
      replace q4 := eq_true q4
      go_enter Tryd.func55, Tryd.ntmps55
      go_wp2
      go_ret
      exact ⟨by first | rfl | (simp; done) | (simp [*]; done), by repeat (first | exact Drawn0.refl _ | apply Drawn0.step)⟩
    · rw [if_neg c5] at H
      have c5b0 : ((bt a0 0) == 63) = false := beq_eq_false_iff_ne.mpr c5
      have c5b1 : ((bt a0 0) != 63) = true := bne_iff_ne.mpr c5
      by_cases c6 : (bt a0 0) = 91
      · rw [if_pos c6] at H
        have c6b0 : ((bt a0 0) == 91) = true := beq_iff_eq.mpr c6
        have c6b1 : ((bt a0 0) != 91) = false := bne_eq_false_iff_eq.mpr c6
        clear c6
        replace H := Option.bind_eq_some_iff.mp H
        obtain ⟨⟨t121, t122⟩, A70, H⟩ := H
        replace H : (some t121) = some r := H
        have A7 := Aside0.mk A70
        clear A70
        obtain rfl := Option.some.inj H
        have p4 : 0 ≤ (0 : Int) := (by omega)
        have q4 : 0 < a0.size := (by have : (0 : Int) < (a0.size : Int) := of_decide_eq_true (by first | (with_reducible assumption) | assumption); omega)
        have hx4 : ∀ h : 0 < a0.size, ((a0[0]'h).toNat : Int) = bt a0 0 := bt_at a0 0
        clear p4
        have qi4 : (0 < (a0.size : Int)) = True := eq_true (of_decide_eq_true (by first | (with_reducible assumption) | assumption))
        replace q4 := eq_true q4
        go_enter Tryd.func55, Tryd.ntmps55
        go_wp2_with (first | ((with_reducible refine gate_callee (f := 64) rfl ?_); refine goesL_ (some 16) rfl rfl Tryd.func64 (by kernel_rfl) rfl #[.string a0, .int .u8 a1] rfl (by (try simp only [List.map_toArray, List.map_cons, List.map_nil]); first | done | rfl | (simp only [List.length_drop, List.length_take]; rfl)) ?_; (with_reducible refine (glob_set.calls a0 a1 t121 t122 _ A7.out).mono ?_); rintro e w' ⟨rfl, ⟨nd, rfl⟩⟩; refine ⟨_, rfl, ?_⟩))
        go_ret
        exact ⟨by first | rfl | (simp; done) | (simp [*]; done), by repeat (first | exact Drawn0.refl _ | apply Drawn0.step)⟩
      · rw [if_neg c6] at H
        have c6b0 : ((bt a0 0) == 91) = false := beq_eq_false_iff_ne.mpr c6
        have c6b1 : ((bt a0 0) != 91) = true := bne_iff_ne.mpr c6
        obtain rfl := Option.some.inj H
        have p4 : 0 ≤ (0 : Int) := (by omega)
        have q4 : 0 < a0.size := (by have : (0 : Int) < (a0.size : Int) := of_decide_eq_true (by first | (with_reducible assumption) | assumption); omega)
        have hx4 : ∀ h : 0 < a0.size, ((a0[0]'h).toNat : Int) = bt a0 0 := bt_at a0 0
        clear p4
        have qi4 : (0 < (a0.size : Int)) = True := eq_true (of_decide_eq_true (by first | (with_reducible assumption) | assumption))
        replace q4 := eq_true q4
        have p8 : 0 ≤ (0 : Int) := (by omega)
        have q8 : 0 < a0.size := (by have : (0 : Int) < (a0.size : Int) := of_decide_eq_true (by first | (with_reducible assumption) | assumption); omega)
        have hx8 : ∀ h : 0 < a0.size, ((a0[0]'h).toNat : Int) = bt a0 0 := bt_at a0 0
        clear p8
        have qi8 : (0 < (a0.size : Int)) = True := eq_true (of_decide_eq_true (by first | (with_reducible assumption) | assumption))
        replace q8 := eq_true q8
        go_enter Tryd.func55, Tryd.ntmps55
        go_wp2
        go_ret
        exact ⟨by first | rfl | (simp; done) | (simp [*]; done), by repeat (first | exact Drawn0.refl _ | apply Drawn0.step)⟩
  · rw [if_neg c3] at H
    exact absurd H (by simp)

end Go.Proofs.YtjpihifgldmgoaaDoor.PGlobSets
