-- Written by a program of this session for this claim (wip/myprint.py over the kit's print).
import Derived.Test.YtbhdfjdopphhdaaPMetaPlainx0
namespace Go.Proofs.Ytbhdfjdopphhdaa.PMetaPlain
open Go.RowKit Go.Proofs.YtbhdfjdopphhdaaW.PrintWords Go.Proofs.YtbhdfjdopphhdaaW.PrintLast Go.Proofs.YtbhdfjdopphhdaaW.PrintMore
attribute [local go_sem] max2_int min2_int max_two min_two max_three min_three max_four min_four   -- for this text's walks alone
set_option linter.unusedVariables false
set_option linter.unusedSimpArgs false

/-! ### creelkeep_picked: function 15 -/
def creelkeep_picked.f (a0 : Int) (a1 : Int) : Option (Int) := if a0 < 0 then (if a1 = 0 then (none) else (some (Int.tmod (wrap64 (-(wrap64 (a0 + 1)))) a1))) else (if a1 = 0 then (none) else (some (Int.tmod a0 a1)))
set_option maxHeartbeats 8000000 in
set_option maxRecDepth 100000 in
theorem creelkeep_picked.calls (a0 : Int) (a1 : Int) (r : Int) (w : World) (h : creelkeep_picked.f a0 a1 = some r) :
    Calls Try.prog 15 #[.int .i64 a0, .int .i64 a1] w fun e w' => e = .returned (.int .i64 r) ∧ Drawn0 w w' := by
  have H : (if a0 < 0 then (if a1 = 0 then (none) else (some (Int.tmod (wrap64 (-(wrap64 (a0 + 1)))) a1))) else (if a1 = 0 then (none) else (some (Int.tmod a0 a1)))) = some r := h
  clear h
  by_cases c3 : a0 < 0
  · rw [if_pos c3] at H
    have c3b0 : decide (a0 < 0) = true := decide_eq_true c3
    clear c3
    by_cases c4 : a1 = 0
    · rw [if_pos c4] at H
      exact absurd H (by simp)
    · rw [if_neg c4] at H
      have c4b0 : (a1 == 0) = false := beq_eq_false_iff_ne.mpr c4
      have c4b1 : (a1 != 0) = true := bne_iff_ne.mpr c4
      obtain rfl := Option.some.inj H
      go_enter Try.func15, Try.ntmps15
      go_wp2
      go_ret
      exact ⟨by first | rfl | (simp; done) | (simp [*]; done), by repeat (first | exact Drawn0.refl _ | apply Drawn0.step)⟩
  · rw [if_neg c3] at H
    have c3b0 : decide (a0 < 0) = false := decide_eq_false c3
    clear c3
    by_cases c5 : a1 = 0
    · rw [if_pos c5] at H
      exact absurd H (by simp)
    · rw [if_neg c5] at H
      have c5b0 : (a1 == 0) = false := beq_eq_false_iff_ne.mpr c5
      have c5b1 : (a1 != 0) = true := bne_iff_ne.mpr c5
      obtain rfl := Option.some.inj H
      go_enter Try.func15, Try.ntmps15
      go_wp2
      go_ret
      exact ⟨by first | rfl | (simp; done) | (simp [*]; done), by repeat (first | exact Drawn0.refl _ | apply Drawn0.step)⟩

/-! ### meta_Text: function 22 -/
/-- The text's bytes when the first i places have been looked at. -/
def mtL : List Int := [114, 119, 120, 114, 119, 120, 114, 119, 120]
def mtBit (m : Int) (p : Nat) : Int := Go.bits .and .i64 (m / 2 ^ p) 1
def mtOne (m : Int) (i : Nat) : List Int := (List.range 9).map fun j => if j < i then (if mtBit m (8 - j) = 0 then 45 else mtL.getD j 0) else mtL.getD j 0
def mtSign (l : List Int) (at_ : Nat) (sign : Int) : List Int := l.set at_ (if l.getD at_ 0 = 45 then sign - 32 else sign)
def mtTwo (m : Int) (k : Nat) : List Int :=
  let l0 := mtOne m 9
  let l1 := if 0 < k then (if mtBit m 9 = 0 then l0 else mtSign l0 8 116) else l0
  let l2 := if 1 < k then (if mtBit m 10 = 0 then l1 else mtSign l1 5 115) else l1
  if 2 < k then (if mtBit m 11 = 0 then l2 else mtSign l2 2 115) else l2
def mtCells (l : List Int) : Array Value := (l.map fun n => Value.int .u8 n).toArray
def meta_Text.f (a0 : Int) : Option (ByteArray × Int) := if a0 < 0 then some ((⟨#[]⟩ : ByteArray), 4) else if a0 > 4095 then some ((⟨#[]⟩ : ByteArray), 4) else some (strOfNums (mtTwo a0 3), 0)
theorem mt_cell {W : World} {g : Nat} {l : List Int} {t : TypeId} {fr : Nat × Nat} (h : W.heap[g]? = some (.cells (mtCells l) t fr)) (i : Nat) (hi : i < l.length) : W.cell? ⟨g, i, none⟩ = some (.int .u8 (l.getD i 0)) := by
  rw [cell_of_row W g i _ t fr h]
  simp [mtCells, List.getD_eq_getElem?_getD, List.getElem?_eq_getElem hi]
theorem mt_free {W : World} {g : Nat} {l : List Int} {t : TypeId} (h : W.heap[g]? = some (.cells (mtCells l) t (9, 10))) (i : Nat) (hi : i < 9) : W.frozen? ⟨g, i, none⟩ = false := by
  simp [World.frozen?, h]
  omega
theorem mt_set {W : World} {g : Nat} {l : List Int} {t : TypeId} {fr : Nat × Nat} (h : W.heap[g]? = some (.cells (mtCells l) t fr)) (i : Nat) (v : Int) : (W.setCell ⟨g, i, none⟩ (.int .u8 v)).heap[g]? = some (.cells (mtCells (l.set i v)) t fr) := by
  simp [World.setCell, Array.getElem?_modify, h, mtCells, List.map_set]
def MtAt (w wr : World) (l : List Int) : Prop := l.length = 9 ∧ wr.heap[w.heap.size]? = some (.cells (mtCells l) 5 (9, 10)) ∧ Below w.heap.size w wr
theorem mtOne_start (m : Int) : mtCells (mtOne m 0) = #[.int .u8 114, .int .u8 119, .int .u8 120, .int .u8 114, .int .u8 119, .int .u8 120, .int .u8 114, .int .u8 119, .int .u8 120] := rfl
theorem mtOne_yes (m : Int) (k : Nat) (hk : k < 9) (h : (Go.bits .and .i64 (m / 2 ^ (8 - k)) 1 == 0) = true) : (mtOne m k).set k 45 = mtOne m (k + 1) := by
  have h' := eq_of_beq h
  obtain rfl | rfl | rfl | rfl | rfl | rfl | rfl | rfl | rfl : k = 0 ∨ k = 1 ∨ k = 2 ∨ k = 3 ∨ k = 4 ∨ k = 5 ∨ k = 6 ∨ k = 7 ∨ k = 8 := by omega
  all_goals (simp [mtOne, mtBit, List.range, List.range.loop] at h' ⊢; simp [h'])
theorem mtOne_no (m : Int) (k : Nat) (hk : k < 9) (h : (Go.bits .and .i64 (m / 2 ^ (8 - k)) 1 == 0) = false) : mtOne m k = mtOne m (k + 1) := by
  have h' := beq_eq_false_iff_ne.1 h
  obtain rfl | rfl | rfl | rfl | rfl | rfl | rfl | rfl | rfl : k = 0 ∨ k = 1 ∨ k = 2 ∨ k = 3 ∨ k = 4 ∨ k = 5 ∨ k = 6 ∨ k = 7 ∨ k = 8 := by omega
  all_goals (simp [mtOne, mtBit, List.range, List.range.loop] at h' ⊢; simp [h'])
theorem mt_step0 (m : Int) {v : Int} (hb : ¬ Go.bits .and .i64 (m / 512) 1 = 0) (h : ((mtTwo m 0).getD 8 0 = 45 ∧ v = 84) ∨ (¬ (mtTwo m 0).getD 8 0 = 45 ∧ v = 116)) : mtTwo m 1 = (mtTwo m 0).set 8 v := by
  have e : mtTwo m 1 = mtSign (mtTwo m 0) 8 116 := by simp [mtTwo, mtBit, hb]
  rw [e]
  unfold mtSign
  rcases h with ⟨h, rfl⟩ | ⟨h, rfl⟩
  · rw [if_pos h]
    rfl
  · rw [if_neg h]
theorem mt_step1 (m : Int) {v : Int} (hb : ¬ Go.bits .and .i64 (m / 1024) 1 = 0) (h : ((mtTwo m 1).getD 5 0 = 45 ∧ v = 83) ∨ (¬ (mtTwo m 1).getD 5 0 = 45 ∧ v = 115)) : mtTwo m 2 = (mtTwo m 1).set 5 v := by
  have e : mtTwo m 2 = mtSign (mtTwo m 1) 5 115 := by simp [mtTwo, mtBit, hb]
  rw [e]
  unfold mtSign
  rcases h with ⟨h, rfl⟩ | ⟨h, rfl⟩
  · rw [if_pos h]
    rfl
  · rw [if_neg h]
theorem mt_step2 (m : Int) {v : Int} (hb : ¬ Go.bits .and .i64 (m / 2048) 1 = 0) (h : ((mtTwo m 2).getD 2 0 = 45 ∧ v = 83) ∨ (¬ (mtTwo m 2).getD 2 0 = 45 ∧ v = 115)) : mtTwo m 3 = (mtTwo m 2).set 2 v := by
  have e : mtTwo m 3 = mtSign (mtTwo m 2) 2 115 := by simp [mtTwo, mtBit, hb]
  rw [e]
  unfold mtSign
  rcases h with ⟨h, rfl⟩ | ⟨h, rfl⟩
  · rw [if_pos h]
    rfl
  · rw [if_neg h]
set_option maxHeartbeats 2000000 in
set_option maxRecDepth 100000 in
theorem meta_Text.calls (a0 : Int) (r1 : ByteArray) (r2 : Int) (w : World) (h : meta_Text.f a0 = some (r1, r2)) :
    Calls Try.prog 22 #[.int .i64 a0] w fun e w' => e = .returned (.tuple #[.string r1, .int .i64 r2]) ∧ Below w.heap.size w w' := by
  unfold meta_Text.f at h
  by_cases c1 : a0 < 0
  · rw [if_pos c1] at h
    simp only [Option.some.injEq, Prod.mk.injEq] at h
    obtain ⟨rfl, rfl⟩ := h
    have c1b : decide (a0 < 0) = true := decide_eq_true c1
    clear c1
    go_enter Try.func22, Try.ntmps22
    go_wp2
    go_ret2
    exact ⟨rfl, Below.refl _ _⟩
  · rw [if_neg c1] at h
    by_cases c2 : a0 > 4095
    · rw [if_pos c2] at h
      simp only [Option.some.injEq, Prod.mk.injEq] at h
      obtain ⟨rfl, rfl⟩ := h
      have c1b : decide (a0 < 0) = false := decide_eq_false c1
      have c2b : decide (4095 < a0) = true := decide_eq_true c2
      clear c1 c2
      go_enter Try.func22, Try.ntmps22
      go_wp2
      go_ret2
      exact ⟨rfl, Below.refl _ _⟩
    · rw [if_neg c2] at h
      simp only [Option.some.injEq, Prod.mk.injEq] at h
      obtain ⟨rfl, rfl⟩ := h
      have c1b : decide (a0 < 0) = false := decide_eq_false c1
      have c2b : decide (4095 < a0) = false := decide_eq_false c2
      have kc := fun (w : World) (C : Array Value) (n c : Nat) => Lib.run_convert_bytes_const (P := Try.prog) w 29 5 C n c Try.underlying29 Try.underlying5
      have b0 : 0 ≤ a0 := by omega
      have b1 : a0 ≤ 4095 := by omega
      clear c1 c2
      go_enter Try.func22, Try.ntmps22
      go_wp2
      go_loopw [19] (fun i wr => ∃ k : Nat, k ≤ 9 ∧ i = .int .i64 k ∧ MtAt w wr (mtOne a0 k)) (fun i _ => 9 - (intOf i).toNat)
      case atStart => exact ⟨0, by omega, rfl, rfl, by rw [mtOne_start]; exact heap_alloc_new w _, below_alloc (Below.refl _ _) _⟩
      case round =>
        obtain ⟨k, hk, rfl, hM⟩ := hrel
        clear kc
        by_cases hlt : k < 9
        · have hc := mt_cell hM.2.1 k (by rw [hM.1]; exact hlt)
          have hf := mt_free hM.2.1 k hlt
          have HM := Aside0.mk hM
          clear hM
          go_wp2
          · have hbit : (Go.bits .and .i64 (a0 / 2 ^ (8 - k)) 1 == 0) = true := by assumption
            refine ⟨⟨k + 1, by omega, by go_num, ?_⟩, by simp [intOf]; omega⟩
            rw [← mtOne_yes a0 k hlt hbit]
            exact ⟨by rw [List.length_set]; exact HM.out.1, mt_set HM.out.2.1 k 45, HM.out.2.2.setCell (Nat.le_refl _) _⟩
          · have hbit : (Go.bits .and .i64 (a0 / 2 ^ (8 - k)) 1 == 0) = false := by assumption
            refine ⟨⟨k + 1, by omega, by go_num, ?_⟩, by simp [intOf]; omega⟩
            rw [← mtOne_no a0 k hlt hbit]
            exact HM.out
        · obtain rfl : k = 9 := by omega
          have HM := Aside0.mk hM
          clear hM
          go_wp2
          obtain ⟨wo, rfl⟩ : ∃ wo : World, wo = wr := ⟨_, rfl⟩
          go_loopw [33] (fun i wr => ∃ k : Nat, k ≤ 3 ∧ i = .int .i64 k ∧ MtAt w wr (mtTwo a0 k)) (fun i _ => 3 - (intOf i).toNat)
          case atStart => exact ⟨0, by omega, rfl, HM.out⟩
          case round =>
            clear HM
            obtain ⟨k, hk, rfl, hM⟩ := hrel
            by_cases hlt : k < 3
            · obtain rfl | rfl | rfl : k = 0 ∨ k = 1 ∨ k = 2 := by omega
              · have hx : ∀ w : World, (Instr.index 46 (.agg #[.int .u8 116, .int .u8 115, .int .u8 115]) (.int .i64 0)).run Try.prog w = .ok (.int .u8 116) w := fun _ => by kernel_rfl
                have hc := mt_cell hM.2.1 8 (by rw [hM.1]; omega)
                have hf := mt_free hM.2.1 8 (by omega)
                have HM := Aside0.mk hM
                clear hM
                go_wp2
                · have hb := eq_of_beq (show (Go.bits .and .i64 (a0 / 512) 1 == 0) = true by assumption)
                  refine ⟨⟨1, by omega, rfl, ?_⟩, by simp [intOf]⟩
                  rw [show mtTwo a0 1 = mtTwo a0 0 by simp [mtTwo, mtBit, hb]]
                  exact HM.out
                · have hb := beq_eq_false_iff_ne.1 (show (Go.bits .and .i64 (a0 / 512) 1 == 0) = false by assumption)
                  have hg := eq_of_beq (show ((mtTwo a0 0)[8]?.getD 0 == 45) = true by assumption)
                  refine ⟨⟨1, by omega, rfl, ?_⟩, by simp [intOf]⟩
                  rw [show mtTwo a0 1 = (mtTwo a0 0).set 8 84 by rw [← List.getD_eq_getElem?_getD] at hg; exact mt_step0 a0 hb (.inl ⟨hg, rfl⟩)]
                  exact ⟨by rw [List.length_set]; exact HM.out.1, mt_set HM.out.2.1 8 84, HM.out.2.2.setCell (Nat.le_refl _) _⟩
                · have hb := beq_eq_false_iff_ne.1 (show (Go.bits .and .i64 (a0 / 512) 1 == 0) = false by assumption)
                  have hg := beq_eq_false_iff_ne.1 (show ((mtTwo a0 0)[8]?.getD 0 == 45) = false by assumption)
                  refine ⟨⟨1, by omega, rfl, ?_⟩, by simp [intOf]⟩
                  rw [show mtTwo a0 1 = (mtTwo a0 0).set 8 116 by rw [← List.getD_eq_getElem?_getD] at hg; exact mt_step0 a0 hb (.inr ⟨hg, rfl⟩)]
                  exact ⟨by rw [List.length_set]; exact HM.out.1, mt_set HM.out.2.1 8 116, HM.out.2.2.setCell (Nat.le_refl _) _⟩
              · have hx : ∀ w : World, (Instr.index 46 (.agg #[.int .u8 116, .int .u8 115, .int .u8 115]) (.int .i64 1)).run Try.prog w = .ok (.int .u8 115) w := fun _ => by kernel_rfl
                have hc := mt_cell hM.2.1 5 (by rw [hM.1]; omega)
                have hf := mt_free hM.2.1 5 (by omega)
                have HM := Aside0.mk hM
                clear hM
                go_wp2
                · have hb := eq_of_beq (show (Go.bits .and .i64 (a0 / 1024) 1 == 0) = true by assumption)
                  refine ⟨⟨2, by omega, rfl, ?_⟩, by simp [intOf]⟩
                  rw [show mtTwo a0 2 = mtTwo a0 1 by simp [mtTwo, mtBit, hb]]
                  exact HM.out
                · have hb := beq_eq_false_iff_ne.1 (show (Go.bits .and .i64 (a0 / 1024) 1 == 0) = false by assumption)
                  have hg := eq_of_beq (show ((mtTwo a0 1)[5]?.getD 0 == 45) = true by assumption)
                  refine ⟨⟨2, by omega, rfl, ?_⟩, by simp [intOf]⟩
                  rw [show mtTwo a0 2 = (mtTwo a0 1).set 5 83 by rw [← List.getD_eq_getElem?_getD] at hg; exact mt_step1 a0 hb (.inl ⟨hg, rfl⟩)]
                  exact ⟨by rw [List.length_set]; exact HM.out.1, mt_set HM.out.2.1 5 83, HM.out.2.2.setCell (Nat.le_refl _) _⟩
                · have hb := beq_eq_false_iff_ne.1 (show (Go.bits .and .i64 (a0 / 1024) 1 == 0) = false by assumption)
                  have hg := beq_eq_false_iff_ne.1 (show ((mtTwo a0 1)[5]?.getD 0 == 45) = false by assumption)
                  refine ⟨⟨2, by omega, rfl, ?_⟩, by simp [intOf]⟩
                  rw [show mtTwo a0 2 = (mtTwo a0 1).set 5 115 by rw [← List.getD_eq_getElem?_getD] at hg; exact mt_step1 a0 hb (.inr ⟨hg, rfl⟩)]
                  exact ⟨by rw [List.length_set]; exact HM.out.1, mt_set HM.out.2.1 5 115, HM.out.2.2.setCell (Nat.le_refl _) _⟩
              · have hx : ∀ w : World, (Instr.index 46 (.agg #[.int .u8 116, .int .u8 115, .int .u8 115]) (.int .i64 2)).run Try.prog w = .ok (.int .u8 115) w := fun _ => by kernel_rfl
                have hc := mt_cell hM.2.1 2 (by rw [hM.1]; omega)
                have hf := mt_free hM.2.1 2 (by omega)
                have HM := Aside0.mk hM
                clear hM
                go_wp2
                · have hb := eq_of_beq (show (Go.bits .and .i64 (a0 / 2048) 1 == 0) = true by assumption)
                  refine ⟨⟨3, by omega, rfl, ?_⟩, by simp [intOf]⟩
                  rw [show mtTwo a0 3 = mtTwo a0 2 by simp [mtTwo, mtBit, hb]]
                  exact HM.out
                · have hb := beq_eq_false_iff_ne.1 (show (Go.bits .and .i64 (a0 / 2048) 1 == 0) = false by assumption)
                  have hg := eq_of_beq (show ((mtTwo a0 2)[2]?.getD 0 == 45) = true by assumption)
                  refine ⟨⟨3, by omega, rfl, ?_⟩, by simp [intOf]⟩
                  rw [show mtTwo a0 3 = (mtTwo a0 2).set 2 83 by rw [← List.getD_eq_getElem?_getD] at hg; exact mt_step2 a0 hb (.inl ⟨hg, rfl⟩)]
                  exact ⟨by rw [List.length_set]; exact HM.out.1, mt_set HM.out.2.1 2 83, HM.out.2.2.setCell (Nat.le_refl _) _⟩
                · have hb := beq_eq_false_iff_ne.1 (show (Go.bits .and .i64 (a0 / 2048) 1 == 0) = false by assumption)
                  have hg := beq_eq_false_iff_ne.1 (show ((mtTwo a0 2)[2]?.getD 0 == 45) = false by assumption)
                  refine ⟨⟨3, by omega, rfl, ?_⟩, by simp [intOf]⟩
                  rw [show mtTwo a0 3 = (mtTwo a0 2).set 2 115 by rw [← List.getD_eq_getElem?_getD] at hg; exact mt_step2 a0 hb (.inr ⟨hg, rfl⟩)]
                  exact ⟨by rw [List.length_set]; exact HM.out.1, mt_set HM.out.2.1 2 115, HM.out.2.2.setCell (Nat.le_refl _) _⟩
            · obtain rfl : k = 3 := by omega
              have hcv := run_convert_bytes_arg (P := Try.prog) (w := wr) 29 5 Try.underlying29 Try.underlying5 w.heap.size 0 9 9 (mtTwo a0 3) hM.1 (fun i hi => by rw [Nat.zero_add]; exact mt_cell hM.2.1 i (by rw [hM.1]; exact hi)) 9 Try.underlying9
              have HM := Aside0.mk hM
              clear hM
              go_wp2
              go_ret2
              exact ⟨rfl, HM.out.2.2⟩

/-! ### creelkeep_MetaPlain: function 7 -/
mutual
def creelkeep_MetaPlain.j0 : Nat → Int → ByteArray → Bool → Option (Bool)
  | 0, _, _, _ => none
  | k + 1, x0, x3, x20 => if x20 = true then (some false) else (creelkeep_MetaPlain.l0 k x0 x3 0)
def creelkeep_MetaPlain.l0 : Nat → Int → ByteArray → Int → Option (Bool)
  | 0, _, _, _ => none
  | k + 1, x0, x3, x21 => if x21 < 9 then (if 0 ≤ x21 then (if 0 ≤ (wrap64 (8 - x21)) then (if (Int.tmod (shr .i64 x0 (wrap64 (8 - x21))) 2) = 0 then (if x21 < (x3.size : Int) then (if (bt x3 x21) = 45 then (creelkeep_MetaPlain.l0 k x0 x3 (wrap64 (x21 + 1))) else (some false)) else (none)) else (if x21 < (x3.size : Int) then (if (bt x3 x21) = (bt (⟨#[114, 119, 120, 114, 119, 120, 114, 119, 120]⟩ : ByteArray) x21) then (creelkeep_MetaPlain.l0 k x0 x3 (wrap64 (x21 + 1))) else (some false)) else (none))) else (none)) else (none)) else (some true)
end
def creelkeep_MetaPlain.f (k : Nat) (a0 : Int) : Option (Bool) := (creelkeep_picked.f a0 512).bind fun t101 => ((meta_Text.f t101).bind fun bt102 => (if bt102.2 = 0 then (creelkeep_MetaPlain.j0 k t101 bt102.1 ((bt102.1.size : Int) != 9)) else (creelkeep_MetaPlain.j0 k t101 bt102.1 true)))
theorem creelkeep_MetaPlain.mono_l : ∀ k, (∀ y0 y1 y2, LeO (creelkeep_MetaPlain.j0 k y0 y1 y2) (creelkeep_MetaPlain.j0 (k + 1) y0 y1 y2)) ∧ (∀ y0 y1 y2, LeO (creelkeep_MetaPlain.l0 k y0 y1 y2) (creelkeep_MetaPlain.l0 (k + 1) y0 y1 y2))
  | 0 => ⟨fun _ _ _ r h => by simp [creelkeep_MetaPlain.j0] at h, fun _ _ _ r h => by simp [creelkeep_MetaPlain.l0] at h⟩
  | k + 1 => by
    obtain ⟨ih0, ih1⟩ := creelkeep_MetaPlain.mono_l k
    refine ⟨?_, ?_⟩
    · intro y0 y1 y2
      unfold creelkeep_MetaPlain.j0
      repeat' first
      | (with_reducible exact ih0 _ _ _)
      | (with_reducible exact ih1 _ _ _)
      | (with_reducible exact LeO.refl _)
      | (with_reducible exact LeO.none _)
      | (with_reducible refine LeO.ite ?_ ?_)
      | (with_reducible refine LeO.bind ?_ (fun _ => ?_))
      | exact ih0 _ _ _
      | exact ih1 _ _ _
      | exact LeO.none _
      | refine LeO.ite ?_ ?_
      | refine LeO.bind ?_ (fun _ => ?_)
    · intro y0 y1 y2
      unfold creelkeep_MetaPlain.l0
      repeat' first
      | (with_reducible exact ih0 _ _ _)
      | (with_reducible exact ih1 _ _ _)
      | (with_reducible exact LeO.refl _)
      | (with_reducible exact LeO.none _)
      | (with_reducible refine LeO.ite ?_ ?_)
      | (with_reducible refine LeO.bind ?_ (fun _ => ?_))
      | exact ih0 _ _ _
      | exact ih1 _ _ _
      | exact LeO.none _
      | refine LeO.ite ?_ ?_
      | refine LeO.bind ?_ (fun _ => ?_)
theorem creelkeep_MetaPlain.mono : ∀ a0 k, LeO (creelkeep_MetaPlain.f k a0) (creelkeep_MetaPlain.f (k + 1) a0) := by
  intro a0 k
  obtain ⟨ih0, ih1⟩ := creelkeep_MetaPlain.mono_l k
  unfold creelkeep_MetaPlain.f
  repeat' first
      | (with_reducible exact ih0 _ _ _)
      | (with_reducible exact ih1 _ _ _)
      | (with_reducible exact LeO.refl _)
      | (with_reducible exact LeO.none _)
      | (with_reducible refine LeO.ite ?_ ?_)
      | (with_reducible refine LeO.bind ?_ (fun _ => ?_))
      | exact ih0 _ _ _
      | exact ih1 _ _ _
      | exact LeO.none _
      | refine LeO.ite ?_ ?_
      | refine LeO.bind ?_ (fun _ => ?_)
set_option maxHeartbeats 8000000 in
set_option maxRecDepth 100000 in
theorem creelkeep_MetaPlain.calls (k : Nat) (a0 : Int) (r : Bool) (w : World) (h : creelkeep_MetaPlain.f k a0 = some r) :
    Calls Try.prog 7 #[.int .i64 a0] w fun e w' => e = .returned (.bool r) ∧ Below w.heap.size w w' := by
  have HB := Aside0.mk (Below.refl w.heap.size w)
  have H : ((creelkeep_picked.f a0 512).bind fun t101 => ((meta_Text.f t101).bind fun bt102 => (if bt102.2 = 0 then (creelkeep_MetaPlain.j0 k t101 bt102.1 ((bt102.1.size : Int) != 9)) else (creelkeep_MetaPlain.j0 k t101 bt102.1 true)))) = some r := h
  clear h
  replace H := Option.bind_eq_some_iff.mp H
  obtain ⟨t101, A20, H⟩ := H
  replace H : ((meta_Text.f t101).bind fun bt102 => (if bt102.2 = 0 then (creelkeep_MetaPlain.j0 k t101 bt102.1 ((bt102.1.size : Int) != 9)) else (creelkeep_MetaPlain.j0 k t101 bt102.1 true))) = some r := H
  have A2 := Aside0.mk A20
  clear A20
  replace H := Option.bind_eq_some_iff.mp H
  obtain ⟨⟨t102, t103⟩, A30, H⟩ := H
  replace H : (if t103 = 0 then (creelkeep_MetaPlain.j0 k t101 t102 ((t102.size : Int) != 9)) else (creelkeep_MetaPlain.j0 k t101 t102 true)) = some r := H
  have A3 := Aside0.mk A30
  clear A30
  have HC4 := Aside0.mk H
  clear H
  go_enter Try.func7, Try.ntmps7
  go_upto_region 3 with (first | ((with_reducible refine gate_callee (f := 15) rfl ?_); refine goesL_ (some 8) rfl rfl Try.func15 (by kernel_rfl) rfl #[.int .i64 a0, .int .i64 512] rfl (by (try simp only [List.map_toArray, List.map_cons, List.map_nil]); first | done | rfl | (simp only [List.length_drop, List.length_take]; rfl)) ?_; (with_reducible refine (creelkeep_picked.calls a0 512 t101 _ A2.out).mono ?_); rintro e w' ⟨rfl, ⟨nd, rfl⟩⟩; refine ⟨_, rfl, ?_⟩) | ((with_reducible refine gate_callee (f := 22) rfl ?_); refine goesL_ (some 11) rfl rfl Try.func22 (by kernel_rfl) rfl #[.int .i64 t101] rfl (by (try simp only [List.map_toArray, List.map_cons, List.map_nil]); first | done | rfl | (simp only [List.length_drop, List.length_take]; rfl)) ?_; (with_reducible refine (meta_Text.calls t101 t102 t103 _ A3.out).mono ?_); rintro e w5 ⟨rfl, hb⟩; refine ⟨_, rfl, ?_⟩; have n0_ := Aside0.mk (below_step (by repeat (first | (with_reducible first | exact HB.out | apply below_alloc | apply pw_below_drewN | apply below_drew1) | exact HB.out)) hb); clear HB; have HB := n0_; clear n0_; (try clear hb); (try clear hb2); (try clear hk); (try clear hi)))
  (try simp only [Act.put, List.setIfInBounds_toArray, List.set_cons_zero, List.set_cons_succ])
  go_cut [20] (fun v20 wc => ∃ (kq : Nat) (x20_3 : Bool), v20 = .bool x20_3 ∧ Aside0 (creelkeep_MetaPlain.j0 kq t101 t102 x20_3 = some r) ∧ Aside0 (kq ≤ k) ∧ Aside0 (Below w.heap.size w wc))
  case first =>
    have H := HC4.out
    clear HC4
    by_cases c6 : t103 = 0
    · rw [if_pos c6] at H
      have c6b0 : (t103 == 0) = true := beq_iff_eq.mpr c6
      have c6b1 : (t103 != 0) = false := bne_eq_false_iff_eq.mpr c6
      clear c6
      (first | rw [c6b0] | (simp only [i64_w, i32_w]; rw [c6b0]) | skip)
      have H' := Aside0.mk H
      clear H
      go_wp2
      go_meet
      case rel => exact ⟨_, (((t102.size : Int) != 9)), (by first | rfl | (simp; done) | (simp [*]; done)), H', ⟨by first | omega | exact Nat.le_refl _⟩, ⟨by repeat (first | (with_reducible first | exact HB.out | apply below_alloc | apply pw_below_drewN | apply below_drew1) | exact HB.out)⟩⟩
    · rw [if_neg c6] at H
      have c6b0 : (t103 == 0) = false := beq_eq_false_iff_ne.mpr c6
      have c6b1 : (t103 != 0) = true := bne_iff_ne.mpr c6
      (first | rw [c6b0] | (simp only [i64_w, i32_w]; rw [c6b0]) | skip)
      have H' := Aside0.mk H
      clear H
      go_wp2
      go_meet
      case rel => exact ⟨_, (true), (by first | rfl | (simp; done) | (simp [*]; done)), H', ⟨by first | omega | exact Nat.le_refl _⟩, ⟨by repeat (first | (with_reducible first | exact HB.out | apply below_alloc | apply pw_below_drewN | apply below_drew1) | exact HB.out)⟩⟩
  case rest =>
    clear HC4
    try clear c1
    try clear c2
    try clear p2
    try clear c6
    try clear c6b0
    try clear c6b1
    obtain ⟨kq, x20_3, rfl, HA, HJ3, HB⟩ := hcut
    cases kq with
    | zero => exact absurd HA.out (by simp [creelkeep_MetaPlain.j0])
    | succ kj3 =>
      have H := HA.out
      clear HA
      simp only [creelkeep_MetaPlain.j0] at H
      by_cases c7 : x20_3 = true
      · subst c7
        have H1 : (some false) = some r := by rw [if_pos rfl] at H; exact H
        clear H
        have H := H1
        clear H1
        obtain rfl := Option.some.inj H
        go_wp2
        go_ret
        exact ⟨by first | rfl | (simp [errW_none, errW_some] <;> rfl) | (simp [*, errW_none, errW_some] <;> rfl), by repeat (first | (with_reducible first | exact HB.out | apply below_alloc | apply pw_below_drewN | apply below_drew1) | exact HB.out)⟩
      · replace c7 := Bool.eq_false_iff.mpr c7
        subst c7
        have H1 : (creelkeep_MetaPlain.l0 kj3 t101 t102 0) = some r := by rw [if_neg (show ¬ (false = true) by decide)] at H; exact H
        clear H
        have H := H1
        clear H1
        have H' := Aside0.mk H
        clear H
        go_wp2
        go_loopg [21] kj3 (fun kq v21 w' => ∃ (x21_2 : Int), v21 = .int .i64 x21_2 ∧ Aside0 (creelkeep_MetaPlain.l0 kq t101 t102 x21_2 = some r) ∧ Aside0 (kq ≤ kj3) ∧ Aside0 (Below w.heap.size w w'))
        case atStart => exact ⟨(0), (by first | rfl | (simp; done) | (simp [*]; done)), H', ⟨Nat.le_refl _⟩, ⟨by repeat (first | (with_reducible first | exact HB.out | apply below_alloc | apply pw_below_drewN | apply below_drew1) | exact HB.out)⟩⟩
        case round =>
          clear H'
          try clear c1
          try clear c2
          try clear p2
          try clear c6
          try clear c6b0
          try clear c6b1
          try clear c7
          try clear p2
          obtain ⟨x21_2, rfl, HA, HK2, HB⟩ := hrel
          cases gk with
          | zero => exact absurd HA.out (by simp [creelkeep_MetaPlain.l0])
          | succ k2 =>
            have H := HA.out
            clear HA
            simp only [creelkeep_MetaPlain.l0] at H
            by_cases c8 : x21_2 < 9
            · rw [if_pos c8] at H
              have c8b0 : decide (x21_2 < 9) = true := decide_eq_true c8
              clear c8
              by_cases c9 : 0 ≤ x21_2
              · rw [if_pos c9] at H
                have c9b0 : decide (0 ≤ x21_2) = true := decide_eq_true c9
                clear c9
                obtain ⟨ji11, hji11⟩ : ∃ j_ : Int, (wrap64 (8 - x21_2)) = j_ := ⟨_, rfl⟩
                replace H : (if 0 ≤ (ji11) then (if (Int.tmod (shr .i64 t101 (ji11)) 2) = 0 then (if x21_2 < (t102.size : Int) then (if (bt t102 x21_2) = 45 then (creelkeep_MetaPlain.l0 k2 t101 t102 (wrap64 (x21_2 + 1))) else (some false)) else (none)) else (if x21_2 < (t102.size : Int) then (if (bt t102 x21_2) = (bt (⟨#[114, 119, 120, 114, 119, 120, 114, 119, 120]⟩ : ByteArray) x21_2) then (creelkeep_MetaPlain.l0 k2 t101 t102 (wrap64 (x21_2 + 1))) else (some false)) else (none))) else (none)) = some r := by first | (rw [hji11] at H; exact H) | (simp only [hji11] at H ⊢; exact H)
                have hji11w : (IntKind.i64.wrap (8 - x21_2)) = ji11 := (i64_w _).trans hji11
                by_cases c12 : 0 ≤ (ji11)
                · rw [if_pos c12] at H
                  have c12b0 := eq_true c12
                  have c12b1 : decide (0 ≤ (ji11)) = true := decide_eq_true c12
                  clear c12
                  obtain ⟨ji13, hji13⟩ : ∃ j_ : Int, (shr .i64 t101 (ji11)) = j_ := ⟨_, rfl⟩
                  replace H : (if (Int.tmod (ji13) 2) = 0 then (if x21_2 < (t102.size : Int) then (if (bt t102 x21_2) = 45 then (creelkeep_MetaPlain.l0 k2 t101 t102 (wrap64 (x21_2 + 1))) else (some false)) else (none)) else (if x21_2 < (t102.size : Int) then (if (bt t102 x21_2) = (bt (⟨#[114, 119, 120, 114, 119, 120, 114, 119, 120]⟩ : ByteArray) x21_2) then (creelkeep_MetaPlain.l0 k2 t101 t102 (wrap64 (x21_2 + 1))) else (some false)) else (none))) = some r := by first | (rw [hji13] at H; exact H) | (simp only [hji13] at H ⊢; exact H)
                  have hji13_ : (t101 / 2 ^ min (ji11).toNat 64) = ji13 := hji13
                  have hji13z : (ji11) ≤ 64 → (t101 / 2 ^ (ji11).toNat) = ji13 := shr_small hji13
                  by_cases c14 : (Int.tmod (ji13) 2) = 0
                  · rw [if_pos c14] at H
                    have c14b0 : ((Int.tmod (ji13) 2) == 0) = true := beq_iff_eq.mpr c14
                    have c14b1 : ((Int.tmod (ji13) 2) != 0) = false := bne_eq_false_iff_eq.mpr c14
                    clear c14
                    by_cases c15 : x21_2 < (t102.size : Int)
                    · rw [if_pos c15] at H
                      have c15b0 : decide (x21_2 < (t102.size : Int)) = true := decide_eq_true c15
                      clear c15
                      by_cases c17 : (bt t102 x21_2) = 45
                      · rw [if_pos c17] at H
                        have c17b0 : ((bt t102 x21_2) == 45) = true := beq_iff_eq.mpr c17
                        have c17b1 : ((bt t102 x21_2) != 45) = false := bne_eq_false_iff_eq.mpr c17
                        clear c17
                        have H' := Aside0.mk H
                        clear H
                        have p10 : 0 ≤ (x21_2 : Int) := of_decide_eq_true (by first | (with_reducible assumption) | assumption)
                        have q10 : x21_2 < (9 : Int) := of_decide_eq_true (by first | (with_reducible assumption) | assumption)
                        have hx10 := bt_at (⟨#[114, 119, 120, 114, 119, 120, 114, 119, 120]⟩ : ByteArray) x21_2
                        replace p10 := eq_true p10
                        replace q10 := eq_true q10
                        have p16 : 0 ≤ (x21_2 : Int) := of_decide_eq_true (by first | (with_reducible assumption) | assumption)
                        have q16 : x21_2 < (t102.size : Int) := of_decide_eq_true (by first | (with_reducible assumption) | assumption)
                        have hx16 := bt_at t102 x21_2
                        replace p16 := eq_true p16
                        replace q16 := eq_true q16
                        go_wp2
                        go_roundg k2
                        case measure => have := HJ3.out; have := HK2.out; omega
                        case rel => exact ⟨(wrap64 (x21_2 + 1)), (by first | rfl | (simp; done) | (simp [*]; done)), H', ⟨by have := HJ3.out; have := HK2.out; omega⟩, ⟨by repeat (first | (with_reducible first | exact HB.out | apply below_alloc | apply pw_below_drewN | apply below_drew1) | exact HB.out)⟩⟩
                      · rw [if_neg c17] at H
                        have c17b0 : ((bt t102 x21_2) == 45) = false := beq_eq_false_iff_ne.mpr c17
                        have c17b1 : ((bt t102 x21_2) != 45) = true := bne_iff_ne.mpr c17
                        obtain rfl := Option.some.inj H
                        have p10 : 0 ≤ (x21_2 : Int) := of_decide_eq_true (by first | (with_reducible assumption) | assumption)
                        have q10 : x21_2 < (9 : Int) := of_decide_eq_true (by first | (with_reducible assumption) | assumption)
                        have hx10 := bt_at (⟨#[114, 119, 120, 114, 119, 120, 114, 119, 120]⟩ : ByteArray) x21_2
                        replace p10 := eq_true p10
                        replace q10 := eq_true q10
                        have p16 : 0 ≤ (x21_2 : Int) := of_decide_eq_true (by first | (with_reducible assumption) | assumption)
                        have q16 : x21_2 < (t102.size : Int) := of_decide_eq_true (by first | (with_reducible assumption) | assumption)
                        have hx16 := bt_at t102 x21_2
                        replace p16 := eq_true p16
                        replace q16 := eq_true q16
                        go_wp2
                        go_ret
                        exact ⟨by first | rfl | (simp [errW_none, errW_some] <;> rfl) | (simp only [← hji11, ← hji13]; first | rfl | (simp [errW_none, errW_some] <;> rfl)) | (simp [*, errW_none, errW_some] <;> rfl), by repeat (first | (with_reducible first | exact HB.out | apply below_alloc | apply pw_below_drewN | apply below_drew1) | exact HB.out)⟩
                    · rw [if_neg c15] at H
                      exact absurd H (by simp)
                  · rw [if_neg c14] at H
                    have c14b0 : ((Int.tmod (ji13) 2) == 0) = false := beq_eq_false_iff_ne.mpr c14
                    have c14b1 : ((Int.tmod (ji13) 2) != 0) = true := bne_iff_ne.mpr c14
                    by_cases c18 : x21_2 < (t102.size : Int)
                    · rw [if_pos c18] at H
                      have c18b0 : decide (x21_2 < (t102.size : Int)) = true := decide_eq_true c18
                      clear c18
                      by_cases c20 : (bt t102 x21_2) = (bt (⟨#[114, 119, 120, 114, 119, 120, 114, 119, 120]⟩ : ByteArray) x21_2)
                      · rw [if_pos c20] at H
                        have c20b0 : ((bt t102 x21_2) == (bt (⟨#[114, 119, 120, 114, 119, 120, 114, 119, 120]⟩ : ByteArray) x21_2)) = true := beq_iff_eq.mpr c20
                        have c20b1 : ((bt t102 x21_2) != (bt (⟨#[114, 119, 120, 114, 119, 120, 114, 119, 120]⟩ : ByteArray) x21_2)) = false := bne_eq_false_iff_eq.mpr c20
                        clear c20
                        have H' := Aside0.mk H
                        clear H
                        have p10 : 0 ≤ (x21_2 : Int) := of_decide_eq_true (by first | (with_reducible assumption) | assumption)
                        have q10 : x21_2 < (9 : Int) := of_decide_eq_true (by first | (with_reducible assumption) | assumption)
                        have hx10 := bt_at (⟨#[114, 119, 120, 114, 119, 120, 114, 119, 120]⟩ : ByteArray) x21_2
                        replace p10 := eq_true p10
                        replace q10 := eq_true q10
                        have p19 : 0 ≤ (x21_2 : Int) := of_decide_eq_true (by first | (with_reducible assumption) | assumption)
                        have q19 : x21_2 < (t102.size : Int) := of_decide_eq_true (by first | (with_reducible assumption) | assumption)
                        have hx19 := bt_at t102 x21_2
                        replace p19 := eq_true p19
                        replace q19 := eq_true q19
                        go_wp2
                        go_roundg k2
                        case measure => have := HJ3.out; have := HK2.out; omega
                        case rel => exact ⟨(wrap64 (x21_2 + 1)), (by first | rfl | (simp; done) | (simp [*]; done)), H', ⟨by have := HJ3.out; have := HK2.out; omega⟩, ⟨by repeat (first | (with_reducible first | exact HB.out | apply below_alloc | apply pw_below_drewN | apply below_drew1) | exact HB.out)⟩⟩
                      · rw [if_neg c20] at H
                        have c20b0 : ((bt t102 x21_2) == (bt (⟨#[114, 119, 120, 114, 119, 120, 114, 119, 120]⟩ : ByteArray) x21_2)) = false := beq_eq_false_iff_ne.mpr c20
                        have c20b1 : ((bt t102 x21_2) != (bt (⟨#[114, 119, 120, 114, 119, 120, 114, 119, 120]⟩ : ByteArray) x21_2)) = true := bne_iff_ne.mpr c20
                        obtain rfl := Option.some.inj H
                        have p10 : 0 ≤ (x21_2 : Int) := of_decide_eq_true (by first | (with_reducible assumption) | assumption)
                        have q10 : x21_2 < (9 : Int) := of_decide_eq_true (by first | (with_reducible assumption) | assumption)
                        have hx10 := bt_at (⟨#[114, 119, 120, 114, 119, 120, 114, 119, 120]⟩ : ByteArray) x21_2
                        replace p10 := eq_true p10
                        replace q10 := eq_true q10
                        have p19 : 0 ≤ (x21_2 : Int) := of_decide_eq_true (by first | (with_reducible assumption) | assumption)
                        have q19 : x21_2 < (t102.size : Int) := of_decide_eq_true (by first | (with_reducible assumption) | assumption)
                        have hx19 := bt_at t102 x21_2
                        replace p19 := eq_true p19
                        replace q19 := eq_true q19
                        go_wp2
                        go_ret
                        exact ⟨by first | rfl | (simp [errW_none, errW_some] <;> rfl) | (simp only [← hji11, ← hji13]; first | rfl | (simp [errW_none, errW_some] <;> rfl)) | (simp [*, errW_none, errW_some] <;> rfl), by repeat (first | (with_reducible first | exact HB.out | apply below_alloc | apply pw_below_drewN | apply below_drew1) | exact HB.out)⟩
                    · rw [if_neg c18] at H
                      exact absurd H (by simp)
                · rw [if_neg c12] at H
                  exact absurd H (by simp)
              · rw [if_neg c9] at H
                exact absurd H (by simp)
            · rw [if_neg c8] at H
              have c8b0 : decide (x21_2 < 9) = false := decide_eq_false c8
              clear c8
              obtain rfl := Option.some.inj H
              go_wp2
              go_ret
              exact ⟨by first | rfl | (simp [errW_none, errW_some] <;> rfl) | (simp [*, errW_none, errW_some] <;> rfl), by repeat (first | (with_reducible first | exact HB.out | apply below_alloc | apply pw_below_drewN | apply below_drew1) | exact HB.out)⟩

/-- THE ONE PURE STATEMENT of creelkeep_MetaPlain: yours. -/
def creelkeep_MetaPlain.Pure : Prop := ∀ (a0 : Int), (Lit.int .i64 a0).wf = true → ∃ k, creelkeep_MetaPlain.f k a0 = some true
theorem creelkeep_MetaPlain.walk (P : creelkeep_MetaPlain.Pure) (a0 : Int) (w : World) (w0 : (Lit.int .i64 a0).wf = true) :
    Calls Try.prog 7 #[.int .i64 a0] w fun e w' => e = .returned (.bool true) ∧ Below w.heap.size w w' := by
  obtain ⟨k, h⟩ := P a0 w0
  refine (creelkeep_MetaPlain.calls k a0 true w h).mono ?_
  rintro e w' ⟨rfl, hd⟩
  exact ⟨rfl, hd⟩

end Go.Proofs.Ytbhdfjdopphhdaa.PMetaPlain
