-- Written by a program of this session for this claim (wip/myprint.py over the kit's print).
import Derived.Test.YthonjghpblkpgaaDoorPGlobJoinsx0
import Derived.Test.YthonjghpblkpgaaDoorPGlobJoinsx3
import Derived.Test.YthonjghpblkpgaaDoorPGlobJoinsx4
namespace Go.Proofs.YthonjghpblkpgaaDoor.PGlobJoins
open Go.RowKit Go.Proofs.YthonjghpblkpgaaDoorW.PrintWords Go.Proofs.YthonjghpblkpgaaDoorW.PrintLast Go.Proofs.YthonjghpblkpgaaDoorW.PrintMore
attribute [local go_sem] max2_int min2_int max_two min_two max_three min_three max_four min_four   -- for this text's walks alone
set_option linter.unusedVariables false
set_option linter.unusedSimpArgs false

/-! ### glob_set: function 168 -/
/-- One sign, or a range, of a set: its lowest, its highest, what is behind it. -/
def setStep (x : ByteArray) : Int × Int × ByteArray :=
  if 2 < (x.extract 1 x.size).size ∧ bt (x.extract 1 x.size) 0 = 45 ∧ bt (x.extract 1 x.size) 1 ≠ 93 then (bt x 0, bt (x.extract 1 x.size) 1, (x.extract 1 x.size).extract 2 (x.extract 1 x.size).size) else (bt x 0, bt x 0, x.extract 1 x.size)
def setL (c : Int) (nt : Bool) : Nat → ByteArray → Bool → Int → Option (Bool × ByteArray)
  | 0, _, _, _ => none
  | f + 1, x, i, k => if x.size = 0 ∨ x.size > 1000000000 ∨ k > 1000000000 then none else if k > 0 ∧ bt x 0 = 93 then some (i != nt, x.extract 1 x.size)
    else setL c nt f (setStep x).2.2 (i || (decide ((setStep x).1 ≤ c) && decide (c ≤ (setStep x).2.1))) (k + 1)
def glob_set.f (a0 : ByteArray) (a1 : Int) : Option (Bool × ByteArray) := if 1 ≤ a0.size then (strings_HasPrefix.f (a0.extract 1 a0.size) (⟨#[33]⟩ : ByteArray)).bind fun nt => if nt = true then (if 1 ≤ (a0.extract 1 a0.size).size then setL a1 nt (a0.size + 1) ((a0.extract 1 a0.size).extract 1 (a0.extract 1 a0.size).size) false 0 else none) else setL a1 nt (a0.size + 1) (a0.extract 1 a0.size) false 0 else none
set_option maxHeartbeats 4000000 in
set_option maxRecDepth 100000 in
theorem glob_set.calls (a0 : ByteArray) (a1 : Int) (r1 : Bool) (r2 : ByteArray) (w : World) (h : glob_set.f a0 a1 = some (r1, r2)) :
    Calls Tryd.prog 168 #[.string a0, .int .u8 a1] w fun e w' => e = .returned (.tuple #[.bool r1, .string r2]) ∧ Drawn0 w w' := by
  unfold glob_set.f at h
  split at h
  case isFalse => cases h
  rename_i h1
  rw [Option.bind_eq_some_iff] at h
  obtain ⟨nt, hp, h⟩ := h
  have HP := Aside0.mk hp
  have h1i : (1 : Int) ≤ (a0.size : Int) := by omega
  have key : ∃ x, (if nt = true then 1 ≤ (a0.extract 1 a0.size).size ∧ x = ((a0.extract 1 a0.size).extract 1 (a0.extract 1 a0.size).size) else x = a0.extract 1 a0.size) ∧ setL a1 nt (a0.size + 1) x false 0 = some (r1, r2) := by
    split at h
    · rename_i hn
      split at h
      case isFalse => cases h
      rename_i h2
      exact ⟨_, by rw [if_pos hn]; exact ⟨h2, rfl⟩, h⟩
    · rename_i hn
      exact ⟨_, by rw [if_neg hn], h⟩
  obtain ⟨x0, hx0, hs⟩ := key
  have HS := Aside0.mk hs
  have HX := Aside0.mk hx0
  clear h hp hs hx0
  go_enter Tryd.func168, Tryd.ntmps168
  go_upto_if 16 with (go_at_call 70; refine (strings_HasPrefix.calls _ _ _ _ HP.out).mono ?_; rintro e w' ⟨rfl, ⟨nd, rfl⟩⟩)
  go_cut [6] from 17 to 18 (fun v6 wx => v6 = .string x0 ∧ ∃ n, wx = w.drewN n)
  case first =>
    cases nt with
    | true =>
      have h2 := HX.out
      rw [if_pos rfl] at h2
      obtain ⟨h3, h4⟩ := h2
      have h3i : (1 : Int) ≤ ((a0.extract 1 a0.size).size : Int) := by omega
      have H4 := Aside0.mk h4
      clear h4
      go_wp2_with fail
      go_meet
      case rel => exact ⟨by rw [H4.out]; simp [ByteArray.size_extract], _, rfl⟩
    | false =>
      have h2 := HX.out
      rw [if_neg (by decide)] at h2
      have H4 := Aside0.mk h2
      clear h2
      go_wp2_with fail
      go_meet
      case rel => exact ⟨by rw [H4.out], _, rfl⟩
  case rest =>
    obtain ⟨rfl, n0, rfl⟩ := hcut
    clear HX
    go_wp2_with fail
    go_loopg [6, 8, 9] (a0.size + 1) (fun kq v6 v8 v9 w' => ∃ (x : ByteArray) (i : Bool) (k : Int), v6 = .string x ∧ v8 = .bool i ∧ v9 = .int .i64 k ∧ Aside0 (setL a1 nt kq x i k = some (r1, r2)) ∧ Aside0 (0 ≤ k) ∧ Drawn0 w w')
    case atStart => exact ⟨x0, false, 0, rfl, rfl, rfl, HS, ⟨Int.le_refl _⟩, ⟨_, rfl⟩⟩
    case round =>
      obtain ⟨x, i, k, rfl, rfl, rfl, HA, HK, nd, rfl⟩ := hrel
      cases gk with
      | zero => exact absurd HA.out (by simp [setL])
      | succ g =>
        have h := HA.out
        rw [setL] at h
        split at h
        case isTrue => cases h
        rename_i hsz
        have hs1 : 1 ≤ x.size := by omega
        have hs1i : (1 : Int) ≤ (x.size : Int) := by omega
        have hs0i : (0 : Int) < (x.size : Int) := by omega
        have HK1 := Aside0.mk (show k ≤ 1000000000 by omega)
        clear hsz HS HA
        split at h
        · rename_i hk
          obtain ⟨hk1, hk2⟩ := hk
          have hb : (bt x 0 == 93) = true := beq_iff_eq.mpr hk2
          injection h with h
          injection h with h5 h6
          subst h5
          subst h6
          clear hk2
          have hb1 : (k > 0) = True := eq_true hk1
          have hbk : (0 < k) = True := eq_true hk1
          have hx0 : ∀ h : 0 < x.size, ((x[0]'h).toNat : Int) = bt x 0 := bt_at x 0
          go_upto_region 9 with (fail)
          go_quiet (fail)
          all_goals go_wp2
          all_goals go_ret2
          all_goals exact ⟨by first | rfl | (simp; done), by first | exact ⟨_, rfl⟩ | exact ⟨_, World.drewN_drewN _ _ _⟩⟩
        · rename_i hk
          by_cases hk1 : k > 0
          · have hb2 : bt x 0 ≠ 93 := fun e => hk ⟨hk1, e⟩
            have hb : (bt x 0 == 93) = false := beq_eq_false_iff_ne.mpr hb2
            have hbk : (0 < k) = True := eq_true hk1
            clear hk hb2
            have hx0 : ∀ h : 0 < x.size, ((x[0]'h).toNat : Int) = bt x 0 := bt_at x 0
            have HH := Aside0.mk h
            clear h
            go_upto_region 13 with (fail)
            obtain ⟨y, hy⟩ : ∃ y, y = x.extract 1 x.size := ⟨_, rfl⟩
            rw [← hy]
            replace hy := hy.symm
            have hy0 : ∀ h : 0 < y.size, ((y[0]'h).toNat : Int) = bt y 0 := bt_at y 0
            have hy1 : ∀ h : 1 < y.size, ((y[1]'h).toNat : Int) = bt y 1 := bt_at y 1
            have HY := Aside0.mk hy
            clear hy
            by_cases g2 : 2 < y.size
            · have g2i : (2 < (y.size : Int)) = True := eq_true (by omega)
              have g0n : (0 : Int) < (y.size : Int) := by omega
              have g1n : (1 : Int) < (y.size : Int) := by omega
              have g2n : (2 : Int) ≤ (y.size : Int) := by omega
              have g0m : 0 < y.size := by omega
              have g1m : 1 < y.size := by omega
              have g2m : 2 ≤ y.size := by omega
              by_cases g45 : bt y 0 = 45
              · have g45b : (bt y 0 == 45) = true := beq_iff_eq.mpr g45
                by_cases g93 : bt y 1 = 93
                · have g93b : (bt y 1 != 93) = false := by rw [g93]; rfl
                  have HST := Aside0.mk (show setStep x = (bt x 0, bt x 0, y) from by unfold setStep; rw [HY.out]; rw [if_neg (fun h => h.2.2 g93)])
                  clear g2 g45 g93
                  go_upto_region 16 with (fail)
                  cases i with
                  | true =>
                    go_wp2_with fail
                    go_roundg g
                    case measure => omega
                    case rel => exact ⟨y, true, k + 1, rfl, rfl, by rw [w64 (by have := HK.out; omega) (by have := HK1.out; omega)], ⟨by have := HH.out; rw [HST.out] at this; simpa using this⟩, ⟨by have := HK.out; omega⟩, ⟨_, rfl⟩⟩
                  | false =>
                    by_cases hlo : bt x 0 ≤ a1
                    · have hlo1 : decide (bt x 0 ≤ a1) = true := decide_eq_true hlo
                      go_wp2_with fail
                      go_roundg g
                      case measure => omega
                      case rel => exact ⟨y, decide (a1 ≤ bt x 0), k + 1, rfl, by first | rfl | simp, by rw [w64 (by have := HK.out; omega) (by have := HK1.out; omega)], ⟨by have := HH.out; rw [HST.out] at this; simpa [hlo] using this⟩, ⟨by have := HK.out; omega⟩, ⟨_, rfl⟩⟩
                    · have hlo1 : decide (bt x 0 ≤ a1) = false := decide_eq_false hlo
                      go_wp2_with fail
                      go_roundg g
                      case measure => omega
                      case rel => exact ⟨y, false, k + 1, rfl, by first | rfl | simp, by rw [w64 (by have := HK.out; omega) (by have := HK1.out; omega)], ⟨by have := HH.out; rw [HST.out] at this; dsimp only at this; rw [hlo1, Bool.false_and, Bool.or_false] at this; exact this⟩, ⟨by have := HK.out; omega⟩, ⟨_, rfl⟩⟩
                · have g93b : (bt y 1 != 93) = true := bne_iff_ne.mpr g93
                  have HST := Aside0.mk (show setStep x = (bt x 0, bt y 1, (y.extract 2 y.size)) from by unfold setStep; rw [HY.out]; rw [if_pos ⟨g2, g45, g93⟩])
                  clear g2 g45 g93
                  go_upto_region 16 with (fail)
                  cases i with
                  | true =>
                    go_wp2_with fail
                    go_roundg g
                    case measure => omega
                    case rel => exact ⟨(y.extract 2 y.size), true, k + 1, rfl, rfl, by rw [w64 (by have := HK.out; omega) (by have := HK1.out; omega)], ⟨by have := HH.out; rw [HST.out] at this; simpa using this⟩, ⟨by have := HK.out; omega⟩, ⟨_, rfl⟩⟩
                  | false =>
                    by_cases hlo : bt x 0 ≤ a1
                    · have hlo1 : decide (bt x 0 ≤ a1) = true := decide_eq_true hlo
                      go_wp2_with fail
                      go_roundg g
                      case measure => omega
                      case rel => exact ⟨(y.extract 2 y.size), decide (a1 ≤ bt y 1), k + 1, rfl, by first | rfl | simp, by rw [w64 (by have := HK.out; omega) (by have := HK1.out; omega)], ⟨by have := HH.out; rw [HST.out] at this; simpa [hlo] using this⟩, ⟨by have := HK.out; omega⟩, ⟨_, rfl⟩⟩
                    · have hlo1 : decide (bt x 0 ≤ a1) = false := decide_eq_false hlo
                      go_wp2_with fail
                      go_roundg g
                      case measure => omega
                      case rel => exact ⟨(y.extract 2 y.size), false, k + 1, rfl, by first | rfl | simp, by rw [w64 (by have := HK.out; omega) (by have := HK1.out; omega)], ⟨by have := HH.out; rw [HST.out] at this; dsimp only at this; rw [hlo1, Bool.false_and, Bool.or_false] at this; exact this⟩, ⟨by have := HK.out; omega⟩, ⟨_, rfl⟩⟩
              · have g45b : (bt y 0 == 45) = false := beq_eq_false_iff_ne.mpr g45
                have HST := Aside0.mk (show setStep x = (bt x 0, bt x 0, y) from by unfold setStep; rw [HY.out]; rw [if_neg (fun h => g45 h.2.1)])
                clear g2 g45
                go_upto_region 16 with (fail)
                cases i with
                | true =>
                  go_wp2_with fail
                  go_roundg g
                  case measure => omega
                  case rel => exact ⟨y, true, k + 1, rfl, rfl, by rw [w64 (by have := HK.out; omega) (by have := HK1.out; omega)], ⟨by have := HH.out; rw [HST.out] at this; simpa using this⟩, ⟨by have := HK.out; omega⟩, ⟨_, rfl⟩⟩
                | false =>
                  by_cases hlo : bt x 0 ≤ a1
                  · have hlo1 : decide (bt x 0 ≤ a1) = true := decide_eq_true hlo
                    go_wp2_with fail
                    go_roundg g
                    case measure => omega
                    case rel => exact ⟨y, decide (a1 ≤ bt x 0), k + 1, rfl, by first | rfl | simp, by rw [w64 (by have := HK.out; omega) (by have := HK1.out; omega)], ⟨by have := HH.out; rw [HST.out] at this; simpa [hlo] using this⟩, ⟨by have := HK.out; omega⟩, ⟨_, rfl⟩⟩
                  · have hlo1 : decide (bt x 0 ≤ a1) = false := decide_eq_false hlo
                    go_wp2_with fail
                    go_roundg g
                    case measure => omega
                    case rel => exact ⟨y, false, k + 1, rfl, by first | rfl | simp, by rw [w64 (by have := HK.out; omega) (by have := HK1.out; omega)], ⟨by have := HH.out; rw [HST.out] at this; dsimp only at this; rw [hlo1, Bool.false_and, Bool.or_false] at this; exact this⟩, ⟨by have := HK.out; omega⟩, ⟨_, rfl⟩⟩
            · have g2i : (2 < (y.size : Int)) = False := eq_false (by omega)
              have HST := Aside0.mk (show setStep x = (bt x 0, bt x 0, y) from by unfold setStep; rw [HY.out]; rw [if_neg (fun h => g2 h.1)])
              clear g2
              go_upto_region 16 with (fail)
              cases i with
              | true =>
                go_wp2_with fail
                go_roundg g
                case measure => omega
                case rel => exact ⟨y, true, k + 1, rfl, rfl, by rw [w64 (by have := HK.out; omega) (by have := HK1.out; omega)], ⟨by have := HH.out; rw [HST.out] at this; simpa using this⟩, ⟨by have := HK.out; omega⟩, ⟨_, rfl⟩⟩
              | false =>
                by_cases hlo : bt x 0 ≤ a1
                · have hlo1 : decide (bt x 0 ≤ a1) = true := decide_eq_true hlo
                  go_wp2_with fail
                  go_roundg g
                  case measure => omega
                  case rel => exact ⟨y, decide (a1 ≤ bt x 0), k + 1, rfl, by first | rfl | simp, by rw [w64 (by have := HK.out; omega) (by have := HK1.out; omega)], ⟨by have := HH.out; rw [HST.out] at this; simpa [hlo] using this⟩, ⟨by have := HK.out; omega⟩, ⟨_, rfl⟩⟩
                · have hlo1 : decide (bt x 0 ≤ a1) = false := decide_eq_false hlo
                  go_wp2_with fail
                  go_roundg g
                  case measure => omega
                  case rel => exact ⟨y, false, k + 1, rfl, by first | rfl | simp, by rw [w64 (by have := HK.out; omega) (by have := HK1.out; omega)], ⟨by have := HH.out; rw [HST.out] at this; dsimp only at this; rw [hlo1, Bool.false_and, Bool.or_false] at this; exact this⟩, ⟨by have := HK.out; omega⟩, ⟨_, rfl⟩⟩
          · have hbk : (0 < k) = False := eq_false hk1
            clear hk
            have hx0 : ∀ h : 0 < x.size, ((x[0]'h).toNat : Int) = bt x 0 := bt_at x 0
            have HH := Aside0.mk h
            clear h
            go_upto_region 13 with (fail)
            obtain ⟨y, hy⟩ : ∃ y, y = x.extract 1 x.size := ⟨_, rfl⟩
            rw [← hy]
            replace hy := hy.symm
            have hy0 : ∀ h : 0 < y.size, ((y[0]'h).toNat : Int) = bt y 0 := bt_at y 0
            have hy1 : ∀ h : 1 < y.size, ((y[1]'h).toNat : Int) = bt y 1 := bt_at y 1
            have HY := Aside0.mk hy
            clear hy
            by_cases g2 : 2 < y.size
            · have g2i : (2 < (y.size : Int)) = True := eq_true (by omega)
              have g0n : (0 : Int) < (y.size : Int) := by omega
              have g1n : (1 : Int) < (y.size : Int) := by omega
              have g2n : (2 : Int) ≤ (y.size : Int) := by omega
              have g0m : 0 < y.size := by omega
              have g1m : 1 < y.size := by omega
              have g2m : 2 ≤ y.size := by omega
              by_cases g45 : bt y 0 = 45
              · have g45b : (bt y 0 == 45) = true := beq_iff_eq.mpr g45
                by_cases g93 : bt y 1 = 93
                · have g93b : (bt y 1 != 93) = false := by rw [g93]; rfl
                  have HST := Aside0.mk (show setStep x = (bt x 0, bt x 0, y) from by unfold setStep; rw [HY.out]; rw [if_neg (fun h => h.2.2 g93)])
                  clear g2 g45 g93
                  go_upto_region 16 with (fail)
                  cases i with
                  | true =>
                    go_wp2_with fail
                    go_roundg g
                    case measure => omega
                    case rel => exact ⟨y, true, k + 1, rfl, rfl, by rw [w64 (by have := HK.out; omega) (by have := HK1.out; omega)], ⟨by have := HH.out; rw [HST.out] at this; simpa using this⟩, ⟨by have := HK.out; omega⟩, ⟨_, rfl⟩⟩
                  | false =>
                    by_cases hlo : bt x 0 ≤ a1
                    · have hlo1 : decide (bt x 0 ≤ a1) = true := decide_eq_true hlo
                      go_wp2_with fail
                      go_roundg g
                      case measure => omega
                      case rel => exact ⟨y, decide (a1 ≤ bt x 0), k + 1, rfl, by first | rfl | simp, by rw [w64 (by have := HK.out; omega) (by have := HK1.out; omega)], ⟨by have := HH.out; rw [HST.out] at this; simpa [hlo] using this⟩, ⟨by have := HK.out; omega⟩, ⟨_, rfl⟩⟩
                    · have hlo1 : decide (bt x 0 ≤ a1) = false := decide_eq_false hlo
                      go_wp2_with fail
                      go_roundg g
                      case measure => omega
                      case rel => exact ⟨y, false, k + 1, rfl, by first | rfl | simp, by rw [w64 (by have := HK.out; omega) (by have := HK1.out; omega)], ⟨by have := HH.out; rw [HST.out] at this; dsimp only at this; rw [hlo1, Bool.false_and, Bool.or_false] at this; exact this⟩, ⟨by have := HK.out; omega⟩, ⟨_, rfl⟩⟩
                · have g93b : (bt y 1 != 93) = true := bne_iff_ne.mpr g93
                  have HST := Aside0.mk (show setStep x = (bt x 0, bt y 1, (y.extract 2 y.size)) from by unfold setStep; rw [HY.out]; rw [if_pos ⟨g2, g45, g93⟩])
                  clear g2 g45 g93
                  go_upto_region 16 with (fail)
                  cases i with
                  | true =>
                    go_wp2_with fail
                    go_roundg g
                    case measure => omega
                    case rel => exact ⟨(y.extract 2 y.size), true, k + 1, rfl, rfl, by rw [w64 (by have := HK.out; omega) (by have := HK1.out; omega)], ⟨by have := HH.out; rw [HST.out] at this; simpa using this⟩, ⟨by have := HK.out; omega⟩, ⟨_, rfl⟩⟩
                  | false =>
                    by_cases hlo : bt x 0 ≤ a1
                    · have hlo1 : decide (bt x 0 ≤ a1) = true := decide_eq_true hlo
                      go_wp2_with fail
                      go_roundg g
                      case measure => omega
                      case rel => exact ⟨(y.extract 2 y.size), decide (a1 ≤ bt y 1), k + 1, rfl, by first | rfl | simp, by rw [w64 (by have := HK.out; omega) (by have := HK1.out; omega)], ⟨by have := HH.out; rw [HST.out] at this; simpa [hlo] using this⟩, ⟨by have := HK.out; omega⟩, ⟨_, rfl⟩⟩
                    · have hlo1 : decide (bt x 0 ≤ a1) = false := decide_eq_false hlo
                      go_wp2_with fail
                      go_roundg g
                      case measure => omega
                      case rel => exact ⟨(y.extract 2 y.size), false, k + 1, rfl, by first | rfl | simp, by rw [w64 (by have := HK.out; omega) (by have := HK1.out; omega)], ⟨by have := HH.out; rw [HST.out] at this; dsimp only at this; rw [hlo1, Bool.false_and, Bool.or_false] at this; exact this⟩, ⟨by have := HK.out; omega⟩, ⟨_, rfl⟩⟩
              · have g45b : (bt y 0 == 45) = false := beq_eq_false_iff_ne.mpr g45
                have HST := Aside0.mk (show setStep x = (bt x 0, bt x 0, y) from by unfold setStep; rw [HY.out]; rw [if_neg (fun h => g45 h.2.1)])
                clear g2 g45
                go_upto_region 16 with (fail)
                cases i with
                | true =>
                  go_wp2_with fail
                  go_roundg g
                  case measure => omega
                  case rel => exact ⟨y, true, k + 1, rfl, rfl, by rw [w64 (by have := HK.out; omega) (by have := HK1.out; omega)], ⟨by have := HH.out; rw [HST.out] at this; simpa using this⟩, ⟨by have := HK.out; omega⟩, ⟨_, rfl⟩⟩
                | false =>
                  by_cases hlo : bt x 0 ≤ a1
                  · have hlo1 : decide (bt x 0 ≤ a1) = true := decide_eq_true hlo
                    go_wp2_with fail
                    go_roundg g
                    case measure => omega
                    case rel => exact ⟨y, decide (a1 ≤ bt x 0), k + 1, rfl, by first | rfl | simp, by rw [w64 (by have := HK.out; omega) (by have := HK1.out; omega)], ⟨by have := HH.out; rw [HST.out] at this; simpa [hlo] using this⟩, ⟨by have := HK.out; omega⟩, ⟨_, rfl⟩⟩
                  · have hlo1 : decide (bt x 0 ≤ a1) = false := decide_eq_false hlo
                    go_wp2_with fail
                    go_roundg g
                    case measure => omega
                    case rel => exact ⟨y, false, k + 1, rfl, by first | rfl | simp, by rw [w64 (by have := HK.out; omega) (by have := HK1.out; omega)], ⟨by have := HH.out; rw [HST.out] at this; dsimp only at this; rw [hlo1, Bool.false_and, Bool.or_false] at this; exact this⟩, ⟨by have := HK.out; omega⟩, ⟨_, rfl⟩⟩
            · have g2i : (2 < (y.size : Int)) = False := eq_false (by omega)
              have HST := Aside0.mk (show setStep x = (bt x 0, bt x 0, y) from by unfold setStep; rw [HY.out]; rw [if_neg (fun h => g2 h.1)])
              clear g2
              go_upto_region 16 with (fail)
              cases i with
              | true =>
                go_wp2_with fail
                go_roundg g
                case measure => omega
                case rel => exact ⟨y, true, k + 1, rfl, rfl, by rw [w64 (by have := HK.out; omega) (by have := HK1.out; omega)], ⟨by have := HH.out; rw [HST.out] at this; simpa using this⟩, ⟨by have := HK.out; omega⟩, ⟨_, rfl⟩⟩
              | false =>
                by_cases hlo : bt x 0 ≤ a1
                · have hlo1 : decide (bt x 0 ≤ a1) = true := decide_eq_true hlo
                  go_wp2_with fail
                  go_roundg g
                  case measure => omega
                  case rel => exact ⟨y, decide (a1 ≤ bt x 0), k + 1, rfl, by first | rfl | simp, by rw [w64 (by have := HK.out; omega) (by have := HK1.out; omega)], ⟨by have := HH.out; rw [HST.out] at this; simpa [hlo] using this⟩, ⟨by have := HK.out; omega⟩, ⟨_, rfl⟩⟩
                · have hlo1 : decide (bt x 0 ≤ a1) = false := decide_eq_false hlo
                  go_wp2_with fail
                  go_roundg g
                  case measure => omega
                  case rel => exact ⟨y, false, k + 1, rfl, by first | rfl | simp, by rw [w64 (by have := HK.out; omega) (by have := HK1.out; omega)], ⟨by have := HH.out; rw [HST.out] at this; dsimp only at this; rw [hlo1, Bool.false_and, Bool.or_false] at this; exact this⟩, ⟨by have := HK.out; omega⟩, ⟨_, rfl⟩⟩

/-! ### glob_sign: function 138 -/
def glob_sign.f (a0 : ByteArray) (a1 : Int) : Option (Bool) := if 0 < (a0.size : Int) then (if (bt a0 0) = 63 then (some true) else (if (bt a0 0) = 91 then ((glob_set.f a0 a1).bind fun bt135 => (some bt135.1)) else (some ((bt a0 0) == a1)))) else (none)
set_option maxHeartbeats 8000000 in
set_option maxRecDepth 100000 in
theorem glob_sign.calls (a0 : ByteArray) (a1 : Int) (r : Bool) (w : World) (h : glob_sign.f a0 a1 = some r) :
    Calls Tryd.prog 138 #[.string a0, .int .u8 a1] w fun e w' => e = .returned (.bool r) ∧ Drawn0 w w' := by
  have H : (if 0 < (a0.size : Int) then (if (bt a0 0) = 63 then (some true) else (if (bt a0 0) = 91 then ((glob_set.f a0 a1).bind fun bt135 => (some bt135.1)) else (some ((bt a0 0) == a1)))) else (none)) = some r := h
  clear h
  by_cases c3 : 0 < (a0.size : Int)
  · rw [if_pos c3] at H
    have c3b0 : decide (0 < (a0.size : Int)) = true := decide_eq_true c3
    have c3b1 : decide (0 < a0.size) = true := decide_eq_true (by omega)
    clear c3
    by_cases c5 : (bt a0 0) = 63
    · rw [if_pos c5] at H
      have c5b0 : ((bt a0 0) == 63) = true := beq_iff_eq.mpr c5
      have c5b1 : ((bt a0 0) != 63) = false := bne_eq_false_iff_eq.mpr c5
      clear c5
      obtain rfl := Option.some.inj H
      have p4 : 0 ≤ (0 : Int) := (by omega)
      have q4 : 0 < a0.size := (by have : (0 : Int) < (a0.size : Int) := of_decide_eq_true (by first | (with_reducible assumption) | assumption); omega)
      have hx4 : ∀ h : 0 < a0.size, ((a0[0]'h).toNat : Int) = bt a0 0 := bt_at a0 0
      clear p4
      have qi4 : (0 < (a0.size : Int)) = True := eq_true (of_decide_eq_true (by first | (with_reducible assumption) | assumption))
      replace q4 := eq_true q4
      go_enter Tryd.func138, Tryd.ntmps138
      go_wp2
      go_ret
      exact ⟨by first | rfl | (simp; done) | (simp [*]; done), by repeat (first | exact Drawn0.refl _ | apply Drawn0.step)⟩
    · rw [if_neg c5] at H
      have c5b0 : ((bt a0 0) == 63) = false := beq_eq_false_iff_ne.mpr c5
      have c5b1 : ((bt a0 0) != 63) = true := bne_iff_ne.mpr c5
      by_cases c6 : (bt a0 0) = 91
      · rw [if_pos c6] at H
        have c6b0 : ((bt a0 0) == 91) = true := beq_iff_eq.mpr c6
        have c6b1 : ((bt a0 0) != 91) = false := bne_eq_false_iff_eq.mpr c6
        clear c6
        replace H := Option.bind_eq_some_iff.mp H
        obtain ⟨⟨t135, t136⟩, A70, H⟩ := H
        replace H : (some t135) = some r := H
        have A7 := Aside0.mk A70
        clear A70
        obtain rfl := Option.some.inj H
        have p4 : 0 ≤ (0 : Int) := (by omega)
        have q4 : 0 < a0.size := (by have : (0 : Int) < (a0.size : Int) := of_decide_eq_true (by first | (with_reducible assumption) | assumption); omega)
        have hx4 : ∀ h : 0 < a0.size, ((a0[0]'h).toNat : Int) = bt a0 0 := bt_at a0 0
        clear p4
        have qi4 : (0 < (a0.size : Int)) = True := eq_true (of_decide_eq_true (by first | (with_reducible assumption) | assumption))
        replace q4 := eq_true q4
        go_enter Tryd.func138, Tryd.ntmps138
        go_wp2_with (first | ((with_reducible refine gate_callee (f := 168) rfl ?_); refine goesL_ (some 16) rfl rfl Tryd.func168 (by kernel_rfl) rfl #[.string a0, .int .u8 a1] rfl (by (try simp only [List.map_toArray, List.map_cons, List.map_nil]); first | done | rfl | (simp only [List.length_drop, List.length_take]; rfl)) ?_; (with_reducible refine (glob_set.calls a0 a1 t135 t136 _ A7.out).mono ?_); rintro e w' ⟨rfl, ⟨nd, rfl⟩⟩; refine ⟨_, rfl, ?_⟩))
        go_ret
        exact ⟨by first | rfl | (simp; done) | (simp [*]; done), by repeat (first | exact Drawn0.refl _ | apply Drawn0.step)⟩
      · rw [if_neg c6] at H
        have c6b0 : ((bt a0 0) == 91) = false := beq_eq_false_iff_ne.mpr c6
        have c6b1 : ((bt a0 0) != 91) = true := bne_iff_ne.mpr c6
        obtain rfl := Option.some.inj H
        have p4 : 0 ≤ (0 : Int) := (by omega)
        have q4 : 0 < a0.size := (by have : (0 : Int) < (a0.size : Int) := of_decide_eq_true (by first | (with_reducible assumption) | assumption); omega)
        have hx4 : ∀ h : 0 < a0.size, ((a0[0]'h).toNat : Int) = bt a0 0 := bt_at a0 0
        clear p4
        have qi4 : (0 < (a0.size : Int)) = True := eq_true (of_decide_eq_true (by first | (with_reducible assumption) | assumption))
        replace q4 := eq_true q4
        have p8 : 0 ≤ (0 : Int) := (by omega)
        have q8 : 0 < a0.size := (by have : (0 : Int) < (a0.size : Int) := of_decide_eq_true (by first | (with_reducible assumption) | assumption); omega)
        have hx8 : ∀ h : 0 < a0.size, ((a0[0]'h).toNat : Int) = bt a0 0 := bt_at a0 0
        clear p8
        have qi8 : (0 < (a0.size : Int)) = True := eq_true (of_decide_eq_true (by first | (with_reducible assumption) | assumption))
        replace q8 := eq_true q8
        go_enter Tryd.func138, Tryd.ntmps138
        go_wp2
        go_ret
        exact ⟨by first | rfl | (simp; done) | (simp [*]; done), by repeat (first | exact Drawn0.refl _ | apply Drawn0.step)⟩
  · rw [if_neg c3] at H
    exact absurd H (by simp)

/-! ### glob_part: function 108 -/
/-- What is left of the search. -/
def wildM (n m : Nat) (last from_ k : Int) : Nat := (((n : Int) - last).toNat * (m + 1) + ((m : Int) - from_).toNat) * (m + 1) + ((m : Int) - k).toNat
theorem lexM (m a b c a' b' c' : Nat) (hb : b' ≤ m) (hc : c' ≤ m) (h : a' < a ∨ (a' = a ∧ (b' < b ∨ (b' = b ∧ c' < c)))) : (a' * (m + 1) + b') * (m + 1) + c' < (a * (m + 1) + b) * (m + 1) + c := by
  have key : a' * (m + 1) + b' < a * (m + 1) + b ∨ (a' * (m + 1) + b' = a * (m + 1) + b ∧ c' < c) := by
    rcases h with h | ⟨rfl, h | ⟨rfl, h⟩⟩
    · left
      have := Nat.mul_le_mul_right (m + 1) (show a' + 1 ≤ a from h)
      rw [Nat.succ_mul] at this
      omega
    · left; omega
    · right; exact ⟨rfl, h⟩
  rcases key with h | ⟨h, h2⟩
  · have := Nat.mul_le_mul_right (m + 1) (show (a' * (m + 1) + b') + 1 ≤ a * (m + 1) + b from h)
    rw [Nat.succ_mul] at this
    omega
  · rw [h]; omega
set_option maxHeartbeats 4000000 in
set_option maxRecDepth 100000 in
theorem wildB (n m : Nat) (hn : n ≤ 1000000000) (hm : m ≤ 1000000000) (st : Nat → Bool) (ft : Nat → Nat → Bool) (ps pf : Addr) (w : World)
    (hst : ∀ (W : World) (i : Nat), Below w.heap.size w W → i < n → Calls Tryd.prog 136 #[.int .i64 (i : Int), .pointer (some ps)] W fun e w' => e = .returned (.bool (st i)) ∧ Below W.heap.size W w')
    (hft : ∀ (W : World) (i k : Nat), Below w.heap.size w W → i < n → k < m → st i = false → Calls Tryd.prog 137 #[.int .i64 (i : Int), .int .i64 (k : Int), .pointer (some ps), .pointer (some pf)] W fun e w' => e = .returned (.bool (ft i k)) ∧ Below W.heap.size W w') :
    Calls Tryd.prog 105 #[.int .i64 (n : Int), .int .i64 (m : Int), .func (.func 136) #[] #[.pointer (some ps)], .func (.func 137) #[] #[.pointer (some ps), .pointer (some pf)]] w fun e w' => (∃ b, e = .returned (.bool b) ∧ (b = true ↔ Fit n m st ft 0 0)) ∧ Below w.heap.size w w' := by
  have HS := Aside0.mk hst
  have HF := Aside0.mk hft
  have HN := Aside0.mk hn
  have HM := Aside0.mk hm
  clear hst hft hn hm
  go_enter Tryd.func105, Tryd.ntmps105
  go_wp2_with fail
  go_loopg [9, 10, 11, 12] (wildM n m (-1) 0 0) (fun kq v9 v10 v11 v12 w' => ∃ (i last from_ k : Int), v9 = .int .i64 i ∧ v10 = .int .i64 last ∧ v11 = .int .i64 from_ ∧ v12 = .int .i64 k ∧ Aside0 (At n m st ft i last from_ k) ∧ Aside0 (wildM n m last from_ k ≤ kq) ∧ Aside0 (Below w.heap.size w w'))
  case atStart => exact ⟨0, -1, 0, 0, rfl, rfl, rfl, rfl, ⟨at_start⟩, ⟨Nat.le_refl _⟩, ⟨Below.refl _ _⟩⟩
  case round =>
    obtain ⟨i, last, from_, k, rfl, rfl, rfl, rfl, HA, HK, HB⟩ := hrel
    obtain ⟨i, rfl⟩ := Int.eq_ofNat_of_zero_le HA.out.i0
    obtain ⟨k, rfl⟩ := Int.eq_ofNat_of_zero_le HA.out.k0
    by_cases hk : (k : Int) < (m : Int)
    · have go : i < n ∧ st i = true ∨ i < n ∧ st i = false ∧ ft i k = true ∨ (i < n ∧ st i = false ∧ ft i k = false ∨ ¬ i < n) := by
        by_cases h1 : i < n
        · cases h2 : st i
          · cases h3 : ft i k
            · exact .inr (.inr (.inl ⟨h1, rfl, rfl⟩))
            · exact .inr (.inl ⟨h1, rfl, rfl⟩)
          · exact .inl ⟨h1, rfl⟩
        · exact .inr (.inr (.inr h1))
      rcases go with ⟨hi, hs⟩ | ⟨hi, hs, hf⟩ | hno
      · have hi' : (i : Int) < (n : Int) := by omega
        have HI := Aside0.mk hi
        clear hi
        go_wp2_with (go_at_call 136; refine (HS.out _ i HB.out HI.out).mono ?_; rintro e w2 ⟨rfl, hb2⟩; have HB2 := Aside0.mk (below_step HB.out hb2); clear hb2)
        go_roundg (wildM n m (i : Int) (k : Int) (k : Int))
        case measure =>
          refine Nat.lt_of_lt_of_le ?_ HK.out
          have h1 := HA.out.li
          have h2 := HI.out
          exact lexM m _ _ _ _ _ _ (by omega) (by omega) (.inl (by omega))
        case rel => exact ⟨(i : Int) + 1, i, k, k, by rw [w64 (by omega) (by have := HN.out; omega)], rfl, rfl, rfl, ⟨at_star HA.out (by have := HI.out; omega) (by simpa using hs)⟩, ⟨Nat.le_refl _⟩, HB2⟩
      · have hi' : (i : Int) < (n : Int) := by omega
        have HI := Aside0.mk hi
        clear hi
        go_wp2_with (first | (go_at_call 136; refine (HS.out _ i HB.out HI.out).mono ?_; rintro e w2 ⟨rfl, hb2⟩; have HB2 := Aside0.mk (below_step HB.out hb2); clear hb2) | (go_at_call 137; refine (HF.out _ i k HB2.out HI.out (by omega) (by assumption)).mono ?_; rintro e w3 ⟨rfl, hb3⟩; have HB3 := Aside0.mk (below_step HB2.out hb3); clear hb3))
        go_roundg (wildM n m last from_ ((k : Int) + 1))
        case measure =>
          refine Nat.lt_of_lt_of_le ?_ HK.out
          have h1 := HA.out.f0
          exact lexM m _ _ _ _ _ _ (by omega) (by omega) (.inr ⟨rfl, .inr ⟨rfl, by omega⟩⟩)
        case rel => exact ⟨(i : Int) + 1, last, from_, (k : Int) + 1, by rw [w64 (by omega) (by have := HN.out; omega)], rfl, rfl, by rw [w64 (by omega) (by have := HM.out; omega)], ⟨at_one HA.out (by have := HI.out; omega) hk (by simpa using hs) (by simpa using hf)⟩, ⟨Nat.le_refl _⟩, HB3⟩
      · have hmiss : (i : Int) < n → st (i : Int).toNat = false ∧ ft (i : Int).toNat (k : Int).toNat = false := fun h => by
          rcases hno with ⟨_, h1, h2⟩ | h1
          · simpa using ⟨h1, h2⟩
          · omega
        have HMI := Aside0.mk hmiss
        clear hmiss
        by_cases hl : 0 ≤ last
        · have HL := Aside0.mk hl
          rcases hno with ⟨hi, hs, hf⟩ | hi
          · have hi' : (i : Int) < (n : Int) := by omega
            have HI := Aside0.mk hi
            clear hi
            go_wp2_with (first | (go_at_call 136; refine (HS.out _ i HB.out HI.out).mono ?_; rintro e w2 ⟨rfl, hb2⟩; have HB2 := Aside0.mk (below_step HB.out hb2); clear hb2) | (go_at_call 137; refine (HF.out _ i k HB2.out HI.out (by omega) (by assumption)).mono ?_; rintro e w3 ⟨rfl, hb3⟩; have HB3 := Aside0.mk (below_step HB2.out hb3); clear hb3))
            go_roundg (wildM n m last (from_ + 1) (from_ + 1))
            case measure => 
              refine Nat.lt_of_lt_of_le ?_ HK.out
              have h1 := HA.out.f0
              have h2 := HA.out.fk HL.out
              have h3 := HA.out.li
              exact lexM m _ _ _ _ _ _ (by omega) (by omega) (.inr ⟨rfl, .inl (by omega)⟩)
            case rel => exact ⟨last + 1, last, from_ + 1, from_ + 1, by (have h1 := HA.out.li; have h3 := HA.out.iN; rw [w64 (by omega) (by have := HN.out; omega)]), rfl, by (have h1 := HA.out.f0; have h2 := HA.out.fk HL.out; have h3 := HA.out.li; rw [w64 (by omega) (by have := HM.out; omega)]), by (have h1 := HA.out.f0; have h2 := HA.out.fk HL.out; have h3 := HA.out.li; rw [w64 (by omega) (by have := HM.out; omega)]), ⟨at_again HA.out (by omega) HMI.out HL.out⟩, ⟨Nat.le_refl _⟩, HB3⟩
          · have hi' : ¬ (i : Int) < (n : Int) := by omega
            clear hi
            go_wp2_with fail
            go_roundg (wildM n m last (from_ + 1) (from_ + 1))
            case measure => 
              refine Nat.lt_of_lt_of_le ?_ HK.out
              have h1 := HA.out.f0
              have h2 := HA.out.fk HL.out
              have h3 := HA.out.li
              exact lexM m _ _ _ _ _ _ (by omega) (by omega) (.inr ⟨rfl, .inl (by omega)⟩)
            case rel => exact ⟨last + 1, last, from_ + 1, from_ + 1, by (have h1 := HA.out.li; have h3 := HA.out.iN; rw [w64 (by omega) (by have := HN.out; omega)]), rfl, by (have h1 := HA.out.f0; have h2 := HA.out.fk HL.out; have h3 := HA.out.li; rw [w64 (by omega) (by have := HM.out; omega)]), by (have h1 := HA.out.f0; have h2 := HA.out.fk HL.out; have h3 := HA.out.li; rw [w64 (by omega) (by have := HM.out; omega)]), ⟨at_again HA.out (by omega) HMI.out HL.out⟩, ⟨Nat.le_refl _⟩, HB⟩
        · have hnf := Aside0.mk (at_none HA.out (by omega) HMI.out (by omega))
          rcases hno with ⟨hi, hs, hf⟩ | hi
          · have hi' : (i : Int) < (n : Int) := by omega
            have HI := Aside0.mk hi
            clear hi
            go_wp2_with (first | (go_at_call 136; refine (HS.out _ i HB.out HI.out).mono ?_; rintro e w2 ⟨rfl, hb2⟩; have HB2 := Aside0.mk (below_step HB.out hb2); clear hb2) | (go_at_call 137; refine (HF.out _ i k HB2.out HI.out (by omega) (by assumption)).mono ?_; rintro e w3 ⟨rfl, hb3⟩; have HB3 := Aside0.mk (below_step HB2.out hb3); clear hb3))
            go_ret
            first | exact ⟨⟨false, rfl, by simp [hnf.out]⟩, HB3.out⟩ | exact ⟨.inl ⟨rfl, hnf.out⟩, HB3.out⟩
          · have hi' : ¬ (i : Int) < (n : Int) := by omega
            clear hi
            go_wp2_with fail
            go_ret
            first | exact ⟨⟨false, rfl, by simp [hnf.out]⟩, HB.out⟩ | exact ⟨.inl ⟨rfl, hnf.out⟩, HB.out⟩
    · have hkm : k = m := by have := HA.out.kM; omega
      subst hkm
      have HE := Aside0.mk (at_end HA.out)
      have HIN := Aside0.mk HA.out.iN
      clear HA HK
      go_wp2_with fail
      go_loopg [9] (n - i) (fun kq v9 w' => ∃ j : Nat, v9 = .int .i64 (j : Int) ∧ Aside0 (i ≤ j ∧ j ≤ n ∧ kq = n - j) ∧ Aside0 (∀ q : Nat, i ≤ q → q < j → st q = true) ∧ Aside0 (Below w.heap.size w w'))
      case atStart => exact ⟨i, rfl, ⟨Nat.le_refl _, by have := HIN.out; omega, rfl⟩, ⟨fun q h1 h2 => by omega⟩, HB⟩
      case round =>
        obtain ⟨j, rfl, HJ, HQ, HB2⟩ := hrel
        by_cases hj : j < n
        · have hj' : (j : Int) < (n : Int) := by omega
          have HI := Aside0.mk hj
          clear hj
          by_cases hs : st j = true
          · go_wp2_with (go_at_call 136; refine (HS.out _ j HB2.out HI.out).mono ?_; rintro e w2 ⟨rfl, hb2⟩; have HB3 := Aside0.mk (below_step HB2.out hb2); clear hb2)
            go_roundg (gk - 1)
            case measure => have := HJ.out; have := HI.out; omega
            case rel => exact ⟨j + 1, by rw [w64 (by omega) (by have := HN.out; omega)]; rfl, ⟨by have := HJ.out; omega, HI.out, by have := HJ.out; omega⟩, ⟨fun q h1 h2 => by
              by_cases e : q = j
              · rw [e]; exact hs
              · exact HQ.out q h1 (by omega)⟩, HB3⟩
          · have hs2 : st j = false := by simpa using hs
            have hnf := Aside0.mk (show ¬ Fit n k st ft 0 0 from fun h => by
              have := HE.out.1 h j (by have := HJ.out; omega) HI.out
              rw [hs2] at this; cases this)
            clear hs
            have hne : ((j : Int) == (n : Int)) = false := beq_eq_false_iff_ne.mpr (by have := HI.out; omega)
            go_wp2_with (go_at_call 136; refine (HS.out _ j HB2.out HI.out).mono ?_; rintro e w2 ⟨rfl, hb2⟩; have HB3 := Aside0.mk (below_step HB2.out hb2); clear hb2)
            go_ret
            first | exact ⟨⟨false, rfl, by simp [hnf.out]⟩, HB3.out⟩ | exact ⟨.inl ⟨rfl, hnf.out⟩, HB3.out⟩
        · have hjn : j = n := by have := HJ.out; omega
          subst hjn
          have hf := Aside0.mk (show Fit j k st ft 0 0 from HE.out.2 (fun q h1 h2 => HQ.out q (by omega) h2))
          clear hj
          go_wp2_with fail
          go_ret
          first | exact ⟨⟨true, rfl, by simp [hf.out]⟩, HB2.out⟩ | exact ⟨.inr ⟨rfl, hf.out⟩, HB2.out⟩
/-- 'Fit', decided. -/
def fitB (n m : Nat) (st : Nat → Bool) (ft : Nat → Nat → Bool) : Nat → Nat → Nat → Bool
  | 0, i, k => i == n && k == m
  | f + 1, i, k => (i == n && k == m) || (decide (i < n) && st i && decide (k ≤ m) && fitB n m st ft f (i + 1) k) || (decide (i < n) && st i && decide (k < m) && fitB n m st ft f i (k + 1)) || (decide (i < n) && !st i && decide (k < m) && ft i k && fitB n m st ft f (i + 1) (k + 1))
theorem fitB_gm {n m : Nat} {st : Nat → Bool} {ft : Nat → Nat → Bool} : ∀ f i k, fitB n m st ft f i k = true ↔ GM n m st ft f i k
  | 0, i, k => by simp [fitB, GM]
  | f + 1, i, k => by
    rw [fitB, GM]
    simp only [Bool.or_eq_true, Bool.and_eq_true, beq_iff_eq, decide_eq_true_eq, Bool.not_eq_true', fitB_gm f]
    constructor
    · rintro (((h | h) | h) | h)
      · exact .inl h
      · exact .inr (.inl ⟨h.1.1.1, h.1.1.2, h.1.2, h.2⟩)
      · exact .inr (.inr (.inl ⟨h.1.1.1, h.1.1.2, h.1.2, h.2⟩))
      · exact .inr (.inr (.inr ⟨h.1.1.1.1, h.1.1.1.2, h.1.1.2, h.1.2, h.2⟩))
    · rintro (h | h | h | h)
      · exact .inl (.inl (.inl h))
      · exact .inl (.inl (.inr ⟨⟨⟨h.1, h.2.1⟩, h.2.2.1⟩, h.2.2.2⟩))
      · exact .inl (.inr ⟨⟨⟨h.1, h.2.1⟩, h.2.2.1⟩, h.2.2.2⟩)
      · exact .inr ⟨⟨⟨⟨h.1, h.2.1⟩, h.2.2.1⟩, h.2.2.2.1⟩, h.2.2.2.2⟩
theorem gm_cap {n m : Nat} {st : Nat → Bool} {ft : Nat → Nat → Bool} : ∀ f g i k, GM n m st ft f i k → (n - i) + (m - k) ≤ g → GM n m st ft g i k
  | 0, 0, i, k, h, _ => h
  | 0, g + 1, i, k, h, _ => .inl h
  | f + 1, 0, i, k, h, hg => by
    rcases h with h | h | h | h
    · exact h
    · omega
    · omega
    · omega
  | f + 1, g + 1, i, k, h, hg => by
    rcases h with h | h | h | h
    · exact .inl h
    · exact .inr (.inl ⟨h.1, h.2.1, h.2.2.1, gm_cap f g _ _ h.2.2.2 (by omega)⟩)
    · exact .inr (.inr (.inl ⟨h.1, h.2.1, h.2.2.1, gm_cap f g _ _ h.2.2.2 (by omega)⟩))
    · exact .inr (.inr (.inr ⟨h.1, h.2.1, h.2.2.1, h.2.2.2.1, gm_cap f g _ _ h.2.2.2.2 (by omega)⟩))
theorem fitB_fit {n m : Nat} {st : Nat → Bool} {ft : Nat → Nat → Bool} : fitB n m st ft (n + m) 0 0 = true ↔ Fit n m st ft 0 0 := by
  rw [fitB_gm]
  exact ⟨fun h => ⟨_, h⟩, fun ⟨f, h⟩ => gm_cap f _ _ _ h (by omega)⟩
/-- Two functions that agree on what is asked. -/
theorem gm_congr {n m : Nat} {st st' : Nat → Bool} {ft ft' : Nat → Nat → Bool} (hs : ∀ i, i < n → st i = st' i) (hf : ∀ i k, i < n → k < m → st i = false → ft i k = ft' i k) : ∀ f i k, GM n m st ft f i k → GM n m st' ft' f i k
  | 0, _, _, h => h
  | f + 1, i, k, h => by
    rcases h with h | h | h | h
    · exact .inl h
    · exact .inr (.inl ⟨h.1, (hs i h.1).symm.trans h.2.1, h.2.2.1, gm_congr hs hf f _ _ h.2.2.2⟩)
    · exact .inr (.inr (.inl ⟨h.1, (hs i h.1).symm.trans h.2.1, h.2.2.1, gm_congr hs hf f _ _ h.2.2.2⟩))
    · exact .inr (.inr (.inr ⟨h.1, (hs i h.1).symm.trans h.2.1, h.2.2.1, (hf i k h.1 h.2.2.1 h.2.1).symm.trans h.2.2.2.1, gm_congr hs hf f _ _ h.2.2.2.2⟩))
set_option maxRecDepth 100000 in
theorem part1_calls (l : List ByteArray) (A : Option Addr) (c B : Nat) (W : World) (i : Nat) (hC : Kd.C Kd.string W A l.length l) (hB : W.cell? ⟨B, 0, none⟩ = some (.slice A l.length c)) (hi : i < l.length) :
    Calls Tryd.prog 136 #[.int .i64 (i : Int), .pointer (some ⟨B, 0, none⟩)] W fun e w' => e = .returned (.bool ((rdOf ByteArray.empty l (i : Int)).toList == [42])) ∧ Below W.heap.size W w' := by
  have q0 : (0 : Int) ≤ (i : Int) := by omega
  have q1 : (i : Int) < (l.length : Int) := by omega
  obtain ⟨ad, eA, hc⟩ := Kd.at_string hC (i : Int) q0 q1
  simp only [Int.toNat_natCast] at hc
  subst eA
  obtain ⟨s, hs⟩ : ∃ s, s = rdOf ByteArray.empty l (i : Int) := ⟨_, rfl⟩
  rw [← hs] at hc ⊢
  clear hs hi hC
  go_enter Tryd.func136, Tryd.ntmps136
  go_wp2
  go_ret
  exact ⟨by first | rfl | (simp; done), Below.refl _ _⟩

/-- It leaves the place of a string. -/
def cellw (u : Value) : CalmVal := ⟨fun x w => ∃ ad : Addr, x = .pointer (some ad) ∧ ad.block < w.heap.size ∧ w.cell? ad = some u, fun _v _w _w' hb ⟨ad, h1, h2, h3⟩ => ⟨ad, h1, Nat.lt_of_lt_of_le h2 hb.size, (hb.cell h2).trans h3⟩⟩
theorem cellw_lt {w : World} {ad : Addr} {u : Value} (h : w.cell? ad = some u) : ad.block < w.heap.size := by
  unfold World.cell? at h
  cases hb : w.heap[ad.block]? with
  | none => rw [hb] at h; simp at h
  | some o => exact (Array.getElem?_eq_some_iff.1 hb).1
set_option maxHeartbeats 4000000 in
set_option maxRecDepth 100000 in
theorem part2_calls (l : List ByteArray) (s : ByteArray) (A : Option Addr) (c B B2 : Nat) (W : World) (i k : Nat) (r : Bool) (hC : Kd.C Kd.string W A l.length l) (hB : W.cell? ⟨B, 0, none⟩ = some (.slice A l.length c)) (hB2 : W.cell? ⟨B2, 0, none⟩ = some (.string s)) (hi : i < l.length) (hk : k < s.size) (hr : glob_sign.f (rdOf ByteArray.empty l (i : Int)) (bt s (k : Int)) = some r) :
    Calls Tryd.prog 137 #[.int .i64 (i : Int), .int .i64 (k : Int), .pointer (some ⟨B, 0, none⟩), .pointer (some ⟨B2, 0, none⟩)] W fun e w' => e = .returned (.bool r) ∧ Below W.heap.size W w' := by
  have q0 : (0 : Int) ≤ (i : Int) := by omega
  have q1 : (i : Int) < (l.length : Int) := by omega
  have q2 : (0 : Int) ≤ (k : Int) := by omega
  have q3 : (k : Int) < (s.size : Int) := by omega
  obtain ⟨ad, eA, hc⟩ := Kd.at_string hC (i : Int) q0 q1
  simp only [Int.toNat_natCast] at hc
  subst eA
  have HR := Aside0.mk hr
  clear hi hC hr hk
  obtain ⟨x, hx⟩ : ∃ x, x = rdOf ByteArray.empty l (i : Int) := ⟨_, rfl⟩
  replace hr := HR.out
  clear HR
  rw [← hx] at hc hr
  have HR := Aside0.mk hr
  have HX := Aside0.mk hc
  have HB := Aside0.mk hB
  have HB2 := Aside0.mk hB2
  have hbt := bt_at s (k : Int)
  simp only [Int.toNat_natCast] at hbt
  have HBT := Aside0.mk hbt
  clear hx hr hc hB hB2 hbt
  go_enter Tryd.func137, Tryd.ntmps137
  go_upto_region 1 with fail
  have hL : ∀ w', Below W.heap.size W w' → ∀ a u, W.cell? a = some u → w'.cell? a = some u := fun w' hb a u h => (hb.cell (cellw_lt h)).trans h
  refine region_calm 8 [eqv (.slice (some ad) l.length c), eqv (.int .i64 (i : Int)), cellw (.string x), eqv (.string x), eqv (.string s), eqv (.int .i64 (k : Int)), eqv (.int .u8 (bt s (k : Int))), eqv (.bool r)] (by kernel_rfl) rfl (by kernel_rfl) ?_ (fun vals => ?_) ?_ ?_
  rotate_left
  · simp only [List.take_succ_cons, List.take_zero, putsFrom, Act.put, List.setIfInBounds_toArray, List.set_cons_zero, List.set_cons_succ]
    rfl
  · show calmAll _ _ _ _ _ _ [_, _, _, _, _, _, _, _] 0
    refine ⟨?_, ?_, ?_, ?_, ?_, ?_, ?_, ?_, trivial⟩
    · intro vals w' hb hv
      have s1 := hL w' hb _ _ HB.out
      clear hv
      go_wp2
      exact ⟨Below.refl _ _, rfl, rfl⟩
    · intro vals w' hb hv
      clear hv
      go_wp2
      exact ⟨Below.refl _ _, rfl, rfl⟩
    · intro vals w' hb hv
      have e0 : vals 0 = .slice (some ad) l.length c := hv 0 (by decide) (by kernel_rfl)
      have e1 : vals 1 = .int .i64 (i : Int) := hv 1 (by decide) (by kernel_rfl)
      have hcell := hL w' hb _ _ HX.out
      have hlt := cellw_lt hcell
      clear hv
      go_wp2
      exact ⟨Below.refl _ _, rfl, _, rfl, hlt, hcell⟩
    · intro vals w' hb hv
      obtain ⟨a9, e0, hlt9, hcell⟩ := hv 2 (by decide) (by kernel_rfl)
      clear hv
      go_wp2
      exact ⟨Below.refl _ _, rfl, rfl⟩
    · intro vals w' hb hv
      have s1 := hL w' hb _ _ HB2.out
      clear hv
      go_wp2
      exact ⟨Below.refl _ _, rfl, rfl⟩
    · intro vals w' hb hv
      clear hv
      go_wp2
      exact ⟨Below.refl _ _, rfl, rfl⟩
    · intro vals w' hb hv
      have e0 : vals 4 = .string s := hv 4 (by decide) (by kernel_rfl)
      have e1 : vals 5 = .int .i64 (k : Int) := hv 5 (by decide) (by kernel_rfl)
      clear hv
      go_wp2
      exact ⟨Below.refl _ _, rfl, by first | exact congrArg (Value.int .u8) (HBT.out _) | exact congrArg (Value.int .u8) (HBT.out (by omega))⟩
    · intro vals w' hb hv
      have e0 : vals 3 = .string x := hv 3 (by decide) (by kernel_rfl)
      have e1 : vals 6 = .int .u8 (bt s (k : Int)) := hv 6 (by decide) (by kernel_rfl)
      clear hv
      go_wp2_with fail
      refine (glob_sign.calls x (bt s (k : Int)) r _ HR.out).mono ?_
      rintro e w1 ⟨rfl, hb1⟩
      go_wp2
      exact ⟨hb1.below, rfl, rfl⟩
  intro vals w1 hb1 hend
  have e7 : vals 7 = .bool r := hend.2.2.2.2.2.2.2.1
  have HB1 := Aside0.mk hb1
  clear hend hL hb1
  go_wp2_with fail
  go_ret
  exact ⟨by first | rfl | (rw [e7]; rfl) | simp [e7], HB1.out⟩
def partSt (l : List ByteArray) (i : Nat) : Bool := (rdOf ByteArray.empty l (i : Int)).toList == [42]
def partFt (l : List ByteArray) (s : ByteArray) (i k : Nat) : Bool := (glob_sign.f (rdOf ByteArray.empty l (i : Int)) (bt s (k : Int))).getD false
def glob_part.f (a0 a1 : ByteArray) : Option Bool := (glob_split.f (3 * a0.size + 10) a0).bind fun l => if l.length ≤ 1000000000 ∧ a1.size ≤ 1000000000 ∧ ((List.range l.length).all fun i => (List.range a1.size).all fun k => partSt l i || (glob_sign.f (rdOf ByteArray.empty l (i : Int)) (bt a1 (k : Int))).isSome) = true then some (fitB l.length a1.size (partSt l) (partFt l a1) (l.length + a1.size) 0 0) else none
theorem opt_getD {α : Type} {o : Option α} {d : α} (h : o.isSome = true) : o = some (o.getD d) := by cases o with | none => cases h | some x => rfl
set_option maxHeartbeats 4000000 in
set_option maxRecDepth 100000 in
theorem glob_part.calls (a0 a1 : ByteArray) (r : Bool) (w : World) (h : glob_part.f a0 a1 = some r) :
    Calls Tryd.prog 108 #[.string a0, .string a1] w fun e w' => e = .returned (.bool r) ∧ Below w.heap.size w w' := by
  unfold glob_part.f at h
  rw [Option.bind_eq_some_iff] at h
  obtain ⟨l, hs, h⟩ := h
  split at h
  case isFalse => cases h
  rename_i hl
  injection h with h
  obtain ⟨hl1, hl2, hl3⟩ := hl
  have HSP := Aside0.mk hs
  have HL1 := Aside0.mk hl1
  have HL2 := Aside0.mk hl2
  have HAL := Aside0.mk (show ∀ i k, i < l.length → k < a1.size → partSt l i = false → glob_sign.f (rdOf ByteArray.empty l (i : Int)) (bt a1 (k : Int)) = some (partFt l a1 i k) from fun i k hi hk hst => by
    have h1 := List.all_eq_true.1 (List.all_eq_true.1 hl3 i (List.mem_range.2 hi)) k (List.mem_range.2 hk)
    rw [hst, Bool.false_or] at h1
    exact opt_getD h1)
  have HR := Aside0.mk h
  have hw1 := Aside0.mk (below_alloc (Below.refl w.heap.size w) (.cells #[.string a1] 9))
  have hb1 := Aside0.mk (heap_alloc_new w (.cells #[.string a1] 9))
  clear h hs hl1 hl2 hl3
  go_enter Tryd.func108, Tryd.ntmps108
  go_wp2_with (first | (go_at_call 135; refine (glob_split.calls _ _ l _ HSP.out).mono ?_; rintro e w2 ⟨v, rfl, ho, hb2⟩; obtain ⟨A, c, rfl⟩ := Kd.R_slice ho; have HC2 := Aside0.mk (Kd.R_reads' ho).2.2; have HW2 := Aside0.mk (below_step hw1.out hb2); have HB2 := Aside0.mk (blk_below hb1.out hb2); clear ho hb2) | ((with_reducible refine gate_dst (N := 5) rfl ?_); refine box_event ?hg (N := 5) ?hd (cs := #[.slice none 0 0]) (t := 58) ?hr ?_; (case hd => rfl); (case hg => rfl); (case hr => first | (go_simp; done) | (go_simp; rfl)); intro g5 hg5 w3 hbox hb3; have HB3 := Aside0.mk hb3; have BX := Aside0.mk hbox; have HG5 := Aside0.mk (Nat.le_of_eq hg5.symm); clear hg5 hbox hb3) | ((with_reducible refine gate_store (x := .tmp 5) (y := .tmp 7) rfl ?_); refine ev_store_one rfl rfl 58 (.tmp 5) (.tmp 7) rfl g5 0 (.slice A l.length c) _ #[.slice A l.length c] 58 rfl rfl BX.out (by show 0 < 1; decide) (by kernel_rfl) rfl rfl (fun w4 ht4 b4 => ?_); have HB4 := Aside0.mk (ht4.below HB3.out HG5.out); have c5 : w4.cell? ⟨g5, 0, none⟩ = some (.slice A l.length c) := (blk_cell b4 0).trans rfl; have c3 : w4.cell? ⟨w.heap.size, 0, none⟩ = some (.string a1) := (blk_cell (blk_below HB2.out HB4.out) 0).trans rfl; have BN := Aside0.mk b4; clear ht4 b4) | (go_at_call 105; refine (wildB l.length a1.size HL1.out HL2.out (partSt l) (partFt l a1) ⟨g5, 0, none⟩ ⟨w.heap.size, 0, none⟩ _ (fun W i hb hi => part1_calls l A c g5 W i (Kd.C_below HC2.out (below_step HB4.out hb)) ((blk_cell (blk_below BN.out hb) 0).trans rfl) hi) (fun W i k hb hi hk hst => part2_calls l a1 A c g5 w.heap.size W i k _ (Kd.C_below HC2.out (below_step HB4.out hb)) ((blk_cell (blk_below BN.out hb) 0).trans rfl) ((blk_cell (blk_below HB2.out (below_step HB4.out hb)) 0).trans rfl) hi hk (HAL.out i k hi hk hst))).mono ?_; rintro e w6 ⟨⟨b, rfl, hb⟩, hb6⟩; have HBB := Aside0.mk hb; have HW6 := Aside0.mk (below_step (below_step HW2.out HB4.out) hb6); clear hb hb6))
  go_ret
  refine ⟨?_, HW6.out⟩
  have : b = r := by
    rw [← HR.out, Bool.eq_iff_iff, HBB.out, fitB_fit]
  rw [this]
  rfl

end Go.Proofs.YthonjghpblkpgaaDoor.PGlobJoins
