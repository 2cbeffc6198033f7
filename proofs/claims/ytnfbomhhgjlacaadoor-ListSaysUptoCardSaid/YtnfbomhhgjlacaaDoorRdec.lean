/- Numbers in decimal digits; what the library's functions of texts answer, more of them. -/
import Derived.Test.YtnfbomhhgjlacaaDoorRstr
import Derived.Lib.ItoaMem
import Derived.Lib.ItoaLen
import Derived.Lib.SlTrimSet
import Derived.Lib.Atoi
import Derived.Lib.IndexAny
import Derived.Lib.AppendIntMem
import Derived.Lib.AtoiErrMem
import Derived.Shelf.Strings.SlTrimAscii
namespace Go.Proofs.YtnfbomhhgjlacaaDoor.Abs
open Go.RowKit Go.MapKept Go.Shelf
set_option linter.unusedVariables false
set_option linter.unusedSimpArgs false
set_option maxRecDepth 100000
set_option maxHeartbeats 4000000
theorem dd_small {u : Nat} (h : u < 10) : Lib.decDigits u = [UInt8.ofNat (48 + u)] := by rw [Lib.decDigits, dif_pos h]
theorem dd_big {u : Nat} (h : ¬ u < 10) : Lib.decDigits u = Lib.decDigits (u / 10) ++ [UInt8.ofNat (48 + u % 10)] := by rw [Lib.decDigits, dif_neg h]
theorem of48 {d : Nat} (h : d < 10) : (UInt8.ofNat (48 + d)).toNat = 48 + d := by rw [UInt8.toNat_ofNat']; omega
theorem dd_digit (u : Nat) : ∀ b ∈ Lib.decDigits u, 48 ≤ b.toNat ∧ b.toNat ≤ 57 := by
  induction u using Nat.strongRecOn with
  | _ u ih =>
    intro b hb
    by_cases h : u < 10
    · rw [dd_small h, List.mem_singleton] at hb
      rw [hb, of48 h]; omega
    · rw [dd_big h, List.mem_append, List.mem_singleton] at hb
      rcases hb with hb | hb
      · exact ih (u / 10) (by omega) b hb
      · rw [hb, of48 (by omega)]; omega
theorem dd_ne (u : Nat) : Lib.decDigits u ≠ [] := by
  by_cases h : u < 10
  · rw [dd_small h]; simp
  · rw [dd_big h]; simp
theorem dd_head (u : Nat) (h0 : 0 < u) : ∃ b r, Lib.decDigits u = b :: r ∧ b ≠ 48 := by
  induction u using Nat.strongRecOn with
  | _ u ih =>
    by_cases h : u < 10
    · refine ⟨_, [], dd_small h, fun e => ?_⟩
      have := congrArg UInt8.toNat e
      rw [of48 h] at this
      have h48 : (48 : UInt8).toNat = 48 := rfl
      omega
    · obtain ⟨b, r, e, hb⟩ := ih (u / 10) (by omega) (by omega)
      exact ⟨b, r ++ [UInt8.ofNat (48 + u % 10)], by rw [dd_big h, e]; rfl, hb⟩
theorem dd_len : ∀ (k u : Nat), u < 10 ^ (k + 1) → (Lib.decDigits u).length ≤ k + 1
  | 0, u, h => by rw [dd_small (by simpa using h)]; simp
  | k + 1, u, h => by
    by_cases c : u < 10
    · rw [dd_small c]; simp
    · rw [dd_big c, List.length_append, List.length_singleton]
      have := dd_len k (u / 10) (by rw [Nat.pow_succ] at h; omega)
      omega
theorem dd_mono : ∀ (v u : Nat), u ≤ v → (Lib.decDigits u).length ≤ (Lib.decDigits v).length := by
  intro v
  induction v using Nat.strongRecOn with
  | _ v ih =>
    intro u h
    by_cases c : u < 10
    · rw [dd_small c, List.length_singleton]
      exact List.length_pos_iff.2 (dd_ne v)
    · rw [dd_big c, dd_big (u := v) (by omega), List.length_append, List.length_append, List.length_singleton, List.length_singleton]
      have := ih (v / 10) (by omega) (u / 10) (Nat.div_le_div_right h)
      omega
theorem decFrom_app (l : List UInt8) (b : UInt8) : ∀ acc, Lib.decFrom acc (l ++ [b]) = (Lib.decFrom acc l).bind fun m => (Lib.digitVal b).map fun d => m * 10 + d := by
  induction l with
  | nil => intro acc; simp only [List.nil_append, Lib.decFrom, Option.bind_some]; cases Lib.digitVal b <;> rfl
  | cons x l ih =>
    intro acc
    simp only [List.cons_append, Lib.decFrom]
    cases Lib.digitVal x with
    | none => rfl
    | some d => exact ih _
theorem decFrom_dd (u : Nat) : Lib.decFrom 0 (Lib.decDigits u) = some u := by
  induction u using Nat.strongRecOn with
  | _ u ih =>
    have hv : ∀ d, d < 10 → Lib.digitVal (UInt8.ofNat (48 + d)) = some d := by
      intro d hd
      unfold Lib.digitVal
      rw [of48 hd, if_pos (by omega)]
      congr 1
      omega
    by_cases h : u < 10
    · rw [dd_small h]
      simp only [Lib.decFrom, hv u h]
      congr 1
      omega
    · rw [dd_big h, decFrom_app, ih (u / 10) (by omega), hv _ (by omega), Option.bind_some, Option.map_some]
      congr 1
      omega
theorem atoi_dd (u : Nat) : Lib.atoi (Lib.decDigits u) = some (u : Int) := by
  have hn : Lib.decNat (Lib.decDigits u) = some u := by
    unfold Lib.decNat
    rw [if_neg (by simpa using dd_ne u), decFrom_dd]
  cases h : Lib.decDigits u with
  | nil => exact absurd h (dd_ne u)
  | cons b r =>
    have hb := dd_digit u b (by rw [h]; simp)
    have h45 : ¬ (b == 45) = true := by rw [beq_iff_eq]; intro e; rw [e] at hb; exact absurd hb.1 (by decide)
    have h43 : ¬ (b == 43) = true := by rw [beq_iff_eq]; intro e; rw [e] at hb; exact absurd hb.1 (by decide)
    rw [h] at hn
    simp only [Lib.atoi]
    rw [if_neg h45, if_neg h43, hn]
    rfl
theorem set_digits (l : List UInt8) (h : ∀ b ∈ l, 48 ≤ b.toNat ∧ b.toNat ≤ 57) : Lib.trimS l [48, 49, 50, 51, 52, 53, 54, 55, 56, 57] = [] := by
  have hc : ∀ b ∈ l, ([48, 49, 50, 51, 52, 53, 54, 55, 56, 57] : List UInt8).contains b = true := by
    intro b hb
    have h1 := h b hb
    rw [List.contains_iff_mem]
    have : b.toNat = 48 ∨ b.toNat = 49 ∨ b.toNat = 50 ∨ b.toNat = 51 ∨ b.toNat = 52 ∨ b.toNat = 53 ∨ b.toNat = 54 ∨ b.toNat = 55 ∨ b.toNat = 56 ∨ b.toNat = 57 := by omega
    have he : ∀ c : UInt8, b.toNat = c.toNat → b = c := fun c hc => UInt8.toNat_inj.1 hc
    rcases this with q | q | q | q | q | q | q | q | q | q
    · rw [he 48 q]; decide
    · rw [he 49 q]; decide
    · rw [he 50 q]; decide
    · rw [he 51 q]; decide
    · rw [he 52 q]; decide
    · rw [he 53 q]; decide
    · rw [he 54 q]; decide
    · rw [he 55 q]; decide
    · rw [he 56 q]; decide
    · rw [he 57 q]; decide
  unfold Lib.trimS Lib.trimLeftS Lib.trimRightS
  have : l.reverse.dropWhile (([48, 49, 50, 51, 52, 53, 54, 55, 56, 57] : List UInt8).contains ·) = [] := by
    rw [dw_nil]
    intro x hx
    exact hc x (by simpa using hx)
  rw [this]
  rfl
theorem itoa_ac (n : Nat) (h : n ≤ 1000000000000000000) : AC CX 57 [.v (.int .i64 n)] (.v (.string (mkS (Lib.decDigits n)))) :=
  AC_of_calls (u := .string (mkS (Lib.decDigits n))) (fun _ _ _ => rfl) fun w vs ok hgd hG hr => by
    obtain ⟨v, _, rfl, hv, rfl⟩ := hr
    obtain rfl : v = .int .i64 n := hv
    refine (Tryd.strconv_Itoa n (by omega) (by omega) w hG.2).mono ?_
    rintro e w' ⟨rfl, k, os, rfl⟩
    rw [Lib.itoa_nonneg]
    exact ⟨rfl, Lib.below_grow _ w (Nat.le_refl _) k os⟩
theorem containsAny_ac (s c : ByteArray) (hs : s.size ≤ 1000000000) (hc : c.size ≤ 1000) (h1 : ∀ b ∈ s.data.toList, b.toNat < 128) (h2 : ∀ b ∈ c.data.toList, b.toNat < 128) : AC CX 110 [.v (.string s), .v (.string c)] (.v (.bool (Lib.containsAny s.data.toList c.data.toList))) :=
  AC_of_calls (u := .bool (Lib.containsAny s.data.toList c.data.toList)) (fun _ _ _ => rfl) fun w vs ok hgd hG hr => by
    obtain ⟨v, _, rfl, hv, v2, _, rfl, hv2, rfl⟩ := hr
    obtain rfl : v = .string s := hv
    obtain rfl : v2 = .string c := hv2
    exact Tryd.strings_ContainsAny_laid s c w (by omega) (by omega) (fun j b hb => h1 b (List.mem_of_getElem? hb)) (fun j b hb => h2 b (List.mem_of_getElem? hb))
theorem cutAt_ac (s c a b : ByteArray) (ok' : Bool) (hs : s.size ≤ 1000000000) (h : Lib.cut s.data.toList c.data.toList = (a.data.toList, b.data.toList, ok')) : AC CX 112 [.v (.string s), .v (.string c)] (.tup [.v (.string a), .v (.string b), .v (.bool ok')]) := by
  intro w vs ok hgd hG hr
  obtain ⟨v, _, rfl, hv, v2, _, rfl, hv2, rfl⟩ := hr
  obtain rfl : v = .string s := hv
  obtain rfl : v2 = .string c := hv2
  obtain ⟨⟨m, hm⟩, _⟩ := hG
  refine (Tryd.strings_Cut s c m w (by omega) hm).mono ?_
  rintro e w' ⟨rfl, n, rfl⟩
  rw [h]
  refine ⟨_, rfl, below_d rfl ⟨rfl, rfl, rfl, Nat.le_refl _, fun _ _ => rfl⟩, ⟨_, rfl, _, _, rfl, ?_, _, _, rfl, ?_, _, _, rfl, rfl, rfl⟩⟩
  · show Value.string (mkS a.data.toList) = _; rw [mkS_self]
  · show Value.string (mkS b.data.toList) = _; rw [mkS_self]
theorem atoi_ac (s : ByteArray) (n : Int) (hs : s.size ≤ 18) (h : Lib.atoi s.data.toList = some n) : AC CX 114 [.v (.string s)] (.tup [.v (.int .i64 n), .v .nilIface]) := by
  intro w vs ok hgd hG hr
  obtain ⟨v, _, rfl, hv, rfl⟩ := hr
  obtain rfl : v = .string s := hv
  refine (Tryd.strconv_Atoi s n hs h w).mono ?_
  rintro e w' ⟨rfl, t, rfl⟩
  exact ⟨_, rfl, below_d rfl (Lib.bytesWorld_below w _ t), ⟨_, rfl, _, _, rfl, rfl, _, _, rfl, rfl, rfl⟩⟩
theorem trimDig_ac (s : ByteArray) (hs : s.size ≤ 1000000000) (h : ∀ b ∈ s.data.toList, 48 ≤ b.toNat ∧ b.toNat ≤ 57) : AC CX 113 [.v (.string s), .v (.string ⟨#[48, 49, 50, 51, 52, 53, 54, 55, 56, 57]⟩)] (.v (.string ⟨#[]⟩)) := by
  refine AC_of_calls (u := .string ⟨#[]⟩) (fun _ _ _ => rfl) fun w vs ok hgd hG hr => ?_
  obtain ⟨v, _, rfl, hv, v2, _, rfl, hv2, rfl⟩ := hr
  obtain rfl : v = .string s := hv
  obtain rfl : v2 = .string ⟨#[48, 49, 50, 51, 52, 53, 54, 55, 56, 57]⟩ := hv2
  have hc := Any.strings_Trim_laid Tryd.lays160 (by kernel_rfl) s ⟨#[48, 49, 50, 51, 52, 53, 54, 55, 56, 57]⟩ w (by omega) (by decide) (fun j b hb => by
    have hm := List.mem_of_getElem? hb
    have h10 : (⟨#[48, 49, 50, 51, 52, 53, 54, 55, 56, 57]⟩ : ByteArray).data.toList = [48, 49, 50, 51, 52, 53, 54, 55, 56, 57] := rfl
    rw [h10] at hm
    have hall : ([48, 49, 50, 51, 52, 53, 54, 55, 56, 57] : List UInt8).all (fun b => decide (b.toNat < 128)) = true := by decide
    exact of_decide_eq_true (List.all_eq_true.1 hall b hm))
  have hk : (⟨#[48, 49, 50, 51, 52, 53, 54, 55, 56, 57]⟩ : ByteArray).data.toList = [48, 49, 50, 51, 52, 53, 54, 55, 56, 57] := rfl
  rw [hk, set_digits _ h] at hc
  exact hc
end Go.Proofs.YtnfbomhhgjlacaaDoor.Abs
