/- What is read as a time is told so: for all strings (second form: what it reads is of bulk at most 1048576). -/
import Derived.Test.YthonjghpblkpgaaDoorPStampTurnsx2
import Derived.OpenShut
import Derived.Lib.ItoaMem
import Derived.Lib.ItoaLen
import Derived.Lib.TrimByte
import Derived.Lib.Strings
import Derived.Lib.SmallJoins
namespace Go.Proofs.YthonjghpblkpgaaDoor.Pure
open Go.RowKit Go.Proofs.YthonjghpblkpgaaDoor.PStampTurns Go.Proofs.YthonjghpblkpgaaDoorW.PrintWords Go.Proofs.YthonjghpblkpgaaDoorW.PrintLast Go.Proofs.YthonjghpblkpgaaDoorW.PrintMore
set_option linter.unusedVariables false
set_option linter.unusedSimpArgs false

theorem dd_small {u : Nat} (h : u < 10) : Lib.decDigits u = [UInt8.ofNat (48 + u)] := by rw [Lib.decDigits, dif_pos h]
theorem dd_big {u : Nat} (h : ¬ u < 10) : Lib.decDigits u = Lib.decDigits (u / 10) ++ [UInt8.ofNat (48 + u % 10)] := by rw [Lib.decDigits, dif_neg h]
theorem of48 {d : Nat} (h : d < 10) : (UInt8.ofNat (48 + d)).toNat = 48 + d := by rw [UInt8.toNat_ofNat']; omega
theorem dd_digit (u : Nat) : ∀ b ∈ Lib.decDigits u, 48 ≤ b.toNat ∧ b.toNat ≤ 57 := by
  induction u using Nat.strongRecOn with
  | _ u ih =>
    intro b hb
    by_cases h : u < 10
    · rw [dd_small h, List.mem_singleton] at hb
      rw [hb, of48 h]; omega
    · rw [dd_big h, List.mem_append, List.mem_singleton] at hb
      rcases hb with hb | hb
      · exact ih (u / 10) (by omega) b hb
      · rw [hb, of48 (by omega)]; omega
theorem dd_ne (u : Nat) : Lib.decDigits u ≠ [] := by
  by_cases h : u < 10
  · rw [dd_small h]; simp
  · rw [dd_big h]; simp
theorem dd_head (u : Nat) (h0 : 0 < u) : ∃ b r, Lib.decDigits u = b :: r ∧ b ≠ 48 := by
  induction u using Nat.strongRecOn with
  | _ u ih =>
    by_cases h : u < 10
    · refine ⟨_, [], dd_small h, fun e => ?_⟩
      have := congrArg UInt8.toNat e
      rw [of48 h] at this
      have h48 : (48 : UInt8).toNat = 48 := rfl
      omega
    · obtain ⟨b, r, e, hb⟩ := ih (u / 10) (by omega) (by omega)
      exact ⟨b, r ++ [UInt8.ofNat (48 + u % 10)], by rw [dd_big h, e]; rfl, hb⟩
theorem dd_len : ∀ (k u : Nat), u < 10 ^ (k + 1) → (Lib.decDigits u).length ≤ k + 1
  | 0, u, h => by rw [dd_small (by simpa using h)]; simp
  | k + 1, u, h => by
    by_cases c : u < 10
    · rw [dd_small c]; simp
    · rw [dd_big c, List.length_append, List.length_singleton]
      have := dd_len k (u / 10) (by rw [Nat.pow_succ] at h; omega)
      omega

theorem w64 {n : Int} (h1 : -9223372036854775808 ≤ n) (h2 : n ≤ 9223372036854775807) : wrap64 n = n := by
  unfold wrap64
  omega

theorem app_list (a b : ByteArray) : (a ++ b).data.toList = a.data.toList ++ b.data.toList := by
  rw [ByteArray.data_append, Array.toList_append]
theorem size_list (a : ByteArray) : a.data.toList.length = a.size := by
  rw [Array.length_toList]; rfl
theorem bytes_ext {a b : ByteArray} (h : a.data.toList = b.data.toList) : a = b := by
  cases a; cases b; simp_all [← Array.toList_inj]

theorem idx_none : ∀ (t : List UInt8) (c : UInt8), c ∉ t → Lib.indexByte t c = -1
  | [], _, _ => rfl
  | b :: t, c, h => by
    have hb : (b == c) = false := by rw [beq_eq_false_iff_ne]; intro e; exact h (by simp [e])
    have ih := idx_none t c (fun hm => h (by simp [hm]))
    simp [Lib.indexByte, hb, ih]
theorem idx_at : ∀ (t r : List UInt8) (c : UInt8), c ∉ t → Lib.indexByte (t ++ c :: r) c = t.length
  | [], r, c, _ => by simp [Lib.indexByte]
  | b :: t, r, c, h => by
    have hb : (b == c) = false := by rw [beq_eq_false_iff_ne]; intro e; exact h (by simp [e])
    have ih := idx_at t r c (fun hm => h (by simp [hm]))
    have hn : ((t.length : Int) == -1) = false := by rw [beq_eq_false_iff_ne]; omega
    simp [Lib.indexByte, hb, ih, hn]
theorem idx_split (l : List UInt8) (c : UInt8) : ∃ t r, l = t ++ r ∧ c ∉ t ∧ (r = [] ∨ ∃ r', r = c :: r') := by
  induction l with
  | nil => exact ⟨[], [], rfl, by simp, .inl rfl⟩
  | cons b l ih =>
    by_cases e : b = c
    · exact ⟨[], b :: l, rfl, by simp, .inr ⟨l, by rw [e]⟩⟩
    · obtain ⟨t, r, h1, h2, h3⟩ := ih
      exact ⟨b :: t, r, by rw [h1]; rfl, by simp [Ne.symm e, h2], h3⟩
theorem repeat_one (c : UInt8) : ∀ n, Lib.repeatL [c] n = List.replicate n c
  | 0 => rfl
  | n + 1 => by simp [Lib.repeatL, repeat_one c n, List.replicate_succ]
theorem mk_list (l : List UInt8) : (⟨l.toArray⟩ : ByteArray).data.toList = l := by simp
theorem mk_size (l : List UInt8) : (⟨l.toArray⟩ : ByteArray).size = l.length := by rw [← size_list, mk_list]
theorem is_mk (s : ByteArray) : s = ⟨s.data.toList.toArray⟩ := by cases s; simp
theorem mk_inj {a b : List UInt8} : (⟨a.toArray⟩ : ByteArray) = ⟨b.toArray⟩ ↔ a = b := ⟨fun h => by have := congrArg (fun x : ByteArray => x.data.toList) h; simpa using this, fun h => by rw [h]⟩
theorem dw_nil (p : UInt8 → Bool) : ∀ l : List UInt8, l.dropWhile p = [] ↔ ∀ x ∈ l, p x = true
  | [] => by simp
  | a :: l => by
    by_cases h : p a = true
    · rw [List.dropWhile_cons_of_pos h, dw_nil p l]; simp [h]
    · rw [List.dropWhile_cons_of_neg h]; simp [h]
theorem trim_zero (r : List UInt8) (c : UInt8) : Lib.trimB r c = [] ↔ ∀ x ∈ r, x = c := by
  unfold Lib.trimB Lib.trimLeftB Lib.trimRightB
  constructor
  · intro h x hx
    have h1 : ∀ y ∈ (r.reverse.dropWhile (· == c)).reverse, (y == c) = true := by
      rw [dw_nil] at h
      exact h
    have h2 : r.reverse.dropWhile (· == c) = [] := by
      cases hd : r.reverse.dropWhile (· == c) with
      | nil => rfl
      | cons a l =>
        have ha := h1 a (by rw [hd]; simp)
        have := List.head?_dropWhile_not (· == c) r.reverse
        rw [hd] at this
        simp [ha] at this
    rw [dw_nil] at h2
    exact eq_of_beq (h2 x (by simpa using hx))
  · intro h
    have h2 : r.reverse.dropWhile (· == c) = [] := by
      rw [dw_nil]
      intro x hx
      exact beq_iff_eq.2 (h x (by simpa using hx))
    rw [h2]
    rfl
theorem toList_mk (l : List UInt8) : (⟨l.toArray⟩ : ByteArray).toList = l := by rw [ByteArray.toList_eq, mk_list]

theorem repeat_spec (c : UInt8) (n : Int) (h0 : 0 ≤ n) (h1 : n ≤ 1000000) : strings_Repeat.f (⟨#[c]⟩ : ByteArray) n = some ⟨(List.replicate n.toNat c).toArray⟩ := by
  unfold strings_Repeat.f
  have sz : (⟨#[c]⟩ : ByteArray).size = 1 := rfl
  rw [if_pos h0, if_pos (by omega), if_pos (by rw [sz]; omega)]
  have : (⟨#[c]⟩ : ByteArray).data.toList = [c] := rfl
  rw [this, repeat_one]

theorem ext_take (s : ByteArray) (n : Nat) : (s.extract 0 n).data.toList = s.data.toList.take n := by simp [ByteArray.data_extract]
theorem ext_drop (s : ByteArray) (n : Nat) : (s.extract n s.size).data.toList = s.data.toList.drop n := by
  rw [ByteArray.data_extract, Array.toList_extract]
  have : s.size = s.data.toList.length := (size_list s).symm
  rw [this, List.extract_eq_take_drop]
  exact List.take_of_length_le (by simp)
theorem mk_app (a b : List UInt8) : (⟨a.toArray⟩ : ByteArray) ++ ⟨b.toArray⟩ = ⟨(a ++ b).toArray⟩ := by
  apply bytes_ext; rw [app_list, mk_list, mk_list, mk_list]

theorem trimR_spec (s : ByteArray) (c : UInt8) (hc : c.toNat < 128) (hs : s.size ≤ 1000000) : strings_TrimRight.f s (⟨#[c]⟩ : ByteArray) = some ⟨(Lib.trimRightB s.data.toList c).toArray⟩ := by
  unfold strings_TrimRight.f
  have sz : (⟨#[c]⟩ : ByteArray).size = 1 := rfl
  have h1 : oneOfR (⟨#[c]⟩ : ByteArray) = c := rfl
  rw [if_pos sz, h1, if_pos hc, if_pos (by omega)]
theorem itoa_spec (n : Nat) (h : n ≤ 1000000000000000) : strconv_Itoa.f (n : Int) = some ⟨(Lib.decDigits n).toArray⟩ := by
  unfold strconv_Itoa.f
  rw [if_pos (by omega), if_pos (by omega), Lib.itoa_nonneg]
def pad9 (n : Nat) : List UInt8 := List.replicate (9 - (Lib.decDigits n).length) 48 ++ Lib.decDigits n
def frac (n : Nat) : List UInt8 := if n = 0 then [] else 46 :: Lib.trimRightB (pad9 n) 48
theorem pad9_len (n : Nat) (h : n < 1000000000) : (pad9 n).length = 9 := by
  have := dd_len 8 n (by omega)
  unfold pad9
  rw [List.length_append, List.length_replicate]
  omega
theorem trimR_len (l : List UInt8) (c : UInt8) : (Lib.trimRightB l c).length ≤ l.length := by
  unfold Lib.trimRightB
  rw [List.length_reverse]
  exact Nat.le_trans (List.dropWhile_sublist _).length_le (by simp)
theorem text_j0 (P : List UInt8) (s n k : Nat) (hP : P.length ≤ 1) (hs : s ≤ 1099511627776) (hn : n < 1000000000) :
    stamp_Text.j0 (k + 1) (s : Int) (n : Int) ⟨P.toArray⟩ = some (⟨(P ++ Lib.decDigits s ++ frac n).toArray⟩, 0) := by
  have h1 := dd_len 12 s (by omega)
  have h2 := dd_len 8 n (by omega)
  rw [stamp_Text.j0, itoa_spec s (by omega), Option.bind_some, mk_size, mk_size, if_pos (by omega), mk_app]
  unfold frac
  by_cases z : n = 0
  · rw [if_pos (by omega), if_pos z, List.append_nil]
  · rw [if_neg (by omega), if_neg z, itoa_spec n (by omega), Option.bind_some, mk_size, w64 (by omega) (by omega), repeat_spec 48 _ (by omega) (by omega), Option.bind_some, mk_size, List.length_replicate, if_pos (by omega), mk_size, List.length_append, if_pos (by omega)]
    rw [mk_app]
    have e : List.replicate (9 - ((Lib.decDigits n).length : Int)).toNat (48 : UInt8) ++ Lib.decDigits n = pad9 n := by
      unfold pad9
      rw [show (9 - ((Lib.decDigits n).length : Int)).toNat = 9 - (Lib.decDigits n).length by omega]
    rw [e, trimR_spec _ 48 (by decide) (by rw [mk_size, pad9_len n hn]; omega), Option.bind_some, mk_list]
    have hl := trimR_len (pad9 n) 48
    rw [pad9_len n hn] at hl
    rw [show (⟨#[46]⟩ : ByteArray) = ⟨[46].toArray⟩ from rfl, mk_app, mk_size, mk_size, if_pos (by simp only [List.length_append, List.length_singleton]; omega), mk_app]
    simp
def signOf (a : Int) : List UInt8 := if a < 0 then [45] else []
theorem text_spec (a b : Int) (ha0 : -1099511627776 ≤ a) (ha1 : a ≤ 1099511627776) (hb0 : 0 ≤ b) (hb1 : b ≤ 999999999) :
    ∃ s n : Nat, s ≤ 1099511627776 ∧ n < 1000000000 ∧ (n = 0 ↔ b = 0) ∧ (if a < 0 then (if b = 0 then (s : Int) = -a ∧ n = 0 else (s : Int) = -a - 1 ∧ (n : Int) = 1000000000 - b) else (s : Int) = a ∧ (n : Int) = b) ∧
      ∀ k, stamp_Text.f (k + 1) a b = some (⟨(signOf a ++ Lib.decDigits s ++ frac n).toArray⟩, 0) := by
  have hc : stamp_Check.f a b = some 0 := by
    unfold stamp_Check.f
    rw [if_neg (by omega), if_neg (by omega), if_neg (by omega), if_neg (by omega)]
  unfold stamp_Text.f signOf
  simp only [hc, Option.bind_some, if_true]
  have e1 : (⟨#[45]⟩ : ByteArray) = ⟨[45].toArray⟩ := rfl
  have e0 : (⟨#[]⟩ : ByteArray) = ⟨([] : List UInt8).toArray⟩ := rfl
  by_cases h : a < 0
  · simp only [if_pos h]
    by_cases g : b > 0
    · obtain ⟨s, hs⟩ : ∃ s : Nat, (s : Int) = -a - 1 := ⟨(-a - 1).toNat, by omega⟩
      obtain ⟨n, hn⟩ : ∃ n : Nat, (n : Int) = 1000000000 - b := ⟨(1000000000 - b).toNat, by omega⟩
      refine ⟨s, n, by omega, by omega, by omega, by rw [if_neg (by omega)]; omega, fun k => ?_⟩
      rw [if_pos g, w64 (n := -a) (by omega) (by omega), w64 (by omega) (by omega), w64 (by omega) (by omega), ← hs, ← hn, e1]
      exact text_j0 [45] s n k (by simp) (by omega) (by omega)
    · obtain ⟨s, hs⟩ : ∃ s : Nat, (s : Int) = -a := ⟨(-a).toNat, by omega⟩
      refine ⟨s, 0, by omega, by omega, by omega, by rw [if_pos (by omega)]; omega, fun k => ?_⟩
      have hb : b = ((0 : Nat) : Int) := by omega
      rw [if_neg g, w64 (n := -a) (by omega) (by omega), ← hs, hb, e1]
      exact text_j0 [45] s 0 k (by simp) (by omega) (by omega)
  · obtain ⟨s, hs⟩ : ∃ s : Nat, (s : Int) = a := ⟨a.toNat, by omega⟩
    obtain ⟨n, hn⟩ : ∃ n : Nat, (n : Int) = b := ⟨b.toNat, by omega⟩
    refine ⟨s, n, by omega, by omega, by omega, by rw [if_neg h]; omega, fun k => ?_⟩
    rw [if_neg h, if_neg h, ← hs, ← hn, e0]
    exact text_j0 [] s n k (by simp) (by omega) (by omega)
theorem trimR_last (l : List UInt8) (c : UInt8) (h : ∃ x ∈ l, x ≠ c) : ∃ r d, Lib.trimRightB l c = r ++ [d] ∧ d ≠ c := by
  unfold Lib.trimRightB
  cases hd : l.reverse.dropWhile (· == c) with
  | nil =>
    rw [dw_nil] at hd
    obtain ⟨x, hx, hne⟩ := h
    exact absurd (eq_of_beq (hd x (by simpa using hx))) hne
  | cons d r =>
    refine ⟨r.reverse, d, by simp, fun e => ?_⟩
    have := List.head?_dropWhile_not (· == c) l.reverse
    rw [hd] at this
    simp [e] at this
theorem trimR_mem (l : List UInt8) (c : UInt8) : ∀ x ∈ Lib.trimRightB l c, x ∈ l := by
  intro x hx
  unfold Lib.trimRightB at hx
  rw [List.mem_reverse] at hx
  have := (List.dropWhile_sublist _).subset hx
  simpa using this
theorem pad9_digit (n : Nat) : ∀ b ∈ pad9 n, 48 ≤ b.toNat ∧ b.toNat ≤ 57 := by
  intro b hb
  unfold pad9 at hb
  rw [List.mem_append] at hb
  rcases hb with hb | hb
  · rw [List.eq_of_mem_replicate hb]; decide
  · exact dd_digit n b hb
theorem pad9_some (n : Nat) (h : 0 < n) : ∃ x ∈ pad9 n, x ≠ 48 := by
  obtain ⟨b, r, e, hb⟩ := dd_head n h
  exact ⟨b, by unfold pad9; rw [e]; simp, hb⟩

theorem bt_list (s : ByteArray) (i : Int) (h : i.toNat < s.size) : bt s i = ((s.data.toList.getD i.toNat 0).toNat : Int) := by
  unfold bt
  rw [dif_pos h]
  have hl : i.toNat < s.data.toList.length := by rw [size_list]; exact h
  rw [List.getD_eq_getElem?_getD, List.getElem?_eq_getElem hl]
  rfl
theorem bt_nums (l : List Int) (i : Int) (h : i.toNat < l.length) (hr : 0 ≤ l.getD i.toNat 0 ∧ l.getD i.toNat 0 ≤ 255) : bt (strOfNums l) i = l.getD i.toNat 0 := by
  rw [bt_list _ _ (by rw [strOfNums_size]; exact h), strOfNums_data]
  rw [List.getD_eq_getElem?_getD, List.getElem?_map]
  rw [List.getD_eq_getElem?_getD] at hr ⊢
  rw [List.getElem?_eq_getElem h] at hr ⊢
  simp only [Option.map_some, Option.getD_some] at hr ⊢
  have : (UInt8.ofNat l[i.toNat].toNat).toNat = l[i.toNat].toNat := by
    rw [UInt8.toNat_ofNat']
    omega
  omega

theorem litePrefix_spec (s p : ByteArray) : stringslite_HasPrefix.f s p = some (p.data.toList.isPrefixOf s.data.toList) := by
  unfold stringslite_HasPrefix.f
  by_cases h : (s.size : Int) ≥ (p.size : Int)
  · rw [if_pos h, if_pos (by omega), if_pos (by omega)]
    simp only [Option.bind_some, Option.some.injEq]
    rw [Lib.extract_toList, Lib.toList_data, Bool.eq_iff_iff, List.isPrefixOf_iff_prefix, beq_iff_eq]
    have hl := size_list s
    have hp := size_list p
    have e : ((p.size : Int)).toNat - 0 = p.data.toList.length := by omega
    rw [List.drop_zero, e]
    constructor
    · intro g; rw [← g]; exact List.take_prefix _ _
    · rintro ⟨t, g⟩; rw [← g]; simp
  · rw [if_neg h]
    simp only [Option.bind_some, Option.some.injEq]
    symm
    rw [Bool.eq_false_iff]
    intro g
    rw [List.isPrefixOf_iff_prefix] at g
    have := g.length_le
    have hl := size_list s
    have hp := size_list p
    omega

theorem cutPrefix_spec (s p : ByteArray) : strings_CutPrefix.f s p = some (if p.data.toList.isPrefixOf s.data.toList then (s.extract p.size s.size, true) else (s, false)) := by
  have h : stringslite_HasPrefix.f s p = some (p.data.toList.isPrefixOf s.data.toList) := litePrefix_spec s p
  unfold strings_CutPrefix.f stringslite_CutPrefix.f
  rw [h, Option.bind_some]
  by_cases c : p.data.toList.isPrefixOf s.data.toList = true
  · have hl := (List.isPrefixOf_iff_prefix.1 c).length_le
    rw [size_list, size_list] at hl
    rw [if_pos c, if_pos c, if_pos (by omega), if_pos (by omega), Option.bind_some, Int.toNat_natCast]
  · rw [if_neg c, if_neg c, Option.bind_some]
def dval (acc : Nat) : List UInt8 → Nat
  | [] => acc
  | b :: l => dval (10 * acc + (b.toNat - 48)) l
theorem dval_app (l : List UInt8) (b : UInt8) : ∀ acc, dval acc (l ++ [b]) = 10 * dval acc l + (b.toNat - 48) := by
  induction l with
  | nil => intro acc; rfl
  | cons x l ih => intro acc; exact ih _
theorem dval_dd (u : Nat) : dval 0 (Lib.decDigits u) = u := by
  induction u using Nat.strongRecOn with
  | _ u ih =>
    by_cases h : u < 10
    · rw [dd_small h]
      show 10 * 0 + ((UInt8.ofNat (48 + u)).toNat - 48) = u
      rw [of48 h]; omega
    · rw [dd_big h, dval_app, ih (u / 10) (by omega), of48 (by omega)]; omega
theorem dval_zeros (l : List UInt8) : ∀ m, dval 0 (List.replicate m 48 ++ l) = dval 0 l
  | 0 => rfl
  | m + 1 => by
    rw [List.replicate_succ, List.cons_append]
    exact dval_zeros l m
theorem digits_loop (s : ByteArray) (hd : ∀ b ∈ s.data.toList, 48 ≤ b.toNat ∧ b.toNat ≤ 57) (hs : s.size ≤ 13) :
    ∀ (k i acc : Nat), i ≤ s.size → s.size - i < k → acc < 10 ^ i → stamp_digits.l0 k s (acc : Int) (s.size : Int) (i : Int) = some (((dval acc (s.data.toList.drop i) : Nat) : Int), true)
  | 0, _, _, _, h, _ => absurd h (by omega)
  | k + 1, i, acc, h1, h2, h3 => by
    rw [stamp_digits.l0]
    by_cases c : i < s.size
    · have hl : i < s.data.toList.length := by rw [size_list]; exact c
      have hb := hd _ (List.getElem_mem hl)
      have hbt : bt s (i : Int) = ((s.data.toList[i]'hl).toNat : Int) := by
        rw [bt_list _ _ (by omega), Int.toNat_natCast, List.getD_eq_getElem?_getD, List.getElem?_eq_getElem hl]; rfl
      have h10 : acc ≤ 10 ^ 13 := Nat.le_of_lt (Nat.lt_of_lt_of_le h3 (Nat.pow_le_pow_right (by decide) (by omega)))
      rw [if_pos (by omega), if_pos (by omega), if_pos (by omega), hbt, if_neg (by omega), if_neg (by omega)]
      have e10 : (10 : Nat) ^ 13 = 10000000000000 := by decide
      rw [w64 (n := 10 * (acc : Int)) (by omega) (by omega), w64 (n := (i : Int) + 1) (by omega) (by omega)]
      have hm : (((s.data.toList[i]'hl).toNat : Int) - 48) % 256 = (((s.data.toList[i]'hl).toNat - 48 : Nat) : Int) := by omega
      rw [hm, w64 (by omega) (by omega), List.drop_eq_getElem_cons hl]
      have hx : 10 * (acc : Int) + (((s.data.toList[i]'hl).toNat - 48 : Nat) : Int) = ((10 * acc + ((s.data.toList[i]'hl).toNat - 48) : Nat) : Int) := by omega
      have hi : (i : Int) + 1 = ((i + 1 : Nat) : Int) := by omega
      rw [hx, hi]
      exact digits_loop s hd hs k (i + 1) _ (by omega) (by omega) (by rw [Nat.pow_succ]; omega)
    · have : i = s.size := by omega
      rw [if_neg (by omega), List.drop_eq_nil_of_le (by rw [size_list]; omega)]
      rfl
theorem digits_ok (s : ByteArray) (m : Int) (k : Nat) (hd : ∀ b ∈ s.data.toList, 48 ≤ b.toNat ∧ b.toNat ≤ 57) (h1 : 1 ≤ s.size) (hm : (s.size : Int) ≤ m) (hs : s.size ≤ 13) (hk : s.size + 1 < k) :
    stamp_digits.f k s m = some (((dval 0 s.data.toList : Nat) : Int), true) := by
  unfold stamp_digits.f
  obtain ⟨k, rfl⟩ : ∃ j, k = j + 1 := ⟨k - 1, by omega⟩
  rw [if_neg (by omega), decide_eq_false (by omega), stamp_digits.j0, if_neg (by simp)]
  have := digits_loop s hd hs k 0 0 (by omega) (by omega) (by decide)
  rw [List.drop_zero] at this
  exact this
theorem trimR_fill (l : List UInt8) (c : UInt8) : Lib.trimRightB l c ++ List.replicate (l.length - (Lib.trimRightB l c).length) c = l := by
  unfold Lib.trimRightB
  have h := List.takeWhile_append_dropWhile (p := (· == c)) (l := l.reverse)
  have hr : l.reverse.takeWhile (· == c) = List.replicate (l.reverse.takeWhile (· == c)).length c := by
    rw [List.eq_replicate_iff]
    refine ⟨rfl, fun b hb => ?_⟩
    have hall := List.all_takeWhile (p := (· == c)) (l := l.reverse)
    exact eq_of_beq ((List.all_eq_true.1 hall) b hb)
  have hlen : l.length = (l.reverse.takeWhile (· == c)).length + (l.reverse.dropWhile (· == c)).length := by
    have := congrArg List.length h
    rw [List.length_append, List.length_reverse] at this
    exact this.symm
  have h2 := congrArg List.reverse h
  rw [List.reverse_append, List.reverse_reverse] at h2
  conv => rhs; rw [← h2]
  rw [hr, List.reverse_replicate, List.length_reverse, hlen]
  congr 2
  omega
theorem parse_text (a b : Int) (k : Nat) (ha0 : -1099511627776 ≤ a) (ha1 : a ≤ 1099511627776) (hb0 : 0 ≤ b) (hb1 : b ≤ 999999999) :
    ∃ T : ByteArray, T.size ≤ 30 ∧ (∀ k, stamp_Text.f (k + 1) a b = some (T, 0)) ∧ stamp_Parse.f (k + 40) T = some (a, b, 0) := by
  obtain ⟨s, n, hs, hn, hz, hrel, ht⟩ := text_spec a b ha0 ha1 hb0 hb1
  have ls := dd_len 12 s (by omega)
  have lf : (frac n).length ≤ 10 := by
    unfold frac
    split
    · simp
    · have := trimR_len (pad9 n) 48
      rw [pad9_len n hn] at this
      simp only [List.length_cons]; omega
  have lsg : (signOf a).length ≤ 1 := by unfold signOf; split <;> simp
  refine ⟨_, ?_, ht, ?_⟩
  · rw [mk_size, List.length_append, List.length_append]; omega
  obtain ⟨d, r, hd⟩ : ∃ d r, Lib.decDigits s = d :: r := by
    cases h : Lib.decDigits s with
    | nil => exact absurd h (dd_ne s)
    | cons d r => exact ⟨d, r, rfl⟩
  have hdd : d ≠ 45 := by
    have := dd_digit s d (by rw [hd]; simp)
    intro e; rw [e] at this; exact absurd this.1 (by decide)
  have e45 : (⟨#[45]⟩ : ByteArray).data.toList = [45] := rfl
  have e46 : (⟨#[46]⟩ : ByteArray).data.toList = [46] := rfl
  have hpre : (([45] : List UInt8).isPrefixOf (signOf a ++ Lib.decDigits s ++ frac n)) = decide (a < 0) := by
    unfold signOf
    by_cases h : a < 0
    · rw [if_pos h]; simp [h]
    · rw [if_neg h, hd]; simp [List.isPrefixOf, h, Ne.symm hdd]
  have hcp : strings_CutPrefix.f ⟨(signOf a ++ Lib.decDigits s ++ frac n).toArray⟩ ⟨#[45]⟩ = some (⟨(Lib.decDigits s ++ frac n).toArray⟩, decide (a < 0)) := by
    rw [cutPrefix_spec, e45, mk_list, hpre]
    unfold signOf
    by_cases h : a < 0
    · rw [if_pos (by simpa using h), if_pos h, decide_eq_true h]
      congr 2
      apply bytes_ext
      rw [ext_drop, mk_list, mk_list]
      rfl
    · rw [if_neg (by simpa using h), if_neg h, decide_eq_false h]; rfl
  have no46 : (46 : UInt8) ∉ Lib.decDigits s := fun h => absurd (dd_digit s 46 h).1 (by decide)
  have hcut : Lib.cut (Lib.decDigits s ++ frac n) [46] = (Lib.decDigits s, (frac n).drop 1, decide (n ≠ 0)) := by
    unfold Lib.cut
    rw [Lib.index_one]
    unfold frac
    by_cases z : n = 0
    · rw [if_pos z, List.append_nil, idx_none _ _ no46, if_neg (by decide)]; simp [z]
    · rw [if_neg z, idx_at _ _ _ no46, if_pos (by omega)]
      simp [z, List.drop_append]
  have hc : strings_Cut.f ⟨(Lib.decDigits s ++ frac n).toArray⟩ ⟨#[46]⟩ = some (⟨(Lib.decDigits s).toArray⟩, ⟨((frac n).drop 1).toArray⟩, decide (n ≠ 0)) := by
    unfold strings_Cut.f
    rw [if_pos (by rw [mk_size, List.length_append]; omega), e46, mk_list, hcut]
  have hdig : stamp_digits.f (k + 40) ⟨(Lib.decDigits s).toArray⟩ 13 = some (((s : Nat) : Int), true) := by
    rw [digits_ok _ 13 (k + 40) (by rw [mk_list]; exact dd_digit s) (by rw [mk_size, hd]; simp) (by rw [mk_size]; omega) (by rw [mk_size]; omega) (by rw [mk_size]; omega), mk_list, dval_dd]
  unfold stamp_Parse.f
  rw [hcp, Option.bind_some]
  dsimp only
  rw [hc, Option.bind_some]
  dsimp only
  rw [hdig, Option.bind_some]
  have fin : ∀ (T : ByteArray), (∀ k, stamp_Text.f (k + 1) a b = some (T, 0)) → stamp_Parse.j0 (k + 40) T (decide (a < 0)) (s : Int) true (n : Int) = some (a, b, 0) := by
    intro T hT
    rw [stamp_Parse.j0, if_pos rfl]
    by_cases h : a < 0
    · rw [if_pos h] at hrel
      rw [if_pos (decide_eq_true h)]
      by_cases g : b = 0
      · rw [if_pos g] at hrel
        have e1 : wrap64 (-(s : Int)) = a := by rw [w64 (by omega) (by omega)]; omega
        have e2 : (n : Int) = b := by omega
        rw [if_neg (by omega), e1, e2, hT (k + 38), Option.bind_some]
        dsimp only
        rw [if_pos rfl, if_pos rfl]
      · rw [if_neg g] at hrel
        have e1 : wrap64 (wrap64 (-(s : Int)) - 1) = a := by rw [w64 (n := -(s : Int)) (by omega) (by omega), w64 (by omega) (by omega)]; omega
        have e2 : wrap64 (1000000000 - (n : Int)) = b := by rw [w64 (by omega) (by omega)]; omega
        rw [if_pos (by omega), e1, e2, hT (k + 38), Option.bind_some]
        dsimp only
        rw [if_pos rfl, if_pos rfl]
    · rw [if_neg h] at hrel
      rw [if_neg (by simpa using h), hrel.1, hrel.2, hT (k + 38), Option.bind_some]
      dsimp only
      rw [if_pos rfl, if_pos rfl]
  dsimp only
  by_cases z : n = 0
  · rw [if_neg (by simp [z])]
    have h0 : ((0 : Nat) : Int) = 0 := rfl
    have := fin _ ht
    rw [z] at this ⊢
    exact this
  · rw [if_pos (by simp [z])]
    have hfr : (frac n).drop 1 = Lib.trimRightB (pad9 n) 48 := by unfold frac; rw [if_neg z]; rfl
    have hl := trimR_len (pad9 n) 48
    rw [pad9_len n hn] at hl
    have hfill := trimR_fill (pad9 n) 48
    rw [pad9_len n hn] at hfill
    rw [hfr, mk_size]
    have hmx : mx 0 (wrap64 (9 - ((Lib.trimRightB (pad9 n) 48).length : Int))) = ((9 - (Lib.trimRightB (pad9 n) 48).length : Nat) : Int) := by
      rw [w64 (by omega) (by omega)]
      unfold mx
      split <;> omega
    rw [hmx, repeat_spec 48 _ (by omega) (by omega), Option.bind_some, mk_size, List.length_replicate, if_pos (by omega), mk_app, Int.toNat_natCast, hfill]
    rw [digits_ok _ 9 (k + 40) (by rw [mk_list]; exact pad9_digit n) (by rw [mk_size, pad9_len n hn]; omega) (by rw [mk_size, pad9_len n hn]; decide) (by rw [mk_size, pad9_len n hn]; omega) (by rw [mk_size, pad9_len n hn]; omega), Option.bind_some, mk_list]
    have hv : dval 0 (pad9 n) = n := by unfold pad9; rw [dval_zeros, dval_dd]
    rw [hv]
    dsimp only
    rw [if_pos rfl]
    exact fin _ ht

theorem text_total (a b : Int) : ∃ T e, ∀ k, stamp_Text.f (k + 1) a b = some (T, e) := by
  by_cases h : -1099511627776 ≤ a ∧ a ≤ 1099511627776 ∧ 0 ≤ b ∧ b ≤ 999999999
  · obtain ⟨s, n, _, _, _, _, ht⟩ := text_spec a b h.1 h.2.1 h.2.2.1 h.2.2.2
    exact ⟨_, _, ht⟩
  · refine ⟨⟨#[]⟩, 4, fun k => ?_⟩
    have hc : stamp_Check.f a b = some 4 := by
      unfold stamp_Check.f
      repeat (first | rfl | (split; · rfl))
      omega
    unfold stamp_Text.f
    rw [hc, Option.bind_some, if_neg (by decide)]
theorem digits_total_loop (s : ByteArray) (hs : s.size ≤ 9223372036854775806) : ∀ (k i : Nat) (acc : Int), i ≤ s.size → s.size - i < k → ∃ r, stamp_digits.l0 k s acc (s.size : Int) (i : Int) = some r
  | 0, i, _, _, h => absurd h (by omega)
  | k + 1, i, acc, h1, h2 => by
    rw [stamp_digits.l0]
    by_cases c : i < s.size
    · rw [if_pos (by omega), if_pos (by omega), if_pos (by omega)]
      split
      · exact ⟨_, rfl⟩
      · split
        · exact ⟨_, rfl⟩
        · rw [w64 (n := (i : Int) + 1) (by omega) (by omega), show (i : Int) + 1 = ((i + 1 : Nat) : Int) by omega]
          exact digits_total_loop s hs k (i + 1) _ (by omega) (by omega)
    · rw [if_neg (by omega)]
      exact ⟨_, rfl⟩
theorem digits_total (s : ByteArray) (m : Int) (k : Nat) (hs : s.size ≤ 9223372036854775806) (hk : s.size + 1 < k) : ∃ n ok, stamp_digits.f k s m = some (n, ok) := by
  unfold stamp_digits.f
  obtain ⟨k, rfl⟩ : ∃ j, k = j + 1 := ⟨k - 1, by omega⟩
  have hj : ∀ b : Bool, ∃ n ok, stamp_digits.j0 (k + 1) s b = some (n, ok) := by
    intro b
    rw [stamp_digits.j0]
    by_cases h : b = true
    · rw [if_pos h]; exact ⟨_, _, rfl⟩
    · rw [if_neg h]
      obtain ⟨⟨n, ok⟩, hr⟩ := digits_total_loop s hs k 0 0 (by omega) (by omega)
      exact ⟨n, ok, hr⟩
  split
  · exact hj _
  · exact hj _
/-- What Parse answers. -/
def Fine (x : ByteArray) (a b e : Int) : Prop := (e = 0 → ∃ t, (∀ k, stamp_Text.f (k + 1) a b = some (t, 0)) ∧ t.toList = x.toList) ∧ (e ≠ 0 → a = 0 ∧ b = 0)
theorem fine_text (x : ByteArray) (a b : Int) (k : Nat) : ∃ r1 r2 r3, (stamp_Text.f (k + 1) a b).bind (fun bt => if bt.2 = 0 then (if bt.1.toList = x.toList then (some (a, b, (0 : Int))) else (some ((0 : Int), (0 : Int), (3 : Int)))) else (some ((0 : Int), (0 : Int), (3 : Int)))) = some (r1, r2, r3) ∧ Fine x r1 r2 r3 := by
  obtain ⟨T, e, ht⟩ := text_total a b
  rw [ht k, Option.bind_some]
  dsimp only
  by_cases h : e = 0
  · rw [if_pos h]
    subst h
    by_cases g : T.toList = x.toList
    · rw [if_pos g]
      exact ⟨a, b, 0, rfl, fun _ => ⟨T, ht, g⟩, fun h => absurd rfl h⟩
    · rw [if_neg g]
      exact ⟨0, 0, 3, rfl, fun h => absurd h (by decide), fun _ => ⟨rfl, rfl⟩⟩
  · rw [if_neg h]
    exact ⟨0, 0, 3, rfl, fun h => absurd h (by decide), fun _ => ⟨rfl, rfl⟩⟩
theorem parse_j0 (x : ByteArray) (below : Bool) (s : Int) (ok : Bool) (n : Int) (k : Nat) : ∃ r1 r2 r3, stamp_Parse.j0 (k + 2) x below s ok n = some (r1, r2, r3) ∧ Fine x r1 r2 r3 := by
  rw [stamp_Parse.j0]
  by_cases h : ok = true
  · rw [if_pos h]
    by_cases g : below = true
    · rw [if_pos g]
      by_cases q : n > 0
      · rw [if_pos q]; exact fine_text x _ _ k
      · rw [if_neg q]; exact fine_text x _ _ k
    · rw [if_neg g]; exact fine_text x _ _ k
  · rw [if_neg h]
    exact ⟨0, 0, 3, rfl, fun h => absurd h (by decide), fun _ => ⟨rfl, rfl⟩⟩
theorem parse_total (x : ByteArray) (hx : x.size ≤ 1048576) (k : Nat) (hk : x.size + 20 ≤ k) : ∃ r1 r2 r3, stamp_Parse.f k x = some (r1, r2, r3) ∧ Fine x r1 r2 r3 := by
  obtain ⟨k, rfl⟩ : ∃ j, k = j + 2 := ⟨k - 2, by omega⟩
  unfold stamp_Parse.f
  obtain ⟨y, below, hy, hys⟩ : ∃ y below, strings_CutPrefix.f x ⟨#[45]⟩ = some (y, below) ∧ y.size ≤ x.size := by
    rw [cutPrefix_spec]
    split
    · refine ⟨_, _, rfl, ?_⟩
      rw [ByteArray.size_extract]; omega
    · exact ⟨_, _, rfl, Nat.le_refl _⟩
  rw [hy, Option.bind_some]
  dsimp only
  unfold strings_Cut.f
  rw [if_pos (by omega), Option.bind_some]
  dsimp only
  have hcut : (Lib.cut y.data.toList (⟨#[46]⟩ : ByteArray).data.toList).1.length ≤ y.size ∧ (Lib.cut y.data.toList (⟨#[46]⟩ : ByteArray).data.toList).2.1.length ≤ y.size := by
    have := size_list y
    unfold Lib.cut
    split
    · refine ⟨?_, ?_⟩
      · rw [List.length_take]; omega
      · rw [List.length_drop]; omega
    · exact ⟨by show y.data.toList.length ≤ _; omega, by simp⟩
  obtain ⟨u, hu⟩ : ∃ u, (Lib.cut y.data.toList (⟨#[46]⟩ : ByteArray).data.toList).1 = u := ⟨_, rfl⟩
  obtain ⟨v, hv⟩ : ∃ v, (Lib.cut y.data.toList (⟨#[46]⟩ : ByteArray).data.toList).2.1 = v := ⟨_, rfl⟩
  obtain ⟨d, hd⟩ : ∃ d, (Lib.cut y.data.toList (⟨#[46]⟩ : ByteArray).data.toList).2.2 = d := ⟨_, rfl⟩
  rw [hu, hv] at hcut
  rw [hu, hv, hd]
  obtain ⟨n1, o1, h1⟩ := digits_total ⟨u.toArray⟩ 13 (k + 2) (by rw [mk_size]; omega) (by rw [mk_size]; omega)
  rw [h1, Option.bind_some]
  dsimp only
  by_cases c : d = true
  · rw [if_pos c, mk_size]
    obtain ⟨z, hz, hz9⟩ : ∃ z : Nat, mx 0 (wrap64 (9 - (v.length : Int))) = (z : Int) ∧ z ≤ 9 := by
      rw [w64 (by omega) (by omega)]
      refine ⟨9 - v.length, ?_, by omega⟩
      unfold mx
      split <;> omega
    rw [hz, repeat_spec 48 _ (by omega) (by omega), Option.bind_some, mk_size, List.length_replicate, if_pos (by omega), mk_app]
    obtain ⟨n2, o2, h2⟩ := digits_total ⟨(v ++ List.replicate (z : Int).toNat 48).toArray⟩ 9 (k + 2) (by rw [mk_size, List.length_append, List.length_replicate]; omega) (by rw [mk_size, List.length_append, List.length_replicate]; omega)
    rw [h2, Option.bind_some]
    dsimp only
    split
    · exact parse_j0 x below n1 o2 n2 k
    · exact parse_j0 x below n1 false n2 k
  · rw [if_neg c]
    exact parse_j0 x below n1 o1 0 k
theorem half_text : ∀ k, stamp_Text.f (k + 1) (-1) 500000000 = some (⟨#[45, 48, 46, 53]⟩, 0) := by
  intro k
  obtain ⟨s, n, _, _, _, hrel, ht⟩ := text_spec (-1) 500000000 (by decide) (by decide) (by decide) (by decide)
  rw [if_pos (by decide), if_neg (by decide)] at hrel
  have hs : s = 0 := by omega
  have hn : n = 500000000 := by omega
  rw [ht k, hs, hn]
  have d5 : Lib.decDigits 500000000 = [53, 48, 48, 48, 48, 48, 48, 48, 48] := by
    rw [dd_big (by decide), dd_big (by decide), dd_big (by decide), dd_big (by decide), dd_big (by decide), dd_big (by decide), dd_big (by decide), dd_big (by decide), dd_small (by decide)]
    decide
  have d0 : Lib.decDigits 0 = [48] := by rw [dd_small (by decide)]; rfl
  unfold frac pad9
  rw [d5, d0]
  rfl
theorem StampTurns : creelkeep_StampTurns.Pure := by
  intro x hx
  refine ⟨x.size + 60, ?_⟩
  obtain ⟨r1, r2, r3, h, hf⟩ := parse_total x hx (x.size + 60) (by omega)
  obtain ⟨T, hT, ht, hp⟩ := parse_text (-1) 500000000 (x.size + 20) (by decide) (by decide) (by decide) (by decide)
  have hTe : T = ⟨#[45, 48, 46, 53]⟩ := by
    have h1 := ht 0
    rw [half_text 0] at h1
    simpa using h1.symm
  rw [hTe] at hp
  unfold creelkeep_StampTurns.f
  rw [h, Option.bind_some, hp, Option.bind_some]
  dsimp only
  rw [if_pos rfl, creelkeep_StampTurns.j0, if_neg (by decide)]
  by_cases e : r3 = 0
  · obtain ⟨t, h1, h2⟩ := hf.1 e
    rw [if_pos e, h1 (x.size + 58), Option.bind_some]
    dsimp only
    rw [if_pos rfl, h2]
    simp
  · obtain ⟨h1, h2⟩ := hf.2 e
    rw [if_neg e, if_pos h1, h2]
    rfl

end Go.Proofs.YthonjghpblkpgaaDoor.Pure
