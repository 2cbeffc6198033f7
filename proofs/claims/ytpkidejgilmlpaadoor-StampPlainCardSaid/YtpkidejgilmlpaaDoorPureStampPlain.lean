/- A time's text has one spelling: no needless zero, no lone sign: for all ints. -/
import Derived.Test.YtpkidejgilmlpaaDoorPStampPlainx1
import Derived.OpenShut
import Derived.Lib.ItoaMem
import Derived.Lib.ItoaLen
import Derived.Lib.Strings
import Derived.Lib.SmallJoins
namespace Go.Proofs.YtpkidejgilmlpaaDoor.Pure
open Go.RowKit Go.Proofs.YtpkidejgilmlpaaDoor.PStampPlain Go.Proofs.YtpkidejgilmlpaaDoorW.PrintWords Go.Proofs.YtpkidejgilmlpaaDoorW.PrintLast Go.Proofs.YtpkidejgilmlpaaDoorW.PrintMore
set_option linter.unusedVariables false
set_option linter.unusedSimpArgs false

theorem w64 {n : Int} (h1 : -9223372036854775808 ≤ n) (h2 : n ≤ 9223372036854775807) : wrap64 n = n := by
  unfold wrap64
  omega

theorem picked_spec {a m : Int} (hw : (Lit.int .i64 a).wf = true) (hm : 0 < m) : ∃ t, creelkeep_picked.f a m = some t ∧ 0 ≤ t ∧ t < m := by
  obtain ⟨h1, h2⟩ := bounds_i64 hw
  unfold creelkeep_picked.f
  have e : ¬ m = 0 := by omega
  by_cases h : a < 0
  · rw [if_pos h, if_neg e, w64 (n := a + 1) (by omega) (by omega), w64 (by omega) (by omega)]
    exact ⟨_, rfl, Int.tmod_nonneg _ (by omega), Int.tmod_lt_of_pos _ hm⟩
  · rw [if_neg h, if_neg e]
    exact ⟨_, rfl, Int.tmod_nonneg _ (by omega), Int.tmod_lt_of_pos _ hm⟩

theorem dd_small {u : Nat} (h : u < 10) : Lib.decDigits u = [UInt8.ofNat (48 + u)] := by rw [Lib.decDigits, dif_pos h]
theorem dd_big {u : Nat} (h : ¬ u < 10) : Lib.decDigits u = Lib.decDigits (u / 10) ++ [UInt8.ofNat (48 + u % 10)] := by rw [Lib.decDigits, dif_neg h]
theorem of48 {d : Nat} (h : d < 10) : (UInt8.ofNat (48 + d)).toNat = 48 + d := by rw [UInt8.toNat_ofNat']; omega
theorem dd_digit (u : Nat) : ∀ b ∈ Lib.decDigits u, 48 ≤ b.toNat ∧ b.toNat ≤ 57 := by
  induction u using Nat.strongRecOn with
  | _ u ih =>
    intro b hb
    by_cases h : u < 10
    · rw [dd_small h, List.mem_singleton] at hb
      rw [hb, of48 h]; omega
    · rw [dd_big h, List.mem_append, List.mem_singleton] at hb
      rcases hb with hb | hb
      · exact ih (u / 10) (by omega) b hb
      · rw [hb, of48 (by omega)]; omega
theorem dd_ne (u : Nat) : Lib.decDigits u ≠ [] := by
  by_cases h : u < 10
  · rw [dd_small h]; simp
  · rw [dd_big h]; simp
theorem dd_head (u : Nat) (h0 : 0 < u) : ∃ b r, Lib.decDigits u = b :: r ∧ b ≠ 48 := by
  induction u using Nat.strongRecOn with
  | _ u ih =>
    by_cases h : u < 10
    · refine ⟨_, [], dd_small h, fun e => ?_⟩
      have := congrArg UInt8.toNat e
      rw [of48 h] at this
      have h48 : (48 : UInt8).toNat = 48 := rfl
      omega
    · obtain ⟨b, r, e, hb⟩ := ih (u / 10) (by omega) (by omega)
      exact ⟨b, r ++ [UInt8.ofNat (48 + u % 10)], by rw [dd_big h, e]; rfl, hb⟩
theorem dd_len : ∀ (k u : Nat), u < 10 ^ (k + 1) → (Lib.decDigits u).length ≤ k + 1
  | 0, u, h => by rw [dd_small (by simpa using h)]; simp
  | k + 1, u, h => by
    by_cases c : u < 10
    · rw [dd_small c]; simp
    · rw [dd_big c, List.length_append, List.length_singleton]
      have := dd_len k (u / 10) (by rw [Nat.pow_succ] at h; omega)
      omega

theorem app_list (a b : ByteArray) : (a ++ b).data.toList = a.data.toList ++ b.data.toList := by
  rw [ByteArray.data_append, Array.toList_append]
theorem size_list (a : ByteArray) : a.data.toList.length = a.size := by
  rw [Array.length_toList]; rfl
theorem bytes_ext {a b : ByteArray} (h : a.data.toList = b.data.toList) : a = b := by
  cases a; cases b; simp_all [← Array.toList_inj]

theorem idx_none : ∀ (t : List UInt8) (c : UInt8), c ∉ t → Lib.indexByte t c = -1
  | [], _, _ => rfl
  | b :: t, c, h => by
    have hb : (b == c) = false := by rw [beq_eq_false_iff_ne]; intro e; exact h (by simp [e])
    have ih := idx_none t c (fun hm => h (by simp [hm]))
    simp [Lib.indexByte, hb, ih]
theorem idx_at : ∀ (t r : List UInt8) (c : UInt8), c ∉ t → Lib.indexByte (t ++ c :: r) c = t.length
  | [], r, c, _ => by simp [Lib.indexByte]
  | b :: t, r, c, h => by
    have hb : (b == c) = false := by rw [beq_eq_false_iff_ne]; intro e; exact h (by simp [e])
    have ih := idx_at t r c (fun hm => h (by simp [hm]))
    have hn : ((t.length : Int) == -1) = false := by rw [beq_eq_false_iff_ne]; omega
    simp [Lib.indexByte, hb, ih, hn]
theorem idx_split (l : List UInt8) (c : UInt8) : ∃ t r, l = t ++ r ∧ c ∉ t ∧ (r = [] ∨ ∃ r', r = c :: r') := by
  induction l with
  | nil => exact ⟨[], [], rfl, by simp, .inl rfl⟩
  | cons b l ih =>
    by_cases e : b = c
    · exact ⟨[], b :: l, rfl, by simp, .inr ⟨l, by rw [e]⟩⟩
    · obtain ⟨t, r, h1, h2, h3⟩ := ih
      exact ⟨b :: t, r, by rw [h1]; rfl, by simp [Ne.symm e, h2], h3⟩
theorem repeat_one (c : UInt8) : ∀ n, Lib.repeatL [c] n = List.replicate n c
  | 0 => rfl
  | n + 1 => by simp [Lib.repeatL, repeat_one c n, List.replicate_succ]
theorem mk_list (l : List UInt8) : (⟨l.toArray⟩ : ByteArray).data.toList = l := by simp
theorem mk_size (l : List UInt8) : (⟨l.toArray⟩ : ByteArray).size = l.length := by rw [← size_list, mk_list]
theorem is_mk (s : ByteArray) : s = ⟨s.data.toList.toArray⟩ := by cases s; simp
theorem mk_inj {a b : List UInt8} : (⟨a.toArray⟩ : ByteArray) = ⟨b.toArray⟩ ↔ a = b := ⟨fun h => by have := congrArg (fun x : ByteArray => x.data.toList) h; simpa using this, fun h => by rw [h]⟩
theorem dw_nil (p : UInt8 → Bool) : ∀ l : List UInt8, l.dropWhile p = [] ↔ ∀ x ∈ l, p x = true
  | [] => by simp
  | a :: l => by
    by_cases h : p a = true
    · rw [List.dropWhile_cons_of_pos h, dw_nil p l]; simp [h]
    · rw [List.dropWhile_cons_of_neg h]; simp [h]
theorem trim_zero (r : List UInt8) (c : UInt8) : Lib.trimB r c = [] ↔ ∀ x ∈ r, x = c := by
  unfold Lib.trimB Lib.trimLeftB Lib.trimRightB
  constructor
  · intro h x hx
    have h1 : ∀ y ∈ (r.reverse.dropWhile (· == c)).reverse, (y == c) = true := by
      rw [dw_nil] at h
      exact h
    have h2 : r.reverse.dropWhile (· == c) = [] := by
      cases hd : r.reverse.dropWhile (· == c) with
      | nil => rfl
      | cons a l =>
        have ha := h1 a (by rw [hd]; simp)
        have := List.head?_dropWhile_not (· == c) r.reverse
        rw [hd] at this
        simp [ha] at this
    rw [dw_nil] at h2
    exact eq_of_beq (h2 x (by simpa using hx))
  · intro h
    have h2 : r.reverse.dropWhile (· == c) = [] := by
      rw [dw_nil]
      intro x hx
      exact beq_iff_eq.2 (h x (by simpa using hx))
    rw [h2]
    rfl
theorem toList_mk (l : List UInt8) : (⟨l.toArray⟩ : ByteArray).toList = l := by rw [ByteArray.toList_eq, mk_list]

theorem repeat_spec (c : UInt8) (n : Int) (h0 : 0 ≤ n) (h1 : n ≤ 1000000) : strings_Repeat.f (⟨#[c]⟩ : ByteArray) n = some ⟨(List.replicate n.toNat c).toArray⟩ := by
  unfold strings_Repeat.f
  have sz : (⟨#[c]⟩ : ByteArray).size = 1 := rfl
  rw [if_pos h0, if_pos (by omega), if_pos (by rw [sz]; omega)]
  have : (⟨#[c]⟩ : ByteArray).data.toList = [c] := rfl
  rw [this, repeat_one]

theorem ext_take (s : ByteArray) (n : Nat) : (s.extract 0 n).data.toList = s.data.toList.take n := by simp [ByteArray.data_extract]
theorem ext_drop (s : ByteArray) (n : Nat) : (s.extract n s.size).data.toList = s.data.toList.drop n := by
  rw [ByteArray.data_extract, Array.toList_extract]
  have : s.size = s.data.toList.length := (size_list s).symm
  rw [this, List.extract_eq_take_drop]
  exact List.take_of_length_le (by simp)
theorem mk_app (a b : List UInt8) : (⟨a.toArray⟩ : ByteArray) ++ ⟨b.toArray⟩ = ⟨(a ++ b).toArray⟩ := by
  apply bytes_ext; rw [app_list, mk_list, mk_list, mk_list]

theorem trimR_spec (s : ByteArray) (c : UInt8) (hc : c.toNat < 128) (hs : s.size ≤ 1000000) : strings_TrimRight.f s (⟨#[c]⟩ : ByteArray) = some ⟨(Lib.trimRightB s.data.toList c).toArray⟩ := by
  unfold strings_TrimRight.f
  have sz : (⟨#[c]⟩ : ByteArray).size = 1 := rfl
  have h1 : oneOfR (⟨#[c]⟩ : ByteArray) = c := rfl
  rw [if_pos sz, h1, if_pos hc, if_pos (by omega)]
theorem itoa_spec (n : Nat) (h : n ≤ 1000000000000000) : strconv_Itoa.f (n : Int) = some ⟨(Lib.decDigits n).toArray⟩ := by
  unfold strconv_Itoa.f
  rw [if_pos (by omega), if_pos (by omega), Lib.itoa_nonneg]
def pad9 (n : Nat) : List UInt8 := List.replicate (9 - (Lib.decDigits n).length) 48 ++ Lib.decDigits n
def frac (n : Nat) : List UInt8 := if n = 0 then [] else 46 :: Lib.trimRightB (pad9 n) 48
theorem pad9_len (n : Nat) (h : n < 1000000000) : (pad9 n).length = 9 := by
  have := dd_len 8 n (by omega)
  unfold pad9
  rw [List.length_append, List.length_replicate]
  omega
theorem trimR_len (l : List UInt8) (c : UInt8) : (Lib.trimRightB l c).length ≤ l.length := by
  unfold Lib.trimRightB
  rw [List.length_reverse]
  exact Nat.le_trans (List.dropWhile_sublist _).length_le (by simp)
theorem text_j0 (P : List UInt8) (s n k : Nat) (hP : P.length ≤ 1) (hs : s ≤ 1099511627776) (hn : n < 1000000000) :
    stamp_Text.j0 (k + 1) (s : Int) (n : Int) ⟨P.toArray⟩ = some (⟨(P ++ Lib.decDigits s ++ frac n).toArray⟩, 0) := by
  have h1 := dd_len 12 s (by omega)
  have h2 := dd_len 8 n (by omega)
  rw [stamp_Text.j0, itoa_spec s (by omega), Option.bind_some, mk_size, mk_size, if_pos (by omega), mk_app]
  unfold frac
  by_cases z : n = 0
  · rw [if_pos (by omega), if_pos z, List.append_nil]
  · rw [if_neg (by omega), if_neg z, itoa_spec n (by omega), Option.bind_some, mk_size, w64 (by omega) (by omega), repeat_spec 48 _ (by omega) (by omega), Option.bind_some, mk_size, List.length_replicate, if_pos (by omega), mk_size, List.length_append, if_pos (by omega)]
    rw [mk_app]
    have e : List.replicate (9 - ((Lib.decDigits n).length : Int)).toNat (48 : UInt8) ++ Lib.decDigits n = pad9 n := by
      unfold pad9
      rw [show (9 - ((Lib.decDigits n).length : Int)).toNat = 9 - (Lib.decDigits n).length by omega]
    rw [e, trimR_spec _ 48 (by decide) (by rw [mk_size, pad9_len n hn]; omega), Option.bind_some, mk_list]
    have hl := trimR_len (pad9 n) 48
    rw [pad9_len n hn] at hl
    rw [show (⟨#[46]⟩ : ByteArray) = ⟨[46].toArray⟩ from rfl, mk_app, mk_size, mk_size, if_pos (by simp only [List.length_append, List.length_singleton]; omega), mk_app]
    simp
def signOf (a : Int) : List UInt8 := if a < 0 then [45] else []
theorem text_spec (a b : Int) (k : Nat) (ha0 : -1099511627776 ≤ a) (ha1 : a ≤ 1099511627776) (hb0 : 0 ≤ b) (hb1 : b ≤ 999999999) :
    ∃ s n : Nat, s ≤ 1099511627776 ∧ n < 1000000000 ∧ (n = 0 ↔ b = 0) ∧ (if a < 0 then (if b = 0 then (s : Int) = -a ∧ n = 0 else (s : Int) = -a - 1 ∧ (n : Int) = 1000000000 - b) else (s : Int) = a ∧ (n : Int) = b) ∧
      stamp_Text.f (k + 1) a b = some (⟨(signOf a ++ Lib.decDigits s ++ frac n).toArray⟩, 0) := by
  unfold stamp_Text.f stamp_Check.f signOf
  rw [if_neg (by omega), if_neg (by omega), if_neg (by omega), if_neg (by omega), Option.bind_some, if_pos rfl]
  have e1 : (⟨#[45]⟩ : ByteArray) = ⟨[45].toArray⟩ := rfl
  have e0 : (⟨#[]⟩ : ByteArray) = ⟨([] : List UInt8).toArray⟩ := rfl
  by_cases h : a < 0
  · rw [if_pos h, if_pos h]
    by_cases g : b > 0
    · obtain ⟨s, hs⟩ : ∃ s : Nat, (s : Int) = -a - 1 := ⟨(-a - 1).toNat, by omega⟩
      obtain ⟨n, hn⟩ : ∃ n : Nat, (n : Int) = 1000000000 - b := ⟨(1000000000 - b).toNat, by omega⟩
      refine ⟨s, n, by omega, by omega, by omega, by rw [if_pos h, if_neg (by omega)]; omega, ?_⟩
      rw [if_pos g, w64 (n := -a) (by omega) (by omega), w64 (by omega) (by omega), w64 (by omega) (by omega), ← hs, ← hn, e1]
      exact text_j0 [45] s n k (by simp) (by omega) (by omega)
    · obtain ⟨s, hs⟩ : ∃ s : Nat, (s : Int) = -a := ⟨(-a).toNat, by omega⟩
      refine ⟨s, 0, by omega, by omega, by omega, by rw [if_pos h, if_pos (by omega)]; omega, ?_⟩
      have hb : b = ((0 : Nat) : Int) := by omega
      rw [if_neg g, w64 (n := -a) (by omega) (by omega), ← hs, hb, e1]
      exact text_j0 [45] s 0 k (by simp) (by omega) (by omega)
  · obtain ⟨s, hs⟩ : ∃ s : Nat, (s : Int) = a := ⟨a.toNat, by omega⟩
    obtain ⟨n, hn⟩ : ∃ n : Nat, (n : Int) = b := ⟨b.toNat, by omega⟩
    refine ⟨s, n, by omega, by omega, by omega, by rw [if_neg h]; omega, ?_⟩
    rw [if_neg h, if_neg h, ← hs, ← hn, e0]
    exact text_j0 [] s n k (by simp) (by omega) (by omega)
theorem trimR_last (l : List UInt8) (c : UInt8) (h : ∃ x ∈ l, x ≠ c) : ∃ r d, Lib.trimRightB l c = r ++ [d] ∧ d ≠ c := by
  unfold Lib.trimRightB
  cases hd : l.reverse.dropWhile (· == c) with
  | nil =>
    rw [dw_nil] at hd
    obtain ⟨x, hx, hne⟩ := h
    exact absurd (eq_of_beq (hd x (by simpa using hx))) hne
  | cons d r =>
    refine ⟨r.reverse, d, by simp, fun e => ?_⟩
    have := List.head?_dropWhile_not (· == c) l.reverse
    rw [hd] at this
    simp [e] at this
theorem trimR_mem (l : List UInt8) (c : UInt8) : ∀ x ∈ Lib.trimRightB l c, x ∈ l := by
  intro x hx
  unfold Lib.trimRightB at hx
  rw [List.mem_reverse] at hx
  have := (List.dropWhile_sublist _).subset hx
  simpa using this
theorem pad9_digit (n : Nat) : ∀ b ∈ pad9 n, 48 ≤ b.toNat ∧ b.toNat ≤ 57 := by
  intro b hb
  unfold pad9 at hb
  rw [List.mem_append] at hb
  rcases hb with hb | hb
  · rw [List.eq_of_mem_replicate hb]; decide
  · exact dd_digit n b hb
theorem pad9_some (n : Nat) (h : 0 < n) : ∃ x ∈ pad9 n, x ≠ 48 := by
  obtain ⟨b, r, e, hb⟩ := dd_head n h
  exact ⟨b, by unfold pad9; rw [e]; simp, hb⟩

theorem hasPrefix_spec (s p : ByteArray) : strings_HasPrefix.f s p = some (p.data.toList.isPrefixOf s.data.toList) := by
  unfold strings_HasPrefix.f stringslite_HasPrefix.f
  by_cases h : (s.size : Int) ≥ (p.size : Int)
  · rw [if_pos h, if_pos (by omega), if_pos (by omega)]
    simp only [Option.bind_some, Option.some.injEq]
    rw [Lib.extract_toList, Lib.toList_data, Bool.eq_iff_iff, List.isPrefixOf_iff_prefix, beq_iff_eq]
    have hl := size_list s
    have hp := size_list p
    have e : ((p.size : Int)).toNat - 0 = p.data.toList.length := by omega
    rw [List.drop_zero, e]
    constructor
    · intro g; rw [← g]; exact List.take_prefix _ _
    · rintro ⟨t, g⟩; rw [← g]; simp
  · rw [if_neg h]
    simp only [Option.bind_some, Option.some.injEq]
    symm
    rw [Bool.eq_false_iff]
    intro g
    rw [List.isPrefixOf_iff_prefix] at g
    have := g.length_le
    have hl := size_list s
    have hp := size_list p
    omega

theorem bt_list (s : ByteArray) (i : Int) (h : i.toNat < s.size) : bt s i = ((s.data.toList.getD i.toNat 0).toNat : Int) := by
  unfold bt
  rw [dif_pos h]
  have hl : i.toNat < s.data.toList.length := by rw [size_list]; exact h
  rw [List.getD_eq_getElem?_getD, List.getElem?_eq_getElem hl]
  rfl
theorem bt_nums (l : List Int) (i : Int) (h : i.toNat < l.length) (hr : 0 ≤ l.getD i.toNat 0 ∧ l.getD i.toNat 0 ≤ 255) : bt (strOfNums l) i = l.getD i.toNat 0 := by
  rw [bt_list _ _ (by rw [strOfNums_size]; exact h), strOfNums_data]
  rw [List.getD_eq_getElem?_getD, List.getElem?_map]
  rw [List.getD_eq_getElem?_getD] at hr ⊢
  rw [List.getElem?_eq_getElem h] at hr ⊢
  simp only [Option.map_some, Option.getD_some] at hr ⊢
  have : (UInt8.ofNat l[i.toNat].toNat).toNat = l[i.toNat].toNat := by
    rw [UInt8.toNat_ofNat']
    omega
  omega

theorem trimPrefix_spec (s p : ByteArray) (hp : p.size ≤ 1000000) : strings_TrimPrefix.f s p = some (if p.data.toList.isPrefixOf s.data.toList then s.extract p.size s.size else s) := by
  have h := hasPrefix_spec s p
  unfold strings_HasPrefix.f at h
  unfold strings_TrimPrefix.f stringslite_TrimPrefix.f
  cases hx : stringslite_HasPrefix.f s p with
  | none => rw [hx] at h; cases h
  | some v =>
    rw [hx, Option.bind_some] at h
    obtain rfl := Option.some.inj h
    rw [Option.bind_some]
    by_cases c : p.data.toList.isPrefixOf s.data.toList = true
    · have hl := (List.isPrefixOf_iff_prefix.1 c).length_le
      rw [size_list, size_list] at hl
      rw [if_pos c, if_pos (by omega), if_pos (by omega), if_pos c, Option.bind_some, Int.toNat_natCast]
    · rw [if_neg c, if_neg c, Option.bind_some]
theorem StampPlain : creelkeep_StampPlain.Pure := by
  intro a0 a1 w0 w1
  obtain ⟨x, hx, x0, x1⟩ := picked_spec (m := 2199023255553) w0 (by decide)
  obtain ⟨b, hb, b0, b1⟩ := picked_spec (m := 1000000000) w1 (by decide)
  refine ⟨1, ?_⟩
  unfold creelkeep_StampPlain.f
  rw [hx, Option.bind_some, hb, Option.bind_some, w64 (by omega) (by omega)]
  generalize ha : x - 1099511627776 = a
  obtain ⟨s, n, hs, hn, hz, _, ht⟩ := text_spec a b 0 (by omega) (by omega) b0 (by omega)
  rw [ht, Option.bind_some]
  dsimp only
  rw [trimPrefix_spec _ _ (by decide), Option.bind_some]
  have e45 : (⟨#[45]⟩ : ByteArray).data.toList = [45] := rfl
  have e46 : (⟨#[46]⟩ : ByteArray).data.toList = [46] := rfl
  obtain ⟨d, r, hd⟩ : ∃ d r, Lib.decDigits s = d :: r := by
    cases h : Lib.decDigits s with
    | nil => exact absurd h (dd_ne s)
    | cons d r => exact ⟨d, r, rfl⟩
  have hdd : d ≠ 45 := by
    have := dd_digit s d (by rw [hd]; simp)
    intro e; rw [e] at this; exact absurd this.1 (by decide)
  have hpre : (([45] : List UInt8).isPrefixOf (signOf a ++ Lib.decDigits s ++ frac n)) = decide (a < 0) := by
    unfold signOf
    by_cases h : a < 0
    · rw [if_pos h]; simp [h]
    · rw [if_neg h, hd]; simp [List.isPrefixOf, h, Ne.symm hdd]
  have hbody : (if ([45] : List UInt8).isPrefixOf (signOf a ++ Lib.decDigits s ++ frac n) = true then (⟨(signOf a ++ Lib.decDigits s ++ frac n).toArray⟩ : ByteArray).extract (⟨#[45]⟩ : ByteArray).size (⟨(signOf a ++ Lib.decDigits s ++ frac n).toArray⟩ : ByteArray).size else ⟨(signOf a ++ Lib.decDigits s ++ frac n).toArray⟩) = ⟨(Lib.decDigits s ++ frac n).toArray⟩ := by
    rw [hpre]
    unfold signOf
    by_cases h : a < 0
    · rw [if_pos (by simpa using h), if_pos h]
      apply bytes_ext
      rw [ext_drop, mk_list, mk_list]
      rfl
    · rw [if_neg (by simpa using h), if_neg h]; rfl
  rw [e45, mk_list, hbody]
  have no46 : (46 : UInt8) ∉ Lib.decDigits s := fun h => by
    have := (dd_digit s 46 h).1
    exact absurd this (by decide)
  have ls := dd_len 12 s (by omega)
  have lf : (frac n).length ≤ 10 := by
    unfold frac
    split
    · simp
    · have := trimR_len (pad9 n) 48
      rw [pad9_len n hn] at this
      simp only [List.length_cons]; omega
  have hcut : Lib.cut (Lib.decDigits s ++ frac n) [46] = (Lib.decDigits s, (frac n).drop 1, decide (n ≠ 0)) := by
    unfold Lib.cut
    rw [Lib.index_one]
    unfold frac
    by_cases z : n = 0
    · rw [if_pos z, List.append_nil, idx_none _ _ no46, if_neg (by decide)]; simp [z]
    · rw [if_neg z, idx_at _ _ _ no46, if_pos (by omega)]
      simp [z, List.drop_append]
  unfold strings_Cut.f
  rw [if_pos (by rw [mk_size, List.length_append]; omega), Option.bind_some, mk_list, e46, hcut]
  dsimp only
  rw [if_pos rfl, if_pos (by rw [beq_iff_eq]; by_cases z : n = 0; · have := hz.1 z; simp [z]; omega
                             · have : b ≠ 0 := fun h => z (hz.2 h); simp [z]; omega)]
  rw [toList_mk, if_neg (dd_ne s)]
  have hp : strings_HasPrefix.f ⟨(signOf a ++ Lib.decDigits s ++ frac n).toArray⟩ ⟨#[45]⟩ = some (decide (a < 0)) := by
    rw [hasPrefix_spec, e45, mk_list, hpre]
  rw [hp]
  -- the fraction
  have key : ∀ R : Option Bool, R = some true → (if decide (n ≠ 0) = true then (if (⟨((frac n).drop 1).toArray⟩ : ByteArray).toList = ([] : List UInt8) then (some false) else (if ((⟨((frac n).drop 1).toArray⟩ : ByteArray).size : Int) ≤ 9 then (if 0 ≤ (wrap64 (((⟨((frac n).drop 1).toArray⟩ : ByteArray).size : Int) - 1)) then (if (wrap64 (((⟨((frac n).drop 1).toArray⟩ : ByteArray).size : Int) - 1)) < ((⟨((frac n).drop 1).toArray⟩ : ByteArray).size : Int) then (if (bt (⟨((frac n).drop 1).toArray⟩ : ByteArray) (wrap64 (((⟨((frac n).drop 1).toArray⟩ : ByteArray).size : Int) - 1))) = 48 then (some false) else R) else (none)) else (none)) else (some false))) else R) = some true := by
    intro R hR
    by_cases z : n = 0
    · rw [if_neg (by simp [z]), hR]
    · rw [if_pos (by simp [z])]
      obtain ⟨q, c, hq, hc⟩ := trimR_last (pad9 n) 48 (pad9_some n (by omega))
      have hl := trimR_len (pad9 n) 48
      rw [pad9_len n hn, hq] at hl
      have hfr : (frac n).drop 1 = q ++ [c] := by unfold frac; rw [if_neg z, hq]; rfl
      rw [hfr, toList_mk, if_neg (by simp), mk_size, List.length_append, List.length_singleton]
      rw [List.length_append, List.length_singleton] at hl
      rw [w64 (by omega) (by omega), if_pos (by omega), if_pos (by omega), if_pos (by omega)]
      rw [bt_list _ _ (by rw [mk_size, List.length_append, List.length_singleton]; omega), mk_list]
      have e1 : (((q.length + 1 : Nat) : Int) - 1).toNat = q.length := by omega
      have e2 : (q ++ [c]).getD q.length 0 = c := by simp
      rw [e1, e2, if_neg (fun h => hc (UInt8.toNat_inj.1 (by have : (48 : UInt8).toNat = 48 := rfl; omega))), hR]
  have hR : ((some (decide (a < 0))).bind fun t => some (t == decide (a < 0))) = some true := by rw [Option.bind_some]; simp
  by_cases h48 : Lib.decDigits s = [48]
  · rw [if_pos h48]; exact key _ hR
  · rw [if_neg h48, mk_size, if_pos (by rw [hd]; simp), bt_list _ _ (by rw [mk_size, hd]; simp), mk_list]
    have hs0 : 0 < s := by
      rcases Nat.eq_zero_or_pos s with h | h
      · rw [h] at h48; exact absurd (by decide +kernel) h48
      · exact h
    obtain ⟨d', r', hd', hne⟩ := dd_head s hs0
    have : (Lib.decDigits s).getD (0 : Int).toNat 0 = d' := by rw [hd']; rfl
    rw [this, if_neg (fun h => hne (UInt8.toNat_inj.1 (by have : (48 : UInt8).toNat = 48 := rfl; omega)))]
    exact key _ hR

end Go.Proofs.YtpkidejgilmlpaaDoor.Pure
