/- A record tells how long it is: for all raw things (second form: what it reads is of bulk at most 1048576). -/
import Derived.Test.YthonjghpblkpgaaDoorPRecordLongx2
import Derived.OpenShut
import Derived.Lib.IndexAny
import Derived.Lib.SplitLaws
import Derived.Lib.IndexBytes
import Derived.Lib.TrimByte
import Derived.Lib.Strings
import Derived.Lib.SmallJoins
import Derived.Lib.ItoaMem
import Derived.Lib.ItoaLen
namespace Go.Proofs.YthonjghpblkpgaaDoor.Pure
open Go.RowKit Go.Proofs.YthonjghpblkpgaaDoor.PRecordLong Go.Proofs.YthonjghpblkpgaaDoorW.PrintWords Go.Proofs.YthonjghpblkpgaaDoorW.PrintLast Go.Proofs.YthonjghpblkpgaaDoorW.PrintMore
set_option linter.unusedVariables false
set_option linter.unusedSimpArgs false

theorem w64 {n : Int} (h1 : -9223372036854775808 ≤ n) (h2 : n ≤ 9223372036854775807) : wrap64 n = n := by
  unfold wrap64
  omega

theorem picked_spec {a m : Int} (hw : (Lit.int .i64 a).wf = true) (hm : 0 < m) : ∃ t, creelkeep_picked.f a m = some t ∧ 0 ≤ t ∧ t < m := by
  obtain ⟨h1, h2⟩ := bounds_i64 hw
  unfold creelkeep_picked.f
  have e : ¬ m = 0 := by omega
  by_cases h : a < 0
  · rw [if_pos h, if_neg e, w64 (n := a + 1) (by omega) (by omega), w64 (by omega) (by omega)]
    exact ⟨_, rfl, Int.tmod_nonneg _ (by omega), Int.tmod_lt_of_pos _ hm⟩
  · rw [if_neg h, if_neg e]
    exact ⟨_, rfl, Int.tmod_nonneg _ (by omega), Int.tmod_lt_of_pos _ hm⟩

theorem app_list (a b : ByteArray) : (a ++ b).data.toList = a.data.toList ++ b.data.toList := by
  rw [ByteArray.data_append, Array.toList_append]
theorem size_list (a : ByteArray) : a.data.toList.length = a.size := by
  rw [Array.length_toList]; rfl
theorem bytes_ext {a b : ByteArray} (h : a.data.toList = b.data.toList) : a = b := by
  cases a; cases b; simp_all [← Array.toList_inj]

theorem idx_none : ∀ (t : List UInt8) (c : UInt8), c ∉ t → Lib.indexByte t c = -1
  | [], _, _ => rfl
  | b :: t, c, h => by
    have hb : (b == c) = false := by rw [beq_eq_false_iff_ne]; intro e; exact h (by simp [e])
    have ih := idx_none t c (fun hm => h (by simp [hm]))
    simp [Lib.indexByte, hb, ih]
theorem idx_at : ∀ (t r : List UInt8) (c : UInt8), c ∉ t → Lib.indexByte (t ++ c :: r) c = t.length
  | [], r, c, _ => by simp [Lib.indexByte]
  | b :: t, r, c, h => by
    have hb : (b == c) = false := by rw [beq_eq_false_iff_ne]; intro e; exact h (by simp [e])
    have ih := idx_at t r c (fun hm => h (by simp [hm]))
    have hn : ((t.length : Int) == -1) = false := by rw [beq_eq_false_iff_ne]; omega
    simp [Lib.indexByte, hb, ih, hn]
theorem idx_split (l : List UInt8) (c : UInt8) : ∃ t r, l = t ++ r ∧ c ∉ t ∧ (r = [] ∨ ∃ r', r = c :: r') := by
  induction l with
  | nil => exact ⟨[], [], rfl, by simp, .inl rfl⟩
  | cons b l ih =>
    by_cases e : b = c
    · exact ⟨[], b :: l, rfl, by simp, .inr ⟨l, by rw [e]⟩⟩
    · obtain ⟨t, r, h1, h2, h3⟩ := ih
      exact ⟨b :: t, r, by rw [h1]; rfl, by simp [Ne.symm e, h2], h3⟩
theorem repeat_one (c : UInt8) : ∀ n, Lib.repeatL [c] n = List.replicate n c
  | 0 => rfl
  | n + 1 => by simp [Lib.repeatL, repeat_one c n, List.replicate_succ]
theorem mk_list (l : List UInt8) : (⟨l.toArray⟩ : ByteArray).data.toList = l := by simp
theorem mk_size (l : List UInt8) : (⟨l.toArray⟩ : ByteArray).size = l.length := by rw [← size_list, mk_list]
theorem is_mk (s : ByteArray) : s = ⟨s.data.toList.toArray⟩ := by cases s; simp
theorem mk_inj {a b : List UInt8} : (⟨a.toArray⟩ : ByteArray) = ⟨b.toArray⟩ ↔ a = b := ⟨fun h => by have := congrArg (fun x : ByteArray => x.data.toList) h; simpa using this, fun h => by rw [h]⟩
theorem dw_nil (p : UInt8 → Bool) : ∀ l : List UInt8, l.dropWhile p = [] ↔ ∀ x ∈ l, p x = true
  | [] => by simp
  | a :: l => by
    by_cases h : p a = true
    · rw [List.dropWhile_cons_of_pos h, dw_nil p l]; simp [h]
    · rw [List.dropWhile_cons_of_neg h]; simp [h]
theorem trim_zero (r : List UInt8) (c : UInt8) : Lib.trimB r c = [] ↔ ∀ x ∈ r, x = c := by
  unfold Lib.trimB Lib.trimLeftB Lib.trimRightB
  constructor
  · intro h x hx
    have h1 : ∀ y ∈ (r.reverse.dropWhile (· == c)).reverse, (y == c) = true := by
      rw [dw_nil] at h
      exact h
    have h2 : r.reverse.dropWhile (· == c) = [] := by
      cases hd : r.reverse.dropWhile (· == c) with
      | nil => rfl
      | cons a l =>
        have ha := h1 a (by rw [hd]; simp)
        have := List.head?_dropWhile_not (· == c) r.reverse
        rw [hd] at this
        simp [ha] at this
    rw [dw_nil] at h2
    exact eq_of_beq (h2 x (by simpa using hx))
  · intro h
    have h2 : r.reverse.dropWhile (· == c) = [] := by
      rw [dw_nil]
      intro x hx
      exact beq_iff_eq.2 (h x (by simpa using hx))
    rw [h2]
    rfl
theorem toList_mk (l : List UInt8) : (⟨l.toArray⟩ : ByteArray).toList = l := by rw [ByteArray.toList_eq, mk_list]

/-- A text without a byte 0: each is '0' instead. -/
def noz (l : List UInt8) : List UInt8 := l.map fun b => if b = 0 then 48 else b
theorem noz_free (l : List UInt8) : (0 : UInt8) ∉ noz l := by
  intro h
  simp only [noz, List.mem_map] at h
  obtain ⟨b, _, hb⟩ := h
  by_cases e : b = 0
  · rw [if_pos e] at hb; cases hb
  · rw [if_neg e] at hb; exact e hb
theorem replaceK_noz : ∀ (k : Nat) (l : List UInt8), l.count 0 ≤ k → Lib.replaceK [0] [48] k l = noz l
  | 0, l, h => by
    have hn : (0 : UInt8) ∉ l := by
      rw [← List.count_eq_zero]; omega
    simp only [Lib.replaceK, noz]
    symm
    rw [List.map_congr_left (g := id) (fun b hb => by rw [if_neg (fun e : b = 0 => hn (e ▸ hb))]; rfl)]
    simp
  | k + 1, l, h => by
    simp only [Lib.replaceK, Lib.index_one]
    obtain ⟨t, r, rfl, hn, rfl | ⟨r', rfl⟩⟩ := idx_split l 0
    · rw [List.append_nil, idx_none t 0 hn, if_pos (by decide)]
      have := replaceK_noz 0 t (by rw [List.count_eq_zero.2 hn]; omega)
      simpa [Lib.replaceK] using this
    · have hne : ((t.length : Int) == -1) = false := by rw [beq_eq_false_iff_ne]; omega
      rw [idx_at t r' 0 hn, hne]
      have e1 : ((t.length : Nat) : Int).toNat = t.length := by omega
      simp only [Bool.false_eq_true, if_false, e1, List.length_singleton, List.take_left]
      have e2 : (t ++ 0 :: r').drop (t.length + 1) = r' := by
        rw [← List.drop_drop, List.drop_left]; rfl
      rw [e2, replaceK_noz k r' (by rw [List.count_append, List.count_cons_self] at h; omega)]
      have ht : noz t = t := by
        have := replaceK_noz 0 t (by rw [List.count_eq_zero.2 hn]; omega)
        simpa [Lib.replaceK] using this.symm
      simp [noz] at ht ⊢
      exact ht.symm
theorem replaceAll_noz (l : List UInt8) : Lib.replaceAll l [0] [48] = noz l := by
  unfold Lib.replaceAll Lib.replace
  rw [if_neg (by decide)]
  apply replaceK_noz
  unfold Lib.replaceNum
  rw [if_pos (.inl (by decide)), Lib.count_one]
  exact Nat.le_refl _
theorem mn_spec (a b : Int) : mn a b = if a ≤ b then a else b := by
  unfold mn
  split <;> split <;> omega
theorem clean_spec (s : ByteArray) (m : Int) (hs : s.size ≤ 1048576) (h0 : 0 ≤ m) : ∃ l : List UInt8, creelkeep_clean.f s m = some ⟨l.toArray⟩ ∧ (0 : UInt8) ∉ l ∧ (l.length : Int) ≤ m ∧ l.length ≤ s.size := by
  unfold creelkeep_clean.f strings_ReplaceAll.f
  have hc := Lib.countB_le (⟨#[0]⟩ : ByteArray) (by decide) s.size s (Nat.le_refl _)
  have s1 : (⟨#[48]⟩ : ByteArray).size = 1 := rfl
  rw [if_pos (by omega), if_pos (by decide), if_pos (by rw [s1]; omega)]
  have k1 : (⟨#[0]⟩ : ByteArray).data.toList = [0] := rfl
  have k2 : (⟨#[48]⟩ : ByteArray).data.toList = [48] := rfl
  rw [k1, k2, replaceAll_noz]
  simp only [Option.bind_some]
  have hl : (noz s.data.toList).length = s.size := by rw [noz, List.length_map, size_list]
  rw [mk_size, hl, mn_spec]
  have e : (if (s.size : Int) ≤ m then (s.size : Int) else m) = ((min s.size m.toNat : Nat) : Int) := by split <;> omega
  rw [e, if_pos (by omega), if_pos (by omega)]
  have e2 : (((min s.size m.toNat : Nat) : Int)).toNat = min s.size m.toNat := by omega
  refine ⟨(noz s.data.toList).take (min s.size m.toNat), ?_, ?_, ?_, ?_⟩
  · rw [e2]
    congr 1
    apply bytes_ext
    rw [Lib.extract_data, mk_list, mk_list, List.drop_zero, Nat.sub_zero]
  · intro h
    exact noz_free _ (List.mem_of_mem_take h)
  · rw [List.length_take]; omega
  · rw [List.length_take]; omega

theorem dd_small {u : Nat} (h : u < 10) : Lib.decDigits u = [UInt8.ofNat (48 + u)] := by rw [Lib.decDigits, dif_pos h]
theorem dd_big {u : Nat} (h : ¬ u < 10) : Lib.decDigits u = Lib.decDigits (u / 10) ++ [UInt8.ofNat (48 + u % 10)] := by rw [Lib.decDigits, dif_neg h]
theorem of48 {d : Nat} (h : d < 10) : (UInt8.ofNat (48 + d)).toNat = 48 + d := by rw [UInt8.toNat_ofNat']; omega
theorem dd_digit (u : Nat) : ∀ b ∈ Lib.decDigits u, 48 ≤ b.toNat ∧ b.toNat ≤ 57 := by
  induction u using Nat.strongRecOn with
  | _ u ih =>
    intro b hb
    by_cases h : u < 10
    · rw [dd_small h, List.mem_singleton] at hb
      rw [hb, of48 h]; omega
    · rw [dd_big h, List.mem_append, List.mem_singleton] at hb
      rcases hb with hb | hb
      · exact ih (u / 10) (by omega) b hb
      · rw [hb, of48 (by omega)]; omega
theorem dd_ne (u : Nat) : Lib.decDigits u ≠ [] := by
  by_cases h : u < 10
  · rw [dd_small h]; simp
  · rw [dd_big h]; simp
theorem dd_head (u : Nat) (h0 : 0 < u) : ∃ b r, Lib.decDigits u = b :: r ∧ b ≠ 48 := by
  induction u using Nat.strongRecOn with
  | _ u ih =>
    by_cases h : u < 10
    · refine ⟨_, [], dd_small h, fun e => ?_⟩
      have := congrArg UInt8.toNat e
      rw [of48 h] at this
      have h48 : (48 : UInt8).toNat = 48 := rfl
      omega
    · obtain ⟨b, r, e, hb⟩ := ih (u / 10) (by omega) (by omega)
      exact ⟨b, r ++ [UInt8.ofNat (48 + u % 10)], by rw [dd_big h, e]; rfl, hb⟩
theorem dd_len : ∀ (k u : Nat), u < 10 ^ (k + 1) → (Lib.decDigits u).length ≤ k + 1
  | 0, u, h => by rw [dd_small (by simpa using h)]; simp
  | k + 1, u, h => by
    by_cases c : u < 10
    · rw [dd_small c]; simp
    · rw [dd_big c, List.length_append, List.length_singleton]
      have := dd_len k (u / 10) (by rw [Nat.pow_succ] at h; omega)
      omega

theorem repeat_spec (c : UInt8) (n : Int) (h0 : 0 ≤ n) (h1 : n ≤ 1000000) : strings_Repeat.f (⟨#[c]⟩ : ByteArray) n = some ⟨(List.replicate n.toNat c).toArray⟩ := by
  unfold strings_Repeat.f
  have sz : (⟨#[c]⟩ : ByteArray).size = 1 := rfl
  rw [if_pos h0, if_pos (by omega), if_pos (by rw [sz]; omega)]
  have : (⟨#[c]⟩ : ByteArray).data.toList = [c] := rfl
  rw [this, repeat_one]

theorem ext_take (s : ByteArray) (n : Nat) : (s.extract 0 n).data.toList = s.data.toList.take n := by simp [ByteArray.data_extract]
theorem ext_drop (s : ByteArray) (n : Nat) : (s.extract n s.size).data.toList = s.data.toList.drop n := by
  rw [ByteArray.data_extract, Array.toList_extract]
  have : s.size = s.data.toList.length := (size_list s).symm
  rw [this, List.extract_eq_take_drop]
  exact List.take_of_length_le (by simp)
theorem mk_app (a b : List UInt8) : (⟨a.toArray⟩ : ByteArray) ++ ⟨b.toArray⟩ = ⟨(a ++ b).toArray⟩ := by
  apply bytes_ext; rw [app_list, mk_list, mk_list, mk_list]

theorem dd_mono : ∀ (v u : Nat), u ≤ v → (Lib.decDigits u).length ≤ (Lib.decDigits v).length := by
  intro v
  induction v using Nat.strongRecOn with
  | _ v ih =>
    intro u h
    by_cases c : u < 10
    · rw [dd_small c, List.length_singleton]
      exact List.length_pos_iff.2 (dd_ne v)
    · rw [dd_big c, dd_big (u := v) (by omega), List.length_append, List.length_append, List.length_singleton, List.length_singleton]
      have := ih (v / 10) (by omega) (u / 10) (Nat.div_le_div_right h)
      omega
theorem itoaI_spec (n : Nat) (h : n ≤ 1000000000000000) : strconv_Itoa.f (n : Int) = some ⟨(Lib.decDigits n).toArray⟩ := by
  unfold strconv_Itoa.f
  rw [if_pos (by omega), if_pos (by omega), Lib.itoa_nonneg]
theorem recorded_spec (a0 a1 a2 : Int) (s : ByteArray) (w1 : (Lit.int .i64 a1).wf = true) (w2 : (Lit.int .i64 a2).wf = true) (hs : s.size ≤ 1048576) :
    ∃ (m : Nat) (V : List UInt8), m ≤ 49 ∧ (0 : UInt8) ∉ V ∧ V.length ≤ 480 ∧ creelkeep_recorded.f a0 a1 a2 s = some (⟨(107 :: List.replicate m 121 : List UInt8).toArray⟩, ⟨V.toArray⟩) := by
  obtain ⟨x, hx, x0, x1⟩ := picked_spec (m := 50) w1 (by decide)
  obtain ⟨y, hy, y0, y1⟩ := picked_spec (m := 25) w2 (by decide)
  obtain ⟨l, hl, l0, l1, l2⟩ := clean_spec s 20 hs (by decide)
  have hmem : ∀ n, ∀ b ∈ Lib.repeatL l n, b ∈ l := by
    intro n
    induction n with
    | zero => intro b hb; simp [Lib.repeatL] at hb
    | succ n ih => intro b hb; simp only [Lib.repeatL, List.mem_append] at hb; exact hb.elim id (ih b)
  have hlen : (Lib.repeatL l y.toNat).length ≤ 480 := by
    rw [Lib.repeatL_length]
    have h1 : y.toNat ≤ 24 := by omega
    have h2 : l.length ≤ 20 := by omega
    exact Nat.le_trans (Nat.mul_le_mul h1 h2) (by decide)
  refine ⟨x.toNat, Lib.repeatL l y.toNat, by omega, fun h => l0 (hmem _ _ h), hlen, ?_⟩
  unfold creelkeep_recorded.f
  rw [hx, Option.bind_some, repeat_spec 121 x (by omega) (by omega), Option.bind_some, mk_size, List.length_replicate, if_pos (by omega), hl, Option.bind_some, hy, Option.bind_some]
  unfold strings_Repeat.f
  have hsz : (⟨l.toArray⟩ : ByteArray).size * y.toNat ≤ 140737488355328 := by
    rw [mk_size]
    have h1 : y.toNat ≤ 24 := by omega
    have h2 : l.length ≤ 20 := by omega
    exact Nat.le_trans (Nat.mul_le_mul h2 h1) (by decide)
  rw [if_pos y0, if_pos (by omega), if_pos hsz, Option.bind_some, mk_list, show (⟨#[107]⟩ : ByteArray) = ⟨[107].toArray⟩ from rfl, mk_app]
  rfl
/-- A record that may be. -/
structure Rec (K V : List UInt8) : Prop where
  k1 : 1 ≤ K.length
  k2 : K.length ≤ 60
  v2 : V.length ≤ 500
  asc : ∀ b ∈ K, b.toNat < 128
  key : ∀ b ∈ K, b ≠ 61 ∧ b ≠ 10
  val : (0 : UInt8) ∉ V
theorem any_none (K : List UInt8) (h : ∀ b ∈ K, b ≠ 61 ∧ b ≠ 10) : Lib.containsAny K [61, 10] = false := by
  unfold Lib.containsAny
  rw [Lib.indexAny_none]
  · rfl
  · intro j b _ hb
    have := h b (List.mem_of_getElem? hb)
    simp [this.1, this.2]
theorem check_ok {K V : List UInt8} (R : Rec K V) (k : Nat) : record_Check.f (k + 1) ⟨K.toArray⟩ ⟨V.toArray⟩ = some 0 := by
  obtain ⟨h1, h2, h3, h4, h5, h6⟩ := R
  unfold record_Check.f
  rw [mk_size, mk_size, if_neg (by omega), if_neg (by omega), decide_eq_false (by omega), record_Check.j0, if_neg (by simp)]
  unfold strings_ContainsAny.f strings_IndexByte.f
  have e : (⟨#[61, 10]⟩ : ByteArray).data.toList = [61, 10] := rfl
  rw [e, mk_list, mk_size, if_pos (by omega), if_pos (by decide), if_pos (List.all_eq_true.2 (fun b hb => decide_eq_true (h4 b hb))), if_pos (by decide), any_none K h5, Option.bind_some, if_neg (by simp), Option.bind_some, mk_list]
  rw [show (0 : Int).toNat.toUInt8 = 0 from rfl, idx_none V 0 h6]
  rfl
def restOf (K V : List UInt8) : List UInt8 := 32 :: (K ++ 61 :: (V ++ [10]))
theorem rest_len (K V : List UInt8) : (restOf K V).length = K.length + V.length + 3 := by
  unfold restOf
  simp only [List.length_cons, List.length_append, List.length_nil]; omega
theorem write_loop (r : List UInt8) (hr : r.length ≤ 900) : ∀ (k j : Nat), 1 ≤ j → j ≤ 5 → j ≤ (Lib.decDigits (r.length + j)).length → 4 < k + j →
    ∃ n, r.length + (Lib.decDigits n).length = n ∧ n ≤ r.length + 4 ∧ record_Write.l0 k ⟨r.toArray⟩ ((r.length + j : Nat) : Int) = some (⟨(Lib.decDigits n ++ r).toArray⟩, 0)
  | 0, j, h1, h5, h2, h3 => by
    have hd : (Lib.decDigits (r.length + j)).length ≤ 4 := dd_len 3 _ (show r.length + j < 10000 by omega)
    omega
  | k + 1, j, h1, h5, h2, h3 => by
    have hd : (Lib.decDigits (r.length + j)).length ≤ 4 := dd_len 3 _ (show r.length + j < 10000 by omega)
    rw [record_Write.l0, itoaI_spec _ (by omega), Option.bind_some, mk_size, mk_size, w64 (by omega) (by omega)]
    by_cases c : j = (Lib.decDigits (r.length + j)).length
    · rw [if_pos (by omega), Option.bind_some, mk_size, if_pos (by omega), mk_app]
      exact ⟨r.length + j, by omega, by omega, rfl⟩
    · rw [if_neg (by omega), w64 (by omega) (by omega), show ((r.length + j : Nat) : Int) + 1 = ((r.length + (j + 1) : Nat) : Int) by omega]
      refine write_loop r hr k (j + 1) (by omega) (by omega) ?_ (by omega)
      have := dd_mono (r.length + (j + 1)) (r.length + j) (by omega)
      omega
theorem write_spec {K V : List UInt8} (R : Rec K V) (k : Nat) : ∃ n, (Lib.decDigits n ++ restOf K V).length = n ∧ n ≤ 700 ∧ record_Write.f (k + 10) ⟨K.toArray⟩ ⟨V.toArray⟩ = some (⟨(Lib.decDigits n ++ restOf K V).toArray⟩, 0) := by
  have hl := rest_len K V
  have h1 := R.k1
  have h2 := R.k2
  have h3 := R.v2
  obtain ⟨n, n1, n2, n3⟩ := write_loop (restOf K V) (by omega) (k + 10) 1 (by omega) (by omega) (List.length_pos_iff.2 (dd_ne _)) (by omega)
  refine ⟨n, by rw [List.length_append]; omega, by omega, ?_⟩
  unfold record_Write.f
  rw [check_ok R (k + 9), Option.bind_some, if_pos rfl]
  have e32 : (⟨#[32]⟩ : ByteArray) = ⟨[32].toArray⟩ := rfl
  have e61 : (⟨#[61]⟩ : ByteArray) = ⟨[61].toArray⟩ := rfl
  have e10 : (⟨#[10]⟩ : ByteArray) = ⟨[10].toArray⟩ := rfl
  have hr : [32] ++ K ++ [61] ++ V ++ [10] = restOf K V := by simp [restOf]
  rw [e32, e61, e10, mk_app, mk_app, mk_app, mk_app, hr, mk_size, mk_size, mk_size, mk_size, mk_size, mk_size]
  simp only [List.length_append, List.length_singleton]
  rw [if_pos (by omega), if_pos (by omega), if_pos (by omega), if_pos (by omega), w64 (by omega) (by omega), show ((restOf K V).length : Int) + 1 = (((restOf K V).length + 1 : Nat) : Int) by omega]
  exact n3
theorem recorded_rec {m : Nat} {V : List UInt8} (hm : m ≤ 49) (h0 : (0 : UInt8) ∉ V) (hV : V.length ≤ 480) : Rec (107 :: List.replicate m 121) V := by
  have hb : ∀ b ∈ (107 :: List.replicate m 121 : List UInt8), b = 107 ∨ b = 121 := by
    intro b hb
    rcases List.mem_cons.1 hb with h | h
    · exact .inl h
    · exact .inr (List.eq_of_mem_replicate h)
  refine ⟨by simp, by simp; omega, by omega, fun b h => ?_, fun b h => ?_, h0⟩
  · rcases hb b h with h | h <;> rw [h] <;> decide
  · rcases hb b h with h | h <;> rw [h] <;> decide

theorem RecordLong : creelkeep_RecordLong.Pure := by
  intro a0 a1 a2 s w0 w1 w2 hs
  obtain ⟨m, V, hm, h0, hV, hr⟩ := recorded_spec a0 a1 a2 s w1 w2 hs
  have R := recorded_rec hm h0 hV
  obtain ⟨n, hn, hn7, hw⟩ := write_spec R 0
  refine ⟨0 + 10, ?_⟩
  unfold creelkeep_RecordLong.f
  rw [hr, Option.bind_some]
  dsimp only
  rw [hw, Option.bind_some]
  dsimp only
  have no32 : (32 : UInt8) ∉ Lib.decDigits n := fun h => absurd (dd_digit n 32 h).1 (by decide)
  have hcut : Lib.cut (Lib.decDigits n ++ restOf (107 :: List.replicate m 121) V) [32] = (Lib.decDigits n, (restOf (107 :: List.replicate m 121) V).drop 1, true) := by
    unfold Lib.cut
    rw [Lib.index_one]
    unfold restOf
    rw [idx_at _ _ _ no32, if_pos (by omega)]
    simp [List.drop_append]
  unfold strings_Cut.f
  have e32 : (⟨#[32]⟩ : ByteArray).data.toList = [32] := rfl
  rw [if_pos (by rw [mk_size, hn]; omega), e32, mk_list, hcut, Option.bind_some, if_pos rfl, mk_size, hn, itoaI_spec n (by omega), Option.bind_some, if_pos rfl]
  unfold strings_HasSuffix.f stringslite_HasSuffix.f
  have s10 : (⟨#[10]⟩ : ByteArray).size = 1 := rfl
  have n1 : 1 ≤ n := by
    rw [← hn, List.length_append]
    have := List.length_pos_iff.2 (dd_ne n)
    omega
  rw [s10, mk_size, hn, if_pos (by omega), w64 (by omega) (by omega), if_pos (by omega), if_pos (by omega), Option.bind_some, Option.bind_some]
  have hlast : Lib.decDigits n ++ restOf (107 :: List.replicate m 121) V = (Lib.decDigits n ++ 32 :: ((107 :: List.replicate m 121) ++ 61 :: V)) ++ [10] := by simp [restOf]
  have hex : ((⟨(Lib.decDigits n ++ restOf (107 :: List.replicate m 121) V).toArray⟩ : ByteArray).extract ((n : Int) - ((1 : Nat) : Int)).toNat n).toList = [10] := by
    have h1 := ext_drop ⟨(Lib.decDigits n ++ restOf (107 :: List.replicate m 121) V).toArray⟩ (n - 1)
    rw [mk_size, hn, mk_list] at h1
    rw [ByteArray.toList_eq, show ((n : Int) - ((1 : Nat) : Int)).toNat = n - 1 by omega, h1, hlast]
    refine List.drop_left' ?_
    have := congrArg List.length hlast
    rw [hn, List.length_append, List.length_singleton] at this
    omega
  rw [hex]
  decide +kernel

end Go.Proofs.YthonjghpblkpgaaDoor.Pure
