/- A record is read as it was written, and what is behind it is left: for all raw things and strings (second form: what it reads is of bulk at most 1048576). -/
import Derived.Test.YthonjghpblkpgaaDoorPRecordBackx3
import Derived.OpenShut
import Derived.Lib.SlTrimSet
import Derived.Lib.Atoi
import Derived.Lib.IndexAny
import Derived.Lib.SplitLaws
import Derived.Lib.IndexBytes
import Derived.Lib.TrimByte
import Derived.Lib.Strings
import Derived.Lib.SmallJoins
import Derived.Lib.ItoaMem
import Derived.Lib.ItoaLen
namespace Go.Proofs.YthonjghpblkpgaaDoor.Pure
open Go.RowKit Go.Proofs.YthonjghpblkpgaaDoor.PRecordBack Go.Proofs.YthonjghpblkpgaaDoorW.PrintWords Go.Proofs.YthonjghpblkpgaaDoorW.PrintLast Go.Proofs.YthonjghpblkpgaaDoorW.PrintMore
set_option linter.unusedVariables false
set_option linter.unusedSimpArgs false

theorem w64 {n : Int} (h1 : -9223372036854775808 ≤ n) (h2 : n ≤ 9223372036854775807) : wrap64 n = n := by
  unfold wrap64
  omega

theorem picked_spec {a m : Int} (hw : (Lit.int .i64 a).wf = true) (hm : 0 < m) : ∃ t, creelkeep_picked.f a m = some t ∧ 0 ≤ t ∧ t < m := by
  obtain ⟨h1, h2⟩ := bounds_i64 hw
  unfold creelkeep_picked.f
  have e : ¬ m = 0 := by omega
  by_cases h : a < 0
  · rw [if_pos h, if_neg e, w64 (n := a + 1) (by omega) (by omega), w64 (by omega) (by omega)]
    exact ⟨_, rfl, Int.tmod_nonneg _ (by omega), Int.tmod_lt_of_pos _ hm⟩
  · rw [if_neg h, if_neg e]
    exact ⟨_, rfl, Int.tmod_nonneg _ (by omega), Int.tmod_lt_of_pos _ hm⟩

theorem app_list (a b : ByteArray) : (a ++ b).data.toList = a.data.toList ++ b.data.toList := by
  rw [ByteArray.data_append, Array.toList_append]
theorem size_list (a : ByteArray) : a.data.toList.length = a.size := by
  rw [Array.length_toList]; rfl
theorem bytes_ext {a b : ByteArray} (h : a.data.toList = b.data.toList) : a = b := by
  cases a; cases b; simp_all [← Array.toList_inj]

theorem idx_none : ∀ (t : List UInt8) (c : UInt8), c ∉ t → Lib.indexByte t c = -1
  | [], _, _ => rfl
  | b :: t, c, h => by
    have hb : (b == c) = false := by rw [beq_eq_false_iff_ne]; intro e; exact h (by simp [e])
    have ih := idx_none t c (fun hm => h (by simp [hm]))
    simp [Lib.indexByte, hb, ih]
theorem idx_at : ∀ (t r : List UInt8) (c : UInt8), c ∉ t → Lib.indexByte (t ++ c :: r) c = t.length
  | [], r, c, _ => by simp [Lib.indexByte]
  | b :: t, r, c, h => by
    have hb : (b == c) = false := by rw [beq_eq_false_iff_ne]; intro e; exact h (by simp [e])
    have ih := idx_at t r c (fun hm => h (by simp [hm]))
    have hn : ((t.length : Int) == -1) = false := by rw [beq_eq_false_iff_ne]; omega
    simp [Lib.indexByte, hb, ih, hn]
theorem idx_split (l : List UInt8) (c : UInt8) : ∃ t r, l = t ++ r ∧ c ∉ t ∧ (r = [] ∨ ∃ r', r = c :: r') := by
  induction l with
  | nil => exact ⟨[], [], rfl, by simp, .inl rfl⟩
  | cons b l ih =>
    by_cases e : b = c
    · exact ⟨[], b :: l, rfl, by simp, .inr ⟨l, by rw [e]⟩⟩
    · obtain ⟨t, r, h1, h2, h3⟩ := ih
      exact ⟨b :: t, r, by rw [h1]; rfl, by simp [Ne.symm e, h2], h3⟩
theorem repeat_one (c : UInt8) : ∀ n, Lib.repeatL [c] n = List.replicate n c
  | 0 => rfl
  | n + 1 => by simp [Lib.repeatL, repeat_one c n, List.replicate_succ]
theorem mk_list (l : List UInt8) : (⟨l.toArray⟩ : ByteArray).data.toList = l := by simp
theorem mk_size (l : List UInt8) : (⟨l.toArray⟩ : ByteArray).size = l.length := by rw [← size_list, mk_list]
theorem is_mk (s : ByteArray) : s = ⟨s.data.toList.toArray⟩ := by cases s; simp
theorem mk_inj {a b : List UInt8} : (⟨a.toArray⟩ : ByteArray) = ⟨b.toArray⟩ ↔ a = b := ⟨fun h => by have := congrArg (fun x : ByteArray => x.data.toList) h; simpa using this, fun h => by rw [h]⟩
theorem dw_nil (p : UInt8 → Bool) : ∀ l : List UInt8, l.dropWhile p = [] ↔ ∀ x ∈ l, p x = true
  | [] => by simp
  | a :: l => by
    by_cases h : p a = true
    · rw [List.dropWhile_cons_of_pos h, dw_nil p l]; simp [h]
    · rw [List.dropWhile_cons_of_neg h]; simp [h]
theorem trim_zero (r : List UInt8) (c : UInt8) : Lib.trimB r c = [] ↔ ∀ x ∈ r, x = c := by
  unfold Lib.trimB Lib.trimLeftB Lib.trimRightB
  constructor
  · intro h x hx
    have h1 : ∀ y ∈ (r.reverse.dropWhile (· == c)).reverse, (y == c) = true := by
      rw [dw_nil] at h
      exact h
    have h2 : r.reverse.dropWhile (· == c) = [] := by
      cases hd : r.reverse.dropWhile (· == c) with
      | nil => rfl
      | cons a l =>
        have ha := h1 a (by rw [hd]; simp)
        have := List.head?_dropWhile_not (· == c) r.reverse
        rw [hd] at this
        simp [ha] at this
    rw [dw_nil] at h2
    exact eq_of_beq (h2 x (by simpa using hx))
  · intro h
    have h2 : r.reverse.dropWhile (· == c) = [] := by
      rw [dw_nil]
      intro x hx
      exact beq_iff_eq.2 (h x (by simpa using hx))
    rw [h2]
    rfl
theorem toList_mk (l : List UInt8) : (⟨l.toArray⟩ : ByteArray).toList = l := by rw [ByteArray.toList_eq, mk_list]

/-- A text without a byte 0: each is '0' instead. -/
def noz (l : List UInt8) : List UInt8 := l.map fun b => if b = 0 then 48 else b
theorem noz_free (l : List UInt8) : (0 : UInt8) ∉ noz l := by
  intro h
  simp only [noz, List.mem_map] at h
  obtain ⟨b, _, hb⟩ := h
  by_cases e : b = 0
  · rw [if_pos e] at hb; cases hb
  · rw [if_neg e] at hb; exact e hb
theorem replaceK_noz : ∀ (k : Nat) (l : List UInt8), l.count 0 ≤ k → Lib.replaceK [0] [48] k l = noz l
  | 0, l, h => by
    have hn : (0 : UInt8) ∉ l := by
      rw [← List.count_eq_zero]; omega
    simp only [Lib.replaceK, noz]
    symm
    rw [List.map_congr_left (g := id) (fun b hb => by rw [if_neg (fun e : b = 0 => hn (e ▸ hb))]; rfl)]
    simp
  | k + 1, l, h => by
    simp only [Lib.replaceK, Lib.index_one]
    obtain ⟨t, r, rfl, hn, rfl | ⟨r', rfl⟩⟩ := idx_split l 0
    · rw [List.append_nil, idx_none t 0 hn, if_pos (by decide)]
      have := replaceK_noz 0 t (by rw [List.count_eq_zero.2 hn]; omega)
      simpa [Lib.replaceK] using this
    · have hne : ((t.length : Int) == -1) = false := by rw [beq_eq_false_iff_ne]; omega
      rw [idx_at t r' 0 hn, hne]
      have e1 : ((t.length : Nat) : Int).toNat = t.length := by omega
      simp only [Bool.false_eq_true, if_false, e1, List.length_singleton, List.take_left]
      have e2 : (t ++ 0 :: r').drop (t.length + 1) = r' := by
        rw [← List.drop_drop, List.drop_left]; rfl
      rw [e2, replaceK_noz k r' (by rw [List.count_append, List.count_cons_self] at h; omega)]
      have ht : noz t = t := by
        have := replaceK_noz 0 t (by rw [List.count_eq_zero.2 hn]; omega)
        simpa [Lib.replaceK] using this.symm
      simp [noz] at ht ⊢
      exact ht.symm
theorem replaceAll_noz (l : List UInt8) : Lib.replaceAll l [0] [48] = noz l := by
  unfold Lib.replaceAll Lib.replace
  rw [if_neg (by decide)]
  apply replaceK_noz
  unfold Lib.replaceNum
  rw [if_pos (.inl (by decide)), Lib.count_one]
  exact Nat.le_refl _
theorem mn_spec (a b : Int) : mn a b = if a ≤ b then a else b := by
  unfold mn
  split <;> split <;> omega
theorem clean_spec (s : ByteArray) (m : Int) (hs : s.size ≤ 1048576) (h0 : 0 ≤ m) : ∃ l : List UInt8, creelkeep_clean.f s m = some ⟨l.toArray⟩ ∧ (0 : UInt8) ∉ l ∧ (l.length : Int) ≤ m ∧ l.length ≤ s.size := by
  unfold creelkeep_clean.f strings_ReplaceAll.f
  have hc := Lib.countB_le (⟨#[0]⟩ : ByteArray) (by decide) s.size s (Nat.le_refl _)
  have s1 : (⟨#[48]⟩ : ByteArray).size = 1 := rfl
  rw [if_pos (by omega), if_pos (by decide), if_pos (by rw [s1]; omega)]
  have k1 : (⟨#[0]⟩ : ByteArray).data.toList = [0] := rfl
  have k2 : (⟨#[48]⟩ : ByteArray).data.toList = [48] := rfl
  rw [k1, k2, replaceAll_noz]
  simp only [Option.bind_some]
  have hl : (noz s.data.toList).length = s.size := by rw [noz, List.length_map, size_list]
  rw [mk_size, hl, mn_spec]
  have e : (if (s.size : Int) ≤ m then (s.size : Int) else m) = ((min s.size m.toNat : Nat) : Int) := by split <;> omega
  rw [e, if_pos (by omega), if_pos (by omega)]
  have e2 : (((min s.size m.toNat : Nat) : Int)).toNat = min s.size m.toNat := by omega
  refine ⟨(noz s.data.toList).take (min s.size m.toNat), ?_, ?_, ?_, ?_⟩
  · rw [e2]
    congr 1
    apply bytes_ext
    rw [Lib.extract_data, mk_list, mk_list, List.drop_zero, Nat.sub_zero]
  · intro h
    exact noz_free _ (List.mem_of_mem_take h)
  · rw [List.length_take]; omega
  · rw [List.length_take]; omega

theorem dd_small {u : Nat} (h : u < 10) : Lib.decDigits u = [UInt8.ofNat (48 + u)] := by rw [Lib.decDigits, dif_pos h]
theorem dd_big {u : Nat} (h : ¬ u < 10) : Lib.decDigits u = Lib.decDigits (u / 10) ++ [UInt8.ofNat (48 + u % 10)] := by rw [Lib.decDigits, dif_neg h]
theorem of48 {d : Nat} (h : d < 10) : (UInt8.ofNat (48 + d)).toNat = 48 + d := by rw [UInt8.toNat_ofNat']; omega
theorem dd_digit (u : Nat) : ∀ b ∈ Lib.decDigits u, 48 ≤ b.toNat ∧ b.toNat ≤ 57 := by
  induction u using Nat.strongRecOn with
  | _ u ih =>
    intro b hb
    by_cases h : u < 10
    · rw [dd_small h, List.mem_singleton] at hb
      rw [hb, of48 h]; omega
    · rw [dd_big h, List.mem_append, List.mem_singleton] at hb
      rcases hb with hb | hb
      · exact ih (u / 10) (by omega) b hb
      · rw [hb, of48 (by omega)]; omega
theorem dd_ne (u : Nat) : Lib.decDigits u ≠ [] := by
  by_cases h : u < 10
  · rw [dd_small h]; simp
  · rw [dd_big h]; simp
theorem dd_head (u : Nat) (h0 : 0 < u) : ∃ b r, Lib.decDigits u = b :: r ∧ b ≠ 48 := by
  induction u using Nat.strongRecOn with
  | _ u ih =>
    by_cases h : u < 10
    · refine ⟨_, [], dd_small h, fun e => ?_⟩
      have := congrArg UInt8.toNat e
      rw [of48 h] at this
      have h48 : (48 : UInt8).toNat = 48 := rfl
      omega
    · obtain ⟨b, r, e, hb⟩ := ih (u / 10) (by omega) (by omega)
      exact ⟨b, r ++ [UInt8.ofNat (48 + u % 10)], by rw [dd_big h, e]; rfl, hb⟩
theorem dd_len : ∀ (k u : Nat), u < 10 ^ (k + 1) → (Lib.decDigits u).length ≤ k + 1
  | 0, u, h => by rw [dd_small (by simpa using h)]; simp
  | k + 1, u, h => by
    by_cases c : u < 10
    · rw [dd_small c]; simp
    · rw [dd_big c, List.length_append, List.length_singleton]
      have := dd_len k (u / 10) (by rw [Nat.pow_succ] at h; omega)
      omega

theorem repeat_spec (c : UInt8) (n : Int) (h0 : 0 ≤ n) (h1 : n ≤ 1000000) : strings_Repeat.f (⟨#[c]⟩ : ByteArray) n = some ⟨(List.replicate n.toNat c).toArray⟩ := by
  unfold strings_Repeat.f
  have sz : (⟨#[c]⟩ : ByteArray).size = 1 := rfl
  rw [if_pos h0, if_pos (by omega), if_pos (by rw [sz]; omega)]
  have : (⟨#[c]⟩ : ByteArray).data.toList = [c] := rfl
  rw [this, repeat_one]

theorem ext_take (s : ByteArray) (n : Nat) : (s.extract 0 n).data.toList = s.data.toList.take n := by simp [ByteArray.data_extract]
theorem ext_drop (s : ByteArray) (n : Nat) : (s.extract n s.size).data.toList = s.data.toList.drop n := by
  rw [ByteArray.data_extract, Array.toList_extract]
  have : s.size = s.data.toList.length := (size_list s).symm
  rw [this, List.extract_eq_take_drop]
  exact List.take_of_length_le (by simp)
theorem mk_app (a b : List UInt8) : (⟨a.toArray⟩ : ByteArray) ++ ⟨b.toArray⟩ = ⟨(a ++ b).toArray⟩ := by
  apply bytes_ext; rw [app_list, mk_list, mk_list, mk_list]

theorem dd_mono : ∀ (v u : Nat), u ≤ v → (Lib.decDigits u).length ≤ (Lib.decDigits v).length := by
  intro v
  induction v using Nat.strongRecOn with
  | _ v ih =>
    intro u h
    by_cases c : u < 10
    · rw [dd_small c, List.length_singleton]
      exact List.length_pos_iff.2 (dd_ne v)
    · rw [dd_big c, dd_big (u := v) (by omega), List.length_append, List.length_append, List.length_singleton, List.length_singleton]
      have := ih (v / 10) (by omega) (u / 10) (Nat.div_le_div_right h)
      omega
theorem itoaI_spec (n : Nat) (h : n ≤ 1000000000000000) : strconv_Itoa.f (n : Int) = some ⟨(Lib.decDigits n).toArray⟩ := by
  unfold strconv_Itoa.f
  rw [if_pos (by omega), if_pos (by omega), Lib.itoa_nonneg]
theorem recorded_spec (a0 a1 a2 : Int) (s : ByteArray) (w1 : (Lit.int .i64 a1).wf = true) (w2 : (Lit.int .i64 a2).wf = true) (hs : s.size ≤ 1048576) :
    ∃ (m : Nat) (V : List UInt8), m ≤ 49 ∧ (0 : UInt8) ∉ V ∧ V.length ≤ 480 ∧ creelkeep_recorded.f a0 a1 a2 s = some (⟨(107 :: List.replicate m 121 : List UInt8).toArray⟩, ⟨V.toArray⟩) := by
  obtain ⟨x, hx, x0, x1⟩ := picked_spec (m := 50) w1 (by decide)
  obtain ⟨y, hy, y0, y1⟩ := picked_spec (m := 25) w2 (by decide)
  obtain ⟨l, hl, l0, l1, l2⟩ := clean_spec s 20 hs (by decide)
  have hmem : ∀ n, ∀ b ∈ Lib.repeatL l n, b ∈ l := by
    intro n
    induction n with
    | zero => intro b hb; simp [Lib.repeatL] at hb
    | succ n ih => intro b hb; simp only [Lib.repeatL, List.mem_append] at hb; exact hb.elim id (ih b)
  have hlen : (Lib.repeatL l y.toNat).length ≤ 480 := by
    rw [Lib.repeatL_length]
    have h1 : y.toNat ≤ 24 := by omega
    have h2 : l.length ≤ 20 := by omega
    exact Nat.le_trans (Nat.mul_le_mul h1 h2) (by decide)
  refine ⟨x.toNat, Lib.repeatL l y.toNat, by omega, fun h => l0 (hmem _ _ h), hlen, ?_⟩
  unfold creelkeep_recorded.f
  rw [hx, Option.bind_some, repeat_spec 121 x (by omega) (by omega), Option.bind_some, mk_size, List.length_replicate, if_pos (by omega), hl, Option.bind_some, hy, Option.bind_some]
  unfold strings_Repeat.f
  have hsz : (⟨l.toArray⟩ : ByteArray).size * y.toNat ≤ 140737488355328 := by
    rw [mk_size]
    have h1 : y.toNat ≤ 24 := by omega
    have h2 : l.length ≤ 20 := by omega
    exact Nat.le_trans (Nat.mul_le_mul h2 h1) (by decide)
  rw [if_pos y0, if_pos (by omega), if_pos hsz, Option.bind_some, mk_list, show (⟨#[107]⟩ : ByteArray) = ⟨[107].toArray⟩ from rfl, mk_app]
  rfl
/-- A record that may be. -/
structure Rec (K V : List UInt8) : Prop where
  k1 : 1 ≤ K.length
  k2 : K.length ≤ 60
  v2 : V.length ≤ 500
  asc : ∀ b ∈ K, b.toNat < 128
  key : ∀ b ∈ K, b ≠ 61 ∧ b ≠ 10
  val : (0 : UInt8) ∉ V
theorem any_none (K : List UInt8) (h : ∀ b ∈ K, b ≠ 61 ∧ b ≠ 10) : Lib.containsAny K [61, 10] = false := by
  unfold Lib.containsAny
  rw [Lib.indexAny_none]
  · rfl
  · intro j b _ hb
    have := h b (List.mem_of_getElem? hb)
    simp [this.1, this.2]
theorem check_ok {K V : List UInt8} (R : Rec K V) (k : Nat) : record_Check.f (k + 1) ⟨K.toArray⟩ ⟨V.toArray⟩ = some 0 := by
  obtain ⟨h1, h2, h3, h4, h5, h6⟩ := R
  unfold record_Check.f
  rw [mk_size, mk_size, if_neg (by omega), if_neg (by omega), decide_eq_false (by omega), record_Check.j0, if_neg (by simp)]
  unfold strings_ContainsAny.f strings_IndexByte.f
  have e : (⟨#[61, 10]⟩ : ByteArray).data.toList = [61, 10] := rfl
  rw [e, mk_list, mk_size, if_pos (by omega), if_pos (by decide), if_pos (List.all_eq_true.2 (fun b hb => decide_eq_true (h4 b hb))), if_pos (by decide), any_none K h5, Option.bind_some, if_neg (by simp), Option.bind_some, mk_list]
  rw [show (0 : Int).toNat.toUInt8 = 0 from rfl, idx_none V 0 h6]
  rfl
def restOf (K V : List UInt8) : List UInt8 := 32 :: (K ++ 61 :: (V ++ [10]))
theorem rest_len (K V : List UInt8) : (restOf K V).length = K.length + V.length + 3 := by
  unfold restOf
  simp only [List.length_cons, List.length_append, List.length_nil]; omega
theorem write_loop (r : List UInt8) (hr : r.length ≤ 900) : ∀ (t j : Nat), t + j = 5 → 1 ≤ j → j ≤ (Lib.decDigits (r.length + j)).length →
    ∃ n, r.length + (Lib.decDigits n).length = n ∧ n ≤ r.length + 4 ∧ ∀ k, t < k → record_Write.l0 k ⟨r.toArray⟩ ((r.length + j : Nat) : Int) = some (⟨(Lib.decDigits n ++ r).toArray⟩, 0)
  | 0, j, h5, h1, h2 => by
    have hd : (Lib.decDigits (r.length + j)).length ≤ 4 := dd_len 3 _ (show r.length + j < 10000 by omega)
    omega
  | t + 1, j, h5, h1, h2 => by
    have hd : (Lib.decDigits (r.length + j)).length ≤ 4 := dd_len 3 _ (show r.length + j < 10000 by omega)
    have step : ∀ k, record_Write.l0 (k + 1) ⟨r.toArray⟩ ((r.length + j : Nat) : Int) = if j = (Lib.decDigits (r.length + j)).length then some (⟨(Lib.decDigits (r.length + j) ++ r).toArray⟩, 0) else record_Write.l0 k ⟨r.toArray⟩ ((r.length + (j + 1) : Nat) : Int) := by
      intro k
      rw [record_Write.l0, itoaI_spec _ (by omega), Option.bind_some, mk_size, mk_size, w64 (by omega) (by omega)]
      by_cases c : j = (Lib.decDigits (r.length + j)).length
      · rw [if_pos (by omega), Option.bind_some, mk_size, if_pos (by omega), mk_app, if_pos c]
      · rw [if_neg (by omega), if_neg c, w64 (by omega) (by omega), show ((r.length + j : Nat) : Int) + 1 = ((r.length + (j + 1) : Nat) : Int) by omega]
    by_cases c : j = (Lib.decDigits (r.length + j)).length
    · refine ⟨r.length + j, by omega, by omega, fun k hk => ?_⟩
      obtain ⟨k, rfl⟩ : ∃ q, k = q + 1 := ⟨k - 1, by omega⟩
      rw [step k, if_pos c]
    · have hm := dd_mono (r.length + (j + 1)) (r.length + j) (by omega)
      obtain ⟨n, h3, h4, h6⟩ := write_loop r hr t (j + 1) (by omega) (by omega) (by omega)
      refine ⟨n, h3, h4, fun k hk => ?_⟩
      obtain ⟨k, rfl⟩ : ∃ q, k = q + 1 := ⟨k - 1, by omega⟩
      rw [step k, if_neg c]
      exact h6 k (by omega)
theorem write_all {K V : List UInt8} (R : Rec K V) : ∃ n, (Lib.decDigits n ++ restOf K V).length = n ∧ n ≤ 700 ∧ ∀ k, record_Write.f (k + 10) ⟨K.toArray⟩ ⟨V.toArray⟩ = some (⟨(Lib.decDigits n ++ restOf K V).toArray⟩, 0) := by
  have hl := rest_len K V
  have h1 := R.k1
  have h2 := R.k2
  have h3 := R.v2
  obtain ⟨n, n1, n2, n3⟩ := write_loop (restOf K V) (by omega) 4 1 (by omega) (by omega) (List.length_pos_iff.2 (dd_ne _))
  refine ⟨n, by rw [List.length_append]; omega, by omega, fun k => ?_⟩
  unfold record_Write.f
  rw [check_ok R (k + 9), Option.bind_some, if_pos rfl]
  have e32 : (⟨#[32]⟩ : ByteArray) = ⟨[32].toArray⟩ := rfl
  have e61 : (⟨#[61]⟩ : ByteArray) = ⟨[61].toArray⟩ := rfl
  have e10 : (⟨#[10]⟩ : ByteArray) = ⟨[10].toArray⟩ := rfl
  have hr : [32] ++ K ++ [61] ++ V ++ [10] = restOf K V := by simp [restOf]
  rw [e32, e61, e10, mk_app, mk_app, mk_app, mk_app, hr, mk_size, mk_size, mk_size, mk_size, mk_size, mk_size]
  simp only [List.length_append, List.length_singleton]
  rw [if_pos (by omega), if_pos (by omega), if_pos (by omega), if_pos (by omega), w64 (by omega) (by omega), show ((restOf K V).length : Int) + 1 = (((restOf K V).length + 1 : Nat) : Int) by omega]
  exact n3 (k + 10) (by omega)
theorem write_spec {K V : List UInt8} (R : Rec K V) (k : Nat) : ∃ n, (Lib.decDigits n ++ restOf K V).length = n ∧ n ≤ 700 ∧ record_Write.f (k + 10) ⟨K.toArray⟩ ⟨V.toArray⟩ = some (⟨(Lib.decDigits n ++ restOf K V).toArray⟩, 0) := by
  obtain ⟨n, h1, h2, h3⟩ := write_all R
  exact ⟨n, h1, h2, h3 k⟩
theorem recorded_rec {m : Nat} {V : List UInt8} (hm : m ≤ 49) (h0 : (0 : UInt8) ∉ V) (hV : V.length ≤ 480) : Rec (107 :: List.replicate m 121) V := by
  have hb : ∀ b ∈ (107 :: List.replicate m 121 : List UInt8), b = 107 ∨ b = 121 := by
    intro b hb
    rcases List.mem_cons.1 hb with h | h
    · exact .inl h
    · exact .inr (List.eq_of_mem_replicate h)
  refine ⟨by simp, by simp; omega, by omega, fun b h => ?_, fun b h => ?_, h0⟩
  · rcases hb b h with h | h <;> rw [h] <;> decide
  · rcases hb b h with h | h <;> rw [h] <;> decide

theorem bt_list (s : ByteArray) (i : Int) (h : i.toNat < s.size) : bt s i = ((s.data.toList.getD i.toNat 0).toNat : Int) := by
  unfold bt
  rw [dif_pos h]
  have hl : i.toNat < s.data.toList.length := by rw [size_list]; exact h
  rw [List.getD_eq_getElem?_getD, List.getElem?_eq_getElem hl]
  rfl
theorem bt_nums (l : List Int) (i : Int) (h : i.toNat < l.length) (hr : 0 ≤ l.getD i.toNat 0 ∧ l.getD i.toNat 0 ≤ 255) : bt (strOfNums l) i = l.getD i.toNat 0 := by
  rw [bt_list _ _ (by rw [strOfNums_size]; exact h), strOfNums_data]
  rw [List.getD_eq_getElem?_getD, List.getElem?_map]
  rw [List.getD_eq_getElem?_getD] at hr ⊢
  rw [List.getElem?_eq_getElem h] at hr ⊢
  simp only [Option.map_some, Option.getD_some] at hr ⊢
  have : (UInt8.ofNat l[i.toNat].toNat).toNat = l[i.toNat].toNat := by
    rw [UInt8.toNat_ofNat']
    omega
  omega

theorem decFrom_app (l : List UInt8) (b : UInt8) : ∀ acc, Lib.decFrom acc (l ++ [b]) = (Lib.decFrom acc l).bind fun m => (Lib.digitVal b).map fun d => m * 10 + d := by
  induction l with
  | nil => intro acc; simp only [List.nil_append, Lib.decFrom, Option.bind_some]; cases Lib.digitVal b <;> rfl
  | cons x l ih =>
    intro acc
    simp only [List.cons_append, Lib.decFrom]
    cases Lib.digitVal x with
    | none => rfl
    | some d => exact ih _
theorem decFrom_dd (u : Nat) : Lib.decFrom 0 (Lib.decDigits u) = some u := by
  induction u using Nat.strongRecOn with
  | _ u ih =>
    have hv : ∀ d, d < 10 → Lib.digitVal (UInt8.ofNat (48 + d)) = some d := by
      intro d hd
      unfold Lib.digitVal
      rw [of48 hd, if_pos (by omega)]
      congr 1
      omega
    by_cases h : u < 10
    · rw [dd_small h]
      simp only [Lib.decFrom, hv u h]
      congr 1
      omega
    · rw [dd_big h, decFrom_app, ih (u / 10) (by omega), hv _ (by omega), Option.bind_some, Option.map_some]
      congr 1
      omega
theorem atoi_dd (u : Nat) : Lib.atoi (Lib.decDigits u) = some (u : Int) := by
  have hn : Lib.decNat (Lib.decDigits u) = some u := by
    unfold Lib.decNat
    rw [if_neg (by simpa using dd_ne u), decFrom_dd]
  cases h : Lib.decDigits u with
  | nil => exact absurd h (dd_ne u)
  | cons b r =>
    have hb := dd_digit u b (by rw [h]; simp)
    have h45 : ¬ (b == 45) = true := by rw [beq_iff_eq]; intro e; rw [e] at hb; exact absurd hb.1 (by decide)
    have h43 : ¬ (b == 43) = true := by rw [beq_iff_eq]; intro e; rw [e] at hb; exact absurd hb.1 (by decide)
    rw [h] at hn
    simp only [Lib.atoi]
    rw [if_neg h45, if_neg h43, hn]
    rfl
theorem atoi_spec (u : Nat) (h : (Lib.decDigits u).length ≤ 18) : strconv_Atoi.f ⟨(Lib.decDigits u).toArray⟩ = some ((u : Int), none) := by
  unfold strconv_Atoi.f
  rw [mk_size, if_pos h, mk_list, atoi_dd]
theorem trim_digits (l : List UInt8) (hl : l.length ≤ 1000) (h : ∀ b ∈ l, 48 ≤ b.toNat ∧ b.toNat ≤ 57) : strings_Trim.f ⟨l.toArray⟩ (⟨#[48, 49, 50, 51, 52, 53, 54, 55, 56, 57]⟩ : ByteArray) = some ⟨([] : List UInt8).toArray⟩ := by
  unfold strings_Trim.f
  rw [if_neg (by decide), mk_size, if_pos (by omega), if_pos (by decide), if_pos (by decide), mk_list]
  have hc : ∀ b ∈ l, ([48, 49, 50, 51, 52, 53, 54, 55, 56, 57] : List UInt8).contains b = true := by
    intro b hb
    have h1 := h b hb
    rw [List.contains_iff_mem]
    have : b.toNat = 48 ∨ b.toNat = 49 ∨ b.toNat = 50 ∨ b.toNat = 51 ∨ b.toNat = 52 ∨ b.toNat = 53 ∨ b.toNat = 54 ∨ b.toNat = 55 ∨ b.toNat = 56 ∨ b.toNat = 57 := by omega
    have he : ∀ c : UInt8, b.toNat = c.toNat → b = c := fun c hc => UInt8.toNat_inj.1 hc
    rcases this with q | q | q | q | q | q | q | q | q | q
    · rw [he 48 q]; decide
    · rw [he 49 q]; decide
    · rw [he 50 q]; decide
    · rw [he 51 q]; decide
    · rw [he 52 q]; decide
    · rw [he 53 q]; decide
    · rw [he 54 q]; decide
    · rw [he 55 q]; decide
    · rw [he 56 q]; decide
    · rw [he 57 q]; decide
  have hk : (⟨#[48, 49, 50, 51, 52, 53, 54, 55, 56, 57]⟩ : ByteArray).data.toList = [48, 49, 50, 51, 52, 53, 54, 55, 56, 57] := rfl
  have ht : Lib.trimS l [48, 49, 50, 51, 52, 53, 54, 55, 56, 57] = [] := by
    unfold Lib.trimS Lib.trimLeftS Lib.trimRightS
    have : l.reverse.dropWhile (([48, 49, 50, 51, 52, 53, 54, 55, 56, 57] : List UInt8).contains ·) = [] := by
      rw [dw_nil]
      intro x hx
      exact hc x (by simpa using hx)
    rw [this]
    rfl
  rw [hk, ht]
theorem read1_spec (e : Int) : record_Read_1.f e = some ((⟨#[]⟩ : ByteArray), (⟨#[]⟩ : ByteArray), (⟨#[]⟩ : ByteArray), e) := rfl
/-- The head of a record that is read. -/
theorem read_head (n : Nat) (x : List UInt8) (r : List UInt8) (hx : x = Lib.decDigits n ++ 32 :: r) (hn : 0 < n) (h3 : n ≤ 700) (hs : x.length < 4294967281) (k : Nat) :
    record_Read.f k ⟨x.toArray⟩ = record_Read.j0 k ⟨x.toArray⟩ ⟨(Lib.decDigits n).toArray⟩ false := by
  have no32 : (32 : UInt8) ∉ Lib.decDigits n := fun h => absurd (dd_digit n 32 h).1 (by decide)
  have hcut : Lib.cut x [32] = (Lib.decDigits n, r, true) := by
    unfold Lib.cut
    rw [Lib.index_one, hx, idx_at _ _ _ no32, if_pos (by omega)]
    simp [List.drop_append]
  have hl := dd_len 2 n (by omega)
  have hp := List.length_pos_iff.2 (dd_ne n)
  unfold record_Read.f strings_Cut.f
  have e32 : (⟨#[32]⟩ : ByteArray).data.toList = [32] := rfl
  rw [mk_size, if_pos hs, e32, mk_list, hcut, Option.bind_some]
  dsimp only
  obtain ⟨b, q, hb, hne⟩ := dd_head n hn
  have h0 : bt ⟨(Lib.decDigits n).toArray⟩ 0 ≠ 48 := by
    rw [bt_list _ _ (by rw [mk_size]; exact hp), mk_list, hb]
    intro e
    apply hne
    apply UInt8.toNat_inj.1
    have : (48 : UInt8).toNat = 48 := rfl
    have e' : ((b.toNat : Nat) : Int) = 48 := e
    omega
  rw [if_pos rfl, mk_size, if_neg (by omega), if_neg (by omega), if_pos (by omega), if_neg h0, trim_digits _ (by omega) (dd_digit n), Option.bind_some, toList_mk]
  rfl
theorem read_ok {K V : List UInt8} (R : Rec K V) (n : Nat) (M : List UInt8) (hn : (Lib.decDigits n ++ restOf K V).length = n) (h7 : n ≤ 700) (hM : M.length ≤ 2000000) (hw : ∀ k, record_Write.f (k + 10) ⟨K.toArray⟩ ⟨V.toArray⟩ = some (⟨(Lib.decDigits n ++ restOf K V).toArray⟩, 0)) (k : Nat) :
    record_Read.f (k + 20) ⟨(Lib.decDigits n ++ restOf K V ++ M).toArray⟩ = some (⟨K.toArray⟩, ⟨V.toArray⟩, ⟨M.toArray⟩, 0) := by
  have hr := rest_len K V
  have hl := dd_len 2 n (by omega)
  have hp := List.length_pos_iff.2 (dd_ne n)
  have hnl : (Lib.decDigits n).length + (K.length + V.length + 3) = n := by rw [List.length_append] at hn; omega
  have hsz : (Lib.decDigits n ++ restOf K V ++ M).length = n + M.length := by rw [List.length_append, hn]
  rw [read_head n _ (K ++ 61 :: (V ++ [10]) ++ M) (by simp [restOf]) (by omega) h7 (by omega)]
  rw [record_Read.j0, if_neg (by simp), atoi_spec n (by omega), Option.bind_some]
  dsimp only
  have hx : Lib.decDigits n ++ restOf K V ++ M = (Lib.decDigits n ++ 32 :: (K ++ 61 :: V)) ++ (10 :: M) := by simp [restOf]
  have hlen : (Lib.decDigits n ++ 32 :: (K ++ 61 :: V)).length = n - 1 := by
    simp only [List.length_append, List.length_cons]; omega
  have hb10 : bt ⟨(Lib.decDigits n ++ restOf K V ++ M).toArray⟩ ((n : Int) - 1) = 10 := by
    rw [bt_list _ _ (by rw [mk_size, hsz]; omega), mk_list, hx, show ((n : Int) - 1).toNat = n - 1 by omega, ← hlen]
    rw [List.getD_eq_getElem?_getD, List.getElem?_append_right (Nat.le_refl _), Nat.sub_self]
    rfl
  rw [mk_size, mk_size, hsz, if_neg (by omega), w64 (by omega) (by omega), if_neg (by omega), w64 (n := (n : Int) - 1) (by omega) (by omega), if_pos (by omega), if_pos (by omega), hb10]
  rw [record_Read.j1, if_neg (by simp), mk_size, mk_size, hsz, w64 (by omega) (by omega), w64 (n := (n : Int) - 1) (by omega) (by omega), if_pos (by omega), if_pos (by omega), if_pos (by omega)]
  have hmid : (⟨(Lib.decDigits n ++ restOf K V ++ M).toArray⟩ : ByteArray).extract (((Lib.decDigits n).length : Int) + 1).toNat ((n : Int) - 1).toNat = ⟨(K ++ 61 :: V).toArray⟩ := by
    apply bytes_ext
    rw [Lib.extract_data, mk_list, mk_list, show (((Lib.decDigits n).length : Int) + 1).toNat = (Lib.decDigits n).length + 1 by omega, show ((n : Int) - 1).toNat = n - 1 by omega]
    have e1 : Lib.decDigits n ++ restOf K V ++ M = (Lib.decDigits n ++ [32]) ++ ((K ++ 61 :: V) ++ (10 :: M)) := by simp [restOf]
    rw [e1, List.drop_left' (by simp)]
    exact List.take_left' (by simp only [List.length_append, List.length_cons]; omega)
  have no61 : (61 : UInt8) ∉ K := fun h => (R.key 61 h).1 rfl
  have hcut : Lib.cut (K ++ 61 :: V) [61] = (K, V, true) := by
    unfold Lib.cut
    rw [Lib.index_one, idx_at _ _ _ no61, if_pos (by omega)]
    simp [List.drop_append]
  have hk := R.k2
  have hv := R.v2
  rw [hmid]
  unfold strings_Cut.f
  have e61 : (⟨#[61]⟩ : ByteArray).data.toList = [61] := rfl
  rw [mk_size, if_pos (by simp only [List.length_append, List.length_cons]; omega), e61, mk_list, hcut, Option.bind_some]
  dsimp only
  rw [if_pos rfl, check_ok R (k + 17), Option.bind_some, if_pos rfl, show k + 18 = (k + 8) + 10 from by omega, hw (k + 8), Option.bind_some]
  dsimp only
  have htk : ((⟨(Lib.decDigits n ++ restOf K V ++ M).toArray⟩ : ByteArray).extract 0 (n : Int).toNat).toList = Lib.decDigits n ++ restOf K V := by
    rw [ByteArray.toList_eq, ext_take, mk_list, Int.toNat_natCast]
    exact List.take_left' hn
  have hdr : (⟨(Lib.decDigits n ++ restOf K V ++ M).toArray⟩ : ByteArray).extract (n : Int).toNat (n + M.length) = ⟨M.toArray⟩ := by
    apply bytes_ext
    have h1 := ext_drop ⟨(Lib.decDigits n ++ restOf K V ++ M).toArray⟩ n
    rw [mk_size, hsz, mk_list] at h1
    rw [Int.toNat_natCast, h1, mk_list]
    exact List.drop_left' hn
  rw [if_pos (by omega), if_pos (by omega), htk, toList_mk, if_pos rfl, hdr]

theorem RecordBack : creelkeep_RecordBack.Pure := by
  intro a0 a1 a2 s more w0 w1 w2 hs hmore
  obtain ⟨m, V, hm, h0, hV, hr⟩ := recorded_spec a0 a1 a2 s w1 w2 hs
  have R := recorded_rec hm h0 hV
  have hw : ∃ n, (Lib.decDigits n ++ restOf (107 :: List.replicate m 121) V).length = n ∧ n ≤ 700 ∧ ∀ k, record_Write.f (k + 10) ⟨(107 :: List.replicate m 121 : List UInt8).toArray⟩ ⟨V.toArray⟩ = some (⟨(Lib.decDigits n ++ restOf (107 :: List.replicate m 121) V).toArray⟩, 0) := write_all R
  obtain ⟨n, hn, hn7, hw⟩ := hw
  have hrd := read_ok R n more.data.toList hn hn7 (by rw [size_list]; omega) hw 0
  refine ⟨0 + 20, ?_⟩
  unfold creelkeep_RecordBack.f
  rw [hr, Option.bind_some]
  dsimp only
  rw [show 0 + 20 = 10 + 10 from rfl, hw 10, Option.bind_some]
  dsimp only
  have happ : (⟨(Lib.decDigits n ++ restOf (107 :: List.replicate m 121) V).toArray⟩ : ByteArray) ++ more = ⟨(Lib.decDigits n ++ restOf (107 :: List.replicate m 121) V ++ more.data.toList).toArray⟩ := by
    apply bytes_ext; rw [app_list, mk_list, mk_list]
  rw [mk_size, hn, if_pos (by omega), happ, show 10 + 10 = 0 + 20 from rfl, hrd, Option.bind_some]
  dsimp only
  have hne : Lib.decDigits n ++ restOf (107 :: List.replicate m 121) V ≠ [] := by simp [restOf]
  rw [if_pos rfl, if_pos rfl, if_pos (by simp), toList_mk, toList_mk, ← ByteArray.toList_eq, if_pos]
  · simp [hne]
  · rw [ByteArray.toList_eq]

end Go.Proofs.YthonjghpblkpgaaDoor.Pure
