/- A single star as a part matches any one part, and two stars match any number of parts: for all raw things and numbers (second form: what it reads is of bulk at most 1048576). -/
import Derived.Test.YthonjghpblkpgaaDoorPGlobStarsx6
import Derived.OpenShut
import Derived.Lib.SplitLaws
import Derived.Lib.IndexBytes
import Derived.Lib.TrimByte
import Derived.Lib.Strings
import Derived.Lib.SmallJoins
namespace Go.Proofs.YthonjghpblkpgaaDoor.Pure
open Go.RowKit Go.Proofs.YthonjghpblkpgaaDoor.PGlobStars Go.Proofs.YthonjghpblkpgaaDoorW.PrintWords Go.Proofs.YthonjghpblkpgaaDoorW.PrintLast Go.Proofs.YthonjghpblkpgaaDoorW.PrintMore
set_option linter.unusedVariables false
set_option linter.unusedSimpArgs false

theorem w64 {n : Int} (h1 : -9223372036854775808 ≤ n) (h2 : n ≤ 9223372036854775807) : wrap64 n = n := by
  unfold wrap64
  omega

theorem app_list (a b : ByteArray) : (a ++ b).data.toList = a.data.toList ++ b.data.toList := by
  rw [ByteArray.data_append, Array.toList_append]
theorem size_list (a : ByteArray) : a.data.toList.length = a.size := by
  rw [Array.length_toList]; rfl
theorem bytes_ext {a b : ByteArray} (h : a.data.toList = b.data.toList) : a = b := by
  cases a; cases b; simp_all [← Array.toList_inj]

theorem idx_none : ∀ (t : List UInt8) (c : UInt8), c ∉ t → Lib.indexByte t c = -1
  | [], _, _ => rfl
  | b :: t, c, h => by
    have hb : (b == c) = false := by rw [beq_eq_false_iff_ne]; intro e; exact h (by simp [e])
    have ih := idx_none t c (fun hm => h (by simp [hm]))
    simp [Lib.indexByte, hb, ih]
theorem idx_at : ∀ (t r : List UInt8) (c : UInt8), c ∉ t → Lib.indexByte (t ++ c :: r) c = t.length
  | [], r, c, _ => by simp [Lib.indexByte]
  | b :: t, r, c, h => by
    have hb : (b == c) = false := by rw [beq_eq_false_iff_ne]; intro e; exact h (by simp [e])
    have ih := idx_at t r c (fun hm => h (by simp [hm]))
    have hn : ((t.length : Int) == -1) = false := by rw [beq_eq_false_iff_ne]; omega
    simp [Lib.indexByte, hb, ih, hn]
theorem idx_split (l : List UInt8) (c : UInt8) : ∃ t r, l = t ++ r ∧ c ∉ t ∧ (r = [] ∨ ∃ r', r = c :: r') := by
  induction l with
  | nil => exact ⟨[], [], rfl, by simp, .inl rfl⟩
  | cons b l ih =>
    by_cases e : b = c
    · exact ⟨[], b :: l, rfl, by simp, .inr ⟨l, by rw [e]⟩⟩
    · obtain ⟨t, r, h1, h2, h3⟩ := ih
      exact ⟨b :: t, r, by rw [h1]; rfl, by simp [Ne.symm e, h2], h3⟩
theorem repeat_one (c : UInt8) : ∀ n, Lib.repeatL [c] n = List.replicate n c
  | 0 => rfl
  | n + 1 => by simp [Lib.repeatL, repeat_one c n, List.replicate_succ]
theorem mk_list (l : List UInt8) : (⟨l.toArray⟩ : ByteArray).data.toList = l := by simp
theorem mk_size (l : List UInt8) : (⟨l.toArray⟩ : ByteArray).size = l.length := by rw [← size_list, mk_list]
theorem is_mk (s : ByteArray) : s = ⟨s.data.toList.toArray⟩ := by cases s; simp
theorem mk_inj {a b : List UInt8} : (⟨a.toArray⟩ : ByteArray) = ⟨b.toArray⟩ ↔ a = b := ⟨fun h => by have := congrArg (fun x : ByteArray => x.data.toList) h; simpa using this, fun h => by rw [h]⟩
theorem dw_nil (p : UInt8 → Bool) : ∀ l : List UInt8, l.dropWhile p = [] ↔ ∀ x ∈ l, p x = true
  | [] => by simp
  | a :: l => by
    by_cases h : p a = true
    · rw [List.dropWhile_cons_of_pos h, dw_nil p l]; simp [h]
    · rw [List.dropWhile_cons_of_neg h]; simp [h]
theorem trim_zero (r : List UInt8) (c : UInt8) : Lib.trimB r c = [] ↔ ∀ x ∈ r, x = c := by
  unfold Lib.trimB Lib.trimLeftB Lib.trimRightB
  constructor
  · intro h x hx
    have h1 : ∀ y ∈ (r.reverse.dropWhile (· == c)).reverse, (y == c) = true := by
      rw [dw_nil] at h
      exact h
    have h2 : r.reverse.dropWhile (· == c) = [] := by
      cases hd : r.reverse.dropWhile (· == c) with
      | nil => rfl
      | cons a l =>
        have ha := h1 a (by rw [hd]; simp)
        have := List.head?_dropWhile_not (· == c) r.reverse
        rw [hd] at this
        simp [ha] at this
    rw [dw_nil] at h2
    exact eq_of_beq (h2 x (by simpa using hx))
  · intro h
    have h2 : r.reverse.dropWhile (· == c) = [] := by
      rw [dw_nil]
      intro x hx
      exact beq_iff_eq.2 (h x (by simpa using hx))
    rw [h2]
    rfl
theorem toList_mk (l : List UInt8) : (⟨l.toArray⟩ : ByteArray).toList = l := by rw [ByteArray.toList_eq, mk_list]

def cutL (c : UInt8) : List UInt8 → List (List UInt8)
  | [] => [[]]
  | b :: l => if b = c then [] :: cutL c l else match cutL c l with
    | [] => [[b]]
    | t :: r => (b :: t) :: r
theorem cutL_ne (c : UInt8) : ∀ l, cutL c l ≠ []
  | [] => by simp [cutL]
  | b :: l => by unfold cutL; split; · simp
                 · split <;> simp
theorem cutL_app (c : UInt8) (v : List UInt8) : ∀ u, cutL c (u ++ c :: v) = cutL c u ++ cutL c v
  | [] => by simp [cutL]
  | b :: u => by
    rw [List.cons_append, cutL, cutL, cutL_app c v u]
    by_cases h : b = c
    · rw [if_pos h, if_pos h]; rfl
    · rw [if_neg h, if_neg h]
      cases e : cutL c u with
      | nil => exact absurd e (cutL_ne c u)
      | cons t r => rfl
theorem cutL_none (c : UInt8) : ∀ u, c ∉ u → cutL c u = [u]
  | [], _ => rfl
  | b :: u, h => by
    have hb : b ≠ c := fun e => h (by simp [e])
    rw [cutL, if_neg hb, cutL_none c u (fun hm => h (by simp [hm]))]
def joinL (c : UInt8) : List (List UInt8) → List UInt8
  | [] => []
  | [t] => t
  | t :: s :: r => t ++ c :: joinL c (s :: r)
theorem joinL_cut (c : UInt8) : ∀ l, joinL c (cutL c l) = l
  | [] => rfl
  | b :: l => by
    have ih := joinL_cut c l
    rw [cutL]
    by_cases h : b = c
    · rw [if_pos h]
      cases e : cutL c l with
      | nil => exact absurd e (cutL_ne c l)
      | cons t r => rw [e] at ih; rw [joinL, ih, h]; rfl
    · rw [if_neg h]
      cases e : cutL c l with
      | nil => exact absurd e (cutL_ne c l)
      | cons t r =>
        rw [e] at ih
        cases r with
        | nil => simp only [joinL] at ih ⊢; rw [ih]
        | cons s r => simp only [joinL] at ih ⊢; rw [List.cons_append, ih]
theorem cutL_inj (c : UInt8) {a b : List UInt8} (h : cutL c a = cutL c b) : a = b := by
  rw [← joinL_cut c a, h, joinL_cut]
theorem splitK_cut (c : UInt8) : ∀ (n : Nat) (l : List UInt8), l.length ≤ n → Lib.splitK [c] 0 (l.count c) l = cutL c l := by
  intro n
  induction n with
  | zero => intro l h; have : l = [] := List.eq_nil_of_length_eq_zero (by omega); subst this; rfl
  | succ n ih =>
    intro l h
    obtain ⟨t, r, h1, h2, h3⟩ := idx_split l c
    subst h1
    rcases h3 with h3 | ⟨r', h3⟩
    · subst h3
      rw [List.append_nil, List.count_eq_zero_of_not_mem h2, cutL_none c t h2]; rfl
    · subst h3
      have hc : (t ++ c :: r').count c = r'.count c + 1 := by
        rw [List.count_append, List.count_eq_zero_of_not_mem h2, List.count_cons_self]; omega
      have hi : Lib.index (t ++ c :: r') [c] = t.length := by rw [Lib.index_one, idx_at t r' c h2]
      have hm : ¬ ((Lib.index (t ++ c :: r') [c] == -1) = true) := by rw [beq_iff_eq, hi]; omega
      have hx : r'.length ≤ n := by simp at h; omega
      rw [hc, Lib.splitK, if_neg hm, hi, cutL_app, cutL_none c t h2]
      have e1 : (t ++ c :: r').take ((t.length : Int).toNat + 0) = t := by simp
      have e2 : (t ++ c :: r').drop ((t.length : Int).toNat + [c].length) = r' := by simp [List.drop_append]
      rw [e1, e2, ih r' hx]
      rfl
theorem splitB_cut (c : UInt8) (s : ByteArray) : (Lib.splitB ⟨#[c]⟩ 0 (Lib.countB s ⟨#[c]⟩) s).map (·.data.toList) = cutL c s.data.toList := by
  rw [Lib.splitB_data]
  have : Lib.countB s ⟨#[c]⟩ = s.data.toList.count c := Lib.count_one c s.data.toList
  rw [this]
  exact splitK_cut c _ _ (Nat.le_refl _)

structure Tot {α : Type} (c : α → α → Int) : Prop where
  neg : ∀ a b, c b a = - c a b
  zero : ∀ a b, c a b = 0 ↔ a = b
  tr : ∀ a b d, c a b ≤ 0 → c b d ≤ 0 → c a d ≤ 0
  rng : ∀ a b, c a b = -1 ∨ c a b = 0 ∨ c a b = 1
def lexC {α : Type} (c : α → α → Int) : List α → List α → Int
  | [], [] => 0
  | [], _ :: _ => -1
  | _ :: _, [] => 1
  | a :: x, b :: y => if c a b = 0 then lexC c x y else c a b
theorem lex_tot {α : Type} {c : α → α → Int} (T : Tot c) : Tot (lexC c) := by
  have rng : ∀ x y : List α, lexC c x y = -1 ∨ lexC c x y = 0 ∨ lexC c x y = 1 := by
    intro x
    induction x with
    | nil => intro y; cases y <;> simp [lexC]
    | cons a x ih =>
      intro y
      cases y with
      | nil => simp [lexC]
      | cons b y => rw [lexC]; split; · exact ih y
                    · exact T.rng a b
  have neg : ∀ x y : List α, lexC c y x = - lexC c x y := by
    intro x
    induction x with
    | nil => intro y; cases y <;> simp [lexC]
    | cons a x ih =>
      intro y
      cases y with
      | nil => simp [lexC]
      | cons b y =>
        rw [lexC, lexC, T.neg a b]
        by_cases h : c a b = 0
        · rw [if_pos h, if_pos (by omega), ih]
        · rw [if_neg h, if_neg (by omega)]
  have zero : ∀ x y : List α, lexC c x y = 0 ↔ x = y := by
    intro x
    induction x with
    | nil => intro y; cases y <;> simp [lexC]
    | cons a x ih =>
      intro y
      cases y with
      | nil => simp [lexC]
      | cons b y =>
        rw [lexC]
        by_cases h : c a b = 0
        · rw [if_pos h, ih]; simp [(T.zero a b).1 h]
        · rw [if_neg h]
          constructor
          · intro h'; exact absurd h' h
          · intro h'; injection h' with h1 h2; exact (T.zero a b).2 h1
  refine ⟨neg, zero, ?_, rng⟩
  intro x
  induction x with
  | nil => intro y z _ _; cases z <;> simp [lexC]
  | cons a x ih =>
    intro y z h1 h2
    cases y with
    | nil => simp [lexC] at h1
    | cons b y =>
      cases z with
      | nil => simp [lexC] at h2
      | cons d z =>
        rw [lexC] at h1 h2 ⊢
        by_cases e1 : c a b = 0
        · rw [if_pos e1] at h1
          have hab := (T.zero a b).1 e1
          subst hab
          by_cases e2 : c a d = 0
          · rw [if_pos e2] at h2 ⊢; exact ih y z h1 h2
          · rw [if_neg e2] at h2 ⊢; exact h2
        · rw [if_neg e1] at h1
          by_cases e2 : c b d = 0
          · have hbd := (T.zero b d).1 e2
            subst hbd
            rw [if_neg e1]; exact h1
          · rw [if_neg e2] at h2
            have h3 := T.tr a b d h1 h2
            by_cases e3 : c a d = 0
            · have had := (T.zero a d).1 e3
              subst had
              have := T.neg a b
              omega
            · rw [if_neg e3]; exact h3
def cU (a b : UInt8) : Int := if a < b then -1 else if b < a then 1 else 0
theorem cU_tot : Tot cU := by
  have e : ∀ a b : UInt8, (a < b ↔ a.toNat < b.toNat) ∧ (a = b ↔ a.toNat = b.toNat) := fun a b => ⟨UInt8.lt_iff_toNat_lt, ⟨fun h => by rw [h], UInt8.toNat_inj.1⟩⟩
  refine ⟨fun a b => ?_, fun a b => ?_, fun a b d => ?_, fun a b => ?_⟩
  all_goals simp only [cU, (e _ _).1, (e _ _).2]
  all_goals repeat' split
  all_goals omega
theorem less_lex : ∀ x y : List UInt8, Op.bytesLess x y = decide (lexC cU x y < 0)
  | [], [] => by simp [Op.bytesLess, lexC]
  | [], _ :: _ => by simp [Op.bytesLess, lexC]
  | _ :: _, [] => by simp [Op.bytesLess, lexC]
  | a :: x, b :: y => by
    rw [Op.bytesLess, less_lex x y, lexC]
    by_cases h : a < b
    · have : cU a b = -1 := by simp [cU, h]
      simp [h, this]
    · by_cases h' : a = b
      · subst h'; have : cU a a = 0 := (cU_tot.zero a a).2 rfl
        simp [h, this]
      · have : cU a b = 1 := by
          rcases cU_tot.rng a b with q | q | q
          · simp only [cU, h, if_false] at q; split at q <;> simp at q
          · exact absurd ((cU_tot.zero a b).1 q) h'
          · exact q
        simp [h, h', this]

def partsL (l : List UInt8) : List (List UInt8) := if l = [] then [] else cutL 47 l
theorem parts_spec (a : ByteArray) (h : a.size < 4294967281) : ∃ P : List ByteArray, path_Parts.f a = some P ∧ P.map (·.data.toList) = partsL a.data.toList ∧ P.length ≤ a.size + 1 := by
  unfold path_Parts.f strings_Split.f partsL
  rw [ByteArray.toList_eq]
  by_cases e : a.data.toList = []
  · rw [if_pos e, if_pos e]; exact ⟨[], rfl, rfl, by simp⟩
  · rw [if_neg e, if_neg e, if_pos (by decide), if_pos h]
    refine ⟨_, rfl, splitB_cut 47 a, ?_⟩
    refine Nat.le_trans (Lib.splitB_length_le _ _ _ _) ?_
    have := Lib.countB_le ⟨#[47]⟩ (by decide) a.size a (Nat.le_refl _)
    omega

theorem picked_spec {a m : Int} (hw : (Lit.int .i64 a).wf = true) (hm : 0 < m) : ∃ t, creelkeep_picked.f a m = some t ∧ 0 ≤ t ∧ t < m := by
  obtain ⟨h1, h2⟩ := bounds_i64 hw
  unfold creelkeep_picked.f
  have e : ¬ m = 0 := by omega
  by_cases h : a < 0
  · rw [if_pos h, if_neg e, w64 (n := a + 1) (by omega) (by omega), w64 (by omega) (by omega)]
    exact ⟨_, rfl, Int.tmod_nonneg _ (by omega), Int.tmod_lt_of_pos _ hm⟩
  · rw [if_neg h, if_neg e]
    exact ⟨_, rfl, Int.tmod_nonneg _ (by omega), Int.tmod_lt_of_pos _ hm⟩

/-- A text without a byte 0: each is '0' instead. -/
def noz (l : List UInt8) : List UInt8 := l.map fun b => if b = 0 then 48 else b
theorem noz_free (l : List UInt8) : (0 : UInt8) ∉ noz l := by
  intro h
  simp only [noz, List.mem_map] at h
  obtain ⟨b, _, hb⟩ := h
  by_cases e : b = 0
  · rw [if_pos e] at hb; cases hb
  · rw [if_neg e] at hb; exact e hb
theorem replaceK_noz : ∀ (k : Nat) (l : List UInt8), l.count 0 ≤ k → Lib.replaceK [0] [48] k l = noz l
  | 0, l, h => by
    have hn : (0 : UInt8) ∉ l := by
      rw [← List.count_eq_zero]; omega
    simp only [Lib.replaceK, noz]
    symm
    rw [List.map_congr_left (g := id) (fun b hb => by rw [if_neg (fun e : b = 0 => hn (e ▸ hb))]; rfl)]
    simp
  | k + 1, l, h => by
    simp only [Lib.replaceK, Lib.index_one]
    obtain ⟨t, r, rfl, hn, rfl | ⟨r', rfl⟩⟩ := idx_split l 0
    · rw [List.append_nil, idx_none t 0 hn, if_pos (by decide)]
      have := replaceK_noz 0 t (by rw [List.count_eq_zero.2 hn]; omega)
      simpa [Lib.replaceK] using this
    · have hne : ((t.length : Int) == -1) = false := by rw [beq_eq_false_iff_ne]; omega
      rw [idx_at t r' 0 hn, hne]
      have e1 : ((t.length : Nat) : Int).toNat = t.length := by omega
      simp only [Bool.false_eq_true, if_false, e1, List.length_singleton, List.take_left]
      have e2 : (t ++ 0 :: r').drop (t.length + 1) = r' := by
        rw [← List.drop_drop, List.drop_left]; rfl
      rw [e2, replaceK_noz k r' (by rw [List.count_append, List.count_cons_self] at h; omega)]
      have ht : noz t = t := by
        have := replaceK_noz 0 t (by rw [List.count_eq_zero.2 hn]; omega)
        simpa [Lib.replaceK] using this.symm
      simp [noz] at ht ⊢
      exact ht.symm
theorem replaceAll_noz (l : List UInt8) : Lib.replaceAll l [0] [48] = noz l := by
  unfold Lib.replaceAll Lib.replace
  rw [if_neg (by decide)]
  apply replaceK_noz
  unfold Lib.replaceNum
  rw [if_pos (.inl (by decide)), Lib.count_one]
  exact Nat.le_refl _
theorem mn_spec (a b : Int) : mn a b = if a ≤ b then a else b := by
  unfold mn
  split <;> split <;> omega
theorem clean_spec (s : ByteArray) (m : Int) (hs : s.size ≤ 1048576) (h0 : 0 ≤ m) : ∃ l : List UInt8, creelkeep_clean.f s m = some ⟨l.toArray⟩ ∧ (0 : UInt8) ∉ l ∧ (l.length : Int) ≤ m ∧ l.length ≤ s.size := by
  unfold creelkeep_clean.f strings_ReplaceAll.f
  have hc := Lib.countB_le (⟨#[0]⟩ : ByteArray) (by decide) s.size s (Nat.le_refl _)
  have s1 : (⟨#[48]⟩ : ByteArray).size = 1 := rfl
  rw [if_pos (by omega), if_pos (by decide), if_pos (by rw [s1]; omega)]
  have k1 : (⟨#[0]⟩ : ByteArray).data.toList = [0] := rfl
  have k2 : (⟨#[48]⟩ : ByteArray).data.toList = [48] := rfl
  rw [k1, k2, replaceAll_noz]
  simp only [Option.bind_some]
  have hl : (noz s.data.toList).length = s.size := by rw [noz, List.length_map, size_list]
  rw [mk_size, hl, mn_spec]
  have e : (if (s.size : Int) ≤ m then (s.size : Int) else m) = ((min s.size m.toNat : Nat) : Int) := by split <;> omega
  rw [e, if_pos (by omega), if_pos (by omega)]
  have e2 : (((min s.size m.toNat : Nat) : Int)).toNat = min s.size m.toNat := by omega
  refine ⟨(noz s.data.toList).take (min s.size m.toNat), ?_, ?_, ?_, ?_⟩
  · rw [e2]
    congr 1
    apply bytes_ext
    rw [Lib.extract_data, mk_list, mk_list, List.drop_zero, Nat.sub_zero]
  · intro h
    exact noz_free _ (List.mem_of_mem_take h)
  · rw [List.length_take]; omega
  · rw [List.length_take]; omega

/-- What is known of one raw thing. -/
def RawOk (r : S23) : Prop := (Lit.int .i64 r.f0).wf = true ∧ (Lit.int .i64 r.f1).wf = true ∧ (Lit.int .i64 r.f2).wf = true ∧ r.f3.size ≤ 1048576
theorem repeat_ok (c : ByteArray) (q : Int) (hc : c.size ≤ 1000) (h0 : 0 ≤ q) (h1 : q ≤ 100000) : ∃ s, strings_Repeat.f c q = some s ∧ s.size = q.toNat * c.size := by
  have hm : c.size * q.toNat ≤ 1000 * 100000 := Nat.mul_le_mul hc (by omega)
  have : ∃ s, strings_Repeat.f c q = some s := by
    unfold strings_Repeat.f
    rw [if_pos h0, if_pos (by omega), if_pos (by omega)]
    exact ⟨_, rfl⟩
  obtain ⟨s, hs⟩ := this
  exact ⟨s, hs, (repeat_size hs).2⟩
theorem clean_ok (s : ByteArray) (m : Int) (hs : s.size ≤ 1048576) (h0 : 0 ≤ m) : ∃ c, creelkeep_clean.f s m = some c ∧ (c.size : Int) ≤ m := by
  obtain ⟨l, h1, _, h2, _⟩ := clean_spec s m hs h0
  exact ⟨_, h1, by rw [mk_size]; exact h2⟩
theorem names_ok : ∃ ns, creelkeep_names.f = some ns ∧ ns.length = 11 := by
  unfold creelkeep_names.f
  obtain ⟨a, h1, _⟩ := repeat_ok ⟨#[110]⟩ 60 (by decide) (by decide) (by decide)
  obtain ⟨b, h2, _⟩ := repeat_ok ⟨#[109]⟩ 130 (by decide) (by decide) (by decide)
  rw [h1, Option.bind_some, h2, Option.bind_some]
  exact ⟨_, rfl, rfl⟩
theorem meta_ok {r : S23} (h : RawOk r) : ∃ m, creelkeep_Meta.f r.f0 r.f1 r.f2 r.f3 = some m := by
  obtain ⟨w0, w1, w2, w3⟩ := h
  unfold creelkeep_Meta.f
  obtain ⟨x1, h1, _⟩ := picked_spec (m := 4096) w1 (by decide)
  obtain ⟨x2, h2, _⟩ := picked_spec (m := 3000) w2 (by decide)
  obtain ⟨x3, h3, _⟩ := picked_spec (m := 3000) w1 (by decide)
  obtain ⟨x4, h4, _⟩ := clean_ok r.f3 40 w3 (by decide)
  obtain ⟨x5, h5, _⟩ := picked_spec (m := 17179869184) w2 (by decide)
  obtain ⟨x6, h6, _⟩ := picked_spec (m := 9) w0 (by decide)
  obtain ⟨x7, h7, _⟩ := picked_spec (m := 1000000000) w1 (by decide)
  obtain ⟨x8, h8, _⟩ := picked_spec (m := 1125899906842625) w2 (by decide)
  obtain ⟨x9, h9, _⟩ := picked_spec (m := 1125899906842625) w1 (by decide)
  obtain ⟨y, hy, hy0, hy1⟩ := picked_spec (m := 61) w1 (by decide)
  obtain ⟨z, hz, _⟩ := repeat_ok ⟨#[103]⟩ y (by decide) hy0 (by omega)
  rw [h1, Option.bind_some, h2, Option.bind_some, h3, Option.bind_some, h4, Option.bind_some, h5, Option.bind_some, h6, Option.bind_some, h7, h8, h9, hy]
  simp only [Option.bind_some, hz]
  repeat' split
  all_goals exact ⟨_, rfl⟩
theorem node_ok {r : S23} (h : RawOk r) (p : ByteArray) : ∃ n, treeNode r p = some n ∧ n.f0 = p ∧ n.f5.length ≤ 1200 := by
  obtain ⟨w0, w1, w2, w3⟩ := h
  unfold treeNode
  obtain ⟨m, hm⟩ := meta_ok ⟨w0, w1, w2, w3⟩
  obtain ⟨c, hc, hc2⟩ := clean_ok r.f3 40 w3 (by decide)
  obtain ⟨q, hq, hq0, hq1⟩ := picked_spec (m := 30) w2 (by decide)
  obtain ⟨s, hs, hs2⟩ := repeat_ok c q (by omega) hq0 (by omega)
  rw [hm, Option.bind_some, hc, Option.bind_some, hq, Option.bind_some, hs, Option.bind_some]
  refine ⟨_, rfl, rfl, ?_⟩
  show (bytesOf s).length ≤ 1200
  rw [bytesOf_length, hs2]
  have : q.toNat * c.size ≤ 30 * 40 := Nat.mul_le_mul (by omega) (by omega)
  omega
/-- What holds of the nodes and the directories while the tree grows. -/
structure TOk (P : ByteArray → Prop) (t : List S116) (dirs : List ByteArray) : Prop where
  node : ∀ n ∈ t, P n.f0 ∧ n.f0.size ≤ 400 ∧ n.f5.length ≤ 1200
  nodup : (t.map (·.f0)).Nodup
  ne : dirs ≠ []
  dir : ∀ s ∈ dirs, s.size ≤ 400 ∧ (s.toList = [] ∨ P s)
def Grows (P : ByteArray → Prop) : Prop := ∀ ns, creelkeep_names.f = some ns → ∀ nm ∈ ns, P nm ∧ ∀ p, P p → P (p ++ ⟨#[47]⟩ ++ nm)
theorem path_ok {P : ByteArray → Prop} (hP : Grows P) {r : S23} (h : RawOk r) {t : List S116} {dirs : List ByteArray} (hT : TOk P t dirs) : ∃ p, treePath r dirs = some p ∧ P p := by
  obtain ⟨w0, w1, w2, w3⟩ := h
  unfold treePath
  have hd : 0 < dirs.length := by
    cases hh : dirs with
    | nil => exact absurd hh hT.ne
    | cons _ _ => simp
  obtain ⟨i, hi, hi0, hi1⟩ := picked_spec (m := (dirs.length : Int)) w2 (by omega)
  obtain ⟨ns, hns, hnl⟩ := names_ok
  obtain ⟨j, hj, hj0, hj1⟩ := picked_spec (m := (ns.length : Int)) w1 (by omega)
  rw [hi, Option.bind_some, if_pos ⟨hi0, hi1⟩, hns, Option.bind_some, hj, Option.bind_some, if_pos ⟨hj0, hj1⟩]
  have hm1 : rdOf ByteArray.empty dirs i ∈ dirs := by
    unfold rdOf; rw [List.getD_eq_getElem?_getD, List.getElem?_eq_getElem (by omega)]; exact List.getElem_mem _
  have hm2 : rdOf ByteArray.empty ns j ∈ ns := by
    unfold rdOf; rw [List.getD_eq_getElem?_getD, List.getElem?_eq_getElem (by omega)]; exact List.getElem_mem _
  obtain ⟨p1, p2⟩ := hP ns hns _ hm2
  split
  · exact ⟨_, rfl, p1⟩
  · rename_i hz
    exact ⟨_, rfl, p2 _ ((hT.dir _ hm1).2.resolve_left hz)⟩
theorem nodup_app {t : List S116} {n : S116} (h : (t.map (·.f0)).Nodup) (hn : ¬ t.any (fun x => x.f0.toList == n.f0.toList) = true) : ((t ++ [n]).map (·.f0)).Nodup := by
  rw [List.map_append, List.map_singleton, List.nodup_append]
  refine ⟨h, by simp, fun a ha b hb => ?_⟩
  rw [List.mem_singleton] at hb
  subst hb
  rintro rfl
  obtain ⟨x, hx, hx2⟩ := List.mem_map.1 ha
  exact hn (List.any_eq_true.2 ⟨x, hx, by simp [hx2]⟩)
theorem set_f0 {t : List S116} {k : Nat} {u v : S116} (hu : t[k]? = some u) (hv : v.f0 = u.f0) : (t.set k v).map (·.f0) = t.map (·.f0) := by
  refine List.ext_getElem? (fun q => ?_)
  rw [List.getElem?_map, List.getElem?_map]
  by_cases e : k = q
  · subst e
    rw [List.getElem?_set_self (List.getElem?_eq_some_iff.1 hu).1, hu]
    simp [hv]
  · rw [List.getElem?_set_ne e]
theorem any_f0 {t t' : List S116} (h : t'.map (·.f0) = t.map (·.f0)) (p : ByteArray) : t'.any (fun x => x.f0.toList == p.toList) = t.any (fun x => x.f0.toList == p.toList) := by
  have e : ∀ l : List S116, l.any (fun x => x.f0.toList == p.toList) = (l.map (·.f0)).any (fun s => s.toList == p.toList) := fun l => by rw [List.any_map]; rfl
  rw [e, e, h]
theorem TOk.push {P : ByteArray → Prop} {t : List S116} {dirs : List ByteArray} {n : S116} (hT : TOk P t dirs) (h1 : P n.f0) (h2 : n.f0.size ≤ 400) (h3 : n.f5.length ≤ 1200) (hn : ¬ t.any (fun x => x.f0.toList == n.f0.toList) = true) : TOk P (t ++ [n]) dirs :=
  ⟨fun x hx => by
    rcases List.mem_append.1 hx with hx | hx
    · exact hT.node x hx
    · rw [List.mem_singleton.1 hx]; exact ⟨h1, h2, h3⟩, nodup_app hT.nodup hn, hT.ne, hT.dir⟩
theorem step_ok {P : ByteArray → Prop} (hP : Grows P) {r : S23} (h : RawOk r) {t : List S116} {dirs : List ByteArray} (hT : TOk P t dirs) (hl : t.length ≤ 100000000) : ∃ t' dirs', treeStep r t dirs = some (t', dirs') ∧ TOk P t' dirs' ∧ t'.length ≤ t.length + 1 := by
  unfold treeStep
  obtain ⟨p, hp, hpP⟩ := path_ok hP h hT
  rw [hp, Option.bind_some]
  split
  · exact ⟨t, dirs, rfl, hT, by omega⟩
  rename_i hno
  have hno1 : p.size ≤ 400 := by
    rcases Nat.lt_or_ge 400 p.size with h | h
    · exact absurd (.inl h) hno
    · exact h
  have hno2 : ¬ t.any (fun x => x.f0.toList == p.toList) = true := fun h => hno (.inr h)
  obtain ⟨n, hn, hn0, hn5⟩ := node_ok h p
  rw [hn, Option.bind_some]
  obtain ⟨w0, w1, w2, w3⟩ := h
  obtain ⟨kd, hk, _⟩ := picked_spec (m := 7) w0 (by decide)
  rw [hk, Option.bind_some]
  split
  · refine ⟨_, _, rfl, ⟨(hT.push (n := { n with f1 := 2, f5 := [] }) (by rw [hn0]; exact hpP) (by rw [hn0]; exact hno1) (by simp) (by rw [hn0]; exact hno2)).node, (hT.push (n := { n with f1 := 2, f5 := [] }) (by rw [hn0]; exact hpP) (by rw [hn0]; exact hno1) (by simp) (by rw [hn0]; exact hno2)).nodup, by simp, fun s hs => ?_⟩, by simp⟩
    rcases List.mem_append.1 hs with hs | hs
    · exact hT.dir s hs
    · rw [List.mem_singleton.1 hs]; exact ⟨hno1, .inr hpP⟩
  split
  · obtain ⟨c, hc, hc2⟩ := clean_ok r.f3 10 w3 (by decide)
    obtain ⟨q, hq, hq0, hq1⟩ := picked_spec (m := 20) w1 (by decide)
    obtain ⟨s, hs, hs2⟩ := repeat_ok c q (by omega) hq0 (by omega)
    have : q.toNat * c.size ≤ 20 * 10 := Nat.mul_le_mul (by omega) (by omega)
    rw [hc, Option.bind_some, hq, Option.bind_some, hs, Option.bind_some, if_pos (by omega)]
    exact ⟨_, _, rfl, hT.push (by rw [hn0]; exact hpP) (by rw [hn0]; exact hno1) (by simp) (by rw [hn0]; exact hno2), by simp⟩
  split
  · obtain ⟨k, hk2, hk0, hk1⟩ := picked_spec (m := (t.length : Int) + 1) w1 (by omega)
    rw [hk2, Option.bind_some, if_pos hk0]
    cases hu : t[k.toNat]? with
    | none => exact ⟨_, _, rfl, hT.push (by rw [hn0]; exact hpP) (by rw [hn0]; exact hno1) hn5 (by rw [hn0]; exact hno2), by simp⟩
    | some u =>
      dsimp only
      split
      · have hum := hT.node u (List.mem_of_getElem? hu)
        have hcl : slices_Clone_byte_byte.f u.f5 = some u.f5 := by
          unfold slices_Clone_byte_byte.f; rw [if_pos (by omega)]
        rw [hcl, Option.bind_some]
        have hmf := set_f0 hu (v := { u with f2 := if u.f2 = 0 then k + 1 else u.f2 }) rfl
        have hT2 : TOk P (t.set k.toNat { u with f2 := if u.f2 = 0 then k + 1 else u.f2 }) dirs := ⟨fun x hx => by
          rcases List.mem_or_eq_of_mem_set hx with hx | rfl
          · exact hT.node x hx
          · exact hum, by rw [hmf]; exact hT.nodup, hT.ne, hT.dir⟩
        exact ⟨_, _, rfl, hT2.push hpP hno1 hum.2.2 (by rw [any_f0 hmf]; exact hno2), by simp⟩
      · exact ⟨_, _, rfl, hT.push (by rw [hn0]; exact hpP) (by rw [hn0]; exact hno1) hn5 (by rw [hn0]; exact hno2), by simp⟩
  · exact ⟨_, _, rfl, hT.push (by rw [hn0]; exact hpP) (by rw [hn0]; exact hno1) hn5 (by rw [hn0]; exact hno2), by simp⟩
theorem go_ok {P : ByteArray → Prop} (hP : Grows P) (most : Int) : ∀ (l : List S23) (t : List S116) (dirs : List ByteArray), (∀ x ∈ l, RawOk x) → TOk P t dirs → t.length + l.length ≤ 100000000 → ∃ t' dirs', treeGo most l t dirs = some t' ∧ TOk P t' dirs' ∧ t'.length ≤ t.length + l.length
  | [], t, dirs, _, hT, _ => ⟨t, dirs, rfl, hT, by simp⟩
  | r :: l, t, dirs, hR, hT, hl => by
    rw [treeGo]
    split
    · exact ⟨t, dirs, rfl, hT, by omega⟩
    · simp only [List.length_cons] at hl ⊢
      obtain ⟨t1, dirs1, h1, hT1, hl1⟩ := step_ok hP (hR r (List.mem_cons_self ..)) hT (by omega)
      rw [h1, Option.bind_some]
      obtain ⟨t2, dirs2, h2, hT2, hl2⟩ := go_ok hP most l t1 dirs1 (fun x hx => hR x (List.mem_cons_of_mem _ hx)) hT1 (by omega)
      exact ⟨t2, dirs2, h2, hT2, by omega⟩
theorem tree_ok {P : ByteArray → Prop} (hP : Grows P) (most : Int) (l : List S23) (hR : ∀ x ∈ l, RawOk x) (hl : l.length ≤ 1048576) : ∃ t, creelkeep_Tree.f l most = some t ∧ (∀ n ∈ t, P n.f0 ∧ n.f0.size ≤ 400 ∧ n.f5.length ≤ 1200) ∧ (t.map (·.f0)).Nodup ∧ t.length ≤ l.length := by
  obtain ⟨t, dirs, h1, hT, hl1⟩ := go_ok hP most l [] [⟨#[]⟩] hR ⟨fun n hn => by (cases hn), by simp, by simp, fun s hs => by rw [List.mem_singleton.1 hs]; exact ⟨by decide, .inl (by rw [ByteArray.toList_eq])⟩⟩ (by simp; omega)
  unfold creelkeep_Tree.f
  rw [if_pos (by omega), h1, Option.bind_some, if_pos hT.nodup]
  have hp := List.mergeSort_perm t nodeLe
  exact ⟨_, rfl, fun n hn => hT.node n (hp.mem_iff.1 hn), ((hp.map (·.f0)).nodup_iff).2 hT.nodup, by rw [hp.length_eq]; simpa using hl1⟩
theorem paths_ok {P : ByteArray → Prop} (hP : Grows P) (ha : P ⟨#[97]⟩) (most : Int) (l : List S23) (hR : ∀ x ∈ l, RawOk x) (hl : l.length ≤ 1048576) : ∃ ps, creelkeep_paths.f l most = some ps ∧ 0 < ps.length ∧ ps.length ≤ 1048577 ∧ ∀ s ∈ ps, P s ∧ s.size ≤ 400 := by
  obtain ⟨t, h1, h2, _, h3⟩ := tree_ok hP most l hR hl
  unfold creelkeep_paths.f
  rw [h1, Option.bind_some, if_pos (by omega)]
  refine ⟨_, rfl, by simp, by simp; omega, fun s hs => ?_⟩
  rcases List.mem_cons.1 hs with rfl | hs
  · exact ⟨ha, by decide⟩
  · obtain ⟨n, hn, rfl⟩ := List.mem_map.1 hs
    exact ⟨(h2 n hn).1, (h2 n hn).2.1⟩

theorem bt_list (s : ByteArray) (i : Int) (h : i.toNat < s.size) : bt s i = ((s.data.toList.getD i.toNat 0).toNat : Int) := by
  unfold bt
  rw [dif_pos h]
  have hl : i.toNat < s.data.toList.length := by rw [size_list]; exact h
  rw [List.getD_eq_getElem?_getD, List.getElem?_eq_getElem hl]
  rfl
theorem bt_nums (l : List Int) (i : Int) (h : i.toNat < l.length) (hr : 0 ≤ l.getD i.toNat 0 ∧ l.getD i.toNat 0 ≤ 255) : bt (strOfNums l) i = l.getD i.toNat 0 := by
  rw [bt_list _ _ (by rw [strOfNums_size]; exact h), strOfNums_data]
  rw [List.getD_eq_getElem?_getD, List.getElem?_map]
  rw [List.getD_eq_getElem?_getD] at hr ⊢
  rw [List.getElem?_eq_getElem h] at hr ⊢
  simp only [Option.map_some, Option.getD_some] at hr ⊢
  have : (UInt8.ofNat l[i.toNat].toNat).toNat = l[i.toNat].toNat := by
    rw [UInt8.toNat_ofNat']
    omega
  omega

theorem ext_take (s : ByteArray) (n : Nat) : (s.extract 0 n).data.toList = s.data.toList.take n := by simp [ByteArray.data_extract]
theorem ext_drop (s : ByteArray) (n : Nat) : (s.extract n s.size).data.toList = s.data.toList.drop n := by
  rw [ByteArray.data_extract, Array.toList_extract]
  have : s.size = s.data.toList.length := (size_list s).symm
  rw [this, List.extract_eq_take_drop]
  exact List.take_of_length_le (by simp)
theorem mk_app (a b : List UInt8) : (⟨a.toArray⟩ : ByteArray) ++ ⟨b.toArray⟩ = ⟨(a ++ b).toArray⟩ := by
  apply bytes_ext; rw [app_list, mk_list, mk_list, mk_list]

/-- A text without the signs of patterns. -/
def NoSign (l : List UInt8) : Prop := (42 : UInt8) ∉ l ∧ (63 : UInt8) ∉ l ∧ (91 : UInt8) ∉ l
def PartOk (l : List UInt8) : Prop := l ≠ [] ∧ l ≠ [46] ∧ l ≠ [46, 46]
/-- A path of parts that may be, without a byte 0 and signs of patterns. -/
structure Plain (s : ByteArray) : Prop where
  sign : NoSign s.data.toList
  zero : (0 : UInt8) ∉ s.data.toList
  parts : ∀ l ∈ cutL 47 s.data.toList, PartOk l
theorem cut_mem (c b : UInt8) : ∀ (l t : List UInt8), t ∈ cutL c l → b ∈ t → b ∈ l := by
  intro l t ht hb
  have h := joinL_cut c l
  rw [← h]
  clear h
  generalize cutL c l = q at ht
  induction q with
  | nil => cases ht
  | cons x q ih =>
    cases q with
    | nil =>
      rw [List.mem_singleton] at ht
      subst ht
      exact hb
    | cons y q =>
      rw [joinL]
      · rcases List.mem_cons.1 ht with rfl | ht
        · exact List.mem_append_left _ hb
        · exact List.mem_append_right _ (List.mem_cons_of_mem _ (ih ht))
      all_goals simp
theorem plain_ne {s : ByteArray} (h : Plain s) : s.data.toList ≠ [] := fun e => by
  have := h.parts [] (by rw [e]; simp [cutL])
  exact this.1 rfl
theorem rd_map (P : List ByteArray) (i : Nat) (hi : i < P.length) : (rdOf ByteArray.empty P (i : Int)).data.toList = (P.map (·.data.toList)).getD i [] := by
  unfold rdOf
  simp [List.getD_eq_getElem?_getD, List.getElem?_eq_getElem hi]
theorem pcheck_loop (P : List ByteArray) (hP : P.length ≤ 1000000000) (h : ∀ l ∈ P.map (·.data.toList), PartOk l) : ∀ (k i : Nat), i ≤ P.length → P.length - i < k → path_Check.l0 k P (P.length : Int) (i : Int) = some 0
  | 0, i, _, h2 => absurd h2 (by omega)
  | k + 1, i, h1, h2 => by
    rw [path_Check.l0]
    by_cases hi : i < P.length
    · have hm : (rdOf ByteArray.empty P (i : Int)).data.toList ∈ P.map (·.data.toList) := by
        unfold rdOf
        simp only [Int.toNat_natCast, List.getD_eq_getElem?_getD, List.getElem?_eq_getElem hi, Option.getD_some]
        exact List.mem_map.2 ⟨_, List.getElem_mem _, rfl⟩
      obtain ⟨p1, p2, p3⟩ := h _ hm
      rw [if_pos (by omega), if_pos (by omega), if_pos (by omega), ByteArray.toList_eq, if_neg p1, if_neg p2, if_neg p3, w64 (by omega) (by omega)]
      exact pcheck_loop P hP h k (i + 1) (by omega) (by omega)
    · rw [if_neg (by omega)]
theorem split_ok (s : ByteArray) (h : s.size ≤ 1000) : ∃ P, strings_Split.f s ⟨#[47]⟩ = some P ∧ P.map (·.data.toList) = cutL 47 s.data.toList ∧ P.length ≤ s.size + 1 := by
  unfold strings_Split.f
  rw [if_pos (by decide), if_pos (by omega)]
  refine ⟨_, rfl, splitB_cut 47 s, ?_⟩
  refine Nat.le_trans (Lib.splitB_length_le _ _ _ _) ?_
  have := Lib.countB_le ⟨#[47]⟩ (by decide) s.size s (Nat.le_refl _)
  omega
theorem plain_size {s : ByteArray} (h : Plain s) : 0 < s.size := by
  have := size_list s
  have h2 := plain_ne h
  cases e : s.data.toList with
  | nil => exact absurd e h2
  | cons b l => rw [e] at this; simp at this; omega
theorem path_check_ok {s : ByteArray} (h : Plain s) (hs : s.size ≤ 400) (k : Nat) (hk : 1000 < k) : path_Check.f k s = some 0 := by
  have h0 := plain_size h
  unfold path_Check.f
  rw [if_neg (by omega), show decide ((s.size : Int) > 400) = false from decide_eq_false (by omega)]
  obtain ⟨k, rfl⟩ : ∃ q, k = q + 1 := ⟨k - 1, by omega⟩
  rw [path_Check.j0, if_neg (by decide)]
  unfold strings_IndexByte.f
  have hz : Lib.indexByte s.data.toList (0 : Int).toNat.toUInt8 = -1 := idx_none _ _ h.zero
  rw [hz, Option.bind_some, if_neg (by omega)]
  obtain ⟨P, h1, h2, h3⟩ := split_ok s (by omega)
  rw [h1, Option.bind_some]
  exact pcheck_loop P (by omega) (by rw [h2]; exact h.parts) k 0 (by omega) (by omega)
theorem gcheck_one (P : List ByteArray) (n i : Int) (r : Int) : ∀ (m : Nat) (x : ByteArray) (k : Nat), x.data.toList.length = m → (91 : UInt8) ∉ x.data.toList → (42 : UInt8) ∉ x.data.toList → glob_Check.l0 k P n (wrap64 (i + 1)) = some r → glob_Check.l1 (k + 2 * m + 2) x P n i = some r
  | 0, x, k, hm, h91, h42, h => by
    have hx : x.toList = [] := by rw [ByteArray.toList_eq]; exact List.length_eq_zero_iff.1 hm
    rw [show k + 2 * 0 + 2 = (k + 1) + 1 from rfl, glob_Check.l1, hx, if_neg (by simp), glob_Check.j3, if_neg (by decide)]
    exact h
  | m + 1, x, k, hm, h91, h42, h => by
    cases hl : x.data.toList with
    | nil => rw [hl] at hm; cases hm
    | cons b l =>
      have hsz : x.size = m + 1 := by rw [← size_list, hm]
      have hx : x.toList ≠ [] := by rw [ByteArray.toList_eq, hl]; simp
      have hx2 : x.toList ≠ [42, 42] := by rw [ByteArray.toList_eq]; intro e; rw [e] at h42; simp at h42
      have hb : bt x 0 = (b.toNat : Int) := by rw [bt_list x 0 (by show 0 < x.size; omega), hl]; rfl
      have hb91 : ¬ bt x 0 = 91 := fun e => by
        rw [hb] at e
        have : b = 91 := UInt8.toNat_inj.1 (show b.toNat = (91 : UInt8).toNat from by have h9 : (91 : UInt8).toNat = 91 := rfl; omega)
        rw [hl, this] at h91
        simp at h91
      have hne : (x.toList != ([] : List UInt8)) = true := bne_iff_ne.mpr hx
      rw [show k + 2 * (m + 1) + 2 = (k + 2 * m + 2 + 1) + 1 by omega, glob_Check.l1, if_neg hx2, hne, glob_Check.j3, if_pos rfl, if_pos (by omega), if_neg hb91, if_pos (by omega)]
      have hd : (x.extract 1 x.size).data.toList = l := by rw [ext_drop, hl]; rfl
      exact gcheck_one P n i r m _ k (by rw [hd]; rw [hl] at hm; simpa using hm) (by rw [hd]; intro e; apply h91; rw [hl]; exact List.mem_cons_of_mem _ e) (by rw [hd]; intro e; apply h42; rw [hl]; exact List.mem_cons_of_mem _ e) h
theorem gcheck_loop (P : List ByteArray) (hP : P.length ≤ 1000000000) (h : ∀ l ∈ P.map (·.data.toList), l ≠ [] ∧ (91 : UInt8) ∉ l ∧ (42 : UInt8) ∉ l) : ∀ (d i : Nat), i + d = P.length → ∃ k, glob_Check.l0 k P (P.length : Int) (i : Int) = some 0
  | 0, i, hd => ⟨1, by rw [glob_Check.l0, if_neg (by omega)]⟩
  | d + 1, i, hd => by
    obtain ⟨k, hk⟩ := gcheck_loop P hP h d (i + 1) (by omega)
    have hi : i < P.length := by omega
    have hm : (rdOf ByteArray.empty P (i : Int)).data.toList ∈ P.map (·.data.toList) := by
      unfold rdOf
      simp only [Int.toNat_natCast, List.getD_eq_getElem?_getD, List.getElem?_eq_getElem hi, Option.getD_some]
      exact List.mem_map.2 ⟨_, List.getElem_mem _, rfl⟩
    obtain ⟨p1, p2, p3⟩ := h _ hm
    refine ⟨(k + 2 * (rdOf ByteArray.empty P (i : Int)).data.toList.length + 2) + 1, ?_⟩
    · rw [glob_Check.l0, if_pos (by omega), if_pos (by omega), if_pos (by omega), ByteArray.toList_eq, if_neg p1]
      exact gcheck_one P _ _ 0 _ _ k rfl p2 p3 (by rw [w64 (by omega) (by omega)]; exact hk)
theorem leO_add {α : Type} {f : Nat → Option α} (hf : ∀ k, LeO (f k) (f (k + 1))) {k : Nat} {r : α} (h : f k = some r) : ∀ d, f (k + d) = some r
  | 0 => h
  | d + 1 => hf _ _ (leO_add hf h d)
theorem glob_check_ok {s : ByteArray} (h : Plain s) (hs : s.size ≤ 400) : ∃ k, ∀ d, glob_Check.f (k + d) s = some 0 := by
  have h0 := plain_size h
  obtain ⟨P, h1, h2, h3⟩ := split_ok s (by omega)
  obtain ⟨k, hk⟩ := gcheck_loop P (by omega) (fun l hl => by
    rw [h2] at hl
    exact ⟨(h.parts l hl).1, fun e => h.sign.2.2 (cut_mem 47 91 _ l hl e), fun e => h.sign.1 (cut_mem 47 42 _ l hl e)⟩) P.length 0 (by omega)
  refine ⟨k + 1, leO_add (f := fun k => glob_Check.f k s) (fun k => glob_Check.mono s k) ?_⟩
  show glob_Check.f (k + 1) s = some 0
  unfold glob_Check.f
  rw [if_neg (by omega), show decide ((s.size : Int) > 400) = false from decide_eq_false (by omega), glob_Check.j0, if_neg (by decide), h1, Option.bind_some]
  exact hk
/-- The signs of a part of a pattern, one by one. -/
def singles (l : List UInt8) : List ByteArray := l.map fun b => ⟨#[b]⟩
theorem gsplit_loop : ∀ (m : Nat) (x : ByteArray) (k : Nat) (acc : List ByteArray), x.data.toList.length = m → m < k → acc.length + m ≤ 1000000 → (91 : UInt8) ∉ x.data.toList → glob_split.l0 k x acc = some (acc ++ singles x.data.toList)
  | 0, x, k, acc, hm, hk, _, h91 => by
    obtain ⟨k, rfl⟩ : ∃ q, k = q + 1 := ⟨k - 1, by omega⟩
    have hx : x.data.toList = [] := List.length_eq_zero_iff.1 hm
    rw [glob_split.l0, ByteArray.toList_eq, hx, if_pos rfl]
    simp [singles]
  | m + 1, x, k, acc, hm, hk, ha, h91 => by
    obtain ⟨k, rfl⟩ : ∃ q, k = q + 1 := ⟨k - 1, by omega⟩
    cases hl : x.data.toList with
    | nil => rw [hl] at hm; cases hm
    | cons b l =>
      have hsz : x.size = m + 1 := by rw [← size_list, hm]
      have hb : bt x 0 = (b.toNat : Int) := by rw [bt_list x 0 (by show 0 < x.size; omega), hl]; rfl
      have hb91 : ¬ bt x 0 = 91 := fun e => by
        rw [hb] at e
        have : b = 91 := UInt8.toNat_inj.1 (show b.toNat = (91 : UInt8).toNat from by have h9 : (91 : UInt8).toNat = 91 := rfl; omega)
        rw [hl, this] at h91
        simp at h91
      rw [glob_split.l0, ByteArray.toList_eq, hl, if_neg (by simp), if_pos (by omega), if_neg hb91, if_pos (by omega), if_pos (by omega), if_pos (by omega)]
      have hd : (x.extract 1 x.size).data.toList = l := by rw [ext_drop, hl]; rfl
      have ht : x.extract 0 1 = ⟨#[b]⟩ := bytes_ext (by rw [ext_take, hl]; rfl)
      rw [gsplit_loop m _ k _ (by rw [hd]; rw [hl] at hm; simpa using hm) (by omega) (by simp; omega) (by rw [hd]; intro e; apply h91; rw [hl]; exact List.mem_cons_of_mem _ e), hd, ht]
      simp [singles]

theorem fit_plain {n m : Nat} {st : Nat → Bool} {ft : Nat → Nat → Bool} (hs : ∀ i, i < n → st i = false) : ∀ (d i k : Nat), i + d = n → k ≤ m → (Fit n m st ft i k ↔ k + d = m ∧ ∀ q, q < d → ft (i + q) (k + q) = true)
  | 0, i, k, hd, hk => by
    constructor
    · intro h
      rcases fit_inv h with ⟨h1, h2⟩ | ⟨h1, _⟩ | ⟨h1, _⟩ | ⟨h1, _⟩
      · exact ⟨by omega, fun q hq => by omega⟩
      all_goals omega
    · rintro ⟨h1, _⟩
      obtain rfl : i = n := by omega
      obtain rfl : k = m := by omega
      exact fit_end
  | d + 1, i, k, hd, hk => by
    have hi : i < n := by omega
    constructor
    · intro h
      rcases fit_inv h with ⟨h1, h2⟩ | ⟨_, h2, _⟩ | ⟨_, h2, _⟩ | ⟨_, _, h3, h4, h5⟩
      · omega
      · rw [hs i hi] at h2; cases h2
      · rw [hs i hi] at h2; cases h2
      · obtain ⟨g1, g2⟩ := (fit_plain hs d (i + 1) (k + 1) (by omega) (by omega)).1 h5
        refine ⟨by omega, fun q hq => ?_⟩
        cases q with
        | zero => exact h4
        | succ q => rw [show i + (q + 1) = i + 1 + q by omega, show k + (q + 1) = k + 1 + q by omega]; exact g2 q (by omega)
    · rintro ⟨h1, h2⟩
      refine fit_one hi (hs i hi) (by omega) (h2 0 (by omega)) ((fit_plain hs d (i + 1) (k + 1) (by omega) (by omega)).2 ⟨by omega, fun q hq => ?_⟩)
      have := h2 (q + 1) (by omega)
      rw [show i + 1 + q = i + (q + 1) by omega, show k + 1 + q = k + (q + 1) by omega]
      exact this
theorem cut_len (c : UInt8) : ∀ (l t : List UInt8), t ∈ cutL c l → t.length ≤ l.length := by
  intro l t ht
  have h := joinL_cut c l
  rw [← h]
  clear h
  generalize cutL c l = q at ht
  induction q with
  | nil => cases ht
  | cons x q ih =>
    cases q with
    | nil =>
      rw [List.mem_singleton] at ht
      subst ht
      exact Nat.le_refl _
    | cons y q =>
      rw [joinL]
      · rw [List.length_append, List.length_cons]
        rcases List.mem_cons.1 ht with rfl | ht
        · omega
        · have := ih ht; omega
      all_goals simp
theorem single_at (L : List UInt8) (i : Nat) (hi : i < L.length) : rdOf ByteArray.empty (singles L) (i : Int) = ⟨#[L.getD i 0]⟩ := by
  unfold rdOf singles
  simp [List.getD_eq_getElem?_getD, List.getElem?_eq_getElem hi]
theorem sign_single (b : UInt8) (c : Int) (h1 : b ≠ 63) (h2 : b ≠ 91) : glob_sign.f ⟨#[b]⟩ c = some ((b.toNat : Int) == c) := by
  unfold glob_sign.f
  have hb : bt ⟨#[b]⟩ 0 = (b.toNat : Int) := rfl
  rw [if_pos (by show (0 : Int) < 1; decide), hb, if_neg (fun e => h1 (UInt8.toNat_inj.1 (show b.toNat = (63 : UInt8).toNat from by have h9 : (63 : UInt8).toNat = 63 := rfl; omega))), if_neg (fun e => h2 (UInt8.toNat_inj.1 (show b.toNat = (91 : UInt8).toNat from by have h9 : (91 : UInt8).toNat = 91 := rfl; omega)))]
theorem gpart_ok {p s : ByteArray} (hp : NoSign p.data.toList) (hps : p.size ≤ 400) (hss : s.size ≤ 400) : ∃ b, glob_part.f p s = some b ∧ (b = true ↔ p = s) := by
  obtain ⟨h42, h63, h91⟩ := hp
  have hL := size_list p
  have hsp : glob_split.f (3 * p.size + 10) p = some (singles p.data.toList) := by
    unfold glob_split.f
    rw [gsplit_loop p.size p _ [] hL (by omega) (by simp; omega) h91]; rfl
  have hlen : (singles p.data.toList).length = p.size := by rw [singles, List.length_map, hL]
  have hmem : ∀ i, i < p.size → p.data.toList.getD i 0 ∈ p.data.toList := fun i hi => by
    rw [List.getD_eq_getElem?_getD, List.getElem?_eq_getElem (by omega)]; exact List.getElem_mem _
  have hst : ∀ i, i < p.size → partSt (singles p.data.toList) i = false := fun i hi => by
    unfold partSt
    rw [single_at _ _ (by omega), ByteArray.toList_eq]
    rw [beq_eq_false_iff_ne]
    intro e
    have : p.data.toList.getD i 0 = 42 := by simpa using e
    exact h42 (this ▸ hmem i hi)
  have hsg : ∀ i c, i < p.size → glob_sign.f (rdOf ByteArray.empty (singles p.data.toList) (i : Int)) c = some (((p.data.toList.getD i 0).toNat : Int) == c) := fun i c hi => by
    rw [single_at _ _ (by omega)]
    exact sign_single _ _ (fun e => h63 (e ▸ hmem i hi)) (fun e => h91 (e ▸ hmem i hi))
  unfold glob_part.f
  rw [hsp, Option.bind_some, hlen, if_pos]
  · refine ⟨_, rfl, ?_⟩
    rw [fitB_fit, fit_plain hst p.size 0 0 (by omega) (by omega)]
    constructor
    · rintro ⟨h1, h2⟩
      apply bytes_ext
      refine List.ext_getElem (by rw [hL, size_list]; omega) (fun q g1 g2 => ?_)
      have h3 := h2 q (by omega)
      unfold partFt at h3
      rw [Nat.zero_add, hsg q _ (by omega), Option.getD_some, beq_iff_eq, bt_list s (q : Int) (by rw [size_list] at g2; simpa using g2)] at h3
      have h4 : (p.data.toList.getD q 0).toNat = (s.data.toList.getD q 0).toNat := by rw [Int.toNat_natCast] at h3; omega
      have h5 := UInt8.toNat_inj.1 h4
      rw [List.getD_eq_getElem?_getD, List.getD_eq_getElem?_getD, List.getElem?_eq_getElem g1, List.getElem?_eq_getElem g2] at h5
      simpa using h5
    · rintro rfl
      refine ⟨by omega, fun q hq => ?_⟩
      unfold partFt
      rw [Nat.zero_add, hsg q _ (by omega), Option.getD_some, beq_iff_eq, bt_list p (q : Int) (by simpa using hq)]
      simp
  · refine ⟨by omega, by omega, ?_⟩
    rw [List.all_eq_true]
    intro i hi
    rw [List.all_eq_true]
    intro k hk
    rw [hsg i _ (List.mem_range.1 hi)]
    simp
theorem gparts_ok {a b : ByteArray} (ha : Plain a) (hb : Plain b) (has : a.size ≤ 400) (hbs : b.size ≤ 400) : ∃ A B r, path_Parts.f a = some A ∧ path_Parts.f b = some B ∧ glob_parts.f A B = some r ∧ (r = true ↔ a = b) := by
  obtain ⟨A, a1, a2, a3⟩ := parts_spec a (by omega)
  obtain ⟨B, b1, b2, b3⟩ := parts_spec b (by omega)
  have na := plain_ne ha
  have nb := plain_ne hb
  unfold partsL at a2 b2
  rw [if_neg na] at a2
  rw [if_neg nb] at b2
  have hA : ∀ i, i < A.length → (rdOf ByteArray.empty A (i : Int)).data.toList ∈ cutL 47 a.data.toList := fun i hi => by
    rw [← a2]; unfold rdOf
    simp only [Int.toNat_natCast, List.getD_eq_getElem?_getD, List.getElem?_eq_getElem hi, Option.getD_some]
    exact List.mem_map.2 ⟨_, List.getElem_mem _, rfl⟩
  have hB : ∀ i, i < B.length → (rdOf ByteArray.empty B (i : Int)).data.toList ∈ cutL 47 b.data.toList := fun i hi => by
    rw [← b2]; unfold rdOf
    simp only [Int.toNat_natCast, List.getD_eq_getElem?_getD, List.getElem?_eq_getElem hi, Option.getD_some]
    exact List.mem_map.2 ⟨_, List.getElem_mem _, rfl⟩
  have hsn : ∀ t, t ∈ cutL 47 a.data.toList → NoSign t := fun t ht => ⟨fun e => ha.sign.1 (cut_mem 47 42 _ t ht e), fun e => ha.sign.2.1 (cut_mem 47 63 _ t ht e), fun e => ha.sign.2.2 (cut_mem 47 91 _ t ht e)⟩
  have hst : ∀ i, i < A.length → partsSt A i = false := fun i hi => by
    unfold partsSt
    rw [ByteArray.toList_eq, beq_eq_false_iff_ne]
    intro e
    have := (hsn _ (hA i hi)).1
    rw [e] at this
    simp at this
  have hpt : ∀ i k, i < A.length → k < B.length → ∃ r, glob_part.f (rdOf ByteArray.empty A (i : Int)) (rdOf ByteArray.empty B (k : Int)) = some r ∧ (r = true ↔ rdOf ByteArray.empty A (i : Int) = rdOf ByteArray.empty B (k : Int)) := fun i k hi hk => by
    have l1 := cut_len 47 _ _ (hA i hi)
    have l2 := cut_len 47 _ _ (hB k hk)
    rw [size_list, size_list] at l1 l2
    exact gpart_ok (hsn _ (hA i hi)) (by omega) (by omega)
  refine ⟨A, B, _, a1, b1, by
    unfold glob_parts.f
    rw [if_pos]
    refine ⟨by omega, by omega, ?_⟩
    rw [List.all_eq_true]
    intro i hi
    rw [List.all_eq_true]
    intro k hk
    obtain ⟨r, hr, _⟩ := hpt i k (List.mem_range.1 hi) (List.mem_range.1 hk)
    rw [hr]
    simp, ?_⟩
  rw [fitB_fit, fit_plain hst A.length 0 0 (by omega) (by omega)]
  have hft : ∀ q, q < A.length → q < B.length → (partsFt A B q q = true ↔ rdOf ByteArray.empty A (q : Int) = rdOf ByteArray.empty B (q : Int)) := fun q h1 h2 => by
    obtain ⟨r, hr, h3⟩ := hpt q q h1 h2
    unfold partsFt
    rw [hr, Option.getD_some]
    exact h3
  constructor
  · rintro ⟨h1, h2⟩
    have hAB : A = B := by
      refine List.ext_getElem (by omega) (fun q g1 g2 => ?_)
      have h3 := h2 q (by omega)
      rw [Nat.zero_add, hft q g1 g2] at h3
      unfold rdOf at h3
      simpa [List.getD_eq_getElem?_getD, List.getElem?_eq_getElem g1, List.getElem?_eq_getElem g2] using h3
    have : cutL 47 a.data.toList = cutL 47 b.data.toList := by rw [← a2, ← b2, hAB]
    exact bytes_ext (cutL_inj 47 this)
  · rintro rfl
    have : A = B := Option.some.inj (a1.symm.trans b1)
    subst this
    exact ⟨by omega, fun q hq => by rw [Nat.zero_add, hft q hq hq]⟩
theorem fits_ok {a b : ByteArray} (ha : Plain a) (hb : Plain b) (has : a.size ≤ 400) (hbs : b.size ≤ 400) : ∃ k r, (∀ d, glob_Fits.f (k + d) a b = some (r, 0)) ∧ (r = true ↔ a = b) := by
  obtain ⟨k, hk⟩ := glob_check_ok ha has
  obtain ⟨A, B, r, h1, h2, h3, h4⟩ := gparts_ok ha hb has hbs
  refine ⟨k + 1001, r, fun d => ?_, h4⟩
  unfold glob_Fits.f
  rw [show k + 1001 + d = k + (1001 + d) by omega, hk, Option.bind_some, if_pos rfl, path_check_ok hb hbs _ (by omega), Option.bind_some, if_pos rfl, h1, Option.bind_some, h2, Option.bind_some, h3, Option.bind_some]

theorem gcheck_any (P : List ByteArray) (n i : Int) (r : Int) : ∀ (m : Nat) (x : ByteArray) (k : Nat), x.data.toList.length = m → (91 : UInt8) ∉ x.data.toList → glob_Check.l0 k P n (wrap64 (i + 1)) = some r → ∃ k', glob_Check.l1 k' x P n i = some r
  | 0, x, k, hm, h91, h => by
    have hx : x.toList = [] := by rw [ByteArray.toList_eq]; exact List.length_eq_zero_iff.1 hm
    exact ⟨(k + 1) + 1, by rw [glob_Check.l1, hx, if_neg (by simp), glob_Check.j3, if_neg (by decide)]; exact h⟩
  | m + 1, x, k, hm, h91, h => by
    by_cases hx2 : x.toList = [42, 42]
    · exact ⟨(k + 1) + 1, by rw [glob_Check.l1, if_pos hx2, glob_Check.j3, if_neg (by decide)]; exact h⟩
    cases hl : x.data.toList with
    | nil => rw [hl] at hm; cases hm
    | cons b l =>
      have hsz : x.size = m + 1 := by rw [← size_list, hm]
      have hx : x.toList ≠ [] := by rw [ByteArray.toList_eq, hl]; simp
      have hb : bt x 0 = (b.toNat : Int) := by rw [bt_list x 0 (by show 0 < x.size; omega), hl]; rfl
      have hb91 : ¬ bt x 0 = 91 := fun e => by
        rw [hb] at e
        have : b = 91 := UInt8.toNat_inj.1 (show b.toNat = (91 : UInt8).toNat from by have h9 : (91 : UInt8).toNat = 91 := rfl; omega)
        rw [hl, this] at h91
        simp at h91
      have hne : (x.toList != ([] : List UInt8)) = true := bne_iff_ne.mpr hx
      have hd : (x.extract 1 x.size).data.toList = l := by rw [ext_drop, hl]; rfl
      obtain ⟨k', hk'⟩ := gcheck_any P n i r m _ k (by rw [hd]; rw [hl] at hm; simpa using hm) (by rw [hd]; intro e; apply h91; rw [hl]; exact List.mem_cons_of_mem _ e) h
      exact ⟨(k' + 1) + 1, by rw [glob_Check.l1, if_neg hx2, hne, glob_Check.j3, if_pos rfl, if_pos (by omega), if_neg hb91, if_pos (by omega)]; exact hk'⟩
theorem gcheck_loop2 (P : List ByteArray) (hP : P.length ≤ 1000000000) (h : ∀ l ∈ P.map (·.data.toList), l ≠ [] ∧ (91 : UInt8) ∉ l) : ∀ (d i : Nat), i + d = P.length → ∃ k, glob_Check.l0 k P (P.length : Int) (i : Int) = some 0
  | 0, i, hd => ⟨1, by rw [glob_Check.l0, if_neg (by omega)]⟩
  | d + 1, i, hd => by
    obtain ⟨k, hk⟩ := gcheck_loop2 P hP h d (i + 1) (by omega)
    have hi : i < P.length := by omega
    have hm : (rdOf ByteArray.empty P (i : Int)).data.toList ∈ P.map (·.data.toList) := by
      unfold rdOf
      simp only [Int.toNat_natCast, List.getD_eq_getElem?_getD, List.getElem?_eq_getElem hi, Option.getD_some]
      exact List.mem_map.2 ⟨_, List.getElem_mem _, rfl⟩
    obtain ⟨p1, p2⟩ := h _ hm
    obtain ⟨k', hk'⟩ := gcheck_any P (P.length : Int) (i : Int) 0 _ (rdOf ByteArray.empty P (i : Int)) k rfl p2 (by rw [w64 (by omega) (by omega)]; exact hk)
    refine ⟨k' + 1, ?_⟩
    rw [glob_Check.l0, if_pos (by omega), if_pos (by omega), if_pos (by omega), ByteArray.toList_eq, if_neg p1]
    exact hk'
theorem check_ok2 {s : ByteArray} (h0 : 0 < s.size) (hs : s.size ≤ 400) (h91 : (91 : UInt8) ∉ s.data.toList) (hne : ∀ l ∈ cutL 47 s.data.toList, l ≠ []) : ∃ k, ∀ d, glob_Check.f (k + d) s = some 0 := by
  obtain ⟨P, h1, h2, h3⟩ := split_ok s (by omega)
  obtain ⟨k, hk⟩ := gcheck_loop2 P (by omega) (fun l hl => by
    rw [h2] at hl
    exact ⟨hne l hl, fun e => h91 (cut_mem 47 91 _ l hl e)⟩) P.length 0 (by omega)
  refine ⟨k + 1, leO_add (f := fun k => glob_Check.f k s) (fun k => glob_Check.mono s k) ?_⟩
  show glob_Check.f (k + 1) s = some 0
  unfold glob_Check.f
  rw [if_neg (by omega), show decide ((s.size : Int) > 400) = false from decide_eq_false (by omega), glob_Check.j0, if_neg (by decide), h1, Option.bind_some]
  exact hk
/-- One star takes any part. -/
theorem star_part (s : ByteArray) (hs : s.size ≤ 400) : glob_part.f ⟨#[42]⟩ s = some true := by
  have hsp : glob_split.f (3 * (⟨#[42]⟩ : ByteArray).size + 10) ⟨#[42]⟩ = some (singles [42]) := by
    unfold glob_split.f
    rw [gsplit_loop 1 ⟨#[42]⟩ _ [] rfl (by decide) (by decide) (by decide)]; rfl
  unfold glob_part.f
  rw [hsp, Option.bind_some, show (singles [42]).length = 1 from rfl]
  have hst : partSt (singles [42]) 0 = true := by
    unfold partSt
    rw [show (((0 : Nat) : Int)) = 0 from rfl]
    show (ByteArray.toList ⟨#[42]⟩ == [42]) = true
    rw [ByteArray.toList_eq]; rfl
  rw [if_pos]
  · congr 1
    rw [fitB_fit]
    exact (fit_star (by omega) hst 0).2 ⟨s.size, by omega, fit_end⟩
  · refine ⟨by omega, by omega, ?_⟩
    rw [List.all_eq_true]
    intro i hi
    rw [List.all_eq_true]
    intro k hk
    obtain rfl : i = 0 := by have := List.mem_range.1 hi; omega
    rw [hst, Bool.true_or]

theorem plain_join {p q : ByteArray} (hp : Plain p) (hq : Plain q) : Plain (p ++ ⟨#[47]⟩ ++ q) := by
  have e : (p ++ (⟨#[47]⟩ : ByteArray) ++ q).data.toList = p.data.toList ++ 47 :: q.data.toList := by
    rw [app_list, app_list]; simp
  refine ⟨?_, ?_, ?_⟩
  · unfold NoSign
    rw [e]
    have h1 := hp.sign
    have h2 := hq.sign
    unfold NoSign at h1 h2
    simp only [List.mem_append, List.mem_cons]
    refine ⟨?_, ?_, ?_⟩
    · rintro (h | h | h)
      · exact h1.1 h
      · exact absurd h (by decide)
      · exact h2.1 h
    · rintro (h | h | h)
      · exact h1.2.1 h
      · exact absurd h (by decide)
      · exact h2.2.1 h
    · rintro (h | h | h)
      · exact h1.2.2 h
      · exact absurd h (by decide)
      · exact h2.2.2 h
  · rw [e]
    simp only [List.mem_append, List.mem_cons]
    rintro (h | h | h)
    · exact hp.zero h
    · exact absurd h (by decide)
    · exact hq.zero h
  · rw [e, cutL_app]
    intro l hl
    rcases List.mem_append.1 hl with h | h
    · exact hp.parts l h
    · exact hq.parts l h
theorem plain_rep (c : UInt8) (n : Nat) (h0 : c ≠ 42 ∧ c ≠ 63 ∧ c ≠ 91 ∧ c ≠ 0 ∧ c ≠ 47 ∧ c ≠ 46) (hn : 0 < n) : Plain ⟨(List.replicate n c).toArray⟩ := by
  obtain ⟨n1, n2, n3, n4, n5, n6⟩ := h0
  have hm : ∀ b, b ≠ c → b ∉ List.replicate n c := fun b hb h => hb (List.eq_of_mem_replicate h)
  have hh : ∀ l : List UInt8, l.head? = some 46 → List.replicate n c ≠ l := fun l hl e => by
    rw [← e] at hl
    cases n with
    | zero => omega
    | succ n => exact n6 (by simpa [List.replicate_succ] using hl)
  refine ⟨?_, ?_, ?_⟩
  · unfold NoSign; rw [mk_list]; exact ⟨hm _ n1.symm, hm _ n2.symm, hm _ n3.symm⟩
  · rw [mk_list]; exact hm _ n4.symm
  · rw [mk_list, cutL_none 47 _ (hm _ n5.symm)]
    intro l hl
    rw [List.mem_singleton] at hl
    subst hl
    exact ⟨by cases n with | zero => omega | succ n => simp [List.replicate_succ], hh _ rfl, hh _ rfl⟩
instance (l : List UInt8) : Decidable (NoSign l) := by unfold NoSign; infer_instance
instance (l : List UInt8) : Decidable (PartOk l) := by unfold PartOk; infer_instance
theorem plain_lit (s : ByteArray) (h1 : NoSign s.data.toList) (h2 : (0 : UInt8) ∉ s.data.toList) (h3 : ∀ l ∈ cutL 47 s.data.toList, PartOk l) : Plain s := ⟨h1, h2, h3⟩
theorem grows_plain : Grows Plain := by
  intro ns hns nm hnm
  have key : Plain nm := by
    unfold creelkeep_names.f strings_Repeat.f at hns
    rw [if_pos (by decide), if_pos (by decide), if_pos (by decide), Option.bind_some, if_pos (by decide), if_pos (by decide), if_pos (by decide), Option.bind_some] at hns
    injection hns with hns
    subst hns
    have k1 : (⟨#[110]⟩ : ByteArray).data.toList = [110] := rfl
    have k2 : (⟨#[109]⟩ : ByteArray).data.toList = [109] := rfl
    rw [k1, k2, repeat_one, repeat_one] at hnm
    simp only [List.mem_cons, List.not_mem_nil, or_false] at hnm
    rcases hnm with rfl | rfl | rfl | rfl | rfl | rfl | rfl | rfl | rfl | rfl | rfl
    all_goals first | exact plain_rep _ _ (by decide) (by decide) | exact plain_lit _ (by decide) (by decide) (by decide)
  exact ⟨key, fun p hp => plain_join hp key⟩

/-- Parts of stars: what they say of a path's parts. -/
theorem parts_star (A B : List ByteArray) (hA : ∀ i : Nat, i < A.length → (rdOf ByteArray.empty A (i : Int)).data.toList = [42, 42] ∨ (rdOf ByteArray.empty A (i : Int)).data.toList = [42]) (hB : ∀ i : Nat, i < B.length → (rdOf ByteArray.empty B (i : Int)).size ≤ 400) (la : A.length ≤ 1000) (lb : B.length ≤ 1000) : ∃ r, glob_parts.f A B = some r ∧ (r = true ↔ Fit A.length B.length (partsSt A) (partsFt A B) 0 0) ∧ (∀ i, i < A.length → (partsSt A i = true ↔ (rdOf ByteArray.empty A (i : Int)).data.toList = [42, 42])) ∧ ∀ i k, i < A.length → k < B.length → partsSt A i = false → partsFt A B i k = true := by
  have hst : ∀ i, i < A.length → (partsSt A i = true ↔ (rdOf ByteArray.empty A (i : Int)).data.toList = [42, 42]) := fun i hi => by
    unfold partsSt; rw [ByteArray.toList_eq, beq_iff_eq]
  have hft : ∀ i k, i < A.length → k < B.length → partsSt A i = false → glob_part.f (rdOf ByteArray.empty A (i : Int)) (rdOf ByteArray.empty B (k : Int)) = some true := fun i k hi hk h => by
    have h1 : (rdOf ByteArray.empty A (i : Int)).data.toList = [42] := by
      rcases hA i hi with h2 | h2
      · rw [(hst i hi).2 h2] at h; cases h
      · exact h2
    have h3 : rdOf ByteArray.empty A (i : Int) = ⟨#[42]⟩ := bytes_ext (by rw [h1])
    rw [h3]
    exact star_part _ (hB k hk)
  refine ⟨_, ?_, fitB_fit, hst, fun i k hi hk h => by unfold partsFt; rw [hft i k hi hk h]; rfl⟩
  unfold glob_parts.f
  rw [if_pos]
  refine ⟨by omega, by omega, ?_⟩
  rw [List.all_eq_true]
  intro i hi
  rw [List.all_eq_true]
  intro k hk
  cases h : partsSt A i with
  | true => rfl
  | false => rw [hft i k (List.mem_range.1 hi) (List.mem_range.1 hk) h]; rfl
def starL : Nat → List UInt8
  | 0 => [42]
  | n + 1 => 42 :: 47 :: starL n
theorem star_rep : ∀ n, Lib.repeatL [42, 47] (n + 1) = starL n ++ [47]
  | 0 => rfl
  | n + 1 => by rw [Lib.repeatL, star_rep n]; rfl
theorem star_cut : ∀ n, cutL 47 (starL n) = List.replicate (n + 1) [42]
  | 0 => by decide
  | n + 1 => by
    have := cutL_app 47 (starL n) [42]
    rw [show starL (n + 1) = [42] ++ 47 :: starL n from rfl, this, star_cut n]
    rfl
theorem star_len : ∀ n, (starL n).length = 2 * n + 1
  | 0 => rfl
  | n + 1 => by rw [starL, List.length_cons, List.length_cons, star_len n]; omega
theorem star_91 : ∀ n, (91 : UInt8) ∉ starL n
  | 0 => by decide
  | n + 1 => by
    rw [starL]
    simp only [List.mem_cons, not_or]
    exact ⟨by decide, by decide, star_91 n⟩
theorem trim_slash (l : List UInt8) (hl : l.length ≤ 100000) : strings_TrimSuffix.f ⟨(l ++ [47]).toArray⟩ ⟨#[47]⟩ = some ⟨l.toArray⟩ := by
  unfold strings_TrimSuffix.f stringslite_TrimSuffix.f stringslite_HasSuffix.f
  have h1 : (⟨(l ++ [47]).toArray⟩ : ByteArray).size = l.length + 1 := by rw [mk_size]; simp
  have h2 : (⟨#[47]⟩ : ByteArray).size = 1 := rfl
  have hw : wrap64 (((l.length + 1 : Nat) : Int) - ((1 : Nat) : Int)) = (l.length : Int) := by rw [w64 (by omega) (by omega)]; omega
  rw [h1, h2, hw, if_pos (by omega), if_pos (by omega), if_pos (by omega), Int.toNat_natCast]
  have e1 : ((⟨(l ++ [47]).toArray⟩ : ByteArray).extract l.length (l.length + 1)).toList = [47] := by
    rw [ByteArray.toList_eq]
    have := ext_drop (⟨(l ++ [47]).toArray⟩ : ByteArray) l.length
    rw [h1] at this
    rw [this, mk_list]; simp
  rw [e1, show (ByteArray.toList ⟨#[47]⟩) = [47] from by rw [ByteArray.toList_eq]]
  rw [Option.bind_some, if_pos (by decide), if_pos (by omega), if_pos (by omega), Option.bind_some]
  congr 1
  apply bytes_ext
  rw [ext_take, mk_list, mk_list]; simp
/-- Parts of the size that they say. -/
theorem cut_sum : ∀ q : List (List UInt8), (∀ t ∈ q, t ≠ []) → q ≠ [] → 2 * q.length ≤ (joinL 47 q).length + 1
  | [], _, h => absurd rfl h
  | [t], h, _ => by
    have := List.length_pos_iff.2 (h t (List.mem_cons_self ..))
    rw [joinL]; simp; omega
  | t :: u :: q, h, _ => by
    have h1 := List.length_pos_iff.2 (h t (List.mem_cons_self ..))
    have h2 := cut_sum (u :: q) (fun x hx => h x (List.mem_cons_of_mem _ hx)) (by simp)
    rw [joinL]
    · simp only [List.length_cons, List.length_append] at h2 ⊢
      omega
    all_goals simp
theorem fits_star {p s : ByteArray} (hs : Plain s) (hss : s.size ≤ 400) (hp0 : 0 < p.size) (hp : p.size ≤ 400) (h91 : (91 : UInt8) ∉ p.data.toList) (hps : ∀ l ∈ cutL 47 p.data.toList, l = [42, 42] ∨ l = [42]) : ∃ A B k r, path_Parts.f s = some B ∧ B.map (·.data.toList) = cutL 47 s.data.toList ∧ A.map (·.data.toList) = cutL 47 p.data.toList ∧ (∀ d, glob_Fits.f (k + d) p s = some (r, 0)) ∧ (r = true ↔ Fit A.length B.length (partsSt A) (partsFt A B) 0 0) ∧ (∀ i, i < A.length → (partsSt A i = true ↔ (rdOf ByteArray.empty A (i : Int)).data.toList = [42, 42])) ∧ ∀ i k, i < A.length → k < B.length → partsSt A i = false → partsFt A B i k = true := by
  obtain ⟨k, hk⟩ := check_ok2 hp0 hp h91 (fun l hl => by rcases hps l hl with rfl | rfl <;> simp)
  obtain ⟨A, a1, a2, a3⟩ := parts_spec p (by omega)
  obtain ⟨B, b1, b2, b3⟩ := parts_spec s (by omega)
  unfold partsL at a2 b2
  have hpn : p.data.toList ≠ [] := fun e => by have := size_list p; rw [e] at this; simp at this; omega
  rw [if_neg hpn] at a2
  rw [if_neg (plain_ne hs)] at b2
  obtain ⟨r, r1, r2, r3, r4⟩ := parts_star A B (fun i hi => hps _ (by
    rw [← a2]; unfold rdOf
    simp only [Int.toNat_natCast, List.getD_eq_getElem?_getD, List.getElem?_eq_getElem hi, Option.getD_some]
    exact List.mem_map.2 ⟨_, List.getElem_mem _, rfl⟩)) (fun i hi => by
    have h1 : (rdOf ByteArray.empty B (i : Int)).data.toList ∈ cutL 47 s.data.toList := by
      rw [← b2]; unfold rdOf
      simp only [Int.toNat_natCast, List.getD_eq_getElem?_getD, List.getElem?_eq_getElem hi, Option.getD_some]
      exact List.mem_map.2 ⟨_, List.getElem_mem _, rfl⟩
    have h2 := cut_len 47 _ _ h1
    rw [size_list, size_list] at h2
    omega) (by omega) (by omega)
  refine ⟨A, B, k + 1001, r, b1, b2, a2, fun d => ?_, r2, r3, r4⟩
  unfold glob_Fits.f
  rw [show k + 1001 + d = k + (1001 + d) by omega, hk, Option.bind_some, if_pos rfl, path_check_ok hs hss _ (by omega), Option.bind_some, if_pos rfl, a1, Option.bind_some, b1, Option.bind_some, r1, Option.bind_some]
theorem rd_cut {A : List ByteArray} {q : List (List UInt8)} (h : A.map (·.data.toList) = q) (i : Nat) (hi : i < A.length) : (rdOf ByteArray.empty A (i : Int)).data.toList = q.getD i [] := by
  rw [← h, rd_map A i hi]
theorem GlobStars : creelkeep_GlobStars.Pure := by
  intro l a1 hl hR w1
  obtain ⟨ps, h1, h2, h3, h4⟩ := paths_ok grows_plain (plain_lit _ (by decide) (by decide) (by decide)) 20 l hR hl
  obtain ⟨i, hi, hi0, hi1⟩ := picked_spec (m := (ps.length : Int)) w1 (by omega)
  have hm : ∀ q : Int, 0 ≤ q → q < ps.length → rdOf ByteArray.empty ps q ∈ ps := fun q q0 q1 => by
    unfold rdOf; rw [List.getD_eq_getElem?_getD, List.getElem?_eq_getElem (by omega)]; exact List.getElem_mem _
  obtain ⟨sp, ss⟩ := h4 _ (hm i hi0 hi1)
  unfold creelkeep_GlobStars.f
  generalize hs : rdOf ByteArray.empty ps i = s at sp ss
  obtain ⟨B, b1, b2, b3⟩ := parts_spec s (by omega)
  unfold partsL at b2
  rw [if_neg (plain_ne sp)] at b2
  have hBl : B.length = (cutL 47 s.data.toList).length := by rw [← b2, List.length_map]
  have hB0 : 0 < B.length := by rw [hBl]; exact List.length_pos_iff.2 (cutL_ne _ _)
  have hsum := cut_sum (cutL 47 s.data.toList) (fun t ht => (sp.parts t ht).1) (cutL_ne _ _)
  rw [joinL_cut, size_list, ← hBl] at hsum
  obtain ⟨n, hn⟩ : ∃ n, B.length = n + 1 := ⟨B.length - 1, by omega⟩
  have hsz4 : (⟨(starL n).toArray⟩ : ByteArray).size = 2 * n + 1 := by rw [mk_size, star_len]
  obtain ⟨A1, B1, k1, r1, e1, _, c1, f1, g1, s1, t1⟩ := fits_star (p := ⟨#[42, 42]⟩) sp ss (by decide) (by decide) (by decide) (by decide)
  obtain ⟨A2, B2, k2, r2, e2, _, c2, f2, g2, s2, t2⟩ := fits_star (p := ⟨#[42]⟩) sp ss (by decide) (by decide) (by decide) (by decide)
  obtain ⟨A3, B3, k3, r3, e3, _, c3, f3, g3, s3, t3⟩ := fits_star (p := ⟨#[42, 42, 47, 42]⟩) sp ss (by decide) (by decide) (by decide) (by decide)
  obtain ⟨A4, B4, k4, r4, e4, _, c4, f4, g4, s4, t4⟩ := fits_star (p := ⟨(starL n).toArray⟩) sp ss (by omega) (by omega) (by rw [mk_list]; exact star_91 n) (by rw [mk_list, star_cut]; intro l hl; exact .inr (List.eq_of_mem_replicate hl))
  obtain rfl : B = B1 := Option.some.inj (b1.symm.trans e1)
  obtain rfl : B = B2 := Option.some.inj (b1.symm.trans e2)
  obtain rfl : B = B3 := Option.some.inj (b1.symm.trans e3)
  obtain rfl : B = B4 := Option.some.inj (b1.symm.trans e4)
  have l1 : A1.length = 1 := by have := congrArg List.length c1; rw [List.length_map] at this; exact this
  have l2 : A2.length = 1 := by have := congrArg List.length c2; rw [List.length_map] at this; exact this
  have l3 : A3.length = 2 := by have := congrArg List.length c3; rw [List.length_map] at this; exact this
  have l4 : A4.length = n + 1 := by have := congrArg List.length c4; rw [List.length_map, mk_list, star_cut, List.length_replicate] at this; exact this
  have q1 : r1 = true := g1.2 ((fit_star (by omega) ((s1 0 (by omega)).2 (by rw [rd_cut c1 0 (by omega)]; decide)) 0).2 ⟨B.length, by omega, by rw [show 0 + 1 = A1.length from by omega]; exact fit_end⟩)
  have n2 : ∀ i, i < A2.length → partsSt A2 i = false := fun i hi => by
    obtain rfl : i = 0 := by omega
    cases h : partsSt A2 0 with
    | false => rfl
    | true => have := (s2 0 (by omega)).1 h; rw [rd_cut c2 0 (by omega)] at this; exact absurd this (by decide)
  have q2 : r2 = true ↔ B.length = 1 := by
    rw [g2, fit_plain n2 1 0 0 (by omega) (by omega)]
    exact ⟨fun h => by omega, fun h => ⟨by omega, fun q hq => t2 _ _ (by omega) (by omega) (n2 _ (by omega))⟩⟩
  have n3 : partsSt A3 1 = false := by
    cases h : partsSt A3 1 with
    | false => rfl
    | true => have := (s3 1 (by omega)).1 h; rw [rd_cut c3 1 (by omega)] at this; exact absurd this (by decide)
  have q3 : r3 = true := g3.2 ((fit_star (by omega) ((s3 0 (by omega)).2 (by rw [rd_cut c3 0 (by omega)]; decide)) 0).2 ⟨n, by omega, fit_one (by omega) n3 (by omega) (t3 1 n (by omega) (by omega) n3) (by rw [← hn, show 0 + 1 + 1 = A3.length from by omega]; exact fit_end)⟩)
  have n4 : ∀ i, i < A4.length → partsSt A4 i = false := fun i hi => by
    cases h : partsSt A4 i with
    | false => rfl
    | true =>
      have := (s4 i hi).1 h
      rw [rd_cut c4 i hi, mk_list, star_cut, List.getD_eq_getElem?_getD, List.getElem?_replicate, if_pos (by omega)] at this
      exact absurd this (by decide)
  have q4 : r4 = true := g4.2 ((fit_plain n4 (n + 1) 0 0 (by omega) (by omega)).2 ⟨by omega, fun q hq => t4 _ _ (by omega) (by omega) (n4 _ (by omega))⟩)
  refine ⟨k1 + k2 + k3 + k4, ?_⟩
  have F1 := f1 (k2 + k3 + k4)
  have F2 := f2 (k1 + k3 + k4)
  have F3 := f3 (k1 + k2 + k4)
  have F4 := f4 (k1 + k2 + k3)
  rw [show k1 + (k2 + k3 + k4) = k1 + k2 + k3 + k4 by omega] at F1
  rw [show k2 + (k1 + k3 + k4) = k1 + k2 + k3 + k4 by omega] at F2
  rw [show k3 + (k1 + k2 + k4) = k1 + k2 + k3 + k4 by omega] at F3
  rw [show k4 + (k1 + k2 + k3) = k1 + k2 + k3 + k4 by omega] at F4
  have hrep : strings_Repeat.f (⟨#[42, 47]⟩ : ByteArray) (B.length : Int) = some ⟨(starL n ++ [47]).toArray⟩ := by
    unfold strings_Repeat.f
    have sz : (⟨#[42, 47]⟩ : ByteArray).size = 2 := rfl
    have sl : (⟨#[42, 47]⟩ : ByteArray).data.toList = [42, 47] := rfl
    rw [if_pos (by omega), if_pos (by omega), Int.toNat_natCast, sz, if_pos (by omega), sl, hn, star_rep]
  rw [h1, Option.bind_some, hi, Option.bind_some, if_pos hi0, if_pos hi1, hs, b1, Option.bind_some, F1, Option.bind_some, F2, Option.bind_some, F3, Option.bind_some, hrep, Option.bind_some, trim_slash _ (by rw [star_len]; omega), Option.bind_some, F4, Option.bind_some]
  dsimp only
  rw [if_pos rfl, if_pos rfl, if_pos rfl, if_pos rfl, if_pos q1, if_pos, if_pos q3, q4]
  rw [beq_iff_eq, Bool.eq_iff_iff, q2, beq_iff_eq]
  omega

end Go.Proofs.YthonjghpblkpgaaDoor.Pure
