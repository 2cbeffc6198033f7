/- Lists of bytes. -/
import Derived.Test.YtnfbomhhgjlacaaDoorRbase
import Derived.Lib.SplitLaws
import Derived.Lib.IndexBytes
import Derived.Lib.Repeat
import Derived.Lib.Replace
import Derived.Lib.TrimByte
namespace Go.Proofs.YtnfbomhhgjlacaaDoor.Abs
set_option linter.unusedVariables false
set_option linter.unusedSimpArgs false
theorem app_list (a b : ByteArray) : (a ++ b).data.toList = a.data.toList ++ b.data.toList := by
  rw [ByteArray.data_append, Array.toList_append]
theorem size_list (a : ByteArray) : a.data.toList.length = a.size := by
  rw [Array.length_toList]; rfl
theorem bytes_ext {a b : ByteArray} (h : a.data.toList = b.data.toList) : a = b := by
  cases a; cases b; simp_all [← Array.toList_inj]
theorem idx_none : ∀ (t : List UInt8) (c : UInt8), c ∉ t → Lib.indexByte t c = -1
  | [], _, _ => rfl
  | b :: t, c, h => by
    have hb : (b == c) = false := by rw [beq_eq_false_iff_ne]; intro e; exact h (by simp [e])
    have ih := idx_none t c (fun hm => h (by simp [hm]))
    simp [Lib.indexByte, hb, ih]
theorem idx_at : ∀ (t r : List UInt8) (c : UInt8), c ∉ t → Lib.indexByte (t ++ c :: r) c = t.length
  | [], r, c, _ => by simp [Lib.indexByte]
  | b :: t, r, c, h => by
    have hb : (b == c) = false := by rw [beq_eq_false_iff_ne]; intro e; exact h (by simp [e])
    have ih := idx_at t r c (fun hm => h (by simp [hm]))
    have hn : ((t.length : Int) == -1) = false := by rw [beq_eq_false_iff_ne]; omega
    simp [Lib.indexByte, hb, ih, hn]
theorem idx_split (l : List UInt8) (c : UInt8) : ∃ t r, l = t ++ r ∧ c ∉ t ∧ (r = [] ∨ ∃ r', r = c :: r') := by
  induction l with
  | nil => exact ⟨[], [], rfl, by simp, .inl rfl⟩
  | cons b l ih =>
    by_cases e : b = c
    · exact ⟨[], b :: l, rfl, by simp, .inr ⟨l, by rw [e]⟩⟩
    · obtain ⟨t, r, h1, h2, h3⟩ := ih
      exact ⟨b :: t, r, by rw [h1]; rfl, by simp [Ne.symm e, h2], h3⟩
theorem repeat_one (c : UInt8) : ∀ n, Lib.repeatL [c] n = List.replicate n c
  | 0 => rfl
  | n + 1 => by simp [Lib.repeatL, repeat_one c n, List.replicate_succ]
theorem mk_list (l : List UInt8) : (⟨l.toArray⟩ : ByteArray).data.toList = l := by simp
theorem mk_size (l : List UInt8) : (⟨l.toArray⟩ : ByteArray).size = l.length := by rw [← size_list, mk_list]
theorem is_mk (s : ByteArray) : s = ⟨s.data.toList.toArray⟩ := by cases s; simp
theorem mk_inj {a b : List UInt8} : (⟨a.toArray⟩ : ByteArray) = ⟨b.toArray⟩ ↔ a = b := ⟨fun h => by have := congrArg (fun x : ByteArray => x.data.toList) h; simpa using this, fun h => by rw [h]⟩
theorem dw_nil (p : UInt8 → Bool) : ∀ l : List UInt8, l.dropWhile p = [] ↔ ∀ x ∈ l, p x = true
  | [] => by simp
  | a :: l => by
    by_cases h : p a = true
    · rw [List.dropWhile_cons_of_pos h, dw_nil p l]; simp [h]
    · rw [List.dropWhile_cons_of_neg h]; simp [h]
theorem trim_zero (r : List UInt8) (c : UInt8) : Lib.trimB r c = [] ↔ ∀ x ∈ r, x = c := by
  unfold Lib.trimB Lib.trimLeftB Lib.trimRightB
  constructor
  · intro h x hx
    have h1 : ∀ y ∈ (r.reverse.dropWhile (· == c)).reverse, (y == c) = true := by
      rw [dw_nil] at h
      exact h
    have h2 : r.reverse.dropWhile (· == c) = [] := by
      cases hd : r.reverse.dropWhile (· == c) with
      | nil => rfl
      | cons a l =>
        have ha := h1 a (by rw [hd]; simp)
        have := List.head?_dropWhile_not (· == c) r.reverse
        rw [hd] at this
        simp [ha] at this
    rw [dw_nil] at h2
    exact eq_of_beq (h2 x (by simpa using hx))
  · intro h
    have h2 : r.reverse.dropWhile (· == c) = [] := by
      rw [dw_nil]
      intro x hx
      exact beq_iff_eq.2 (h x (by simpa using hx))
    rw [h2]
    rfl
theorem toList_mk (l : List UInt8) : (⟨l.toArray⟩ : ByteArray).toList = l := by rw [ByteArray.toList_eq, mk_list]
def cutL (c : UInt8) : List UInt8 → List (List UInt8)
  | [] => [[]]
  | b :: l => if b = c then [] :: cutL c l else match cutL c l with
    | [] => [[b]]
    | t :: r => (b :: t) :: r
theorem cutL_ne (c : UInt8) : ∀ l, cutL c l ≠ []
  | [] => by simp [cutL]
  | b :: l => by unfold cutL; split; · simp
                 · split <;> simp
theorem cutL_app (c : UInt8) (v : List UInt8) : ∀ u, cutL c (u ++ c :: v) = cutL c u ++ cutL c v
  | [] => by simp [cutL]
  | b :: u => by
    rw [List.cons_append, cutL, cutL, cutL_app c v u]
    by_cases h : b = c
    · rw [if_pos h, if_pos h]; rfl
    · rw [if_neg h, if_neg h]
      cases e : cutL c u with
      | nil => exact absurd e (cutL_ne c u)
      | cons t r => rfl
theorem cutL_none (c : UInt8) : ∀ u, c ∉ u → cutL c u = [u]
  | [], _ => rfl
  | b :: u, h => by
    have hb : b ≠ c := fun e => h (by simp [e])
    rw [cutL, if_neg hb, cutL_none c u (fun hm => h (by simp [hm]))]
def joinL (c : UInt8) : List (List UInt8) → List UInt8
  | [] => []
  | [t] => t
  | t :: s :: r => t ++ c :: joinL c (s :: r)
theorem joinL_cut (c : UInt8) : ∀ l, joinL c (cutL c l) = l
  | [] => rfl
  | b :: l => by
    have ih := joinL_cut c l
    rw [cutL]
    by_cases h : b = c
    · rw [if_pos h]
      cases e : cutL c l with
      | nil => exact absurd e (cutL_ne c l)
      | cons t r => rw [e] at ih; rw [joinL, ih, h]; rfl
    · rw [if_neg h]
      cases e : cutL c l with
      | nil => exact absurd e (cutL_ne c l)
      | cons t r =>
        rw [e] at ih
        cases r with
        | nil => simp only [joinL] at ih ⊢; rw [ih]
        | cons s r => simp only [joinL] at ih ⊢; rw [List.cons_append, ih]
theorem cutL_inj (c : UInt8) {a b : List UInt8} (h : cutL c a = cutL c b) : a = b := by
  rw [← joinL_cut c a, h, joinL_cut]
theorem splitK_cut (c : UInt8) : ∀ (n : Nat) (l : List UInt8), l.length ≤ n → Lib.splitK [c] 0 (l.count c) l = cutL c l := by
  intro n
  induction n with
  | zero => intro l h; have : l = [] := List.eq_nil_of_length_eq_zero (by omega); subst this; rfl
  | succ n ih =>
    intro l h
    obtain ⟨t, r, h1, h2, h3⟩ := idx_split l c
    subst h1
    rcases h3 with h3 | ⟨r', h3⟩
    · subst h3
      rw [List.append_nil, List.count_eq_zero_of_not_mem h2, cutL_none c t h2]; rfl
    · subst h3
      have hc : (t ++ c :: r').count c = r'.count c + 1 := by
        rw [List.count_append, List.count_eq_zero_of_not_mem h2, List.count_cons_self]; omega
      have hi : Lib.index (t ++ c :: r') [c] = t.length := by rw [Lib.index_one, idx_at t r' c h2]
      have hm : ¬ ((Lib.index (t ++ c :: r') [c] == -1) = true) := by rw [beq_iff_eq, hi]; omega
      have hx : r'.length ≤ n := by simp at h; omega
      rw [hc, Lib.splitK, if_neg hm, hi, cutL_app, cutL_none c t h2]
      have e1 : (t ++ c :: r').take ((t.length : Int).toNat + 0) = t := by simp
      have e2 : (t ++ c :: r').drop ((t.length : Int).toNat + [c].length) = r' := by simp [List.drop_append]
      rw [e1, e2, ih r' hx]
      rfl
theorem splitB_cut (c : UInt8) (s : ByteArray) : (Lib.splitB ⟨#[c]⟩ 0 (Lib.countB s ⟨#[c]⟩) s).map (·.data.toList) = cutL c s.data.toList := by
  rw [Lib.splitB_data]
  have : Lib.countB s ⟨#[c]⟩ = s.data.toList.count c := Lib.count_one c s.data.toList
  rw [this]
  exact splitK_cut c _ _ (Nat.le_refl _)
/-- A text without a byte 0: each is '0' instead. -/
def noz (l : List UInt8) : List UInt8 := l.map fun b => if b = 0 then 48 else b
theorem noz_free (l : List UInt8) : (0 : UInt8) ∉ noz l := by
  intro h
  simp only [noz, List.mem_map] at h
  obtain ⟨b, _, hb⟩ := h
  by_cases e : b = 0
  · rw [if_pos e] at hb; cases hb
  · rw [if_neg e] at hb; exact e hb
theorem replaceK_noz : ∀ (k : Nat) (l : List UInt8), l.count 0 ≤ k → Lib.replaceK [0] [48] k l = noz l
  | 0, l, h => by
    have hn : (0 : UInt8) ∉ l := by
      rw [← List.count_eq_zero]; omega
    simp only [Lib.replaceK, noz]
    symm
    rw [List.map_congr_left (g := id) (fun b hb => by rw [if_neg (fun e : b = 0 => hn (e ▸ hb))]; rfl)]
    simp
  | k + 1, l, h => by
    simp only [Lib.replaceK, Lib.index_one]
    obtain ⟨t, r, rfl, hn, rfl | ⟨r', rfl⟩⟩ := idx_split l 0
    · rw [List.append_nil, idx_none t 0 hn, if_pos (by decide)]
      have := replaceK_noz 0 t (by rw [List.count_eq_zero.2 hn]; omega)
      simpa [Lib.replaceK] using this
    · have hne : ((t.length : Int) == -1) = false := by rw [beq_eq_false_iff_ne]; omega
      rw [idx_at t r' 0 hn, hne]
      have e1 : ((t.length : Nat) : Int).toNat = t.length := by omega
      simp only [Bool.false_eq_true, if_false, e1, List.length_singleton, List.take_left]
      have e2 : (t ++ 0 :: r').drop (t.length + 1) = r' := by
        rw [← List.drop_drop, List.drop_left]; rfl
      rw [e2, replaceK_noz k r' (by rw [List.count_append, List.count_cons_self] at h; omega)]
      have ht : noz t = t := by
        have := replaceK_noz 0 t (by rw [List.count_eq_zero.2 hn]; omega)
        simpa [Lib.replaceK] using this.symm
      simp [noz] at ht ⊢
      exact ht.symm
theorem replaceAll_noz (l : List UInt8) : Lib.replaceAll l [0] [48] = noz l := by
  unfold Lib.replaceAll Lib.replace
  rw [if_neg (by decide)]
  apply replaceK_noz
  unfold Lib.replaceNum
  rw [if_pos (.inl (by decide)), Lib.count_one]
  exact Nat.le_refl _
structure Tot {α : Type} (c : α → α → Int) : Prop where
  neg : ∀ a b, c b a = - c a b
  zero : ∀ a b, c a b = 0 ↔ a = b
  tr : ∀ a b d, c a b ≤ 0 → c b d ≤ 0 → c a d ≤ 0
  rng : ∀ a b, c a b = -1 ∨ c a b = 0 ∨ c a b = 1
def lexC {α : Type} (c : α → α → Int) : List α → List α → Int
  | [], [] => 0
  | [], _ :: _ => -1
  | _ :: _, [] => 1
  | a :: x, b :: y => if c a b = 0 then lexC c x y else c a b
theorem lex_tot {α : Type} {c : α → α → Int} (T : Tot c) : Tot (lexC c) := by
  have rng : ∀ x y : List α, lexC c x y = -1 ∨ lexC c x y = 0 ∨ lexC c x y = 1 := by
    intro x
    induction x with
    | nil => intro y; cases y <;> simp [lexC]
    | cons a x ih =>
      intro y
      cases y with
      | nil => simp [lexC]
      | cons b y => rw [lexC]; split; · exact ih y
                    · exact T.rng a b
  have neg : ∀ x y : List α, lexC c y x = - lexC c x y := by
    intro x
    induction x with
    | nil => intro y; cases y <;> simp [lexC]
    | cons a x ih =>
      intro y
      cases y with
      | nil => simp [lexC]
      | cons b y =>
        rw [lexC, lexC, T.neg a b]
        by_cases h : c a b = 0
        · rw [if_pos h, if_pos (by omega), ih]
        · rw [if_neg h, if_neg (by omega)]
  have zero : ∀ x y : List α, lexC c x y = 0 ↔ x = y := by
    intro x
    induction x with
    | nil => intro y; cases y <;> simp [lexC]
    | cons a x ih =>
      intro y
      cases y with
      | nil => simp [lexC]
      | cons b y =>
        rw [lexC]
        by_cases h : c a b = 0
        · rw [if_pos h, ih]; simp [(T.zero a b).1 h]
        · rw [if_neg h]
          constructor
          · intro h'; exact absurd h' h
          · intro h'; injection h' with h1 h2; exact (T.zero a b).2 h1
  refine ⟨neg, zero, ?_, rng⟩
  intro x
  induction x with
  | nil => intro y z _ _; cases z <;> simp [lexC]
  | cons a x ih =>
    intro y z h1 h2
    cases y with
    | nil => simp [lexC] at h1
    | cons b y =>
      cases z with
      | nil => simp [lexC] at h2
      | cons d z =>
        rw [lexC] at h1 h2 ⊢
        by_cases e1 : c a b = 0
        · rw [if_pos e1] at h1
          have hab := (T.zero a b).1 e1
          subst hab
          by_cases e2 : c a d = 0
          · rw [if_pos e2] at h2 ⊢; exact ih y z h1 h2
          · rw [if_neg e2] at h2 ⊢; exact h2
        · rw [if_neg e1] at h1
          by_cases e2 : c b d = 0
          · have hbd := (T.zero b d).1 e2
            subst hbd
            rw [if_neg e1]; exact h1
          · rw [if_neg e2] at h2
            have h3 := T.tr a b d h1 h2
            by_cases e3 : c a d = 0
            · have had := (T.zero a d).1 e3
              subst had
              have := T.neg a b
              omega
            · rw [if_neg e3]; exact h3
def cU (a b : UInt8) : Int := if a < b then -1 else if b < a then 1 else 0
theorem cU_tot : Tot cU := by
  have e : ∀ a b : UInt8, (a < b ↔ a.toNat < b.toNat) ∧ (a = b ↔ a.toNat = b.toNat) := fun a b => ⟨UInt8.lt_iff_toNat_lt, ⟨fun h => by rw [h], UInt8.toNat_inj.1⟩⟩
  refine ⟨fun a b => ?_, fun a b => ?_, fun a b d => ?_, fun a b => ?_⟩
  all_goals simp only [cU, (e _ _).1, (e _ _).2]
  all_goals repeat' split
  all_goals omega
theorem less_lex : ∀ x y : List UInt8, Op.bytesLess x y = decide (lexC cU x y < 0)
  | [], [] => by simp [Op.bytesLess, lexC]
  | [], _ :: _ => by simp [Op.bytesLess, lexC]
  | _ :: _, [] => by simp [Op.bytesLess, lexC]
  | a :: x, b :: y => by
    rw [Op.bytesLess, less_lex x y, lexC]
    by_cases h : a < b
    · have : cU a b = -1 := by simp [cU, h]
      simp [h, this]
    · by_cases h' : a = b
      · subst h'; have : cU a a = 0 := (cU_tot.zero a a).2 rfl
        simp [h, this]
      · have : cU a b = 1 := by
          rcases cU_tot.rng a b with q | q | q
          · simp only [cU, h, if_false] at q; split at q <;> simp at q
          · exact absurd ((cU_tot.zero a b).1 q) h'
          · exact q
        simp [h, h', this]
def mkS (l : List UInt8) : ByteArray := ⟨l.toArray⟩
theorem mkS_list (l : List UInt8) : (mkS l).data.toList = l := mk_list l
theorem mkS_size (l : List UInt8) : (mkS l).size = l.length := mk_size l
theorem mkS_self (s : ByteArray) : mkS s.data.toList = s := (is_mk s).symm
end Go.Proofs.YtnfbomhhgjlacaaDoor.Abs
