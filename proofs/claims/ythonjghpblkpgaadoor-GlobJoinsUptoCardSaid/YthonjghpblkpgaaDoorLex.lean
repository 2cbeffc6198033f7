/- Plain facts on bytes, cuts at a sign, and orders; the meaning of 'wild'. -/
import Derived.Lib.SplitLaws
import Derived.Lib.IndexBytes
import Derived.Lib.TrimByte
import Derived.Lib.Strings
import Derived.Lib.SmallJoins
import Derived.Lib.Repeat
import Derived.Test.YthonjghpblkpgaaDoorWWords
namespace Go.Proofs.YthonjghpblkpgaaDoor
open Go.RowKit Go.Proofs.YthonjghpblkpgaaDoorW.PrintWords
theorem app_list (a b : ByteArray) : (a ++ b).data.toList = a.data.toList ++ b.data.toList := by
  rw [ByteArray.data_append, Array.toList_append]
theorem size_list (a : ByteArray) : a.data.toList.length = a.size := by
  rw [Array.length_toList]; rfl
theorem bytes_ext {a b : ByteArray} (h : a.data.toList = b.data.toList) : a = b := by
  cases a; cases b; simp_all [← Array.toList_inj]
theorem w64 {n : Int} (h1 : -9223372036854775808 ≤ n) (h2 : n ≤ 9223372036854775807) : wrap64 n = n := by
  unfold wrap64
  omega
theorem idx_none : ∀ (t : List UInt8) (c : UInt8), c ∉ t → Lib.indexByte t c = -1
  | [], _, _ => rfl
  | b :: t, c, h => by
    have hb : (b == c) = false := by rw [beq_eq_false_iff_ne]; intro e; exact h (by simp [e])
    have ih := idx_none t c (fun hm => h (by simp [hm]))
    simp [Lib.indexByte, hb, ih]
theorem idx_at : ∀ (t r : List UInt8) (c : UInt8), c ∉ t → Lib.indexByte (t ++ c :: r) c = t.length
  | [], r, c, _ => by simp [Lib.indexByte]
  | b :: t, r, c, h => by
    have hb : (b == c) = false := by rw [beq_eq_false_iff_ne]; intro e; exact h (by simp [e])
    have ih := idx_at t r c (fun hm => h (by simp [hm]))
    have hn : ((t.length : Int) == -1) = false := by rw [beq_eq_false_iff_ne]; omega
    simp [Lib.indexByte, hb, ih, hn]
theorem idx_split (l : List UInt8) (c : UInt8) : ∃ t r, l = t ++ r ∧ c ∉ t ∧ (r = [] ∨ ∃ r', r = c :: r') := by
  induction l with
  | nil => exact ⟨[], [], rfl, by simp, .inl rfl⟩
  | cons b l ih =>
    by_cases e : b = c
    · exact ⟨[], b :: l, rfl, by simp, .inr ⟨l, by rw [e]⟩⟩
    · obtain ⟨t, r, h1, h2, h3⟩ := ih
      exact ⟨b :: t, r, by rw [h1]; rfl, by simp [Ne.symm e, h2], h3⟩
theorem repeat_one (c : UInt8) : ∀ n, Lib.repeatL [c] n = List.replicate n c
  | 0 => rfl
  | n + 1 => by simp [Lib.repeatL, repeat_one c n, List.replicate_succ]
theorem mk_list (l : List UInt8) : (⟨l.toArray⟩ : ByteArray).data.toList = l := by simp
theorem mk_size (l : List UInt8) : (⟨l.toArray⟩ : ByteArray).size = l.length := by rw [← size_list, mk_list]
theorem is_mk (s : ByteArray) : s = ⟨s.data.toList.toArray⟩ := by cases s; simp
theorem mk_inj {a b : List UInt8} : (⟨a.toArray⟩ : ByteArray) = ⟨b.toArray⟩ ↔ a = b := ⟨fun h => by have := congrArg (fun x : ByteArray => x.data.toList) h; simpa using this, fun h => by rw [h]⟩
theorem dw_nil (p : UInt8 → Bool) : ∀ l : List UInt8, l.dropWhile p = [] ↔ ∀ x ∈ l, p x = true
  | [] => by simp
  | a :: l => by
    by_cases h : p a = true
    · rw [List.dropWhile_cons_of_pos h, dw_nil p l]; simp [h]
    · rw [List.dropWhile_cons_of_neg h]; simp [h]
theorem trim_zero (r : List UInt8) (c : UInt8) : Lib.trimB r c = [] ↔ ∀ x ∈ r, x = c := by
  unfold Lib.trimB Lib.trimLeftB Lib.trimRightB
  constructor
  · intro h x hx
    have h1 : ∀ y ∈ (r.reverse.dropWhile (· == c)).reverse, (y == c) = true := by
      rw [dw_nil] at h
      exact h
    have h2 : r.reverse.dropWhile (· == c) = [] := by
      cases hd : r.reverse.dropWhile (· == c) with
      | nil => rfl
      | cons a l =>
        have ha := h1 a (by rw [hd]; simp)
        have := List.head?_dropWhile_not (· == c) r.reverse
        rw [hd] at this
        simp [ha] at this
    rw [dw_nil] at h2
    exact eq_of_beq (h2 x (by simpa using hx))
  · intro h
    have h2 : r.reverse.dropWhile (· == c) = [] := by
      rw [dw_nil]
      intro x hx
      exact beq_iff_eq.2 (h x (by simpa using hx))
    rw [h2]
    rfl
theorem toList_mk (l : List UInt8) : (⟨l.toArray⟩ : ByteArray).toList = l := by rw [ByteArray.toList_eq, mk_list]
def cutL (c : UInt8) : List UInt8 → List (List UInt8)
  | [] => [[]]
  | b :: l => if b = c then [] :: cutL c l else match cutL c l with
    | [] => [[b]]
    | t :: r => (b :: t) :: r
theorem cutL_ne (c : UInt8) : ∀ l, cutL c l ≠ []
  | [] => by simp [cutL]
  | b :: l => by unfold cutL; split; · simp
                 · split <;> simp
theorem cutL_app (c : UInt8) (v : List UInt8) : ∀ u, cutL c (u ++ c :: v) = cutL c u ++ cutL c v
  | [] => by simp [cutL]
  | b :: u => by
    rw [List.cons_append, cutL, cutL, cutL_app c v u]
    by_cases h : b = c
    · rw [if_pos h, if_pos h]; rfl
    · rw [if_neg h, if_neg h]
      cases e : cutL c u with
      | nil => exact absurd e (cutL_ne c u)
      | cons t r => rfl
theorem cutL_none (c : UInt8) : ∀ u, c ∉ u → cutL c u = [u]
  | [], _ => rfl
  | b :: u, h => by
    have hb : b ≠ c := fun e => h (by simp [e])
    rw [cutL, if_neg hb, cutL_none c u (fun hm => h (by simp [hm]))]
def joinL (c : UInt8) : List (List UInt8) → List UInt8
  | [] => []
  | [t] => t
  | t :: s :: r => t ++ c :: joinL c (s :: r)
theorem joinL_cut (c : UInt8) : ∀ l, joinL c (cutL c l) = l
  | [] => rfl
  | b :: l => by
    have ih := joinL_cut c l
    rw [cutL]
    by_cases h : b = c
    · rw [if_pos h]
      cases e : cutL c l with
      | nil => exact absurd e (cutL_ne c l)
      | cons t r => rw [e] at ih; rw [joinL, ih, h]; rfl
    · rw [if_neg h]
      cases e : cutL c l with
      | nil => exact absurd e (cutL_ne c l)
      | cons t r =>
        rw [e] at ih
        cases r with
        | nil => simp only [joinL] at ih ⊢; rw [ih]
        | cons s r => simp only [joinL] at ih ⊢; rw [List.cons_append, ih]
theorem cutL_inj (c : UInt8) {a b : List UInt8} (h : cutL c a = cutL c b) : a = b := by
  rw [← joinL_cut c a, h, joinL_cut]
theorem splitK_cut (c : UInt8) : ∀ (n : Nat) (l : List UInt8), l.length ≤ n → Lib.splitK [c] 0 (l.count c) l = cutL c l := by
  intro n
  induction n with
  | zero => intro l h; have : l = [] := List.eq_nil_of_length_eq_zero (by omega); subst this; rfl
  | succ n ih =>
    intro l h
    obtain ⟨t, r, h1, h2, h3⟩ := idx_split l c
    subst h1
    rcases h3 with h3 | ⟨r', h3⟩
    · subst h3
      rw [List.append_nil, List.count_eq_zero_of_not_mem h2, cutL_none c t h2]; rfl
    · subst h3
      have hc : (t ++ c :: r').count c = r'.count c + 1 := by
        rw [List.count_append, List.count_eq_zero_of_not_mem h2, List.count_cons_self]; omega
      have hi : Lib.index (t ++ c :: r') [c] = t.length := by rw [Lib.index_one, idx_at t r' c h2]
      have hm : ¬ ((Lib.index (t ++ c :: r') [c] == -1) = true) := by rw [beq_iff_eq, hi]; omega
      have hx : r'.length ≤ n := by simp at h; omega
      rw [hc, Lib.splitK, if_neg hm, hi, cutL_app, cutL_none c t h2]
      have e1 : (t ++ c :: r').take ((t.length : Int).toNat + 0) = t := by simp
      have e2 : (t ++ c :: r').drop ((t.length : Int).toNat + [c].length) = r' := by simp [List.drop_append]
      rw [e1, e2, ih r' hx]
      rfl
theorem splitB_cut (c : UInt8) (s : ByteArray) : (Lib.splitB ⟨#[c]⟩ 0 (Lib.countB s ⟨#[c]⟩) s).map (·.data.toList) = cutL c s.data.toList := by
  rw [Lib.splitB_data]
  have : Lib.countB s ⟨#[c]⟩ = s.data.toList.count c := Lib.count_one c s.data.toList
  rw [this]
  exact splitK_cut c _ _ (Nat.le_refl _)
structure Tot {α : Type} (c : α → α → Int) : Prop where
  neg : ∀ a b, c b a = - c a b
  zero : ∀ a b, c a b = 0 ↔ a = b
  tr : ∀ a b d, c a b ≤ 0 → c b d ≤ 0 → c a d ≤ 0
  rng : ∀ a b, c a b = -1 ∨ c a b = 0 ∨ c a b = 1
def lexC {α : Type} (c : α → α → Int) : List α → List α → Int
  | [], [] => 0
  | [], _ :: _ => -1
  | _ :: _, [] => 1
  | a :: x, b :: y => if c a b = 0 then lexC c x y else c a b
theorem lex_tot {α : Type} {c : α → α → Int} (T : Tot c) : Tot (lexC c) := by
  have rng : ∀ x y : List α, lexC c x y = -1 ∨ lexC c x y = 0 ∨ lexC c x y = 1 := by
    intro x
    induction x with
    | nil => intro y; cases y <;> simp [lexC]
    | cons a x ih =>
      intro y
      cases y with
      | nil => simp [lexC]
      | cons b y => rw [lexC]; split; · exact ih y
                    · exact T.rng a b
  have neg : ∀ x y : List α, lexC c y x = - lexC c x y := by
    intro x
    induction x with
    | nil => intro y; cases y <;> simp [lexC]
    | cons a x ih =>
      intro y
      cases y with
      | nil => simp [lexC]
      | cons b y =>
        rw [lexC, lexC, T.neg a b]
        by_cases h : c a b = 0
        · rw [if_pos h, if_pos (by omega), ih]
        · rw [if_neg h, if_neg (by omega)]
  have zero : ∀ x y : List α, lexC c x y = 0 ↔ x = y := by
    intro x
    induction x with
    | nil => intro y; cases y <;> simp [lexC]
    | cons a x ih =>
      intro y
      cases y with
      | nil => simp [lexC]
      | cons b y =>
        rw [lexC]
        by_cases h : c a b = 0
        · rw [if_pos h, ih]; simp [(T.zero a b).1 h]
        · rw [if_neg h]
          constructor
          · intro h'; exact absurd h' h
          · intro h'; injection h' with h1 h2; exact (T.zero a b).2 h1
  refine ⟨neg, zero, ?_, rng⟩
  intro x
  induction x with
  | nil => intro y z _ _; cases z <;> simp [lexC]
  | cons a x ih =>
    intro y z h1 h2
    cases y with
    | nil => simp [lexC] at h1
    | cons b y =>
      cases z with
      | nil => simp [lexC] at h2
      | cons d z =>
        rw [lexC] at h1 h2 ⊢
        by_cases e1 : c a b = 0
        · rw [if_pos e1] at h1
          have hab := (T.zero a b).1 e1
          subst hab
          by_cases e2 : c a d = 0
          · rw [if_pos e2] at h2 ⊢; exact ih y z h1 h2
          · rw [if_neg e2] at h2 ⊢; exact h2
        · rw [if_neg e1] at h1
          by_cases e2 : c b d = 0
          · have hbd := (T.zero b d).1 e2
            subst hbd
            rw [if_neg e1]; exact h1
          · rw [if_neg e2] at h2
            have h3 := T.tr a b d h1 h2
            by_cases e3 : c a d = 0
            · have had := (T.zero a d).1 e3
              subst had
              have := T.neg a b
              omega
            · rw [if_neg e3]; exact h3
def cU (a b : UInt8) : Int := if a < b then -1 else if b < a then 1 else 0
theorem cU_tot : Tot cU := by
  have e : ∀ a b : UInt8, (a < b ↔ a.toNat < b.toNat) ∧ (a = b ↔ a.toNat = b.toNat) := fun a b => ⟨UInt8.lt_iff_toNat_lt, ⟨fun h => by rw [h], UInt8.toNat_inj.1⟩⟩
  refine ⟨fun a b => ?_, fun a b => ?_, fun a b d => ?_, fun a b => ?_⟩
  all_goals simp only [cU, (e _ _).1, (e _ _).2]
  all_goals repeat' split
  all_goals omega
theorem less_lex : ∀ x y : List UInt8, Op.bytesLess x y = decide (lexC cU x y < 0)
  | [], [] => by simp [Op.bytesLess, lexC]
  | [], _ :: _ => by simp [Op.bytesLess, lexC]
  | _ :: _, [] => by simp [Op.bytesLess, lexC]
  | a :: x, b :: y => by
    rw [Op.bytesLess, less_lex x y, lexC]
    by_cases h : a < b
    · have : cU a b = -1 := by simp [cU, h]
      simp [h, this]
    · by_cases h' : a = b
      · subst h'; have : cU a a = 0 := (cU_tot.zero a a).2 rfl
        simp [h, this]
      · have : cU a b = 1 := by
          rcases cU_tot.rng a b with q | q | q
          · simp only [cU, h, if_false] at q; split at q <;> simp at q
          · exact absurd ((cU_tot.zero a b).1 q) h'
          · exact q
        simp [h, h', this]
/-- What 'wild' says: from pattern place i and text place k on, in f steps. -/
def GM (n m : Nat) (st : Nat → Bool) (ft : Nat → Nat → Bool) : Nat → Nat → Nat → Prop
  | 0, i, k => i = n ∧ k = m
  | f + 1, i, k => (i = n ∧ k = m) ∨ (i < n ∧ st i = true ∧ k ≤ m ∧ GM n m st ft f (i + 1) k) ∨ (i < n ∧ st i = true ∧ k < m ∧ GM n m st ft f i (k + 1)) ∨ (i < n ∧ st i = false ∧ k < m ∧ ft i k = true ∧ GM n m st ft f (i + 1) (k + 1))
def Fit (n m : Nat) (st : Nat → Bool) (ft : Nat → Nat → Bool) (i k : Nat) : Prop := ∃ f, GM n m st ft f i k
section
variable {n m : Nat} {st : Nat → Bool} {ft : Nat → Nat → Bool}
theorem fit_end : Fit n m st ft n m := ⟨0, rfl, rfl⟩
theorem fit_skip {i k : Nat} (h1 : i < n) (h2 : st i = true) (h3 : k ≤ m) (h : Fit n m st ft (i + 1) k) : Fit n m st ft i k := by
  obtain ⟨f, h⟩ := h
  exact ⟨f + 1, .inr (.inl ⟨h1, h2, h3, h⟩)⟩
theorem fit_eat {i k : Nat} (h1 : i < n) (h2 : st i = true) (h3 : k < m) (h : Fit n m st ft i (k + 1)) : Fit n m st ft i k := by
  obtain ⟨f, h⟩ := h
  exact ⟨f + 1, .inr (.inr (.inl ⟨h1, h2, h3, h⟩))⟩
theorem fit_one {i k : Nat} (h1 : i < n) (h2 : st i = false) (h3 : k < m) (h4 : ft i k = true) (h : Fit n m st ft (i + 1) (k + 1)) : Fit n m st ft i k := by
  obtain ⟨f, h⟩ := h
  exact ⟨f + 1, .inr (.inr (.inr ⟨h1, h2, h3, h4, h⟩))⟩
theorem fit_inv {i k : Nat} (h : Fit n m st ft i k) : (i = n ∧ k = m) ∨ (i < n ∧ st i = true ∧ k ≤ m ∧ Fit n m st ft (i + 1) k) ∨ (i < n ∧ st i = true ∧ k < m ∧ Fit n m st ft i (k + 1)) ∨ (i < n ∧ st i = false ∧ k < m ∧ ft i k = true ∧ Fit n m st ft (i + 1) (k + 1)) := by
  obtain ⟨f, h⟩ := h
  cases f with
  | zero => exact .inl h
  | succ f =>
    rcases h with h | ⟨a, b, c, h⟩ | ⟨a, b, c, h⟩ | ⟨a, b, c, d, h⟩
    · exact .inl h
    · exact .inr (.inl ⟨a, b, c, f, h⟩)
    · exact .inr (.inr (.inl ⟨a, b, c, f, h⟩))
    · exact .inr (.inr (.inr ⟨a, b, c, d, f, h⟩))
theorem fit_le {i k : Nat} (h : Fit n m st ft i k) : i ≤ n ∧ k ≤ m := by
  rcases fit_inv h with h | h | h | h <;> omega
theorem fit_miss {i k : Nat} (h : k < m) (hm : i < n → st i = false ∧ ft i k = false) : ¬ Fit n m st ft i k := by
  intro hf
  rcases fit_inv hf with h1 | ⟨a, b, _⟩ | ⟨a, b, _⟩ | ⟨a, b, c, d, _⟩
  · omega
  · rw [(hm a).1] at b; cases b
  · rw [(hm a).1] at b; cases b
  · rw [(hm a).2] at d; cases d
/-- A star takes what it likes. -/
theorem fit_back {i : Nat} (h1 : i < n) (h2 : st i = true) : ∀ (d k : Nat), k + d ≤ m → Fit n m st ft i (k + d) → Fit n m st ft i k
  | 0, _, _, h => h
  | d + 1, k, hk, h => fit_eat h1 h2 (by omega) (fit_back h1 h2 d (k + 1) (by omega) (by rw [show k + 1 + d = k + (d + 1) by omega]; exact h))
/-- A star is some number of things, and then it is behind it. -/
theorem fit_star {i : Nat} (h1 : i < n) (h2 : st i = true) (k : Nat) : Fit n m st ft i k ↔ ∃ j, k ≤ j ∧ Fit n m st ft (i + 1) j := by
  constructor
  · rintro ⟨f, h⟩
    induction f generalizing k with
    | zero => have := h.1; omega
    | succ f ih =>
      rcases h with h | ⟨a, b, c, h⟩ | ⟨a, b, c, h⟩ | ⟨a, b, c, d, h⟩
      · omega
      · exact ⟨k, Nat.le_refl _, f, h⟩
      · obtain ⟨j, hj, hf⟩ := ih (k + 1) h
        exact ⟨j, by omega, hf⟩
      · rw [h2] at b; cases b
  · rintro ⟨j, hj, hf⟩
    have hl := (fit_le hf).2
    exact fit_back h1 h2 (j - k) k (by omega) (by rw [show k + (j - k) = j by omega]; exact fit_skip h1 h2 hl hf)
/-- Through things that are no stars it goes one by one. -/
theorem fit_run : ∀ (d i j : Nat), (∀ q, i ≤ q → q < i + d → st q = false) → i + d ≤ n → Fit n m st ft i j → Fit n m st ft (i + d) (j + d)
  | 0, _, _, _, _, h => h
  | d + 1, i, j, hs, hd, h => by
    rcases fit_inv h with h1 | ⟨a, b, _⟩ | ⟨a, b, _⟩ | ⟨a, b, c, e, h1⟩
    · omega
    · rw [hs i (Nat.le_refl _) (by omega)] at b; cases b
    · rw [hs i (Nat.le_refl _) (by omega)] at b; cases b
    · have := fit_run d (i + 1) (j + 1) (fun q h2 h3 => hs q (by omega) (by omega)) (by omega) h1
      rw [show i + (d + 1) = i + 1 + d by omega, show j + (d + 1) = j + 1 + d by omega]
      exact this
theorem fit_tail : ∀ (d i : Nat), i + d = n → ((∀ q, i ≤ q → q < n → st q = true) ↔ Fit n m st ft i m)
  | 0, i, h => by
    have : i = n := by omega
    subst this
    exact ⟨fun _ => fit_end, fun _ q h1 h2 => by omega⟩
  | d + 1, i, h => by
    have ih := fit_tail d (i + 1) (by omega)
    constructor
    · intro hs
      exact fit_skip (by omega) (hs i (Nat.le_refl _) (by omega)) (Nat.le_refl _) (ih.1 fun q h1 h2 => hs q (by omega) h2)
    · intro hf q h1 h2
      rcases fit_inv hf with h3 | ⟨a, b, c, h3⟩ | ⟨a, b, c, h3⟩ | ⟨a, b, c, e, h3⟩
      · omega
      · by_cases e : q = i
        · rw [e]; exact b
        · exact ih.2 h3 q (by omega) h2
      · omega
      · omega
end
/-- Where 'wild' stands: the last star (if one was met), and where it ends now. -/
structure At (n m : Nat) (st : Nat → Bool) (ft : Nat → Nat → Bool) (i last from_ k : Int) : Prop where
  i0 : 0 ≤ i
  iN : i ≤ n
  k0 : 0 ≤ k
  kM : k ≤ m
  l0 : -1 ≤ last
  li : last < i
  f0 : 0 ≤ from_
  fk : 0 ≤ last → k - from_ = i - last - 1
  ls : 0 ≤ last → st last.toNat = true
  no : 0 ≤ last → ∀ q : Nat, last < q → (q : Int) < i → st q = false
  is : Fit n m st ft 0 0 ↔ (Fit n m st ft i.toNat k.toNat ∨ (0 ≤ last ∧ ∃ j : Nat, from_ < j ∧ Fit n m st ft (last + 1).toNat j))
section
variable {n m : Nat} {st : Nat → Bool} {ft : Nat → Nat → Bool} {i last from_ k : Int}
theorem at_start : At n m st ft 0 (-1) 0 0 := ⟨by omega, by omega, by omega, by omega, by omega, by omega, by omega, by omega, by omega, by omega, by simp⟩
/-- What the last star could still do, it can do from here, if here is a star, or the end. -/
theorem at_over (h : At n m st ft i last from_ k) {j : Nat} (hl : 0 ≤ last) (hj : from_ < j) (hf : Fit n m st ft (last + 1).toNat j) : Fit n m st ft i.toNat (j + (i - last - 1).toNat) ∧ k < (j + (i - last - 1).toNat : Nat) := by
  have h1 := h.li; have h2 := h.fk hl; have h3 := h.iN
  have := fit_run (i - last - 1).toNat (last + 1).toNat j (fun q a b => h.no hl q (by omega) (by omega)) (by omega) hf
  rw [show (last + 1).toNat + (i - last - 1).toNat = i.toNat by omega] at this
  exact ⟨this, by omega⟩
theorem at_star (h : At n m st ft i last from_ k) (hi : i < n) (hs : st i.toNat = true) : At n m st ft (i + 1) i k k := by
  have h0 := h.i0; have hk := h.k0; have hm := h.kM
  refine ⟨by omega, by omega, by omega, by omega, by omega, by omega, by omega, by omega, fun _ => hs, fun _ q a b => by omega, ?_⟩
  rw [h.is]
  have e : (i + 1).toNat = i.toNat + 1 := by omega
  rw [e]
  constructor
  · intro hx
    have hx : Fit n m st ft i.toNat k.toNat := by
      rcases hx with hx | ⟨hl, j, hj, hf⟩
      · exact hx
      · obtain ⟨h1, h2⟩ := at_over h hl hj hf
        have h3 := (fit_le h1).2
        have := fit_back (n := n) (m := m) (st := st) (ft := ft) (i := i.toNat) (by omega) hs (j + (i - last - 1).toNat - k.toNat) k.toNat (by omega)
        rw [show k.toNat + (j + (i - last - 1).toNat - k.toNat) = j + (i - last - 1).toNat by omega] at this
        exact this h1
    obtain ⟨j, h1, h2⟩ := (fit_star (by omega) hs k.toNat).1 hx
    by_cases e : j = k.toNat
    · subst e; exact .inl h2
    · exact .inr ⟨h0, j, by omega, h2⟩
  · rintro (hx | ⟨_, j, hj, hf⟩)
    · exact .inl ((fit_star (by omega) hs k.toNat).2 ⟨_, Nat.le_refl _, hx⟩)
    · exact .inl ((fit_star (by omega) hs k.toNat).2 ⟨j, by omega, hf⟩)
theorem at_one (h : At n m st ft i last from_ k) (hi : i < n) (hk : k < m) (hs : st i.toNat = false) (hf : ft i.toNat k.toNat = true) : At n m st ft (i + 1) last from_ (k + 1) := by
  have h0 := h.i0; have hk0 := h.k0; have hl := h.li; have hl0 := h.l0
  refine ⟨by omega, by omega, by omega, by omega, h.l0, by omega, h.f0, fun a => by have := h.fk a; omega, h.ls, fun a q b c => ?_, ?_⟩
  · by_cases e : (q : Int) = i
    · rw [show q = i.toNat by omega]; exact hs
    · exact h.no a q b (by omega)
  · rw [h.is, show (i + 1).toNat = i.toNat + 1 by omega, show (k + 1).toNat = k.toNat + 1 by omega]
    constructor
    · rintro (hx | hx)
      · rcases fit_inv hx with h1 | ⟨a, b, _⟩ | ⟨a, b, _⟩ | ⟨a, b, c, d, h1⟩
        · omega
        · rw [hs] at b; cases b
        · rw [hs] at b; cases b
        · exact .inl h1
      · exact .inr hx
    · rintro (hx | hx)
      · exact .inl (fit_one (by omega) hs (by omega) hf hx)
      · exact .inr hx
theorem at_again (h : At n m st ft i last from_ k) (hk : k < m) (hm : i < n → st i.toNat = false ∧ ft i.toNat k.toNat = false) (hl : 0 ≤ last) : At n m st ft (last + 1) last (from_ + 1) (from_ + 1) := by
  have h0 := h.i0; have hk0 := h.k0; have hli := h.li; have hfk := h.fk hl; have hf0 := h.f0; have hN := h.iN
  refine ⟨by omega, by omega, by omega, by omega, h.l0, by omega, by omega, fun _ => by omega, h.ls, fun _ q b c => by omega, ?_⟩
  rw [h.is]
  have hmiss : ¬ Fit n m st ft i.toNat k.toNat := fit_miss (by omega) (fun a => hm (by omega))
  constructor
  · rintro (hx | ⟨_, j, hj, hf⟩)
    · exact absurd hx hmiss
    · by_cases e : (j : Int) = from_ + 1
      · rw [show (from_ + 1).toNat = j by omega]; exact .inl hf
      · exact .inr ⟨hl, j, by omega, hf⟩
  · rintro (hx | ⟨_, j, hj, hf⟩)
    · exact .inr ⟨hl, (from_ + 1).toNat, by omega, hx⟩
    · exact .inr ⟨hl, j, by omega, hf⟩
theorem at_none (h : At n m st ft i last from_ k) (hk : k < m) (hm : i < n → st i.toNat = false ∧ ft i.toNat k.toNat = false) (hl : last < 0) : ¬ Fit n m st ft 0 0 := by
  have h0 := h.i0; have hk0 := h.k0
  rw [h.is]
  rintro (hx | ⟨h1, _⟩)
  · exact fit_miss (by omega) (fun a => hm (by omega)) hx
  · omega
theorem at_end (h : At n m st ft i last from_ m) : Fit n m st ft 0 0 ↔ ∀ q : Nat, i ≤ q → q < n → st q = true := by
  have h0 := h.i0; have hN := h.iN
  rw [h.is]
  have ht := fit_tail (n := n) (m := m) (st := st) (ft := ft) (n - i.toNat) i.toNat (by omega)
  rw [show ((m : Int)).toNat = m by omega]
  constructor
  · rintro (hx | ⟨hl, j, hj, hf⟩)
    · intro q h1 h2
      exact ht.2 hx q (by omega) h2
    · obtain ⟨h1, h2⟩ := at_over h hl hj hf
      have := (fit_le h1).2
      omega
  · intro hs
    exact .inl (ht.1 fun q h1 h2 => hs q (by omega) h2)
end
end Go.Proofs.YthonjghpblkpgaaDoor
