/- In the order of paths, everything in a directory directly follows the directory: for all raw things and numbers (second form: what it reads is of bulk at most 1048576). -/
import Derived.Test.YthonjghpblkpgaaDoorPPathNearx3
import Derived.OpenShut
import Derived.Lib.SplitLaws
import Derived.Lib.IndexBytes
import Derived.Lib.TrimByte
import Derived.Lib.Strings
import Derived.Lib.SmallJoins
namespace Go.Proofs.YthonjghpblkpgaaDoor.Pure
open Go.RowKit Go.Proofs.YthonjghpblkpgaaDoor.PPathNear Go.Proofs.YthonjghpblkpgaaDoorW.PrintWords Go.Proofs.YthonjghpblkpgaaDoorW.PrintLast Go.Proofs.YthonjghpblkpgaaDoorW.PrintMore
set_option linter.unusedVariables false
set_option linter.unusedSimpArgs false

theorem w64 {n : Int} (h1 : -9223372036854775808 ≤ n) (h2 : n ≤ 9223372036854775807) : wrap64 n = n := by
  unfold wrap64
  omega

theorem app_list (a b : ByteArray) : (a ++ b).data.toList = a.data.toList ++ b.data.toList := by
  rw [ByteArray.data_append, Array.toList_append]
theorem size_list (a : ByteArray) : a.data.toList.length = a.size := by
  rw [Array.length_toList]; rfl
theorem bytes_ext {a b : ByteArray} (h : a.data.toList = b.data.toList) : a = b := by
  cases a; cases b; simp_all [← Array.toList_inj]

theorem idx_none : ∀ (t : List UInt8) (c : UInt8), c ∉ t → Lib.indexByte t c = -1
  | [], _, _ => rfl
  | b :: t, c, h => by
    have hb : (b == c) = false := by rw [beq_eq_false_iff_ne]; intro e; exact h (by simp [e])
    have ih := idx_none t c (fun hm => h (by simp [hm]))
    simp [Lib.indexByte, hb, ih]
theorem idx_at : ∀ (t r : List UInt8) (c : UInt8), c ∉ t → Lib.indexByte (t ++ c :: r) c = t.length
  | [], r, c, _ => by simp [Lib.indexByte]
  | b :: t, r, c, h => by
    have hb : (b == c) = false := by rw [beq_eq_false_iff_ne]; intro e; exact h (by simp [e])
    have ih := idx_at t r c (fun hm => h (by simp [hm]))
    have hn : ((t.length : Int) == -1) = false := by rw [beq_eq_false_iff_ne]; omega
    simp [Lib.indexByte, hb, ih, hn]
theorem idx_split (l : List UInt8) (c : UInt8) : ∃ t r, l = t ++ r ∧ c ∉ t ∧ (r = [] ∨ ∃ r', r = c :: r') := by
  induction l with
  | nil => exact ⟨[], [], rfl, by simp, .inl rfl⟩
  | cons b l ih =>
    by_cases e : b = c
    · exact ⟨[], b :: l, rfl, by simp, .inr ⟨l, by rw [e]⟩⟩
    · obtain ⟨t, r, h1, h2, h3⟩ := ih
      exact ⟨b :: t, r, by rw [h1]; rfl, by simp [Ne.symm e, h2], h3⟩
theorem repeat_one (c : UInt8) : ∀ n, Lib.repeatL [c] n = List.replicate n c
  | 0 => rfl
  | n + 1 => by simp [Lib.repeatL, repeat_one c n, List.replicate_succ]
theorem mk_list (l : List UInt8) : (⟨l.toArray⟩ : ByteArray).data.toList = l := by simp
theorem mk_size (l : List UInt8) : (⟨l.toArray⟩ : ByteArray).size = l.length := by rw [← size_list, mk_list]
theorem is_mk (s : ByteArray) : s = ⟨s.data.toList.toArray⟩ := by cases s; simp
theorem mk_inj {a b : List UInt8} : (⟨a.toArray⟩ : ByteArray) = ⟨b.toArray⟩ ↔ a = b := ⟨fun h => by have := congrArg (fun x : ByteArray => x.data.toList) h; simpa using this, fun h => by rw [h]⟩
theorem dw_nil (p : UInt8 → Bool) : ∀ l : List UInt8, l.dropWhile p = [] ↔ ∀ x ∈ l, p x = true
  | [] => by simp
  | a :: l => by
    by_cases h : p a = true
    · rw [List.dropWhile_cons_of_pos h, dw_nil p l]; simp [h]
    · rw [List.dropWhile_cons_of_neg h]; simp [h]
theorem trim_zero (r : List UInt8) (c : UInt8) : Lib.trimB r c = [] ↔ ∀ x ∈ r, x = c := by
  unfold Lib.trimB Lib.trimLeftB Lib.trimRightB
  constructor
  · intro h x hx
    have h1 : ∀ y ∈ (r.reverse.dropWhile (· == c)).reverse, (y == c) = true := by
      rw [dw_nil] at h
      exact h
    have h2 : r.reverse.dropWhile (· == c) = [] := by
      cases hd : r.reverse.dropWhile (· == c) with
      | nil => rfl
      | cons a l =>
        have ha := h1 a (by rw [hd]; simp)
        have := List.head?_dropWhile_not (· == c) r.reverse
        rw [hd] at this
        simp [ha] at this
    rw [dw_nil] at h2
    exact eq_of_beq (h2 x (by simpa using hx))
  · intro h
    have h2 : r.reverse.dropWhile (· == c) = [] := by
      rw [dw_nil]
      intro x hx
      exact beq_iff_eq.2 (h x (by simpa using hx))
    rw [h2]
    rfl
theorem toList_mk (l : List UInt8) : (⟨l.toArray⟩ : ByteArray).toList = l := by rw [ByteArray.toList_eq, mk_list]

def cutL (c : UInt8) : List UInt8 → List (List UInt8)
  | [] => [[]]
  | b :: l => if b = c then [] :: cutL c l else match cutL c l with
    | [] => [[b]]
    | t :: r => (b :: t) :: r
theorem cutL_ne (c : UInt8) : ∀ l, cutL c l ≠ []
  | [] => by simp [cutL]
  | b :: l => by unfold cutL; split; · simp
                 · split <;> simp
theorem cutL_app (c : UInt8) (v : List UInt8) : ∀ u, cutL c (u ++ c :: v) = cutL c u ++ cutL c v
  | [] => by simp [cutL]
  | b :: u => by
    rw [List.cons_append, cutL, cutL, cutL_app c v u]
    by_cases h : b = c
    · rw [if_pos h, if_pos h]; rfl
    · rw [if_neg h, if_neg h]
      cases e : cutL c u with
      | nil => exact absurd e (cutL_ne c u)
      | cons t r => rfl
theorem cutL_none (c : UInt8) : ∀ u, c ∉ u → cutL c u = [u]
  | [], _ => rfl
  | b :: u, h => by
    have hb : b ≠ c := fun e => h (by simp [e])
    rw [cutL, if_neg hb, cutL_none c u (fun hm => h (by simp [hm]))]
def joinL (c : UInt8) : List (List UInt8) → List UInt8
  | [] => []
  | [t] => t
  | t :: s :: r => t ++ c :: joinL c (s :: r)
theorem joinL_cut (c : UInt8) : ∀ l, joinL c (cutL c l) = l
  | [] => rfl
  | b :: l => by
    have ih := joinL_cut c l
    rw [cutL]
    by_cases h : b = c
    · rw [if_pos h]
      cases e : cutL c l with
      | nil => exact absurd e (cutL_ne c l)
      | cons t r => rw [e] at ih; rw [joinL, ih, h]; rfl
    · rw [if_neg h]
      cases e : cutL c l with
      | nil => exact absurd e (cutL_ne c l)
      | cons t r =>
        rw [e] at ih
        cases r with
        | nil => simp only [joinL] at ih ⊢; rw [ih]
        | cons s r => simp only [joinL] at ih ⊢; rw [List.cons_append, ih]
theorem cutL_inj (c : UInt8) {a b : List UInt8} (h : cutL c a = cutL c b) : a = b := by
  rw [← joinL_cut c a, h, joinL_cut]
theorem splitK_cut (c : UInt8) : ∀ (n : Nat) (l : List UInt8), l.length ≤ n → Lib.splitK [c] 0 (l.count c) l = cutL c l := by
  intro n
  induction n with
  | zero => intro l h; have : l = [] := List.eq_nil_of_length_eq_zero (by omega); subst this; rfl
  | succ n ih =>
    intro l h
    obtain ⟨t, r, h1, h2, h3⟩ := idx_split l c
    subst h1
    rcases h3 with h3 | ⟨r', h3⟩
    · subst h3
      rw [List.append_nil, List.count_eq_zero_of_not_mem h2, cutL_none c t h2]; rfl
    · subst h3
      have hc : (t ++ c :: r').count c = r'.count c + 1 := by
        rw [List.count_append, List.count_eq_zero_of_not_mem h2, List.count_cons_self]; omega
      have hi : Lib.index (t ++ c :: r') [c] = t.length := by rw [Lib.index_one, idx_at t r' c h2]
      have hm : ¬ ((Lib.index (t ++ c :: r') [c] == -1) = true) := by rw [beq_iff_eq, hi]; omega
      have hx : r'.length ≤ n := by simp at h; omega
      rw [hc, Lib.splitK, if_neg hm, hi, cutL_app, cutL_none c t h2]
      have e1 : (t ++ c :: r').take ((t.length : Int).toNat + 0) = t := by simp
      have e2 : (t ++ c :: r').drop ((t.length : Int).toNat + [c].length) = r' := by simp [List.drop_append]
      rw [e1, e2, ih r' hx]
      rfl
theorem splitB_cut (c : UInt8) (s : ByteArray) : (Lib.splitB ⟨#[c]⟩ 0 (Lib.countB s ⟨#[c]⟩) s).map (·.data.toList) = cutL c s.data.toList := by
  rw [Lib.splitB_data]
  have : Lib.countB s ⟨#[c]⟩ = s.data.toList.count c := Lib.count_one c s.data.toList
  rw [this]
  exact splitK_cut c _ _ (Nat.le_refl _)

structure Tot {α : Type} (c : α → α → Int) : Prop where
  neg : ∀ a b, c b a = - c a b
  zero : ∀ a b, c a b = 0 ↔ a = b
  tr : ∀ a b d, c a b ≤ 0 → c b d ≤ 0 → c a d ≤ 0
  rng : ∀ a b, c a b = -1 ∨ c a b = 0 ∨ c a b = 1
def lexC {α : Type} (c : α → α → Int) : List α → List α → Int
  | [], [] => 0
  | [], _ :: _ => -1
  | _ :: _, [] => 1
  | a :: x, b :: y => if c a b = 0 then lexC c x y else c a b
theorem lex_tot {α : Type} {c : α → α → Int} (T : Tot c) : Tot (lexC c) := by
  have rng : ∀ x y : List α, lexC c x y = -1 ∨ lexC c x y = 0 ∨ lexC c x y = 1 := by
    intro x
    induction x with
    | nil => intro y; cases y <;> simp [lexC]
    | cons a x ih =>
      intro y
      cases y with
      | nil => simp [lexC]
      | cons b y => rw [lexC]; split; · exact ih y
                    · exact T.rng a b
  have neg : ∀ x y : List α, lexC c y x = - lexC c x y := by
    intro x
    induction x with
    | nil => intro y; cases y <;> simp [lexC]
    | cons a x ih =>
      intro y
      cases y with
      | nil => simp [lexC]
      | cons b y =>
        rw [lexC, lexC, T.neg a b]
        by_cases h : c a b = 0
        · rw [if_pos h, if_pos (by omega), ih]
        · rw [if_neg h, if_neg (by omega)]
  have zero : ∀ x y : List α, lexC c x y = 0 ↔ x = y := by
    intro x
    induction x with
    | nil => intro y; cases y <;> simp [lexC]
    | cons a x ih =>
      intro y
      cases y with
      | nil => simp [lexC]
      | cons b y =>
        rw [lexC]
        by_cases h : c a b = 0
        · rw [if_pos h, ih]; simp [(T.zero a b).1 h]
        · rw [if_neg h]
          constructor
          · intro h'; exact absurd h' h
          · intro h'; injection h' with h1 h2; exact (T.zero a b).2 h1
  refine ⟨neg, zero, ?_, rng⟩
  intro x
  induction x with
  | nil => intro y z _ _; cases z <;> simp [lexC]
  | cons a x ih =>
    intro y z h1 h2
    cases y with
    | nil => simp [lexC] at h1
    | cons b y =>
      cases z with
      | nil => simp [lexC] at h2
      | cons d z =>
        rw [lexC] at h1 h2 ⊢
        by_cases e1 : c a b = 0
        · rw [if_pos e1] at h1
          have hab := (T.zero a b).1 e1
          subst hab
          by_cases e2 : c a d = 0
          · rw [if_pos e2] at h2 ⊢; exact ih y z h1 h2
          · rw [if_neg e2] at h2 ⊢; exact h2
        · rw [if_neg e1] at h1
          by_cases e2 : c b d = 0
          · have hbd := (T.zero b d).1 e2
            subst hbd
            rw [if_neg e1]; exact h1
          · rw [if_neg e2] at h2
            have h3 := T.tr a b d h1 h2
            by_cases e3 : c a d = 0
            · have had := (T.zero a d).1 e3
              subst had
              have := T.neg a b
              omega
            · rw [if_neg e3]; exact h3
def cU (a b : UInt8) : Int := if a < b then -1 else if b < a then 1 else 0
theorem cU_tot : Tot cU := by
  have e : ∀ a b : UInt8, (a < b ↔ a.toNat < b.toNat) ∧ (a = b ↔ a.toNat = b.toNat) := fun a b => ⟨UInt8.lt_iff_toNat_lt, ⟨fun h => by rw [h], UInt8.toNat_inj.1⟩⟩
  refine ⟨fun a b => ?_, fun a b => ?_, fun a b d => ?_, fun a b => ?_⟩
  all_goals simp only [cU, (e _ _).1, (e _ _).2]
  all_goals repeat' split
  all_goals omega
theorem less_lex : ∀ x y : List UInt8, Op.bytesLess x y = decide (lexC cU x y < 0)
  | [], [] => by simp [Op.bytesLess, lexC]
  | [], _ :: _ => by simp [Op.bytesLess, lexC]
  | _ :: _, [] => by simp [Op.bytesLess, lexC]
  | a :: x, b :: y => by
    rw [Op.bytesLess, less_lex x y, lexC]
    by_cases h : a < b
    · have : cU a b = -1 := by simp [cU, h]
      simp [h, this]
    · by_cases h' : a = b
      · subst h'; have : cU a a = 0 := (cU_tot.zero a a).2 rfl
        simp [h, this]
      · have : cU a b = 1 := by
          rcases cU_tot.rng a b with q | q | q
          · simp only [cU, h, if_false] at q; split at q <;> simp at q
          · exact absurd ((cU_tot.zero a b).1 q) h'
          · exact q
        simp [h, h', this]

def partsL (l : List UInt8) : List (List UInt8) := if l = [] then [] else cutL 47 l
theorem parts_spec (a : ByteArray) (h : a.size < 4294967281) : ∃ P : List ByteArray, path_Parts.f a = some P ∧ P.map (·.data.toList) = partsL a.data.toList ∧ P.length ≤ a.size + 1 := by
  unfold path_Parts.f strings_Split.f partsL
  rw [ByteArray.toList_eq]
  by_cases e : a.data.toList = []
  · rw [if_pos e, if_pos e]; exact ⟨[], rfl, rfl, by simp⟩
  · rw [if_neg e, if_neg e, if_pos (by decide), if_pos h]
    refine ⟨_, rfl, splitB_cut 47 a, ?_⟩
    refine Nat.le_trans (Lib.splitB_length_le _ _ _ _) ?_
    have := Lib.countB_le ⟨#[47]⟩ (by decide) a.size a (Nat.le_refl _)
    omega
theorem cmp_spec (a b : ByteArray) : cmp_Compare_string.f a b = some (lexC cU a.data.toList b.data.toList) := by
  unfold cmp_Compare_string.f cmp_isNaN_string.f
  simp only [Option.bind_some, bne_self_eq_false, Bool.false_eq_true, if_false, less_lex, ByteArray.toList_eq, decide_eq_true_eq]
  have T := lex_tot cU_tot
  have h1 := T.neg a.data.toList b.data.toList
  have h2 := T.rng a.data.toList b.data.toList
  generalize lexC cU a.data.toList b.data.toList = x at h1 h2 ⊢
  rw [h1]
  rcases h2 with h2 | h2 | h2 <;> subst h2 <;> decide
theorem cmps_loop (a b : List ByteArray) (ha : a.length ≤ 9223372036854775806) : ∀ (k i : Nat), i ≤ a.length → i ≤ b.length → a.length - i < k →
    slices_Compare_string_string.l0 k a b a (a.length : Int) (i : Int) = some (lexC (lexC cU) ((a.map (·.data.toList)).drop i) ((b.map (·.data.toList)).drop i))
  | 0, i, _, _, h => absurd h (by omega)
  | k + 1, i, h1, h2, h3 => by
    rw [slices_Compare_string_string.l0]
    by_cases c : i < a.length
    · rw [if_pos (by omega), if_pos (by omega), if_pos (by omega)]
      have da : (a.map (·.data.toList)).drop i = (a.getD i ByteArray.empty).data.toList :: (a.map (·.data.toList)).drop (i + 1) := by
        rw [List.drop_eq_getElem_cons (by simpa using c)]
        simp [List.getD_eq_getElem?_getD, c]
      by_cases d : i < b.length
      · have db : (b.map (·.data.toList)).drop i = (b.getD i ByteArray.empty).data.toList :: (b.map (·.data.toList)).drop (i + 1) := by
          rw [List.drop_eq_getElem_cons (by simpa using d)]
          simp [List.getD_eq_getElem?_getD, d]
        rw [if_neg (by omega), if_pos (by omega), cmp_spec, Option.bind_some, da, db, lexC]
        have e1 : rdOf ByteArray.empty a (i : Int) = a.getD i ByteArray.empty := by simp [rdOf]
        have e2 : rdOf ByteArray.empty b (i : Int) = b.getD i ByteArray.empty := by simp [rdOf]
        rw [e1, e2]
        by_cases z : lexC cU (a.getD i ByteArray.empty).data.toList (b.getD i ByteArray.empty).data.toList = 0
        · rw [if_pos z, if_pos z, w64 (by omega) (by omega)]
          exact cmps_loop a b ha k (i + 1) (by omega) (by omega) (by omega)
        · rw [if_neg z, if_neg z]
      · rw [if_pos (by omega), da, List.drop_eq_nil_of_le («as» := b.map (·.data.toList)) (by simp; omega)]; rfl
    · rw [if_neg (by omega)]
      have i1 : i = a.length := by omega
      rw [List.drop_eq_nil_of_le («as» := a.map (·.data.toList)) (by simp; omega)]
      by_cases d : a.length < b.length
      · rw [if_pos (by omega), List.drop_eq_getElem_cons (l := b.map (·.data.toList)) (by simp; omega)]; rfl
      · rw [if_neg (by omega), List.drop_eq_nil_of_le («as» := b.map (·.data.toList)) (by simp; omega)]; rfl
def pc (a b : ByteArray) : Int := lexC (lexC cU) (partsL a.data.toList) (partsL b.data.toList)
theorem pathcmp_spec (a b : ByteArray) (k : Nat) (ha : a.size ≤ 1048576) (hb : b.size ≤ 1048576) (hk : a.size + 1 < k) : path_Compare.f k a b = some (pc a b) := by
  unfold path_Compare.f pc
  obtain ⟨A, a1, a2, a3⟩ := parts_spec a (by omega)
  obtain ⟨B, b1, b2, b3⟩ := parts_spec b (by omega)
  rw [a1, b1, Option.bind_some, Option.bind_some]
  unfold slices_Compare_string_string.f
  have := cmps_loop A B (by omega) k 0 (by omega) (by omega) (by omega)
  rw [show ((0 : Nat) : Int) = 0 from rfl] at this
  rw [this, a2, b2]
  rfl
theorem pc_tot : Tot pc := by
  have T := lex_tot (lex_tot cU_tot)
  refine ⟨fun a b => T.neg _ _, fun a b => ?_, fun a b d => T.tr _ _ _, fun a b => T.rng _ _⟩
  unfold pc
  rw [T.zero]
  constructor
  · intro h
    have : a.data.toList = b.data.toList := by
      unfold partsL at h
      by_cases ea : a.data.toList = []
      · by_cases eb : b.data.toList = []
        · rw [ea, eb]
        · rw [if_pos ea, if_neg eb] at h; exact absurd h.symm (cutL_ne _ _)
      · by_cases eb : b.data.toList = []
        · rw [if_neg ea, if_pos eb] at h; exact absurd h (cutL_ne _ _)
        · rw [if_neg ea, if_neg eb] at h; exact cutL_inj 47 h
    rw [is_mk a, is_mk b, this]
  · intro h; rw [h]

theorem litePrefix_spec (s p : ByteArray) : stringslite_HasPrefix.f s p = some (p.data.toList.isPrefixOf s.data.toList) := by
  unfold stringslite_HasPrefix.f
  by_cases h : (s.size : Int) ≥ (p.size : Int)
  · rw [if_pos h, if_pos (by omega), if_pos (by omega)]
    simp only [Option.bind_some, Option.some.injEq]
    rw [Lib.extract_toList, Lib.toList_data, Bool.eq_iff_iff, List.isPrefixOf_iff_prefix, beq_iff_eq]
    have hl := size_list s
    have hp := size_list p
    have e : ((p.size : Int)).toNat - 0 = p.data.toList.length := by omega
    rw [List.drop_zero, e]
    constructor
    · intro g; rw [← g]; exact List.take_prefix _ _
    · rintro ⟨t, g⟩; rw [← g]; simp
  · rw [if_neg h]
    simp only [Option.bind_some, Option.some.injEq]
    symm
    rw [Bool.eq_false_iff]
    intro g
    rw [List.isPrefixOf_iff_prefix] at g
    have := g.length_le
    have hl := size_list s
    have hp := size_list p
    omega

theorem hasPrefix_spec (s p : ByteArray) : strings_HasPrefix.f s p = some (p.data.toList.isPrefixOf s.data.toList) := by
  unfold strings_HasPrefix.f
  rw [litePrefix_spec, Option.bind_some]

theorem in_spec (s d : ByteArray) (hd : d.size ≤ 1000000000000000) : ∃ b, path_In.f s d = some b ∧ (b = true ↔ (d.data.toList = [] ∧ s.data.toList ≠ []) ∨ (d.data.toList ++ [47]) <+: s.data.toList) := by
  unfold path_In.f
  simp only [hasPrefix_spec, Option.bind_some, Lib.toList_data, app_list]
  by_cases h : d.data.toList = []
  · rw [if_pos h]
    by_cases g : s.data.toList = []
    · rw [if_pos g, if_pos (by omega)]
      refine ⟨_, rfl, ?_⟩
      rw [List.isPrefixOf_iff_prefix]
      simp [h, g]
    · rw [if_neg g]
      exact ⟨_, rfl, by simp [h, g]⟩
  · rw [if_neg h, if_pos (by omega)]
    refine ⟨_, rfl, ?_⟩
    rw [List.isPrefixOf_iff_prefix]
    simp [h]

theorem picked_spec {a m : Int} (hw : (Lit.int .i64 a).wf = true) (hm : 0 < m) : ∃ t, creelkeep_picked.f a m = some t ∧ 0 ≤ t ∧ t < m := by
  obtain ⟨h1, h2⟩ := bounds_i64 hw
  unfold creelkeep_picked.f
  have e : ¬ m = 0 := by omega
  by_cases h : a < 0
  · rw [if_pos h, if_neg e, w64 (n := a + 1) (by omega) (by omega), w64 (by omega) (by omega)]
    exact ⟨_, rfl, Int.tmod_nonneg _ (by omega), Int.tmod_lt_of_pos _ hm⟩
  · rw [if_neg h, if_neg e]
    exact ⟨_, rfl, Int.tmod_nonneg _ (by omega), Int.tmod_lt_of_pos _ hm⟩

/-- A text without a byte 0: each is '0' instead. -/
def noz (l : List UInt8) : List UInt8 := l.map fun b => if b = 0 then 48 else b
theorem noz_free (l : List UInt8) : (0 : UInt8) ∉ noz l := by
  intro h
  simp only [noz, List.mem_map] at h
  obtain ⟨b, _, hb⟩ := h
  by_cases e : b = 0
  · rw [if_pos e] at hb; cases hb
  · rw [if_neg e] at hb; exact e hb
theorem replaceK_noz : ∀ (k : Nat) (l : List UInt8), l.count 0 ≤ k → Lib.replaceK [0] [48] k l = noz l
  | 0, l, h => by
    have hn : (0 : UInt8) ∉ l := by
      rw [← List.count_eq_zero]; omega
    simp only [Lib.replaceK, noz]
    symm
    rw [List.map_congr_left (g := id) (fun b hb => by rw [if_neg (fun e : b = 0 => hn (e ▸ hb))]; rfl)]
    simp
  | k + 1, l, h => by
    simp only [Lib.replaceK, Lib.index_one]
    obtain ⟨t, r, rfl, hn, rfl | ⟨r', rfl⟩⟩ := idx_split l 0
    · rw [List.append_nil, idx_none t 0 hn, if_pos (by decide)]
      have := replaceK_noz 0 t (by rw [List.count_eq_zero.2 hn]; omega)
      simpa [Lib.replaceK] using this
    · have hne : ((t.length : Int) == -1) = false := by rw [beq_eq_false_iff_ne]; omega
      rw [idx_at t r' 0 hn, hne]
      have e1 : ((t.length : Nat) : Int).toNat = t.length := by omega
      simp only [Bool.false_eq_true, if_false, e1, List.length_singleton, List.take_left]
      have e2 : (t ++ 0 :: r').drop (t.length + 1) = r' := by
        rw [← List.drop_drop, List.drop_left]; rfl
      rw [e2, replaceK_noz k r' (by rw [List.count_append, List.count_cons_self] at h; omega)]
      have ht : noz t = t := by
        have := replaceK_noz 0 t (by rw [List.count_eq_zero.2 hn]; omega)
        simpa [Lib.replaceK] using this.symm
      simp [noz] at ht ⊢
      exact ht.symm
theorem replaceAll_noz (l : List UInt8) : Lib.replaceAll l [0] [48] = noz l := by
  unfold Lib.replaceAll Lib.replace
  rw [if_neg (by decide)]
  apply replaceK_noz
  unfold Lib.replaceNum
  rw [if_pos (.inl (by decide)), Lib.count_one]
  exact Nat.le_refl _
theorem mn_spec (a b : Int) : mn a b = if a ≤ b then a else b := by
  unfold mn
  split <;> split <;> omega
theorem clean_spec (s : ByteArray) (m : Int) (hs : s.size ≤ 1048576) (h0 : 0 ≤ m) : ∃ l : List UInt8, creelkeep_clean.f s m = some ⟨l.toArray⟩ ∧ (0 : UInt8) ∉ l ∧ (l.length : Int) ≤ m ∧ l.length ≤ s.size := by
  unfold creelkeep_clean.f strings_ReplaceAll.f
  have hc := Lib.countB_le (⟨#[0]⟩ : ByteArray) (by decide) s.size s (Nat.le_refl _)
  have s1 : (⟨#[48]⟩ : ByteArray).size = 1 := rfl
  rw [if_pos (by omega), if_pos (by decide), if_pos (by rw [s1]; omega)]
  have k1 : (⟨#[0]⟩ : ByteArray).data.toList = [0] := rfl
  have k2 : (⟨#[48]⟩ : ByteArray).data.toList = [48] := rfl
  rw [k1, k2, replaceAll_noz]
  simp only [Option.bind_some]
  have hl : (noz s.data.toList).length = s.size := by rw [noz, List.length_map, size_list]
  rw [mk_size, hl, mn_spec]
  have e : (if (s.size : Int) ≤ m then (s.size : Int) else m) = ((min s.size m.toNat : Nat) : Int) := by split <;> omega
  rw [e, if_pos (by omega), if_pos (by omega)]
  have e2 : (((min s.size m.toNat : Nat) : Int)).toNat = min s.size m.toNat := by omega
  refine ⟨(noz s.data.toList).take (min s.size m.toNat), ?_, ?_, ?_, ?_⟩
  · rw [e2]
    congr 1
    apply bytes_ext
    rw [Lib.extract_data, mk_list, mk_list, List.drop_zero, Nat.sub_zero]
  · intro h
    exact noz_free _ (List.mem_of_mem_take h)
  · rw [List.length_take]; omega
  · rw [List.length_take]; omega

/-- What is known of one raw thing. -/
def RawOk (r : S23) : Prop := (Lit.int .i64 r.f0).wf = true ∧ (Lit.int .i64 r.f1).wf = true ∧ (Lit.int .i64 r.f2).wf = true ∧ r.f3.size ≤ 1048576
theorem repeat_ok (c : ByteArray) (q : Int) (hc : c.size ≤ 1000) (h0 : 0 ≤ q) (h1 : q ≤ 100000) : ∃ s, strings_Repeat.f c q = some s ∧ s.size = q.toNat * c.size := by
  have hm : c.size * q.toNat ≤ 1000 * 100000 := Nat.mul_le_mul hc (by omega)
  have : ∃ s, strings_Repeat.f c q = some s := by
    unfold strings_Repeat.f
    rw [if_pos h0, if_pos (by omega), if_pos (by omega)]
    exact ⟨_, rfl⟩
  obtain ⟨s, hs⟩ := this
  exact ⟨s, hs, (repeat_size hs).2⟩
theorem clean_ok (s : ByteArray) (m : Int) (hs : s.size ≤ 1048576) (h0 : 0 ≤ m) : ∃ c, creelkeep_clean.f s m = some c ∧ (c.size : Int) ≤ m := by
  obtain ⟨l, h1, _, h2, _⟩ := clean_spec s m hs h0
  exact ⟨_, h1, by rw [mk_size]; exact h2⟩
theorem names_ok : ∃ ns, creelkeep_names.f = some ns ∧ ns.length = 11 := by
  unfold creelkeep_names.f
  obtain ⟨a, h1, _⟩ := repeat_ok ⟨#[110]⟩ 60 (by decide) (by decide) (by decide)
  obtain ⟨b, h2, _⟩ := repeat_ok ⟨#[109]⟩ 130 (by decide) (by decide) (by decide)
  rw [h1, Option.bind_some, h2, Option.bind_some]
  exact ⟨_, rfl, rfl⟩
theorem meta_ok {r : S23} (h : RawOk r) : ∃ m, creelkeep_Meta.f r.f0 r.f1 r.f2 r.f3 = some m := by
  obtain ⟨w0, w1, w2, w3⟩ := h
  unfold creelkeep_Meta.f
  obtain ⟨x1, h1, _⟩ := picked_spec (m := 4096) w1 (by decide)
  obtain ⟨x2, h2, _⟩ := picked_spec (m := 3000) w2 (by decide)
  obtain ⟨x3, h3, _⟩ := picked_spec (m := 3000) w1 (by decide)
  obtain ⟨x4, h4, _⟩ := clean_ok r.f3 40 w3 (by decide)
  obtain ⟨x5, h5, _⟩ := picked_spec (m := 17179869184) w2 (by decide)
  obtain ⟨x6, h6, _⟩ := picked_spec (m := 9) w0 (by decide)
  obtain ⟨x7, h7, _⟩ := picked_spec (m := 1000000000) w1 (by decide)
  obtain ⟨x8, h8, _⟩ := picked_spec (m := 1125899906842625) w2 (by decide)
  obtain ⟨x9, h9, _⟩ := picked_spec (m := 1125899906842625) w1 (by decide)
  obtain ⟨y, hy, hy0, hy1⟩ := picked_spec (m := 61) w1 (by decide)
  obtain ⟨z, hz, _⟩ := repeat_ok ⟨#[103]⟩ y (by decide) hy0 (by omega)
  rw [h1, Option.bind_some, h2, Option.bind_some, h3, Option.bind_some, h4, Option.bind_some, h5, Option.bind_some, h6, Option.bind_some, h7, h8, h9, hy]
  simp only [Option.bind_some, hz]
  repeat' split
  all_goals exact ⟨_, rfl⟩
theorem node_ok {r : S23} (h : RawOk r) (p : ByteArray) : ∃ n, treeNode r p = some n ∧ n.f0 = p ∧ n.f5.length ≤ 1200 := by
  obtain ⟨w0, w1, w2, w3⟩ := h
  unfold treeNode
  obtain ⟨m, hm⟩ := meta_ok ⟨w0, w1, w2, w3⟩
  obtain ⟨c, hc, hc2⟩ := clean_ok r.f3 40 w3 (by decide)
  obtain ⟨q, hq, hq0, hq1⟩ := picked_spec (m := 30) w2 (by decide)
  obtain ⟨s, hs, hs2⟩ := repeat_ok c q (by omega) hq0 (by omega)
  rw [hm, Option.bind_some, hc, Option.bind_some, hq, Option.bind_some, hs, Option.bind_some]
  refine ⟨_, rfl, rfl, ?_⟩
  show (bytesOf s).length ≤ 1200
  rw [bytesOf_length, hs2]
  have : q.toNat * c.size ≤ 30 * 40 := Nat.mul_le_mul (by omega) (by omega)
  omega
/-- What holds of the nodes and the directories while the tree grows. -/
structure TOk (P : ByteArray → Prop) (t : List S116) (dirs : List ByteArray) : Prop where
  node : ∀ n ∈ t, P n.f0 ∧ n.f0.size ≤ 400 ∧ n.f5.length ≤ 1200
  nodup : (t.map (·.f0)).Nodup
  ne : dirs ≠ []
  dir : ∀ s ∈ dirs, s.size ≤ 400 ∧ (s.toList = [] ∨ P s)
def Grows (P : ByteArray → Prop) : Prop := ∀ ns, creelkeep_names.f = some ns → ∀ nm ∈ ns, P nm ∧ ∀ p, P p → P (p ++ ⟨#[47]⟩ ++ nm)
theorem path_ok {P : ByteArray → Prop} (hP : Grows P) {r : S23} (h : RawOk r) {t : List S116} {dirs : List ByteArray} (hT : TOk P t dirs) : ∃ p, treePath r dirs = some p ∧ P p := by
  obtain ⟨w0, w1, w2, w3⟩ := h
  unfold treePath
  have hd : 0 < dirs.length := by
    cases hh : dirs with
    | nil => exact absurd hh hT.ne
    | cons _ _ => simp
  obtain ⟨i, hi, hi0, hi1⟩ := picked_spec (m := (dirs.length : Int)) w2 (by omega)
  obtain ⟨ns, hns, hnl⟩ := names_ok
  obtain ⟨j, hj, hj0, hj1⟩ := picked_spec (m := (ns.length : Int)) w1 (by omega)
  rw [hi, Option.bind_some, if_pos ⟨hi0, hi1⟩, hns, Option.bind_some, hj, Option.bind_some, if_pos ⟨hj0, hj1⟩]
  have hm1 : rdOf ByteArray.empty dirs i ∈ dirs := by
    unfold rdOf; rw [List.getD_eq_getElem?_getD, List.getElem?_eq_getElem (by omega)]; exact List.getElem_mem _
  have hm2 : rdOf ByteArray.empty ns j ∈ ns := by
    unfold rdOf; rw [List.getD_eq_getElem?_getD, List.getElem?_eq_getElem (by omega)]; exact List.getElem_mem _
  obtain ⟨p1, p2⟩ := hP ns hns _ hm2
  split
  · exact ⟨_, rfl, p1⟩
  · rename_i hz
    exact ⟨_, rfl, p2 _ ((hT.dir _ hm1).2.resolve_left hz)⟩
theorem nodup_app {t : List S116} {n : S116} (h : (t.map (·.f0)).Nodup) (hn : ¬ t.any (fun x => x.f0.toList == n.f0.toList) = true) : ((t ++ [n]).map (·.f0)).Nodup := by
  rw [List.map_append, List.map_singleton, List.nodup_append]
  refine ⟨h, by simp, fun a ha b hb => ?_⟩
  rw [List.mem_singleton] at hb
  subst hb
  rintro rfl
  obtain ⟨x, hx, hx2⟩ := List.mem_map.1 ha
  exact hn (List.any_eq_true.2 ⟨x, hx, by simp [hx2]⟩)
theorem set_f0 {t : List S116} {k : Nat} {u v : S116} (hu : t[k]? = some u) (hv : v.f0 = u.f0) : (t.set k v).map (·.f0) = t.map (·.f0) := by
  refine List.ext_getElem? (fun q => ?_)
  rw [List.getElem?_map, List.getElem?_map]
  by_cases e : k = q
  · subst e
    rw [List.getElem?_set_self (List.getElem?_eq_some_iff.1 hu).1, hu]
    simp [hv]
  · rw [List.getElem?_set_ne e]
theorem any_f0 {t t' : List S116} (h : t'.map (·.f0) = t.map (·.f0)) (p : ByteArray) : t'.any (fun x => x.f0.toList == p.toList) = t.any (fun x => x.f0.toList == p.toList) := by
  have e : ∀ l : List S116, l.any (fun x => x.f0.toList == p.toList) = (l.map (·.f0)).any (fun s => s.toList == p.toList) := fun l => by rw [List.any_map]; rfl
  rw [e, e, h]
theorem TOk.push {P : ByteArray → Prop} {t : List S116} {dirs : List ByteArray} {n : S116} (hT : TOk P t dirs) (h1 : P n.f0) (h2 : n.f0.size ≤ 400) (h3 : n.f5.length ≤ 1200) (hn : ¬ t.any (fun x => x.f0.toList == n.f0.toList) = true) : TOk P (t ++ [n]) dirs :=
  ⟨fun x hx => by
    rcases List.mem_append.1 hx with hx | hx
    · exact hT.node x hx
    · rw [List.mem_singleton.1 hx]; exact ⟨h1, h2, h3⟩, nodup_app hT.nodup hn, hT.ne, hT.dir⟩
theorem step_ok {P : ByteArray → Prop} (hP : Grows P) {r : S23} (h : RawOk r) {t : List S116} {dirs : List ByteArray} (hT : TOk P t dirs) (hl : t.length ≤ 100000000) : ∃ t' dirs', treeStep r t dirs = some (t', dirs') ∧ TOk P t' dirs' ∧ t'.length ≤ t.length + 1 := by
  unfold treeStep
  obtain ⟨p, hp, hpP⟩ := path_ok hP h hT
  rw [hp, Option.bind_some]
  split
  · exact ⟨t, dirs, rfl, hT, by omega⟩
  rename_i hno
  have hno1 : p.size ≤ 400 := by
    rcases Nat.lt_or_ge 400 p.size with h | h
    · exact absurd (.inl h) hno
    · exact h
  have hno2 : ¬ t.any (fun x => x.f0.toList == p.toList) = true := fun h => hno (.inr h)
  obtain ⟨n, hn, hn0, hn5⟩ := node_ok h p
  rw [hn, Option.bind_some]
  obtain ⟨w0, w1, w2, w3⟩ := h
  obtain ⟨kd, hk, _⟩ := picked_spec (m := 7) w0 (by decide)
  rw [hk, Option.bind_some]
  split
  · refine ⟨_, _, rfl, ⟨(hT.push (n := { n with f1 := 2, f5 := [] }) (by rw [hn0]; exact hpP) (by rw [hn0]; exact hno1) (by simp) (by rw [hn0]; exact hno2)).node, (hT.push (n := { n with f1 := 2, f5 := [] }) (by rw [hn0]; exact hpP) (by rw [hn0]; exact hno1) (by simp) (by rw [hn0]; exact hno2)).nodup, by simp, fun s hs => ?_⟩, by simp⟩
    rcases List.mem_append.1 hs with hs | hs
    · exact hT.dir s hs
    · rw [List.mem_singleton.1 hs]; exact ⟨hno1, .inr hpP⟩
  split
  · obtain ⟨c, hc, hc2⟩ := clean_ok r.f3 10 w3 (by decide)
    obtain ⟨q, hq, hq0, hq1⟩ := picked_spec (m := 20) w1 (by decide)
    obtain ⟨s, hs, hs2⟩ := repeat_ok c q (by omega) hq0 (by omega)
    have : q.toNat * c.size ≤ 20 * 10 := Nat.mul_le_mul (by omega) (by omega)
    rw [hc, Option.bind_some, hq, Option.bind_some, hs, Option.bind_some, if_pos (by omega)]
    exact ⟨_, _, rfl, hT.push (by rw [hn0]; exact hpP) (by rw [hn0]; exact hno1) (by simp) (by rw [hn0]; exact hno2), by simp⟩
  split
  · obtain ⟨k, hk2, hk0, hk1⟩ := picked_spec (m := (t.length : Int) + 1) w1 (by omega)
    rw [hk2, Option.bind_some, if_pos hk0]
    cases hu : t[k.toNat]? with
    | none => exact ⟨_, _, rfl, hT.push (by rw [hn0]; exact hpP) (by rw [hn0]; exact hno1) hn5 (by rw [hn0]; exact hno2), by simp⟩
    | some u =>
      dsimp only
      split
      · have hum := hT.node u (List.mem_of_getElem? hu)
        have hcl : slices_Clone_byte_byte.f u.f5 = some u.f5 := by
          unfold slices_Clone_byte_byte.f; rw [if_pos (by omega)]
        rw [hcl, Option.bind_some]
        have hmf := set_f0 hu (v := { u with f2 := if u.f2 = 0 then k + 1 else u.f2 }) rfl
        have hT2 : TOk P (t.set k.toNat { u with f2 := if u.f2 = 0 then k + 1 else u.f2 }) dirs := ⟨fun x hx => by
          rcases List.mem_or_eq_of_mem_set hx with hx | rfl
          · exact hT.node x hx
          · exact hum, by rw [hmf]; exact hT.nodup, hT.ne, hT.dir⟩
        exact ⟨_, _, rfl, hT2.push hpP hno1 hum.2.2 (by rw [any_f0 hmf]; exact hno2), by simp⟩
      · exact ⟨_, _, rfl, hT.push (by rw [hn0]; exact hpP) (by rw [hn0]; exact hno1) hn5 (by rw [hn0]; exact hno2), by simp⟩
  · exact ⟨_, _, rfl, hT.push (by rw [hn0]; exact hpP) (by rw [hn0]; exact hno1) hn5 (by rw [hn0]; exact hno2), by simp⟩
theorem go_ok {P : ByteArray → Prop} (hP : Grows P) (most : Int) : ∀ (l : List S23) (t : List S116) (dirs : List ByteArray), (∀ x ∈ l, RawOk x) → TOk P t dirs → t.length + l.length ≤ 100000000 → ∃ t' dirs', treeGo most l t dirs = some t' ∧ TOk P t' dirs' ∧ t'.length ≤ t.length + l.length
  | [], t, dirs, _, hT, _ => ⟨t, dirs, rfl, hT, by simp⟩
  | r :: l, t, dirs, hR, hT, hl => by
    rw [treeGo]
    split
    · exact ⟨t, dirs, rfl, hT, by omega⟩
    · simp only [List.length_cons] at hl ⊢
      obtain ⟨t1, dirs1, h1, hT1, hl1⟩ := step_ok hP (hR r (List.mem_cons_self ..)) hT (by omega)
      rw [h1, Option.bind_some]
      obtain ⟨t2, dirs2, h2, hT2, hl2⟩ := go_ok hP most l t1 dirs1 (fun x hx => hR x (List.mem_cons_of_mem _ hx)) hT1 (by omega)
      exact ⟨t2, dirs2, h2, hT2, by omega⟩
theorem tree_ok {P : ByteArray → Prop} (hP : Grows P) (most : Int) (l : List S23) (hR : ∀ x ∈ l, RawOk x) (hl : l.length ≤ 1048576) : ∃ t, creelkeep_Tree.f l most = some t ∧ (∀ n ∈ t, P n.f0 ∧ n.f0.size ≤ 400 ∧ n.f5.length ≤ 1200) ∧ (t.map (·.f0)).Nodup ∧ t.length ≤ l.length := by
  obtain ⟨t, dirs, h1, hT, hl1⟩ := go_ok hP most l [] [⟨#[]⟩] hR ⟨fun n hn => by (cases hn), by simp, by simp, fun s hs => by rw [List.mem_singleton.1 hs]; exact ⟨by decide, .inl (by rw [ByteArray.toList_eq])⟩⟩ (by simp; omega)
  unfold creelkeep_Tree.f
  rw [if_pos (by omega), h1, Option.bind_some, if_pos hT.nodup]
  have hp := List.mergeSort_perm t nodeLe
  exact ⟨_, rfl, fun n hn => hT.node n (hp.mem_iff.1 hn), ((hp.map (·.f0)).nodup_iff).2 hT.nodup, by rw [hp.length_eq]; simpa using hl1⟩
theorem paths_ok {P : ByteArray → Prop} (hP : Grows P) (ha : P ⟨#[97]⟩) (most : Int) (l : List S23) (hR : ∀ x ∈ l, RawOk x) (hl : l.length ≤ 1048576) : ∃ ps, creelkeep_paths.f l most = some ps ∧ 0 < ps.length ∧ ps.length ≤ 1048577 ∧ ∀ s ∈ ps, P s ∧ s.size ≤ 400 := by
  obtain ⟨t, h1, h2, _, h3⟩ := tree_ok hP most l hR hl
  unfold creelkeep_paths.f
  rw [h1, Option.bind_some, if_pos (by omega)]
  refine ⟨_, rfl, by simp, by simp; omega, fun s hs => ?_⟩
  rcases List.mem_cons.1 hs with rfl | hs
  · exact ⟨ha, by decide⟩
  · obtain ⟨n, hn, rfl⟩ := List.mem_map.1 hs
    exact ⟨(h2 n hn).1, (h2 n hn).2.1⟩

theorem grows_ne : Grows (fun s => s.data.toList ≠ []) := by
  intro ns hns nm hnm
  refine ⟨?_, fun p hp => ?_⟩
  · unfold creelkeep_names.f at hns
    obtain ⟨a, h1, h2⟩ := repeat_ok ⟨#[110]⟩ 60 (by decide) (by decide) (by decide)
    obtain ⟨b, h3, h4⟩ := repeat_ok ⟨#[109]⟩ 130 (by decide) (by decide) (by decide)
    rw [h1, Option.bind_some, h3, Option.bind_some] at hns
    injection hns with hns
    subst hns
    have n1 : a.data.toList ≠ [] := fun h => by
      have := size_list a; rw [h, h2] at this; exact absurd this (by decide)
    have n2 : b.data.toList ≠ [] := fun h => by
      have := size_list b; rw [h, h4] at this; exact absurd this (by decide)
    simp only [List.mem_cons, List.not_mem_nil, or_false] at hnm
    rcases hnm with rfl | rfl | rfl | rfl | rfl | rfl | rfl | rfl | rfl | rfl | rfl
    all_goals first | exact n1 | exact n2 | decide
  · show (p ++ ⟨#[47]⟩ ++ nm).data.toList ≠ []
    rw [app_list, app_list]
    simp
/-- The parts of what is in d begin with d's. -/
theorem lex_prefix {α : Type} {c : α → α → Int} (T : Tot c) : ∀ (a r : List α), r ≠ [] → lexC c a (a ++ r) = -1
  | [], r, h => by cases r with | nil => exact absurd rfl h | cons x r => rfl
  | x :: a, r, h => by
    rw [List.cons_append, lexC, if_pos ((T.zero x x).2 rfl)]
    exact lex_prefix T a r h
theorem lex_between {α : Type} {c : α → α → Int} (T : Tot c) : ∀ (a x r : List α), lexC c a x < 0 → lexC c x (a ++ r) < 0 → ∃ q, q ≠ [] ∧ x = a ++ q
  | [], x, r, h1, h2 => by
    cases x with
    | nil => exact absurd h1 (by simp [lexC])
    | cons y x => exact ⟨y :: x, by simp, rfl⟩
  | b :: a, x, r, h1, h2 => by
    cases x with
    | nil => exact absurd h1 (by simp [lexC])
    | cons y x =>
      rw [List.cons_append] at h2
      rw [lexC] at h1 h2
      by_cases e : c b y = 0
      · rw [if_pos e] at h1
        have hby := (T.zero b y).1 e
        subst hby
        rw [if_pos e] at h2
        obtain ⟨q, q1, q2⟩ := lex_between T a x r h1 h2
        exact ⟨q, q1, by rw [q2]; rfl⟩
      · rw [if_neg e] at h1
        have h3 := T.neg b y
        rw [if_neg (by omega)] at h2
        omega
theorem cut_app {a q : List (List UInt8)} {l : List UInt8} (ha : a ≠ []) (hq : q ≠ []) (h : cutL 47 l = a ++ q) : l = joinL 47 a ++ 47 :: joinL 47 q := by
  have h1 := joinL_cut 47 l
  rw [h] at h1
  rw [← h1]
  clear h h1
  induction a with
  | nil => exact absurd rfl ha
  | cons x a ih =>
    cases a with
    | nil =>
      cases q with
      | nil => exact absurd rfl hq
      | cons y q => simp [joinL]
    | cons z a =>
      have := ih (by simp)
      simp only [List.cons_append] at this ⊢
      rw [joinL, this, joinL]
      · simp
      all_goals simp
theorem near (d x e : ByteArray) (hd : d.data.toList ≠ []) (hx : x.data.toList ≠ []) (he : e.data.toList ≠ []) (hin : (d.data.toList ++ [47]) <+: e.data.toList) : pc d e < 0 ∧ (pc d x < 0 → pc x e < 0 → (d.data.toList ++ [47]) <+: x.data.toList) := by
  obtain ⟨v, hv⟩ := hin
  have hce : cutL 47 e.data.toList = cutL 47 d.data.toList ++ cutL 47 v := by
    rw [← hv, List.append_assoc, List.singleton_append, cutL_app]
  have T := lex_tot cU_tot
  unfold pc partsL
  rw [if_neg hd, if_neg hx, if_neg he, hce]
  refine ⟨?_, fun h1 h2 => ?_⟩
  · rw [lex_prefix T _ _ (cutL_ne _ _)]; decide
  · obtain ⟨q, q1, q2⟩ := lex_between T _ _ _ h1 h2
    have := cut_app (cutL_ne _ _) q1 q2
    rw [joinL_cut] at this
    rw [this]
    exact ⟨joinL 47 q, by simp⟩
theorem PathNear : creelkeep_PathNear.Pure := by
  intro l a1 a2 a3 hl hR w1 w2 w3
  refine ⟨1000, ?_⟩
  obtain ⟨ps, h1, h2, h3, h4⟩ := paths_ok grows_ne (by decide) 20 l hR hl
  unfold creelkeep_PathNear.f
  obtain ⟨i, hi, hi0, hi1⟩ := picked_spec (m := (ps.length : Int)) w1 (by omega)
  obtain ⟨j, hj, hj0, hj1⟩ := picked_spec (m := (ps.length : Int)) w2 (by omega)
  obtain ⟨k, hk, hk0, hk1⟩ := picked_spec (m := (ps.length : Int)) w3 (by omega)
  rw [h1, Option.bind_some, hi, Option.bind_some, if_pos hi0, if_pos hi1, hj, Option.bind_some, if_pos hj0, if_pos hj1, hk, Option.bind_some, if_pos hk0, if_pos hk1]
  have hm : ∀ q : Int, 0 ≤ q → q < ps.length → rdOf ByteArray.empty ps q ∈ ps := fun q q0 q1 => by
    unfold rdOf; rw [List.getD_eq_getElem?_getD, List.getElem?_eq_getElem (by omega)]; exact List.getElem_mem _
  obtain ⟨di, ds⟩ := h4 _ (hm i hi0 hi1)
  obtain ⟨xi, xs⟩ := h4 _ (hm j hj0 hj1)
  obtain ⟨ei, es⟩ := h4 _ (hm k hk0 hk1)
  generalize rdOf ByteArray.empty ps i = d at di ds ⊢
  generalize rdOf ByteArray.empty ps j = x at xi xs ⊢
  generalize rdOf ByteArray.empty ps k = e at ei es ⊢
  have c1 : pc ⟨#[97]⟩ ⟨#[97, 47, 98]⟩ = -1 := by decide +kernel
  have c2 : pc ⟨#[97, 47, 98]⟩ ⟨#[97, 33]⟩ = -1 := by decide +kernel
  rw [pathcmp_spec ⟨#[97]⟩ ⟨#[97, 47, 98]⟩ _ (by decide) (by decide) (by decide), Option.bind_some, c1, if_pos rfl, pathcmp_spec ⟨#[97, 47, 98]⟩ ⟨#[97, 33]⟩ _ (by decide) (by decide) (by decide), Option.bind_some, c2]
  rw [show ((-1 : Int) != -1) = false from rfl]
  obtain ⟨b1, hb1, hb2⟩ := in_spec e d (by omega)
  obtain ⟨b2, hb3, hb4⟩ := in_spec x d (by omega)
  have hkey : b1 = true → pc d e < 0 ∧ (pc d x < 0 → pc x e < 0 → b2 = true) := fun h => by
    have hin : (d.data.toList ++ [47]) <+: e.data.toList := (hb2.1 h).resolve_left (fun h => di h.1)
    obtain ⟨n1, n2⟩ := near d x e di xi ei hin
    exact ⟨n1, fun h5 h6 => hb4.2 (.inr (n2 h5 h6))⟩
  have hj1 : creelkeep_PathNear.j1 (998 + 1) d x e false = some true := by
    rw [creelkeep_PathNear.j1, if_neg (by decide), hb1, Option.bind_some]
    cases b1 with
    | false => rw [if_neg (by decide)]
    | true =>
      obtain ⟨n1, n2⟩ := hkey rfl
      rw [if_pos rfl, pathcmp_spec d x 998 (by omega) (by omega) (by omega), Option.bind_some]
      by_cases h5 : pc d x ≥ 0
      · rw [if_pos h5]
      · rw [if_neg h5, pathcmp_spec x e 998 (by omega) (by omega) (by omega), Option.bind_some]
        by_cases h6 : pc x e ≥ 0
        · rw [if_pos h6]
        · rw [if_neg h6, hb3, Option.bind_some, n2 (by omega) (by omega)]
  show creelkeep_PathNear.j0 (999 + 1) d x e false = some true
  rw [creelkeep_PathNear.j0, if_neg (by decide), hb1, Option.bind_some]
  cases hb : b1 with
  | false => rw [if_neg (by decide)]; exact hj1
  | true =>
    obtain ⟨n1, n2⟩ := hkey hb
    rw [if_pos rfl, pathcmp_spec d e 999 (by omega) (by omega) (by omega), Option.bind_some, show decide (pc d e ≥ 0) = false from decide_eq_false (by omega)]
    exact hj1

end Go.Proofs.YthonjghpblkpgaaDoor.Pure
