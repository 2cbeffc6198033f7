/- The order of paths is an order: for all strings (second form: what it reads is of bulk at most 1048576). -/
import Derived.Test.YtpkidejgilmlpaaDoorPPathOrderlyx1
import Derived.OpenShut
import Derived.Lib.SplitLaws
import Derived.Lib.IndexBytes
import Derived.Lib.Strings
import Derived.Lib.SmallJoins
namespace Go.Proofs.YtpkidejgilmlpaaDoor.Pure
open Go.RowKit Go.Proofs.YtpkidejgilmlpaaDoor.PPathOrderly Go.Proofs.YtpkidejgilmlpaaDoorW.PrintWords Go.Proofs.YtpkidejgilmlpaaDoorW.PrintLast Go.Proofs.YtpkidejgilmlpaaDoorW.PrintMore
set_option linter.unusedVariables false
set_option linter.unusedSimpArgs false

theorem w64 {n : Int} (h1 : -9223372036854775808 ≤ n) (h2 : n ≤ 9223372036854775807) : wrap64 n = n := by
  unfold wrap64
  omega

theorem app_list (a b : ByteArray) : (a ++ b).data.toList = a.data.toList ++ b.data.toList := by
  rw [ByteArray.data_append, Array.toList_append]
theorem size_list (a : ByteArray) : a.data.toList.length = a.size := by
  rw [Array.length_toList]; rfl
theorem bytes_ext {a b : ByteArray} (h : a.data.toList = b.data.toList) : a = b := by
  cases a; cases b; simp_all [← Array.toList_inj]

theorem idx_none : ∀ (t : List UInt8) (c : UInt8), c ∉ t → Lib.indexByte t c = -1
  | [], _, _ => rfl
  | b :: t, c, h => by
    have hb : (b == c) = false := by rw [beq_eq_false_iff_ne]; intro e; exact h (by simp [e])
    have ih := idx_none t c (fun hm => h (by simp [hm]))
    simp [Lib.indexByte, hb, ih]
theorem idx_at : ∀ (t r : List UInt8) (c : UInt8), c ∉ t → Lib.indexByte (t ++ c :: r) c = t.length
  | [], r, c, _ => by simp [Lib.indexByte]
  | b :: t, r, c, h => by
    have hb : (b == c) = false := by rw [beq_eq_false_iff_ne]; intro e; exact h (by simp [e])
    have ih := idx_at t r c (fun hm => h (by simp [hm]))
    have hn : ((t.length : Int) == -1) = false := by rw [beq_eq_false_iff_ne]; omega
    simp [Lib.indexByte, hb, ih, hn]
theorem idx_split (l : List UInt8) (c : UInt8) : ∃ t r, l = t ++ r ∧ c ∉ t ∧ (r = [] ∨ ∃ r', r = c :: r') := by
  induction l with
  | nil => exact ⟨[], [], rfl, by simp, .inl rfl⟩
  | cons b l ih =>
    by_cases e : b = c
    · exact ⟨[], b :: l, rfl, by simp, .inr ⟨l, by rw [e]⟩⟩
    · obtain ⟨t, r, h1, h2, h3⟩ := ih
      exact ⟨b :: t, r, by rw [h1]; rfl, by simp [Ne.symm e, h2], h3⟩
theorem repeat_one (c : UInt8) : ∀ n, Lib.repeatL [c] n = List.replicate n c
  | 0 => rfl
  | n + 1 => by simp [Lib.repeatL, repeat_one c n, List.replicate_succ]
theorem mk_list (l : List UInt8) : (⟨l.toArray⟩ : ByteArray).data.toList = l := by simp
theorem mk_size (l : List UInt8) : (⟨l.toArray⟩ : ByteArray).size = l.length := by rw [← size_list, mk_list]
theorem is_mk (s : ByteArray) : s = ⟨s.data.toList.toArray⟩ := by cases s; simp
theorem mk_inj {a b : List UInt8} : (⟨a.toArray⟩ : ByteArray) = ⟨b.toArray⟩ ↔ a = b := ⟨fun h => by have := congrArg (fun x : ByteArray => x.data.toList) h; simpa using this, fun h => by rw [h]⟩
theorem dw_nil (p : UInt8 → Bool) : ∀ l : List UInt8, l.dropWhile p = [] ↔ ∀ x ∈ l, p x = true
  | [] => by simp
  | a :: l => by
    by_cases h : p a = true
    · rw [List.dropWhile_cons_of_pos h, dw_nil p l]; simp [h]
    · rw [List.dropWhile_cons_of_neg h]; simp [h]
theorem trim_zero (r : List UInt8) (c : UInt8) : Lib.trimB r c = [] ↔ ∀ x ∈ r, x = c := by
  unfold Lib.trimB Lib.trimLeftB Lib.trimRightB
  constructor
  · intro h x hx
    have h1 : ∀ y ∈ (r.reverse.dropWhile (· == c)).reverse, (y == c) = true := by
      rw [dw_nil] at h
      exact h
    have h2 : r.reverse.dropWhile (· == c) = [] := by
      cases hd : r.reverse.dropWhile (· == c) with
      | nil => rfl
      | cons a l =>
        have ha := h1 a (by rw [hd]; simp)
        have := List.head?_dropWhile_not (· == c) r.reverse
        rw [hd] at this
        simp [ha] at this
    rw [dw_nil] at h2
    exact eq_of_beq (h2 x (by simpa using hx))
  · intro h
    have h2 : r.reverse.dropWhile (· == c) = [] := by
      rw [dw_nil]
      intro x hx
      exact beq_iff_eq.2 (h x (by simpa using hx))
    rw [h2]
    rfl
theorem toList_mk (l : List UInt8) : (⟨l.toArray⟩ : ByteArray).toList = l := by rw [ByteArray.toList_eq, mk_list]

def cutL (c : UInt8) : List UInt8 → List (List UInt8)
  | [] => [[]]
  | b :: l => if b = c then [] :: cutL c l else match cutL c l with
    | [] => [[b]]
    | t :: r => (b :: t) :: r
theorem cutL_ne (c : UInt8) : ∀ l, cutL c l ≠ []
  | [] => by simp [cutL]
  | b :: l => by unfold cutL; split; · simp
                 · split <;> simp
theorem cutL_app (c : UInt8) (v : List UInt8) : ∀ u, cutL c (u ++ c :: v) = cutL c u ++ cutL c v
  | [] => by simp [cutL]
  | b :: u => by
    rw [List.cons_append, cutL, cutL, cutL_app c v u]
    by_cases h : b = c
    · rw [if_pos h, if_pos h]; rfl
    · rw [if_neg h, if_neg h]
      cases e : cutL c u with
      | nil => exact absurd e (cutL_ne c u)
      | cons t r => rfl
theorem cutL_none (c : UInt8) : ∀ u, c ∉ u → cutL c u = [u]
  | [], _ => rfl
  | b :: u, h => by
    have hb : b ≠ c := fun e => h (by simp [e])
    rw [cutL, if_neg hb, cutL_none c u (fun hm => h (by simp [hm]))]
def joinL (c : UInt8) : List (List UInt8) → List UInt8
  | [] => []
  | [t] => t
  | t :: s :: r => t ++ c :: joinL c (s :: r)
theorem joinL_cut (c : UInt8) : ∀ l, joinL c (cutL c l) = l
  | [] => rfl
  | b :: l => by
    have ih := joinL_cut c l
    rw [cutL]
    by_cases h : b = c
    · rw [if_pos h]
      cases e : cutL c l with
      | nil => exact absurd e (cutL_ne c l)
      | cons t r => rw [e] at ih; rw [joinL, ih, h]; rfl
    · rw [if_neg h]
      cases e : cutL c l with
      | nil => exact absurd e (cutL_ne c l)
      | cons t r =>
        rw [e] at ih
        cases r with
        | nil => simp only [joinL] at ih ⊢; rw [ih]
        | cons s r => simp only [joinL] at ih ⊢; rw [List.cons_append, ih]
theorem cutL_inj (c : UInt8) {a b : List UInt8} (h : cutL c a = cutL c b) : a = b := by
  rw [← joinL_cut c a, h, joinL_cut]
theorem splitK_cut (c : UInt8) : ∀ (n : Nat) (l : List UInt8), l.length ≤ n → Lib.splitK [c] 0 (l.count c) l = cutL c l := by
  intro n
  induction n with
  | zero => intro l h; have : l = [] := List.eq_nil_of_length_eq_zero (by omega); subst this; rfl
  | succ n ih =>
    intro l h
    obtain ⟨t, r, h1, h2, h3⟩ := idx_split l c
    subst h1
    rcases h3 with h3 | ⟨r', h3⟩
    · subst h3
      rw [List.append_nil, List.count_eq_zero_of_not_mem h2, cutL_none c t h2]; rfl
    · subst h3
      have hc : (t ++ c :: r').count c = r'.count c + 1 := by
        rw [List.count_append, List.count_eq_zero_of_not_mem h2, List.count_cons_self]; omega
      have hi : Lib.index (t ++ c :: r') [c] = t.length := by rw [Lib.index_one, idx_at t r' c h2]
      have hm : ¬ ((Lib.index (t ++ c :: r') [c] == -1) = true) := by rw [beq_iff_eq, hi]; omega
      have hx : r'.length ≤ n := by simp at h; omega
      rw [hc, Lib.splitK, if_neg hm, hi, cutL_app, cutL_none c t h2]
      have e1 : (t ++ c :: r').take ((t.length : Int).toNat + 0) = t := by simp
      have e2 : (t ++ c :: r').drop ((t.length : Int).toNat + [c].length) = r' := by simp [List.drop_append]
      rw [e1, e2, ih r' hx]
      rfl
theorem splitB_cut (c : UInt8) (s : ByteArray) : (Lib.splitB ⟨#[c]⟩ 0 (Lib.countB s ⟨#[c]⟩) s).map (·.data.toList) = cutL c s.data.toList := by
  rw [Lib.splitB_data]
  have : Lib.countB s ⟨#[c]⟩ = s.data.toList.count c := Lib.count_one c s.data.toList
  rw [this]
  exact splitK_cut c _ _ (Nat.le_refl _)

structure Tot {α : Type} (c : α → α → Int) : Prop where
  neg : ∀ a b, c b a = - c a b
  zero : ∀ a b, c a b = 0 ↔ a = b
  tr : ∀ a b d, c a b ≤ 0 → c b d ≤ 0 → c a d ≤ 0
  rng : ∀ a b, c a b = -1 ∨ c a b = 0 ∨ c a b = 1
def lexC {α : Type} (c : α → α → Int) : List α → List α → Int
  | [], [] => 0
  | [], _ :: _ => -1
  | _ :: _, [] => 1
  | a :: x, b :: y => if c a b = 0 then lexC c x y else c a b
theorem lex_tot {α : Type} {c : α → α → Int} (T : Tot c) : Tot (lexC c) := by
  have rng : ∀ x y : List α, lexC c x y = -1 ∨ lexC c x y = 0 ∨ lexC c x y = 1 := by
    intro x
    induction x with
    | nil => intro y; cases y <;> simp [lexC]
    | cons a x ih =>
      intro y
      cases y with
      | nil => simp [lexC]
      | cons b y => rw [lexC]; split; · exact ih y
                    · exact T.rng a b
  have neg : ∀ x y : List α, lexC c y x = - lexC c x y := by
    intro x
    induction x with
    | nil => intro y; cases y <;> simp [lexC]
    | cons a x ih =>
      intro y
      cases y with
      | nil => simp [lexC]
      | cons b y =>
        rw [lexC, lexC, T.neg a b]
        by_cases h : c a b = 0
        · rw [if_pos h, if_pos (by omega), ih]
        · rw [if_neg h, if_neg (by omega)]
  have zero : ∀ x y : List α, lexC c x y = 0 ↔ x = y := by
    intro x
    induction x with
    | nil => intro y; cases y <;> simp [lexC]
    | cons a x ih =>
      intro y
      cases y with
      | nil => simp [lexC]
      | cons b y =>
        rw [lexC]
        by_cases h : c a b = 0
        · rw [if_pos h, ih]; simp [(T.zero a b).1 h]
        · rw [if_neg h]
          constructor
          · intro h'; exact absurd h' h
          · intro h'; injection h' with h1 h2; exact (T.zero a b).2 h1
  refine ⟨neg, zero, ?_, rng⟩
  intro x
  induction x with
  | nil => intro y z _ _; cases z <;> simp [lexC]
  | cons a x ih =>
    intro y z h1 h2
    cases y with
    | nil => simp [lexC] at h1
    | cons b y =>
      cases z with
      | nil => simp [lexC] at h2
      | cons d z =>
        rw [lexC] at h1 h2 ⊢
        by_cases e1 : c a b = 0
        · rw [if_pos e1] at h1
          have hab := (T.zero a b).1 e1
          subst hab
          by_cases e2 : c a d = 0
          · rw [if_pos e2] at h2 ⊢; exact ih y z h1 h2
          · rw [if_neg e2] at h2 ⊢; exact h2
        · rw [if_neg e1] at h1
          by_cases e2 : c b d = 0
          · have hbd := (T.zero b d).1 e2
            subst hbd
            rw [if_neg e1]; exact h1
          · rw [if_neg e2] at h2
            have h3 := T.tr a b d h1 h2
            by_cases e3 : c a d = 0
            · have had := (T.zero a d).1 e3
              subst had
              have := T.neg a b
              omega
            · rw [if_neg e3]; exact h3
def cU (a b : UInt8) : Int := if a < b then -1 else if b < a then 1 else 0
theorem cU_tot : Tot cU := by
  have e : ∀ a b : UInt8, (a < b ↔ a.toNat < b.toNat) ∧ (a = b ↔ a.toNat = b.toNat) := fun a b => ⟨UInt8.lt_iff_toNat_lt, ⟨fun h => by rw [h], UInt8.toNat_inj.1⟩⟩
  refine ⟨fun a b => ?_, fun a b => ?_, fun a b d => ?_, fun a b => ?_⟩
  all_goals simp only [cU, (e _ _).1, (e _ _).2]
  all_goals repeat' split
  all_goals omega
theorem less_lex : ∀ x y : List UInt8, Op.bytesLess x y = decide (lexC cU x y < 0)
  | [], [] => by simp [Op.bytesLess, lexC]
  | [], _ :: _ => by simp [Op.bytesLess, lexC]
  | _ :: _, [] => by simp [Op.bytesLess, lexC]
  | a :: x, b :: y => by
    rw [Op.bytesLess, less_lex x y, lexC]
    by_cases h : a < b
    · have : cU a b = -1 := by simp [cU, h]
      simp [h, this]
    · by_cases h' : a = b
      · subst h'; have : cU a a = 0 := (cU_tot.zero a a).2 rfl
        simp [h, this]
      · have : cU a b = 1 := by
          rcases cU_tot.rng a b with q | q | q
          · simp only [cU, h, if_false] at q; split at q <;> simp at q
          · exact absurd ((cU_tot.zero a b).1 q) h'
          · exact q
        simp [h, h', this]

def partsL (l : List UInt8) : List (List UInt8) := if l = [] then [] else cutL 47 l
theorem parts_spec (a : ByteArray) (h : a.size < 4294967281) : ∃ P : List ByteArray, path_Parts.f a = some P ∧ P.map (·.data.toList) = partsL a.data.toList ∧ P.length ≤ a.size + 1 := by
  unfold path_Parts.f strings_Split.f partsL
  rw [ByteArray.toList_eq]
  by_cases e : a.data.toList = []
  · rw [if_pos e, if_pos e]; exact ⟨[], rfl, rfl, by simp⟩
  · rw [if_neg e, if_neg e, if_pos (by decide), if_pos h]
    refine ⟨_, rfl, splitB_cut 47 a, ?_⟩
    refine Nat.le_trans (Lib.splitB_length_le _ _ _ _) ?_
    have := Lib.countB_le ⟨#[47]⟩ (by decide) a.size a (Nat.le_refl _)
    omega
theorem cmp_spec (a b : ByteArray) : cmp_Compare_string.f a b = some (lexC cU a.data.toList b.data.toList) := by
  unfold cmp_Compare_string.f cmp_isNaN_string.f
  simp only [Option.bind_some, bne_self_eq_false, Bool.false_eq_true, if_false, less_lex, ByteArray.toList_eq, decide_eq_true_eq]
  have T := lex_tot cU_tot
  have h1 := T.neg a.data.toList b.data.toList
  have h2 := T.rng a.data.toList b.data.toList
  generalize lexC cU a.data.toList b.data.toList = x at h1 h2 ⊢
  rw [h1]
  rcases h2 with h2 | h2 | h2 <;> subst h2 <;> decide
theorem cmps_loop (a b : List ByteArray) (ha : a.length ≤ 9223372036854775806) : ∀ (k i : Nat), i ≤ a.length → i ≤ b.length → a.length - i < k →
    slices_Compare_string_string.l0 k a b a (a.length : Int) (i : Int) = some (lexC (lexC cU) ((a.map (·.data.toList)).drop i) ((b.map (·.data.toList)).drop i))
  | 0, i, _, _, h => absurd h (by omega)
  | k + 1, i, h1, h2, h3 => by
    rw [slices_Compare_string_string.l0]
    by_cases c : i < a.length
    · rw [if_pos (by omega), if_pos (by omega), if_pos (by omega)]
      have da : (a.map (·.data.toList)).drop i = (a.getD i ByteArray.empty).data.toList :: (a.map (·.data.toList)).drop (i + 1) := by
        rw [List.drop_eq_getElem_cons (by simpa using c)]
        simp [List.getD_eq_getElem?_getD, c]
      by_cases d : i < b.length
      · have db : (b.map (·.data.toList)).drop i = (b.getD i ByteArray.empty).data.toList :: (b.map (·.data.toList)).drop (i + 1) := by
          rw [List.drop_eq_getElem_cons (by simpa using d)]
          simp [List.getD_eq_getElem?_getD, d]
        rw [if_neg (by omega), if_pos (by omega), cmp_spec, Option.bind_some, da, db, lexC]
        have e1 : rdOf ByteArray.empty a (i : Int) = a.getD i ByteArray.empty := by simp [rdOf]
        have e2 : rdOf ByteArray.empty b (i : Int) = b.getD i ByteArray.empty := by simp [rdOf]
        rw [e1, e2]
        by_cases z : lexC cU (a.getD i ByteArray.empty).data.toList (b.getD i ByteArray.empty).data.toList = 0
        · rw [if_pos z, if_pos z, w64 (by omega) (by omega)]
          exact cmps_loop a b ha k (i + 1) (by omega) (by omega) (by omega)
        · rw [if_neg z, if_neg z]
      · rw [if_pos (by omega), da, List.drop_eq_nil_of_le («as» := b.map (·.data.toList)) (by simp; omega)]; rfl
    · rw [if_neg (by omega)]
      have i1 : i = a.length := by omega
      rw [List.drop_eq_nil_of_le («as» := a.map (·.data.toList)) (by simp; omega)]
      by_cases d : a.length < b.length
      · rw [if_pos (by omega), List.drop_eq_getElem_cons (l := b.map (·.data.toList)) (by simp; omega)]; rfl
      · rw [if_neg (by omega), List.drop_eq_nil_of_le («as» := b.map (·.data.toList)) (by simp; omega)]; rfl
def pc (a b : ByteArray) : Int := lexC (lexC cU) (partsL a.data.toList) (partsL b.data.toList)
theorem pathcmp_spec (a b : ByteArray) (k : Nat) (ha : a.size ≤ 1048576) (hb : b.size ≤ 1048576) (hk : a.size + 1 < k) : path_Compare.f k a b = some (pc a b) := by
  unfold path_Compare.f pc
  obtain ⟨A, a1, a2, a3⟩ := parts_spec a (by omega)
  obtain ⟨B, b1, b2, b3⟩ := parts_spec b (by omega)
  rw [a1, b1, Option.bind_some, Option.bind_some]
  unfold slices_Compare_string_string.f
  have := cmps_loop A B (by omega) k 0 (by omega) (by omega) (by omega)
  rw [show ((0 : Nat) : Int) = 0 from rfl] at this
  rw [this, a2, b2]
  rfl
theorem pc_tot : Tot pc := by
  have T := lex_tot (lex_tot cU_tot)
  refine ⟨fun a b => T.neg _ _, fun a b => ?_, fun a b d => T.tr _ _ _, fun a b => T.rng _ _⟩
  unfold pc
  rw [T.zero]
  constructor
  · intro h
    have : a.data.toList = b.data.toList := by
      unfold partsL at h
      by_cases ea : a.data.toList = []
      · by_cases eb : b.data.toList = []
        · rw [ea, eb]
        · rw [if_pos ea, if_neg eb] at h; exact absurd h.symm (cutL_ne _ _)
      · by_cases eb : b.data.toList = []
        · rw [if_neg ea, if_pos eb] at h; exact absurd h (cutL_ne _ _)
        · rw [if_neg ea, if_neg eb] at h; exact cutL_inj 47 h
    rw [is_mk a, is_mk b, this]
  · intro h; rw [h]

theorem PathOrderly : creelkeep_PathOrderly.Pure := by
  intro a b d ha hb hd
  refine ⟨a.size + b.size + d.size + 10, ?_⟩
  unfold creelkeep_PathOrderly.f
  rw [pathcmp_spec a b _ ha hb (by omega), pathcmp_spec b a _ hb ha (by omega), pathcmp_spec b d _ hb hd (by omega), pathcmp_spec a a _ ha ha (by omega), pathcmp_spec a d _ ha hd (by omega), pathcmp_spec ⟨#[97]⟩ ⟨#[98]⟩ _ (by decide) (by decide) (by rw [show (⟨#[97]⟩ : ByteArray).size = 1 from rfl]; omega)]
  simp only [Option.bind_some]
  have h0 : pc ⟨#[97]⟩ ⟨#[98]⟩ = -1 := by decide +kernel
  have T := pc_tot
  have haa : pc a a = 0 := (T.zero a a).2 rfl
  have hn := T.neg a b
  have hr := T.rng a b
  have hz := T.zero a b
  have hr2 := T.rng b a
  have htr := T.tr a b d
  rw [if_pos h0, haa, hn]
  rw [if_pos (by rw [w64 (by omega) (by omega)]; omega)]
  have hb' : ((pc a b == 0) != (a.toList == b.toList)) = false := by
    by_cases e : pc a b = 0
    · have : a = b := hz.1 e
      rw [e, this]; simp
    · have hne : a.toList ≠ b.toList := fun h => e (hz.2 (by rw [ByteArray.toList_eq, ByteArray.toList_eq] at h; rw [is_mk a, is_mk b, h]))
      rw [beq_eq_false_iff_ne.2 e, beq_eq_false_iff_ne.2 hne]; rfl
  rw [hb', if_neg (by simp), if_pos rfl]
  by_cases p : pc a b > 0
  · rw [if_pos p]
  · rw [if_neg p]
    by_cases q : pc b d > 0
    · rw [if_pos q]
    · rw [if_neg q]
      have := htr (by omega) (by omega)
      simp [this]

end Go.Proofs.YtpkidejgilmlpaaDoor.Pure
