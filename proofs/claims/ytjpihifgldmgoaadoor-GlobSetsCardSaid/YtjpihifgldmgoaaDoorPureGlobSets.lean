/- A set of a pattern has just the letters from its first one to its last one, and a turned one just the others: for all letters. -/
import Derived.Test.YtjpihifgldmgoaaDoorPGlobSetsx4
import Derived.OpenShut
import Derived.Lib.SplitLaws
import Derived.Lib.IndexBytes
import Derived.Lib.TrimByte
import Derived.Lib.Strings
import Derived.Lib.SmallJoins
namespace Go.Proofs.YtjpihifgldmgoaaDoor.Pure
open Go.RowKit Go.Proofs.YtjpihifgldmgoaaDoor.PGlobSets Go.Proofs.YtjpihifgldmgoaaDoorW.PrintWords Go.Proofs.YtjpihifgldmgoaaDoorW.PrintLast Go.Proofs.YtjpihifgldmgoaaDoorW.PrintMore
set_option linter.unusedVariables false
set_option linter.unusedSimpArgs false

theorem w64 {n : Int} (h1 : -9223372036854775808 ≤ n) (h2 : n ≤ 9223372036854775807) : wrap64 n = n := by
  unfold wrap64
  omega

theorem app_list (a b : ByteArray) : (a ++ b).data.toList = a.data.toList ++ b.data.toList := by
  rw [ByteArray.data_append, Array.toList_append]
theorem size_list (a : ByteArray) : a.data.toList.length = a.size := by
  rw [Array.length_toList]; rfl
theorem bytes_ext {a b : ByteArray} (h : a.data.toList = b.data.toList) : a = b := by
  cases a; cases b; simp_all [← Array.toList_inj]

theorem idx_none : ∀ (t : List UInt8) (c : UInt8), c ∉ t → Lib.indexByte t c = -1
  | [], _, _ => rfl
  | b :: t, c, h => by
    have hb : (b == c) = false := by rw [beq_eq_false_iff_ne]; intro e; exact h (by simp [e])
    have ih := idx_none t c (fun hm => h (by simp [hm]))
    simp [Lib.indexByte, hb, ih]
theorem idx_at : ∀ (t r : List UInt8) (c : UInt8), c ∉ t → Lib.indexByte (t ++ c :: r) c = t.length
  | [], r, c, _ => by simp [Lib.indexByte]
  | b :: t, r, c, h => by
    have hb : (b == c) = false := by rw [beq_eq_false_iff_ne]; intro e; exact h (by simp [e])
    have ih := idx_at t r c (fun hm => h (by simp [hm]))
    have hn : ((t.length : Int) == -1) = false := by rw [beq_eq_false_iff_ne]; omega
    simp [Lib.indexByte, hb, ih, hn]
theorem idx_split (l : List UInt8) (c : UInt8) : ∃ t r, l = t ++ r ∧ c ∉ t ∧ (r = [] ∨ ∃ r', r = c :: r') := by
  induction l with
  | nil => exact ⟨[], [], rfl, by simp, .inl rfl⟩
  | cons b l ih =>
    by_cases e : b = c
    · exact ⟨[], b :: l, rfl, by simp, .inr ⟨l, by rw [e]⟩⟩
    · obtain ⟨t, r, h1, h2, h3⟩ := ih
      exact ⟨b :: t, r, by rw [h1]; rfl, by simp [Ne.symm e, h2], h3⟩
theorem repeat_one (c : UInt8) : ∀ n, Lib.repeatL [c] n = List.replicate n c
  | 0 => rfl
  | n + 1 => by simp [Lib.repeatL, repeat_one c n, List.replicate_succ]
theorem mk_list (l : List UInt8) : (⟨l.toArray⟩ : ByteArray).data.toList = l := by simp
theorem mk_size (l : List UInt8) : (⟨l.toArray⟩ : ByteArray).size = l.length := by rw [← size_list, mk_list]
theorem is_mk (s : ByteArray) : s = ⟨s.data.toList.toArray⟩ := by cases s; simp
theorem mk_inj {a b : List UInt8} : (⟨a.toArray⟩ : ByteArray) = ⟨b.toArray⟩ ↔ a = b := ⟨fun h => by have := congrArg (fun x : ByteArray => x.data.toList) h; simpa using this, fun h => by rw [h]⟩
theorem dw_nil (p : UInt8 → Bool) : ∀ l : List UInt8, l.dropWhile p = [] ↔ ∀ x ∈ l, p x = true
  | [] => by simp
  | a :: l => by
    by_cases h : p a = true
    · rw [List.dropWhile_cons_of_pos h, dw_nil p l]; simp [h]
    · rw [List.dropWhile_cons_of_neg h]; simp [h]
theorem trim_zero (r : List UInt8) (c : UInt8) : Lib.trimB r c = [] ↔ ∀ x ∈ r, x = c := by
  unfold Lib.trimB Lib.trimLeftB Lib.trimRightB
  constructor
  · intro h x hx
    have h1 : ∀ y ∈ (r.reverse.dropWhile (· == c)).reverse, (y == c) = true := by
      rw [dw_nil] at h
      exact h
    have h2 : r.reverse.dropWhile (· == c) = [] := by
      cases hd : r.reverse.dropWhile (· == c) with
      | nil => rfl
      | cons a l =>
        have ha := h1 a (by rw [hd]; simp)
        have := List.head?_dropWhile_not (· == c) r.reverse
        rw [hd] at this
        simp [ha] at this
    rw [dw_nil] at h2
    exact eq_of_beq (h2 x (by simpa using hx))
  · intro h
    have h2 : r.reverse.dropWhile (· == c) = [] := by
      rw [dw_nil]
      intro x hx
      exact beq_iff_eq.2 (h x (by simpa using hx))
    rw [h2]
    rfl
theorem toList_mk (l : List UInt8) : (⟨l.toArray⟩ : ByteArray).toList = l := by rw [ByteArray.toList_eq, mk_list]

def cutL (c : UInt8) : List UInt8 → List (List UInt8)
  | [] => [[]]
  | b :: l => if b = c then [] :: cutL c l else match cutL c l with
    | [] => [[b]]
    | t :: r => (b :: t) :: r
theorem cutL_ne (c : UInt8) : ∀ l, cutL c l ≠ []
  | [] => by simp [cutL]
  | b :: l => by unfold cutL; split; · simp
                 · split <;> simp
theorem cutL_app (c : UInt8) (v : List UInt8) : ∀ u, cutL c (u ++ c :: v) = cutL c u ++ cutL c v
  | [] => by simp [cutL]
  | b :: u => by
    rw [List.cons_append, cutL, cutL, cutL_app c v u]
    by_cases h : b = c
    · rw [if_pos h, if_pos h]; rfl
    · rw [if_neg h, if_neg h]
      cases e : cutL c u with
      | nil => exact absurd e (cutL_ne c u)
      | cons t r => rfl
theorem cutL_none (c : UInt8) : ∀ u, c ∉ u → cutL c u = [u]
  | [], _ => rfl
  | b :: u, h => by
    have hb : b ≠ c := fun e => h (by simp [e])
    rw [cutL, if_neg hb, cutL_none c u (fun hm => h (by simp [hm]))]
def joinL (c : UInt8) : List (List UInt8) → List UInt8
  | [] => []
  | [t] => t
  | t :: s :: r => t ++ c :: joinL c (s :: r)
theorem joinL_cut (c : UInt8) : ∀ l, joinL c (cutL c l) = l
  | [] => rfl
  | b :: l => by
    have ih := joinL_cut c l
    rw [cutL]
    by_cases h : b = c
    · rw [if_pos h]
      cases e : cutL c l with
      | nil => exact absurd e (cutL_ne c l)
      | cons t r => rw [e] at ih; rw [joinL, ih, h]; rfl
    · rw [if_neg h]
      cases e : cutL c l with
      | nil => exact absurd e (cutL_ne c l)
      | cons t r =>
        rw [e] at ih
        cases r with
        | nil => simp only [joinL] at ih ⊢; rw [ih]
        | cons s r => simp only [joinL] at ih ⊢; rw [List.cons_append, ih]
theorem cutL_inj (c : UInt8) {a b : List UInt8} (h : cutL c a = cutL c b) : a = b := by
  rw [← joinL_cut c a, h, joinL_cut]
theorem splitK_cut (c : UInt8) : ∀ (n : Nat) (l : List UInt8), l.length ≤ n → Lib.splitK [c] 0 (l.count c) l = cutL c l := by
  intro n
  induction n with
  | zero => intro l h; have : l = [] := List.eq_nil_of_length_eq_zero (by omega); subst this; rfl
  | succ n ih =>
    intro l h
    obtain ⟨t, r, h1, h2, h3⟩ := idx_split l c
    subst h1
    rcases h3 with h3 | ⟨r', h3⟩
    · subst h3
      rw [List.append_nil, List.count_eq_zero_of_not_mem h2, cutL_none c t h2]; rfl
    · subst h3
      have hc : (t ++ c :: r').count c = r'.count c + 1 := by
        rw [List.count_append, List.count_eq_zero_of_not_mem h2, List.count_cons_self]; omega
      have hi : Lib.index (t ++ c :: r') [c] = t.length := by rw [Lib.index_one, idx_at t r' c h2]
      have hm : ¬ ((Lib.index (t ++ c :: r') [c] == -1) = true) := by rw [beq_iff_eq, hi]; omega
      have hx : r'.length ≤ n := by simp at h; omega
      rw [hc, Lib.splitK, if_neg hm, hi, cutL_app, cutL_none c t h2]
      have e1 : (t ++ c :: r').take ((t.length : Int).toNat + 0) = t := by simp
      have e2 : (t ++ c :: r').drop ((t.length : Int).toNat + [c].length) = r' := by simp [List.drop_append]
      rw [e1, e2, ih r' hx]
      rfl
theorem splitB_cut (c : UInt8) (s : ByteArray) : (Lib.splitB ⟨#[c]⟩ 0 (Lib.countB s ⟨#[c]⟩) s).map (·.data.toList) = cutL c s.data.toList := by
  rw [Lib.splitB_data]
  have : Lib.countB s ⟨#[c]⟩ = s.data.toList.count c := Lib.count_one c s.data.toList
  rw [this]
  exact splitK_cut c _ _ (Nat.le_refl _)

structure Tot {α : Type} (c : α → α → Int) : Prop where
  neg : ∀ a b, c b a = - c a b
  zero : ∀ a b, c a b = 0 ↔ a = b
  tr : ∀ a b d, c a b ≤ 0 → c b d ≤ 0 → c a d ≤ 0
  rng : ∀ a b, c a b = -1 ∨ c a b = 0 ∨ c a b = 1
def lexC {α : Type} (c : α → α → Int) : List α → List α → Int
  | [], [] => 0
  | [], _ :: _ => -1
  | _ :: _, [] => 1
  | a :: x, b :: y => if c a b = 0 then lexC c x y else c a b
theorem lex_tot {α : Type} {c : α → α → Int} (T : Tot c) : Tot (lexC c) := by
  have rng : ∀ x y : List α, lexC c x y = -1 ∨ lexC c x y = 0 ∨ lexC c x y = 1 := by
    intro x
    induction x with
    | nil => intro y; cases y <;> simp [lexC]
    | cons a x ih =>
      intro y
      cases y with
      | nil => simp [lexC]
      | cons b y => rw [lexC]; split; · exact ih y
                    · exact T.rng a b
  have neg : ∀ x y : List α, lexC c y x = - lexC c x y := by
    intro x
    induction x with
    | nil => intro y; cases y <;> simp [lexC]
    | cons a x ih =>
      intro y
      cases y with
      | nil => simp [lexC]
      | cons b y =>
        rw [lexC, lexC, T.neg a b]
        by_cases h : c a b = 0
        · rw [if_pos h, if_pos (by omega), ih]
        · rw [if_neg h, if_neg (by omega)]
  have zero : ∀ x y : List α, lexC c x y = 0 ↔ x = y := by
    intro x
    induction x with
    | nil => intro y; cases y <;> simp [lexC]
    | cons a x ih =>
      intro y
      cases y with
      | nil => simp [lexC]
      | cons b y =>
        rw [lexC]
        by_cases h : c a b = 0
        · rw [if_pos h, ih]; simp [(T.zero a b).1 h]
        · rw [if_neg h]
          constructor
          · intro h'; exact absurd h' h
          · intro h'; injection h' with h1 h2; exact (T.zero a b).2 h1
  refine ⟨neg, zero, ?_, rng⟩
  intro x
  induction x with
  | nil => intro y z _ _; cases z <;> simp [lexC]
  | cons a x ih =>
    intro y z h1 h2
    cases y with
    | nil => simp [lexC] at h1
    | cons b y =>
      cases z with
      | nil => simp [lexC] at h2
      | cons d z =>
        rw [lexC] at h1 h2 ⊢
        by_cases e1 : c a b = 0
        · rw [if_pos e1] at h1
          have hab := (T.zero a b).1 e1
          subst hab
          by_cases e2 : c a d = 0
          · rw [if_pos e2] at h2 ⊢; exact ih y z h1 h2
          · rw [if_neg e2] at h2 ⊢; exact h2
        · rw [if_neg e1] at h1
          by_cases e2 : c b d = 0
          · have hbd := (T.zero b d).1 e2
            subst hbd
            rw [if_neg e1]; exact h1
          · rw [if_neg e2] at h2
            have h3 := T.tr a b d h1 h2
            by_cases e3 : c a d = 0
            · have had := (T.zero a d).1 e3
              subst had
              have := T.neg a b
              omega
            · rw [if_neg e3]; exact h3
def cU (a b : UInt8) : Int := if a < b then -1 else if b < a then 1 else 0
theorem cU_tot : Tot cU := by
  have e : ∀ a b : UInt8, (a < b ↔ a.toNat < b.toNat) ∧ (a = b ↔ a.toNat = b.toNat) := fun a b => ⟨UInt8.lt_iff_toNat_lt, ⟨fun h => by rw [h], UInt8.toNat_inj.1⟩⟩
  refine ⟨fun a b => ?_, fun a b => ?_, fun a b d => ?_, fun a b => ?_⟩
  all_goals simp only [cU, (e _ _).1, (e _ _).2]
  all_goals repeat' split
  all_goals omega
theorem less_lex : ∀ x y : List UInt8, Op.bytesLess x y = decide (lexC cU x y < 0)
  | [], [] => by simp [Op.bytesLess, lexC]
  | [], _ :: _ => by simp [Op.bytesLess, lexC]
  | _ :: _, [] => by simp [Op.bytesLess, lexC]
  | a :: x, b :: y => by
    rw [Op.bytesLess, less_lex x y, lexC]
    by_cases h : a < b
    · have : cU a b = -1 := by simp [cU, h]
      simp [h, this]
    · by_cases h' : a = b
      · subst h'; have : cU a a = 0 := (cU_tot.zero a a).2 rfl
        simp [h, this]
      · have : cU a b = 1 := by
          rcases cU_tot.rng a b with q | q | q
          · simp only [cU, h, if_false] at q; split at q <;> simp at q
          · exact absurd ((cU_tot.zero a b).1 q) h'
          · exact q
        simp [h, h', this]

def partsL (l : List UInt8) : List (List UInt8) := if l = [] then [] else cutL 47 l
theorem parts_spec (a : ByteArray) (h : a.size < 4294967281) : ∃ P : List ByteArray, path_Parts.f a = some P ∧ P.map (·.data.toList) = partsL a.data.toList ∧ P.length ≤ a.size + 1 := by
  unfold path_Parts.f strings_Split.f partsL
  rw [ByteArray.toList_eq]
  by_cases e : a.data.toList = []
  · rw [if_pos e, if_pos e]; exact ⟨[], rfl, rfl, by simp⟩
  · rw [if_neg e, if_neg e, if_pos (by decide), if_pos h]
    refine ⟨_, rfl, splitB_cut 47 a, ?_⟩
    refine Nat.le_trans (Lib.splitB_length_le _ _ _ _) ?_
    have := Lib.countB_le ⟨#[47]⟩ (by decide) a.size a (Nat.le_refl _)
    omega

theorem bt_list (s : ByteArray) (i : Int) (h : i.toNat < s.size) : bt s i = ((s.data.toList.getD i.toNat 0).toNat : Int) := by
  unfold bt
  rw [dif_pos h]
  have hl : i.toNat < s.data.toList.length := by rw [size_list]; exact h
  rw [List.getD_eq_getElem?_getD, List.getElem?_eq_getElem hl]
  rfl
theorem bt_nums (l : List Int) (i : Int) (h : i.toNat < l.length) (hr : 0 ≤ l.getD i.toNat 0 ∧ l.getD i.toNat 0 ≤ 255) : bt (strOfNums l) i = l.getD i.toNat 0 := by
  rw [bt_list _ _ (by rw [strOfNums_size]; exact h), strOfNums_data]
  rw [List.getD_eq_getElem?_getD, List.getElem?_map]
  rw [List.getD_eq_getElem?_getD] at hr ⊢
  rw [List.getElem?_eq_getElem h] at hr ⊢
  simp only [Option.map_some, Option.getD_some] at hr ⊢
  have : (UInt8.ofNat l[i.toNat].toNat).toNat = l[i.toNat].toNat := by
    rw [UInt8.toNat_ofNat']
    omega
  omega

theorem ext_take (s : ByteArray) (n : Nat) : (s.extract 0 n).data.toList = s.data.toList.take n := by simp [ByteArray.data_extract]
theorem ext_drop (s : ByteArray) (n : Nat) : (s.extract n s.size).data.toList = s.data.toList.drop n := by
  rw [ByteArray.data_extract, Array.toList_extract]
  have : s.size = s.data.toList.length := (size_list s).symm
  rw [this, List.extract_eq_take_drop]
  exact List.take_of_length_le (by simp)
theorem mk_app (a b : List UInt8) : (⟨a.toArray⟩ : ByteArray) ++ ⟨b.toArray⟩ = ⟨(a ++ b).toArray⟩ := by
  apply bytes_ext; rw [app_list, mk_list, mk_list, mk_list]

/-- A text without the signs of patterns. -/
def NoSign (l : List UInt8) : Prop := (42 : UInt8) ∉ l ∧ (63 : UInt8) ∉ l ∧ (91 : UInt8) ∉ l
def PartOk (l : List UInt8) : Prop := l ≠ [] ∧ l ≠ [46] ∧ l ≠ [46, 46]
/-- A path of parts that may be, without a byte 0 and signs of patterns. -/
structure Plain (s : ByteArray) : Prop where
  sign : NoSign s.data.toList
  zero : (0 : UInt8) ∉ s.data.toList
  parts : ∀ l ∈ cutL 47 s.data.toList, PartOk l
theorem cut_mem (c b : UInt8) : ∀ (l t : List UInt8), t ∈ cutL c l → b ∈ t → b ∈ l := by
  intro l t ht hb
  have h := joinL_cut c l
  rw [← h]
  clear h
  generalize cutL c l = q at ht
  induction q with
  | nil => cases ht
  | cons x q ih =>
    cases q with
    | nil =>
      rw [List.mem_singleton] at ht
      subst ht
      exact hb
    | cons y q =>
      rw [joinL]
      · rcases List.mem_cons.1 ht with rfl | ht
        · exact List.mem_append_left _ hb
        · exact List.mem_append_right _ (List.mem_cons_of_mem _ (ih ht))
      all_goals simp
theorem plain_ne {s : ByteArray} (h : Plain s) : s.data.toList ≠ [] := fun e => by
  have := h.parts [] (by rw [e]; simp [cutL])
  exact this.1 rfl
theorem rd_map (P : List ByteArray) (i : Nat) (hi : i < P.length) : (rdOf ByteArray.empty P (i : Int)).data.toList = (P.map (·.data.toList)).getD i [] := by
  unfold rdOf
  simp [List.getD_eq_getElem?_getD, List.getElem?_eq_getElem hi]
theorem pcheck_loop (P : List ByteArray) (hP : P.length ≤ 1000000000) (h : ∀ l ∈ P.map (·.data.toList), PartOk l) : ∀ (k i : Nat), i ≤ P.length → P.length - i < k → path_Check.l0 k P (P.length : Int) (i : Int) = some 0
  | 0, i, _, h2 => absurd h2 (by omega)
  | k + 1, i, h1, h2 => by
    rw [path_Check.l0]
    by_cases hi : i < P.length
    · have hm : (rdOf ByteArray.empty P (i : Int)).data.toList ∈ P.map (·.data.toList) := by
        unfold rdOf
        simp only [Int.toNat_natCast, List.getD_eq_getElem?_getD, List.getElem?_eq_getElem hi, Option.getD_some]
        exact List.mem_map.2 ⟨_, List.getElem_mem _, rfl⟩
      obtain ⟨p1, p2, p3⟩ := h _ hm
      rw [if_pos (by omega), if_pos (by omega), if_pos (by omega), ByteArray.toList_eq, if_neg p1, if_neg p2, if_neg p3, w64 (by omega) (by omega)]
      exact pcheck_loop P hP h k (i + 1) (by omega) (by omega)
    · rw [if_neg (by omega)]
theorem split_ok (s : ByteArray) (h : s.size ≤ 1000) : ∃ P, strings_Split.f s ⟨#[47]⟩ = some P ∧ P.map (·.data.toList) = cutL 47 s.data.toList ∧ P.length ≤ s.size + 1 := by
  unfold strings_Split.f
  rw [if_pos (by decide), if_pos (by omega)]
  refine ⟨_, rfl, splitB_cut 47 s, ?_⟩
  refine Nat.le_trans (Lib.splitB_length_le _ _ _ _) ?_
  have := Lib.countB_le ⟨#[47]⟩ (by decide) s.size s (Nat.le_refl _)
  omega
theorem plain_size {s : ByteArray} (h : Plain s) : 0 < s.size := by
  have := size_list s
  have h2 := plain_ne h
  cases e : s.data.toList with
  | nil => exact absurd e h2
  | cons b l => rw [e] at this; simp at this; omega
theorem path_check_ok {s : ByteArray} (h : Plain s) (hs : s.size ≤ 400) (k : Nat) (hk : 1000 < k) : path_Check.f k s = some 0 := by
  have h0 := plain_size h
  unfold path_Check.f
  rw [if_neg (by omega), show decide ((s.size : Int) > 400) = false from decide_eq_false (by omega)]
  obtain ⟨k, rfl⟩ : ∃ q, k = q + 1 := ⟨k - 1, by omega⟩
  rw [path_Check.j0, if_neg (by decide)]
  unfold strings_IndexByte.f
  have hz : Lib.indexByte s.data.toList (0 : Int).toNat.toUInt8 = -1 := idx_none _ _ h.zero
  rw [hz, Option.bind_some, if_neg (by omega)]
  obtain ⟨P, h1, h2, h3⟩ := split_ok s (by omega)
  rw [h1, Option.bind_some]
  exact pcheck_loop P (by omega) (by rw [h2]; exact h.parts) k 0 (by omega) (by omega)
theorem gcheck_one (P : List ByteArray) (n i : Int) (r : Int) : ∀ (m : Nat) (x : ByteArray) (k : Nat), x.data.toList.length = m → (91 : UInt8) ∉ x.data.toList → (42 : UInt8) ∉ x.data.toList → glob_Check.l0 k P n (wrap64 (i + 1)) = some r → glob_Check.l1 (k + 2 * m + 2) x P n i = some r
  | 0, x, k, hm, h91, h42, h => by
    have hx : x.toList = [] := by rw [ByteArray.toList_eq]; exact List.length_eq_zero_iff.1 hm
    rw [show k + 2 * 0 + 2 = (k + 1) + 1 from rfl, glob_Check.l1, hx, if_neg (by simp), glob_Check.j3, if_neg (by decide)]
    exact h
  | m + 1, x, k, hm, h91, h42, h => by
    cases hl : x.data.toList with
    | nil => rw [hl] at hm; cases hm
    | cons b l =>
      have hsz : x.size = m + 1 := by rw [← size_list, hm]
      have hx : x.toList ≠ [] := by rw [ByteArray.toList_eq, hl]; simp
      have hx2 : x.toList ≠ [42, 42] := by rw [ByteArray.toList_eq]; intro e; rw [e] at h42; simp at h42
      have hb : bt x 0 = (b.toNat : Int) := by rw [bt_list x 0 (by show 0 < x.size; omega), hl]; rfl
      have hb91 : ¬ bt x 0 = 91 := fun e => by
        rw [hb] at e
        have : b = 91 := UInt8.toNat_inj.1 (show b.toNat = (91 : UInt8).toNat from by have h9 : (91 : UInt8).toNat = 91 := rfl; omega)
        rw [hl, this] at h91
        simp at h91
      have hne : (x.toList != ([] : List UInt8)) = true := bne_iff_ne.mpr hx
      rw [show k + 2 * (m + 1) + 2 = (k + 2 * m + 2 + 1) + 1 by omega, glob_Check.l1, if_neg hx2, hne, glob_Check.j3, if_pos rfl, if_pos (by omega), if_neg hb91, if_pos (by omega)]
      have hd : (x.extract 1 x.size).data.toList = l := by rw [ext_drop, hl]; rfl
      exact gcheck_one P n i r m _ k (by rw [hd]; rw [hl] at hm; simpa using hm) (by rw [hd]; intro e; apply h91; rw [hl]; exact List.mem_cons_of_mem _ e) (by rw [hd]; intro e; apply h42; rw [hl]; exact List.mem_cons_of_mem _ e) h
theorem gcheck_loop (P : List ByteArray) (hP : P.length ≤ 1000000000) (h : ∀ l ∈ P.map (·.data.toList), l ≠ [] ∧ (91 : UInt8) ∉ l ∧ (42 : UInt8) ∉ l) : ∀ (d i : Nat), i + d = P.length → ∃ k, glob_Check.l0 k P (P.length : Int) (i : Int) = some 0
  | 0, i, hd => ⟨1, by rw [glob_Check.l0, if_neg (by omega)]⟩
  | d + 1, i, hd => by
    obtain ⟨k, hk⟩ := gcheck_loop P hP h d (i + 1) (by omega)
    have hi : i < P.length := by omega
    have hm : (rdOf ByteArray.empty P (i : Int)).data.toList ∈ P.map (·.data.toList) := by
      unfold rdOf
      simp only [Int.toNat_natCast, List.getD_eq_getElem?_getD, List.getElem?_eq_getElem hi, Option.getD_some]
      exact List.mem_map.2 ⟨_, List.getElem_mem _, rfl⟩
    obtain ⟨p1, p2, p3⟩ := h _ hm
    refine ⟨(k + 2 * (rdOf ByteArray.empty P (i : Int)).data.toList.length + 2) + 1, ?_⟩
    · rw [glob_Check.l0, if_pos (by omega), if_pos (by omega), if_pos (by omega), ByteArray.toList_eq, if_neg p1]
      exact gcheck_one P _ _ 0 _ _ k rfl p2 p3 (by rw [w64 (by omega) (by omega)]; exact hk)
theorem leO_add {α : Type} {f : Nat → Option α} (hf : ∀ k, LeO (f k) (f (k + 1))) {k : Nat} {r : α} (h : f k = some r) : ∀ d, f (k + d) = some r
  | 0 => h
  | d + 1 => hf _ _ (leO_add hf h d)
theorem glob_check_ok {s : ByteArray} (h : Plain s) (hs : s.size ≤ 400) : ∃ k, ∀ d, glob_Check.f (k + d) s = some 0 := by
  have h0 := plain_size h
  obtain ⟨P, h1, h2, h3⟩ := split_ok s (by omega)
  obtain ⟨k, hk⟩ := gcheck_loop P (by omega) (fun l hl => by
    rw [h2] at hl
    exact ⟨(h.parts l hl).1, fun e => h.sign.2.2 (cut_mem 47 91 _ l hl e), fun e => h.sign.1 (cut_mem 47 42 _ l hl e)⟩) P.length 0 (by omega)
  refine ⟨k + 1, leO_add (f := fun k => glob_Check.f k s) (fun k => glob_Check.mono s k) ?_⟩
  show glob_Check.f (k + 1) s = some 0
  unfold glob_Check.f
  rw [if_neg (by omega), show decide ((s.size : Int) > 400) = false from decide_eq_false (by omega), glob_Check.j0, if_neg (by decide), h1, Option.bind_some]
  exact hk
/-- The signs of a part of a pattern, one by one. -/
def singles (l : List UInt8) : List ByteArray := l.map fun b => ⟨#[b]⟩
theorem gsplit_loop : ∀ (m : Nat) (x : ByteArray) (k : Nat) (acc : List ByteArray), x.data.toList.length = m → m < k → acc.length + m ≤ 1000000 → (91 : UInt8) ∉ x.data.toList → glob_split.l0 k x acc = some (acc ++ singles x.data.toList)
  | 0, x, k, acc, hm, hk, _, h91 => by
    obtain ⟨k, rfl⟩ : ∃ q, k = q + 1 := ⟨k - 1, by omega⟩
    have hx : x.data.toList = [] := List.length_eq_zero_iff.1 hm
    rw [glob_split.l0, ByteArray.toList_eq, hx, if_pos rfl]
    simp [singles]
  | m + 1, x, k, acc, hm, hk, ha, h91 => by
    obtain ⟨k, rfl⟩ : ∃ q, k = q + 1 := ⟨k - 1, by omega⟩
    cases hl : x.data.toList with
    | nil => rw [hl] at hm; cases hm
    | cons b l =>
      have hsz : x.size = m + 1 := by rw [← size_list, hm]
      have hb : bt x 0 = (b.toNat : Int) := by rw [bt_list x 0 (by show 0 < x.size; omega), hl]; rfl
      have hb91 : ¬ bt x 0 = 91 := fun e => by
        rw [hb] at e
        have : b = 91 := UInt8.toNat_inj.1 (show b.toNat = (91 : UInt8).toNat from by have h9 : (91 : UInt8).toNat = 91 := rfl; omega)
        rw [hl, this] at h91
        simp at h91
      rw [glob_split.l0, ByteArray.toList_eq, hl, if_neg (by simp), if_pos (by omega), if_neg hb91, if_pos (by omega), if_pos (by omega), if_pos (by omega)]
      have hd : (x.extract 1 x.size).data.toList = l := by rw [ext_drop, hl]; rfl
      have ht : x.extract 0 1 = ⟨#[b]⟩ := bytes_ext (by rw [ext_take, hl]; rfl)
      rw [gsplit_loop m _ k _ (by rw [hd]; rw [hl] at hm; simpa using hm) (by omega) (by simp; omega) (by rw [hd]; intro e; apply h91; rw [hl]; exact List.mem_cons_of_mem _ e), hd, ht]
      simp [singles]

theorem fit_plain {n m : Nat} {st : Nat → Bool} {ft : Nat → Nat → Bool} (hs : ∀ i, i < n → st i = false) : ∀ (d i k : Nat), i + d = n → k ≤ m → (Fit n m st ft i k ↔ k + d = m ∧ ∀ q, q < d → ft (i + q) (k + q) = true)
  | 0, i, k, hd, hk => by
    constructor
    · intro h
      rcases fit_inv h with ⟨h1, h2⟩ | ⟨h1, _⟩ | ⟨h1, _⟩ | ⟨h1, _⟩
      · exact ⟨by omega, fun q hq => by omega⟩
      all_goals omega
    · rintro ⟨h1, _⟩
      obtain rfl : i = n := by omega
      obtain rfl : k = m := by omega
      exact fit_end
  | d + 1, i, k, hd, hk => by
    have hi : i < n := by omega
    constructor
    · intro h
      rcases fit_inv h with ⟨h1, h2⟩ | ⟨_, h2, _⟩ | ⟨_, h2, _⟩ | ⟨_, _, h3, h4, h5⟩
      · omega
      · rw [hs i hi] at h2; cases h2
      · rw [hs i hi] at h2; cases h2
      · obtain ⟨g1, g2⟩ := (fit_plain hs d (i + 1) (k + 1) (by omega) (by omega)).1 h5
        refine ⟨by omega, fun q hq => ?_⟩
        cases q with
        | zero => exact h4
        | succ q => rw [show i + (q + 1) = i + 1 + q by omega, show k + (q + 1) = k + 1 + q by omega]; exact g2 q (by omega)
    · rintro ⟨h1, h2⟩
      refine fit_one hi (hs i hi) (by omega) (h2 0 (by omega)) ((fit_plain hs d (i + 1) (k + 1) (by omega) (by omega)).2 ⟨by omega, fun q hq => ?_⟩)
      have := h2 (q + 1) (by omega)
      rw [show i + 1 + q = i + (q + 1) by omega, show k + 1 + q = k + (q + 1) by omega]
      exact this
theorem cut_len (c : UInt8) : ∀ (l t : List UInt8), t ∈ cutL c l → t.length ≤ l.length := by
  intro l t ht
  have h := joinL_cut c l
  rw [← h]
  clear h
  generalize cutL c l = q at ht
  induction q with
  | nil => cases ht
  | cons x q ih =>
    cases q with
    | nil =>
      rw [List.mem_singleton] at ht
      subst ht
      exact Nat.le_refl _
    | cons y q =>
      rw [joinL]
      · rw [List.length_append, List.length_cons]
        rcases List.mem_cons.1 ht with rfl | ht
        · omega
        · have := ih ht; omega
      all_goals simp
theorem single_at (L : List UInt8) (i : Nat) (hi : i < L.length) : rdOf ByteArray.empty (singles L) (i : Int) = ⟨#[L.getD i 0]⟩ := by
  unfold rdOf singles
  simp [List.getD_eq_getElem?_getD, List.getElem?_eq_getElem hi]
theorem sign_single (b : UInt8) (c : Int) (h1 : b ≠ 63) (h2 : b ≠ 91) : glob_sign.f ⟨#[b]⟩ c = some ((b.toNat : Int) == c) := by
  unfold glob_sign.f
  have hb : bt ⟨#[b]⟩ 0 = (b.toNat : Int) := rfl
  rw [if_pos (by show (0 : Int) < 1; decide), hb, if_neg (fun e => h1 (UInt8.toNat_inj.1 (show b.toNat = (63 : UInt8).toNat from by have h9 : (63 : UInt8).toNat = 63 := rfl; omega))), if_neg (fun e => h2 (UInt8.toNat_inj.1 (show b.toNat = (91 : UInt8).toNat from by have h9 : (91 : UInt8).toNat = 91 := rfl; omega)))]

theorem gcheck_any (P : List ByteArray) (n i : Int) (r : Int) : ∀ (m : Nat) (x : ByteArray) (k : Nat), x.data.toList.length = m → (91 : UInt8) ∉ x.data.toList → glob_Check.l0 k P n (wrap64 (i + 1)) = some r → ∃ k', glob_Check.l1 k' x P n i = some r
  | 0, x, k, hm, h91, h => by
    have hx : x.toList = [] := by rw [ByteArray.toList_eq]; exact List.length_eq_zero_iff.1 hm
    exact ⟨(k + 1) + 1, by rw [glob_Check.l1, hx, if_neg (by simp), glob_Check.j3, if_neg (by decide)]; exact h⟩
  | m + 1, x, k, hm, h91, h => by
    by_cases hx2 : x.toList = [42, 42]
    · exact ⟨(k + 1) + 1, by rw [glob_Check.l1, if_pos hx2, glob_Check.j3, if_neg (by decide)]; exact h⟩
    cases hl : x.data.toList with
    | nil => rw [hl] at hm; cases hm
    | cons b l =>
      have hsz : x.size = m + 1 := by rw [← size_list, hm]
      have hx : x.toList ≠ [] := by rw [ByteArray.toList_eq, hl]; simp
      have hb : bt x 0 = (b.toNat : Int) := by rw [bt_list x 0 (by show 0 < x.size; omega), hl]; rfl
      have hb91 : ¬ bt x 0 = 91 := fun e => by
        rw [hb] at e
        have : b = 91 := UInt8.toNat_inj.1 (show b.toNat = (91 : UInt8).toNat from by have h9 : (91 : UInt8).toNat = 91 := rfl; omega)
        rw [hl, this] at h91
        simp at h91
      have hne : (x.toList != ([] : List UInt8)) = true := bne_iff_ne.mpr hx
      have hd : (x.extract 1 x.size).data.toList = l := by rw [ext_drop, hl]; rfl
      obtain ⟨k', hk'⟩ := gcheck_any P n i r m _ k (by rw [hd]; rw [hl] at hm; simpa using hm) (by rw [hd]; intro e; apply h91; rw [hl]; exact List.mem_cons_of_mem _ e) h
      exact ⟨(k' + 1) + 1, by rw [glob_Check.l1, if_neg hx2, hne, glob_Check.j3, if_pos rfl, if_pos (by omega), if_neg hb91, if_pos (by omega)]; exact hk'⟩
theorem gcheck_loop2 (P : List ByteArray) (hP : P.length ≤ 1000000000) (h : ∀ l ∈ P.map (·.data.toList), l ≠ [] ∧ (91 : UInt8) ∉ l) : ∀ (d i : Nat), i + d = P.length → ∃ k, glob_Check.l0 k P (P.length : Int) (i : Int) = some 0
  | 0, i, hd => ⟨1, by rw [glob_Check.l0, if_neg (by omega)]⟩
  | d + 1, i, hd => by
    obtain ⟨k, hk⟩ := gcheck_loop2 P hP h d (i + 1) (by omega)
    have hi : i < P.length := by omega
    have hm : (rdOf ByteArray.empty P (i : Int)).data.toList ∈ P.map (·.data.toList) := by
      unfold rdOf
      simp only [Int.toNat_natCast, List.getD_eq_getElem?_getD, List.getElem?_eq_getElem hi, Option.getD_some]
      exact List.mem_map.2 ⟨_, List.getElem_mem _, rfl⟩
    obtain ⟨p1, p2⟩ := h _ hm
    obtain ⟨k', hk'⟩ := gcheck_any P (P.length : Int) (i : Int) 0 _ (rdOf ByteArray.empty P (i : Int)) k rfl p2 (by rw [w64 (by omega) (by omega)]; exact hk)
    refine ⟨k' + 1, ?_⟩
    rw [glob_Check.l0, if_pos (by omega), if_pos (by omega), if_pos (by omega), ByteArray.toList_eq, if_neg p1]
    exact hk'
theorem check_ok2 {s : ByteArray} (h0 : 0 < s.size) (hs : s.size ≤ 400) (h91 : (91 : UInt8) ∉ s.data.toList) (hne : ∀ l ∈ cutL 47 s.data.toList, l ≠ []) : ∃ k, ∀ d, glob_Check.f (k + d) s = some 0 := by
  obtain ⟨P, h1, h2, h3⟩ := split_ok s (by omega)
  obtain ⟨k, hk⟩ := gcheck_loop2 P (by omega) (fun l hl => by
    rw [h2] at hl
    exact ⟨hne l hl, fun e => h91 (cut_mem 47 91 _ l hl e)⟩) P.length 0 (by omega)
  refine ⟨k + 1, leO_add (f := fun k => glob_Check.f k s) (fun k => glob_Check.mono s k) ?_⟩
  show glob_Check.f (k + 1) s = some 0
  unfold glob_Check.f
  rw [if_neg (by omega), show decide ((s.size : Int) > 400) = false from decide_eq_false (by omega), glob_Check.j0, if_neg (by decide), h1, Option.bind_some]
  exact hk

theorem map_one {P : List ByteArray} {s : ByteArray} (h : P.map (·.data.toList) = [s.data.toList]) : P = [s] := by
  cases P with
  | nil => cases h
  | cons a P =>
    rw [List.map_cons] at h
    injection h with h1 h2
    rw [List.map_eq_nil_iff.1 h2, bytes_ext h1]
/-- A path of one part. -/
theorem parts_one {s : ByteArray} (hs : s.size ≤ 400) (h0 : 0 < s.size) (h47 : (47 : UInt8) ∉ s.data.toList) : path_Parts.f s = some [s] := by
  obtain ⟨P, h1, h2, h3⟩ := parts_spec s (by omega)
  unfold partsL at h2
  have hn : s.data.toList ≠ [] := fun e => by have := size_list s; rw [e] at this; simp at this; omega
  rw [if_neg hn, cutL_none 47 _ h47] at h2
  rw [h1, map_one h2]
theorem fit_one_one {st : Nat → Bool} {ft : Nat → Nat → Bool} (hs : st 0 = false) : Fit 1 1 st ft 0 0 ↔ ft 0 0 = true := by
  rw [fit_plain (n := 1) (m := 1) (fun i hi => by
    obtain rfl : i = 0 := by omega
    exact hs) 1 0 0 (by omega) (by omega)]
  exact ⟨fun h => h.2 0 (by omega), fun h => ⟨by omega, fun q hq => by
    obtain rfl : q = 0 := by omega
    exact h⟩⟩
/-- One part by one part. -/
theorem fits_one {p s : ByteArray} {r : Bool} (hp : p.size ≤ 400) (hp0 : 0 < p.size) (hp47 : (47 : UInt8) ∉ p.data.toList) (hss : p.data.toList ≠ [42, 42]) (hck : ∃ k, ∀ d, glob_Check.f (k + d) p = some 0)
    (hs : s.size ≤ 400) (hs0 : 0 < s.size) (hs47 : (47 : UInt8) ∉ s.data.toList) (hz : (0 : UInt8) ∉ s.data.toList) (h1 : s.data.toList ≠ [46]) (h2 : s.data.toList ≠ [46, 46]) (hr : glob_part.f p s = some r) : ∃ k, ∀ d, glob_Fits.f (k + d) p s = some (r, 0) := by
  obtain ⟨k, hk⟩ := hck
  have hn : s.data.toList ≠ [] := fun e => by have := size_list s; rw [e] at this; simp at this; omega
  refine ⟨k + 1010, fun d => ?_⟩
  have hpc : ∀ k, 1000 < k → path_Check.f k s = some 0 := fun k hk => by
    unfold path_Check.f
    rw [if_neg (by omega), show decide ((s.size : Int) > 400) = false from decide_eq_false (by omega)]
    obtain ⟨k, rfl⟩ : ∃ q, k = q + 1 := ⟨k - 1, by omega⟩
    rw [path_Check.j0, if_neg (by decide)]
    unfold strings_IndexByte.f
    have hz : Lib.indexByte s.data.toList (0 : Int).toNat.toUInt8 = -1 := idx_none _ _ hz
    rw [hz, Option.bind_some, if_neg (by omega)]
    obtain ⟨P, g1, g2, g3⟩ := split_ok s (by omega)
    rw [g1, Option.bind_some]
    refine pcheck_loop P (by omega) ?_ k 0 (by omega) (by omega)
    rw [g2, cutL_none 47 _ hs47]
    intro l hl
    rw [List.mem_singleton] at hl
    subst hl
    exact ⟨hn, h1, h2⟩
  unfold glob_Fits.f
  rw [show k + 1010 + d = k + (1010 + d) by omega, hk, Option.bind_some, if_pos rfl, hpc _ (by omega), Option.bind_some, if_pos rfl, parts_one hp hp0 hp47, Option.bind_some, parts_one hs hs0 hs47, Option.bind_some]
  have e0 : rdOf ByteArray.empty [p] ((0 : Nat) : Int) = p := rfl
  have e1 : rdOf ByteArray.empty [s] ((0 : Nat) : Int) = s := rfl
  have hst : partsSt [p] 0 = false := by
    unfold partsSt
    rw [e0, ByteArray.toList_eq]
    exact beq_eq_false_iff_ne.2 hss
  have hft : partsFt [p] [s] 0 0 = r := by
    unfold partsFt
    rw [e0, e1, hr]; rfl
  have hf : glob_parts.f [p] [s] = some r := by
    unfold glob_parts.f
    rw [show ([p] : List ByteArray).length = 1 from rfl, show ([s] : List ByteArray).length = 1 from rfl, if_pos]
    · congr 1
      rw [Bool.eq_iff_iff, fitB_fit, fit_one_one hst, hft]
    · refine ⟨by omega, by omega, ?_⟩
      rw [List.all_eq_true]
      intro i hi
      rw [List.all_eq_true]
      intro k hk
      obtain rfl : i = 0 := by have := List.mem_range.1 hi; omega
      obtain rfl : k = 0 := by have := List.mem_range.1 hk; omega
      rw [e0, e1, hr]
      simp
  rw [hf, Option.bind_some]
theorem sign_one (b c : UInt8) (h2 : b ≠ 91) : glob_sign.f ⟨#[b]⟩ (c.toNat : Int) = some (b == 63 || b == c) := by
  have hb : bt ⟨#[b]⟩ 0 = (b.toNat : Int) := rfl
  by_cases h1 : b = 63
  · unfold glob_sign.f
    rw [if_pos (by show (0 : Int) < 1; decide), hb, h1, if_pos (by decide)]; rfl
  · rw [sign_single b _ h1 h2]
    have e1 : (b == 63) = false := beq_eq_false_iff_ne.2 h1
    rw [e1, Bool.false_or]
    congr 1
    rw [Bool.eq_iff_iff, beq_iff_eq, beq_iff_eq, ← UInt8.toNat_inj]
    omega
/-- A part without a set, by signs. -/
theorem part_fit {p s : ByteArray} (h91 : (91 : UInt8) ∉ p.data.toList) (hps : p.size ≤ 400) (hss : s.size ≤ 400) : ∃ r, glob_part.f p s = some r ∧ (r = true ↔ Fit p.size s.size (fun i => p.data.toList.getD i 0 == 42) (fun i k => p.data.toList.getD i 0 == 63 || p.data.toList.getD i 0 == s.data.toList.getD k 0) 0 0) := by
  have hL := size_list p
  have hsp : glob_split.f (3 * p.size + 10) p = some (singles p.data.toList) := by
    unfold glob_split.f
    rw [gsplit_loop p.size p _ [] hL (by omega) (by simp; omega) h91]; rfl
  have hlen : (singles p.data.toList).length = p.size := by rw [singles, List.length_map, hL]
  have hmem : ∀ i, i < p.size → p.data.toList.getD i 0 ∈ p.data.toList := fun i hi => by
    rw [List.getD_eq_getElem?_getD, List.getElem?_eq_getElem (by omega)]; exact List.getElem_mem _
  have hst : ∀ i, i < p.size → partSt (singles p.data.toList) i = (p.data.toList.getD i 0 == 42) := fun i hi => by
    unfold partSt
    rw [single_at _ _ (by omega), ByteArray.toList_eq]
    rw [Bool.eq_iff_iff, beq_iff_eq, beq_iff_eq]
    exact ⟨fun e => by simpa using e, fun e => by rw [e]⟩
  have hsg : ∀ i k, i < p.size → k < s.size → glob_sign.f (rdOf ByteArray.empty (singles p.data.toList) (i : Int)) (bt s (k : Int)) = some (p.data.toList.getD i 0 == 63 || p.data.toList.getD i 0 == s.data.toList.getD k 0) := fun i k hi hk => by
    rw [single_at _ _ (by omega), bt_list s (k : Int) (by simpa using hk), Int.toNat_natCast]
    exact sign_one _ _ (fun e => h91 (e ▸ hmem i hi))
  unfold glob_part.f
  rw [hsp, Option.bind_some, hlen, if_pos]
  · refine ⟨_, rfl, ?_⟩
    rw [fitB_fit]
    have hf : ∀ i k, i < p.size → k < s.size → partFt (singles p.data.toList) s i k = (p.data.toList.getD i 0 == 63 || p.data.toList.getD i 0 == s.data.toList.getD k 0) := fun i k hi hk => by
      unfold partFt; rw [hsg i k hi hk]; rfl
    exact ⟨fun ⟨f, h⟩ => ⟨f, gm_congr hst (fun i k hi hk _ => hf i k hi hk) f _ _ h⟩, fun ⟨f, h⟩ => ⟨f, gm_congr (fun i hi => (hst i hi).symm) (fun i k hi hk _ => (hf i k hi hk).symm) f _ _ h⟩⟩
  · refine ⟨by omega, by omega, ?_⟩
    rw [List.all_eq_true]
    intro i hi
    rw [List.all_eq_true]
    intro k hk
    rw [hsg i k (List.mem_range.1 hi) (List.mem_range.1 hk)]
    simp

theorem litePrefix_spec (s p : ByteArray) : stringslite_HasPrefix.f s p = some (p.data.toList.isPrefixOf s.data.toList) := by
  unfold stringslite_HasPrefix.f
  by_cases h : (s.size : Int) ≥ (p.size : Int)
  · rw [if_pos h, if_pos (by omega), if_pos (by omega)]
    simp only [Option.bind_some, Option.some.injEq]
    rw [Lib.extract_toList, Lib.toList_data, Bool.eq_iff_iff, List.isPrefixOf_iff_prefix, beq_iff_eq]
    have hl := size_list s
    have hp := size_list p
    have e : ((p.size : Int)).toNat - 0 = p.data.toList.length := by omega
    rw [List.drop_zero, e]
    constructor
    · intro g; rw [← g]; exact List.take_prefix _ _
    · rintro ⟨t, g⟩; rw [← g]; simp
  · rw [if_neg h]
    simp only [Option.bind_some, Option.some.injEq]
    symm
    rw [Bool.eq_false_iff]
    intro g
    rw [List.isPrefixOf_iff_prefix] at g
    have := g.length_le
    have hl := size_list s
    have hp := size_list p
    omega

theorem hasPrefix_spec (s p : ByteArray) : strings_HasPrefix.f s p = some (p.data.toList.isPrefixOf s.data.toList) := by
  unfold strings_HasPrefix.f
  rw [litePrefix_spec, Option.bind_some]

theorem drop_mk {l : List UInt8} {n e : Nat} (he : e = l.length) : (⟨l.toArray⟩ : ByteArray).extract n e = ⟨(l.drop n).toArray⟩ := by
  apply bytes_ext
  have := ext_drop (⟨l.toArray⟩ : ByteArray) n
  rw [mk_size] at this
  rw [he, this, mk_list, mk_list]
theorem take_mk (l : List UInt8) (n : Nat) : (⟨l.toArray⟩ : ByteArray).extract 0 n = ⟨(l.take n).toArray⟩ := by
  apply bytes_ext
  rw [ext_take, mk_list, mk_list]
theorem bt_mk (l : List UInt8) (i : Int) (h : i.toNat < l.length) : bt ⟨l.toArray⟩ i = ((l.getD i.toNat 0).toNat : Int) := by
  rw [bt_list _ _ (by rw [mk_size]; exact h), mk_list]
theorem w2 : wrap64 (1 + 1) = 2 := w64 (by omega) (by omega)
theorem w3 : wrap64 (1 + 1 + 1) = 3 := w64 (by omega) (by omega)
theorem w1' : wrap64 (0 + 1) = 1 := w64 (by omega) (by omega)
theorem nat_ne {a b : UInt8} (h : a ≠ b) : ¬ (a.toNat : Int) = (b.toNat : Int) := fun e => h (UInt8.toNat_inj.1 (by omega))
theorem prefix_no {b : UInt8} {l : List UInt8} (h : b ≠ 33) : strings_HasPrefix.f (⟨(b :: l).toArray⟩ : ByteArray) ⟨#[33]⟩ = some false := by
  rw [hasPrefix_spec, mk_list]
  congr 1
  show ((33 : UInt8) == b && [].isPrefixOf l) = false
  rw [beq_eq_false_iff_ne.2 (Ne.symm h)]; rfl
theorem prefix_yes {l : List UInt8} : strings_HasPrefix.f (⟨((33 : UInt8) :: l).toArray⟩ : ByteArray) ⟨#[33]⟩ = some true := by
  rw [hasPrefix_spec, mk_list]
  rfl
section
variable {a b : UInt8} (ha : a ≠ 33) (ha93 : a ≠ 93) (hb : b ≠ 93)
include hb in
theorem idx_set : strings_IndexByte.f (⟨[45, b, 93].toArray⟩ : ByteArray) 93 = some 2 := by
  unfold strings_IndexByte.f
  rw [mk_list]
  have := idx_at [45, b] [] 93 (by simp [Ne.symm hb])
  exact congrArg some this
include ha hb in
theorem end_one (k : Nat) : glob_end.f (k + 1) ⟨[91, a, 45, b, 93].toArray⟩ = some 5 := by
  unfold glob_end.f
  have e1 : ((⟨[91, a, 45, b, 93].toArray⟩ : ByteArray).size : Int) = 5 := rfl
  have e2 : (⟨[91, a, 45, b, 93].toArray⟩ : ByteArray).extract 1 (⟨[91, a, 45, b, 93].toArray⟩ : ByteArray).size = ⟨[a, 45, b, 93].toArray⟩ := drop_mk rfl
  have e3 : (⟨[91, a, 45, b, 93].toArray⟩ : ByteArray).extract 2 (⟨[91, a, 45, b, 93].toArray⟩ : ByteArray).size = ⟨[45, b, 93].toArray⟩ := drop_mk rfl
  rw [if_pos (by rw [e1]; decide), e2, prefix_no ha, Option.bind_some, if_neg (by decide), glob_end.j0, w2, show (2 : Int).toNat = 2 from rfl, e3, e1, if_pos (by decide), if_pos (by decide), if_pos (by decide), idx_set hb, Option.bind_some, if_neg (by decide), show wrap64 (2 + 2) = 4 from w64 (by decide) (by decide), show wrap64 (4 + 1) = 5 from w64 (by decide) (by decide)]
include hb in
theorem end_two (k : Nat) : glob_end.f (k + 1) ⟨[91, 33, a, 45, b, 93].toArray⟩ = some 6 := by
  unfold glob_end.f
  have e1 : ((⟨[91, 33, a, 45, b, 93].toArray⟩ : ByteArray).size : Int) = 6 := rfl
  have e2 : (⟨[91, 33, a, 45, b, 93].toArray⟩ : ByteArray).extract 1 (⟨[91, 33, a, 45, b, 93].toArray⟩ : ByteArray).size = ⟨[33, a, 45, b, 93].toArray⟩ := drop_mk rfl
  have e3 : (⟨[91, 33, a, 45, b, 93].toArray⟩ : ByteArray).extract 3 (⟨[91, 33, a, 45, b, 93].toArray⟩ : ByteArray).size = ⟨[45, b, 93].toArray⟩ := drop_mk rfl
  rw [if_pos (by rw [e1]; decide), e2, prefix_yes, Option.bind_some, if_pos rfl, glob_end.j0, w3, show (3 : Int).toNat = 3 from rfl, e3, e1, if_pos (by decide), if_pos (by decide), if_pos (by decide), idx_set hb, Option.bind_some, if_neg (by decide), show wrap64 (3 + 2) = 5 from w64 (by decide) (by decide), show wrap64 (5 + 1) = 6 from w64 (by decide) (by decide)]
theorem end_no (k : Nat) : glob_end.f (k + 1) ⟨[91, 97].toArray⟩ = some (-1) := by
  unfold glob_end.f
  have e1 : ((⟨[91, 97].toArray⟩ : ByteArray).size : Int) = 2 := rfl
  have e2 : (⟨[91, 97].toArray⟩ : ByteArray).extract 1 (⟨[91, 97].toArray⟩ : ByteArray).size = ⟨[97].toArray⟩ := drop_mk rfl
  have e3 : (⟨[91, 97].toArray⟩ : ByteArray).extract 2 (⟨[91, 97].toArray⟩ : ByteArray).size = ⟨[].toArray⟩ := drop_mk rfl
  rw [if_pos (by rw [e1]; decide), e2, prefix_no (by decide), Option.bind_some, if_neg (by decide), glob_end.j0, w2, show (2 : Int).toNat = 2 from rfl, e3, e1, if_pos (by decide), if_pos (by decide), if_pos (by decide)]
  rfl
end
/-- A part 'x' with a set, or the beginning of one, behind it. -/
theorem check_set {l : List UInt8} {r : Int} (h47 : (47 : UInt8) ∉ l) (hl : l.length ≤ 100) (hr : ∀ k, glob_end.f (k + 1) ⟨(91 :: l).toArray⟩ = some r) (hr1 : r = -1 ∨ r = l.length + 1) : ∃ k, ∀ d, glob_Check.f (k + d) ⟨(120 :: 91 :: l).toArray⟩ = some (if r = -1 then 3 else 0) := by
  refine ⟨20, leO_add (f := fun k => glob_Check.f k ⟨(120 :: 91 :: l).toArray⟩) (fun k => glob_Check.mono _ k) ?_⟩
  show glob_Check.f 20 _ = _
  generalize hs : (⟨(120 :: 91 :: l).toArray⟩ : ByteArray) = s
  have hsl : s.data.toList = 120 :: 91 :: l := by rw [← hs, mk_list]
  have hsz : s.size = l.length + 2 := by rw [← hs, mk_size]; rfl
  obtain ⟨P, h1, h2, h3⟩ := split_ok s (by omega)
  have n47 : (47 : UInt8) ∉ s.data.toList := by rw [hsl]; simpa using h47
  rw [cutL_none 47 _ n47] at h2
  have hP := map_one h2
  subst hP
  have e0 : rdOf ByteArray.empty [s] 0 = s := rfl
  have ex1 : s.extract 1 s.size = ⟨(91 :: l).toArray⟩ := bytes_ext (by rw [ext_drop, hsl, mk_list]; rfl)
  have ez : (⟨(91 :: l).toArray⟩ : ByteArray).size = l.length + 1 := by rw [mk_size]; rfl
  have b0 : bt s 0 = 120 := by rw [← hs, bt_mk _ _ (by simp)]; rfl
  have b1 : bt ⟨(91 :: l).toArray⟩ 0 = 91 := by rw [bt_mk _ _ (by simp)]; rfl
  unfold glob_Check.f
  rw [if_neg (by omega), show decide ((s.size : Int) > 400) = false from decide_eq_false (by omega), glob_Check.j0, if_neg (by decide), h1, Option.bind_some, show (([s] : List ByteArray).length : Int) = 1 from rfl]
  rw [glob_Check.l0, if_pos (by decide), if_pos (by decide), if_pos (by show (0 : Int) < 1; decide), e0, ByteArray.toList_eq, hsl, if_neg (by simp)]
  rw [glob_Check.l1, ByteArray.toList_eq, hsl, if_neg (by simp), show ((120 :: 91 :: l : List UInt8) != []) = true from rfl, glob_Check.j3, if_pos rfl, if_pos (by omega), if_neg (by rw [b0]; decide), if_pos (by omega), ex1]
  rw [glob_Check.l1, ByteArray.toList_eq, mk_list, if_neg (by simp), show ((91 :: l : List UInt8) != []) = true from rfl, glob_Check.j3, if_pos rfl, ez, if_pos (by omega), if_pos b1, hr, Option.bind_some]
  rcases hr1 with rfl | rfl
  · rfl
  · rw [if_neg (by omega), if_pos (by omega), if_pos (by omega), if_neg (by omega)]
    have ee : (⟨(91 :: l).toArray⟩ : ByteArray).extract ((l.length : Int) + 1).toNat (l.length + 1) = ⟨[].toArray⟩ := by
      rw [drop_mk (by simp)]
      rw [List.drop_eq_nil_of_le (by simp only [List.length_cons]; omega)]
    rw [ee, glob_Check.l1, ByteArray.toList_eq, mk_list, if_neg (by simp), show (([] : List UInt8) != []) = false from rfl, glob_Check.j3, if_neg (by decide), glob_Check.l0, w1', if_neg (by decide)]
theorem split_set {l : List UInt8} (hl : l.length ≤ 100) (hr : ∀ k, glob_end.f (k + 1) ⟨(91 :: l).toArray⟩ = some ((l.length : Int) + 1)) (k : Nat) (hk : 5 ≤ k) : glob_split.f k ⟨(120 :: 91 :: l).toArray⟩ = some [⟨#[120]⟩, ⟨(91 :: l).toArray⟩] := by
  obtain ⟨k, rfl⟩ : ∃ q, k = q + 5 := ⟨k - 5, by omega⟩
  unfold glob_split.f
  have z0 : (⟨(120 :: 91 :: l).toArray⟩ : ByteArray).size = l.length + 2 := by rw [mk_size]; rfl
  have ez : (⟨(91 :: l).toArray⟩ : ByteArray).size = l.length + 1 := by rw [mk_size]; rfl
  have b0 : bt ⟨(120 :: 91 :: l).toArray⟩ 0 = 120 := by rw [bt_mk _ _ (by simp)]; rfl
  have b1 : bt ⟨(91 :: l).toArray⟩ 0 = 91 := by rw [bt_mk _ _ (by simp)]; rfl
  have e1 : (⟨(120 :: 91 :: l).toArray⟩ : ByteArray).extract 1 (l.length + 2) = ⟨(91 :: l).toArray⟩ := drop_mk (by simp)
  have e2 : (⟨(120 :: 91 :: l).toArray⟩ : ByteArray).extract 0 1 = ⟨#[120]⟩ := take_mk _ _
  have ee : (⟨(91 :: l).toArray⟩ : ByteArray).extract ((l.length : Int) + 1).toNat (l.length + 1) = ⟨[].toArray⟩ := by
    rw [drop_mk (by simp)]
    rw [List.drop_eq_nil_of_le (by simp only [List.length_cons]; omega)]
  have et : (⟨(91 :: l).toArray⟩ : ByteArray).extract 0 ((l.length : Int) + 1).toNat = ⟨(91 :: l).toArray⟩ := by
    rw [take_mk]
    rw [List.take_of_length_le (by simp only [List.length_cons]; omega)]
  rw [glob_split.l0, ByteArray.toList_eq, mk_list, if_neg (by simp), z0, if_pos (by omega), if_neg (by rw [b0]; decide), if_pos (by decide), if_pos (by omega), if_pos (by decide), e1, e2]
  rw [glob_split.l0, ByteArray.toList_eq, mk_list, if_neg (by simp), ez, if_pos (by omega), if_pos b1, hr, Option.bind_some, if_pos (by omega), if_pos (by omega), if_pos (by decide), ee, et]
  rw [glob_split.l0, ByteArray.toList_eq, mk_list, if_pos rfl]
  rfl
theorem set_loop (c : Int) (nt : Bool) (a b : UInt8) (hb : b ≠ 93) (k : Nat) : setL c nt (k + 2) ⟨[a, 45, b, 93].toArray⟩ false 0 = some ((decide ((a.toNat : Int) ≤ c) && decide (c ≤ (b.toNat : Int))) != nt, ⟨[].toArray⟩) := by
  have z0 : (⟨[a, 45, b, 93].toArray⟩ : ByteArray).size = 4 := rfl
  have e1 : (⟨[a, 45, b, 93].toArray⟩ : ByteArray).extract 1 4 = ⟨[45, b, 93].toArray⟩ := drop_mk rfl
  have z1 : (⟨[45, b, 93].toArray⟩ : ByteArray).size = 3 := rfl
  have e2 : (⟨[45, b, 93].toArray⟩ : ByteArray).extract 2 3 = ⟨[93].toArray⟩ := drop_mk rfl
  have z2 : (⟨[93].toArray⟩ : ByteArray).size = 1 := rfl
  have e3 : (⟨[93].toArray⟩ : ByteArray).extract 1 1 = ⟨[].toArray⟩ := drop_mk rfl
  have b0 : bt ⟨[a, 45, b, 93].toArray⟩ 0 = (a.toNat : Int) := by rw [bt_mk _ _ (by simp)]; rfl
  have b1 : bt ⟨[45, b, 93].toArray⟩ 0 = 45 := by rw [bt_mk _ _ (by simp)]; rfl
  have b2 : bt ⟨[45, b, 93].toArray⟩ 1 = (b.toNat : Int) := by rw [bt_mk _ _ (by simp)]; rfl
  have b3 : bt ⟨[93].toArray⟩ 0 = 93 := by rw [bt_mk _ _ (by simp)]; rfl
  have hbn : ¬ (b.toNat : Int) = 93 := nat_ne (b := 93) hb
  have hst : setStep ⟨[a, 45, b, 93].toArray⟩ = ((a.toNat : Int), (b.toNat : Int), ⟨[93].toArray⟩) := by
    unfold setStep
    rw [z0, e1, z1, b1, b2, b0, e2, if_pos ⟨by decide, rfl, hbn⟩]
  rw [setL, z0, if_neg (by omega), if_neg (by omega), hst]
  rw [setL, z2, if_neg (by omega), if_pos ⟨by omega, b3⟩, e3]
  simp
theorem set_one (c : Int) (a b : UInt8) (ha : a ≠ 33) (hb : b ≠ 93) : glob_set.f ⟨[91, a, 45, b, 93].toArray⟩ c = some (decide ((a.toNat : Int) ≤ c) && decide (c ≤ (b.toNat : Int)), ⟨[].toArray⟩) := by
  unfold glob_set.f
  have e2 : (⟨[91, a, 45, b, 93].toArray⟩ : ByteArray).extract 1 (⟨[91, a, 45, b, 93].toArray⟩ : ByteArray).size = ⟨[a, 45, b, 93].toArray⟩ := drop_mk rfl
  have z : (⟨[91, a, 45, b, 93].toArray⟩ : ByteArray).size = 5 := rfl
  rw [e2, if_pos (by rw [z]; decide), prefix_no ha, Option.bind_some, if_neg (by decide), z, set_loop c false a b hb 4]
  simp
theorem set_two (c : Int) (a b : UInt8) (hb : b ≠ 93) : glob_set.f ⟨[91, 33, a, 45, b, 93].toArray⟩ c = some (!(decide ((a.toNat : Int) ≤ c) && decide (c ≤ (b.toNat : Int))), ⟨[].toArray⟩) := by
  unfold glob_set.f
  have e2 : (⟨[91, 33, a, 45, b, 93].toArray⟩ : ByteArray).extract 1 (⟨[91, 33, a, 45, b, 93].toArray⟩ : ByteArray).size = ⟨[33, a, 45, b, 93].toArray⟩ := drop_mk rfl
  have z : (⟨[91, 33, a, 45, b, 93].toArray⟩ : ByteArray).size = 6 := rfl
  have e3 : (⟨[33, a, 45, b, 93].toArray⟩ : ByteArray).extract 1 (⟨[33, a, 45, b, 93].toArray⟩ : ByteArray).size = ⟨[a, 45, b, 93].toArray⟩ := drop_mk rfl
  rw [e2, e3, if_pos (by rw [z]; decide), prefix_yes, Option.bind_some, if_pos rfl, if_pos (by show 1 ≤ 5; decide), z, set_loop c true a b hb 5]
  simp
theorem part_set {l : List UInt8} {c : UInt8} {g : Int → Bool} (hl : l.length ≤ 100) (hr : ∀ k, glob_end.f (k + 1) ⟨(91 :: l).toArray⟩ = some ((l.length : Int) + 1)) (hg : ∀ c, glob_set.f ⟨(91 :: l).toArray⟩ c = some (g c, ⟨[].toArray⟩)) : glob_part.f ⟨(120 :: 91 :: l).toArray⟩ ⟨[120, c].toArray⟩ = some (g (c.toNat : Int)) := by
  have z0 : (⟨(120 :: 91 :: l).toArray⟩ : ByteArray).size = l.length + 2 := by rw [mk_size]; rfl
  have ez : (⟨(91 :: l).toArray⟩ : ByteArray).size = l.length + 1 := by rw [mk_size]; rfl
  have b1 : bt ⟨(91 :: l).toArray⟩ 0 = 91 := by rw [bt_mk _ _ (by simp)]; rfl
  have hsg : ∀ c, glob_sign.f ⟨(91 :: l).toArray⟩ c = some (g c) := fun c => by
    unfold glob_sign.f
    rw [ez, if_pos (by omega), b1, if_neg (by decide), if_pos rfl, hg]; rfl
  have hs0 : ∀ c, glob_sign.f ⟨#[120]⟩ c = some ((120 : Int) == c) := fun c => sign_single 120 c (by decide) (by decide)
  have r0 : rdOf ByteArray.empty [⟨#[120]⟩, ⟨(91 :: l).toArray⟩] ((0 : Nat) : Int) = ⟨#[120]⟩ := rfl
  have r1 : rdOf ByteArray.empty [⟨#[120]⟩, ⟨(91 :: l).toArray⟩] ((1 : Nat) : Int) = ⟨(91 :: l).toArray⟩ := rfl
  have c0 : bt ⟨[120, c].toArray⟩ ((0 : Nat) : Int) = 120 := by rw [bt_mk _ _ (by simp)]; rfl
  have c1 : bt ⟨[120, c].toArray⟩ ((1 : Nat) : Int) = (c.toNat : Int) := by rw [bt_mk _ _ (by simp)]; rfl
  unfold glob_part.f
  rw [split_set hl hr _ (by omega), Option.bind_some, show ([⟨#[120]⟩, ⟨(91 :: l).toArray⟩] : List ByteArray).length = 2 from rfl, show (⟨[120, c].toArray⟩ : ByteArray).size = 2 from rfl, if_pos]
  · congr 1
    have hst : ∀ i, i < 2 → partSt [⟨#[120]⟩, ⟨(91 :: l).toArray⟩] i = false := fun i hi => by
      unfold partSt
      rcases (by omega : i = 0 ∨ i = 1) with rfl | rfl
      · rw [r0, ByteArray.toList_eq]; rfl
      · rw [r1, ByteArray.toList_eq, mk_list]
        exact beq_eq_false_iff_ne.2 (by simp)
    rw [Bool.eq_iff_iff, fitB_fit, fit_plain hst 2 0 0 (by omega) (by omega)]
    have f1 : partFt [⟨#[120]⟩, ⟨(91 :: l).toArray⟩] ⟨[120, c].toArray⟩ 1 1 = g (c.toNat : Int) := by
      unfold partFt
      rw [r1, c1, hsg]; rfl
    have f0 : partFt [⟨#[120]⟩, ⟨(91 :: l).toArray⟩] ⟨[120, c].toArray⟩ 0 0 = true := by
      unfold partFt
      rw [r0, c0, hs0]; rfl
    constructor
    · rintro ⟨_, h⟩
      have := h 1 (by omega)
      rw [Nat.zero_add, f1] at this
      exact this
    · intro h
      refine ⟨by omega, fun q hq => ?_⟩
      rcases (by omega : q = 0 ∨ q = 1) with rfl | rfl
      · exact f0
      · rw [Nat.zero_add, f1]; exact h
  · refine ⟨by omega, by omega, ?_⟩
    rw [List.all_eq_true]
    intro i hi
    rw [List.all_eq_true]
    intro k hk
    have := List.mem_range.1 hi
    rcases (by omega : i = 0 ∨ i = 1) with rfl | rfl
    · rw [r0, hs0]; simp
    · rw [r1, hsg]; simp
theorem u8_of {a : Int} (h : (Lit.int .u8 a).wf = true) : ∃ b : UInt8, a = (b.toNat : Int) := by
  have h1 : 0 ≤ a ∧ a ≤ 255 := bounds_u8 h
  refine ⟨UInt8.ofNat a.toNat, ?_⟩
  rw [UInt8.toNat_ofNat']
  omega
theorem bar_no {a : UInt8} {x : Int} (h : strings_IndexByte.f (⟨#[47, 93, 33, 45, 42, 63, 91, 0, 46]⟩ : ByteArray) (a.toNat : Int) = some x) (hx : ¬ x ≥ 0) : a ∉ ([47, 93, 33, 45, 42, 63, 91, 0, 46] : List UInt8) := by
  intro hm
  unfold strings_IndexByte.f at h
  injection h with h
  have : 0 ≤ x := by
    rw [← h]
    simp only [List.mem_cons, List.not_mem_nil, or_false] at hm
    rcases hm with rfl | rfl | rfl | rfl | rfl | rfl | rfl | rfl | rfl <;> decide
  omega
theorem GlobSets : creelkeep_GlobSets.Pure := by
  intro a0 a1 a2 w0 w1 w2
  obtain ⟨a, rfl⟩ := u8_of w0
  obtain ⟨b, rfl⟩ := u8_of w1
  obtain ⟨c, rfl⟩ := u8_of w2
  unfold creelkeep_GlobSets.f
  obtain ⟨x, hx⟩ : ∃ x, strings_IndexByte.f (⟨#[47, 93, 33, 45, 42, 63, 91, 0, 46]⟩ : ByteArray) (a.toNat : Int) = some x := ⟨_, rfl⟩
  obtain ⟨y, hy⟩ : ∃ y, strings_IndexByte.f (⟨#[47, 93, 33, 45, 42, 63, 91, 0, 46]⟩ : ByteArray) (b.toNat : Int) = some y := ⟨_, rfl⟩
  have yes : ∀ k, creelkeep_GlobSets.j0 (k + 1) (a.toNat : Int) (b.toNat : Int) (c.toNat : Int) true = some true := fun k => by rw [creelkeep_GlobSets.j0, if_pos rfl]
  by_cases h1 : x ≥ 0
  · exact ⟨1, by rw [hx, Option.bind_some, if_pos h1]; exact yes 0⟩
  by_cases h2 : y ≥ 0
  · exact ⟨1, by rw [hx, Option.bind_some, if_neg h1, hy, Option.bind_some, if_pos h2]; exact yes 0⟩
  by_cases h3 : (c.toNat : Int) = 47
  · exact ⟨1, by rw [hx, Option.bind_some, if_neg h1, hy, Option.bind_some, if_neg h2, if_pos h3]; exact yes 0⟩
  by_cases h4 : (c.toNat : Int) = 0
  · exact ⟨1, by rw [hx, Option.bind_some, if_neg h1, hy, Option.bind_some, if_neg h2, if_neg h3, show ((c.toNat : Int) == 0) = true from beq_iff_eq.2 h4]; exact yes 0⟩
  have ma := bar_no hx h1
  have mb := bar_no hy h2
  simp only [List.mem_cons, List.not_mem_nil, or_false, not_or] at ma mb
  obtain ⟨a47, a93, a33, a45, _⟩ := ma
  obtain ⟨b47, b93, b33, b45, _⟩ := mb
  have c47 : c ≠ 47 := fun e => h3 (by rw [e]; rfl)
  have c0 : c ≠ 0 := fun e => h4 (by rw [e]; rfl)
  have n1 : (47 : UInt8) ∉ [a, 45, b, 93] := by simp [Ne.symm a47, Ne.symm b47]
  have n2 : (47 : UInt8) ∉ [33, a, 45, b, 93] := by simp [Ne.symm a47, Ne.symm b47]
  have hc1 := check_set (l := [a, 45, b, 93]) n1 (Nat.le_of_ble_eq_true rfl) (fun k => end_one a33 b93 k) (.inr rfl)
  have hc2 := check_set (l := [33, a, 45, b, 93]) n2 (Nat.le_of_ble_eq_true rfl) (fun k => end_two b93 k) (.inr rfl)
  obtain ⟨k3, F3⟩ := check_set (l := [97]) (by decide) (by decide) (fun k => end_no k) (.inl rfl)
  have hp1 := part_set (l := [a, 45, b, 93]) (c := c) (Nat.le_of_ble_eq_true rfl) (fun k => end_one a33 b93 k) (fun c => set_one c a b a33 b93)
  have hp2 := part_set (l := [33, a, 45, b, 93]) (c := c) (Nat.le_of_ble_eq_true rfl) (fun k => end_two b93 k) (fun c => set_two c a b b93)
  have s47 : (47 : UInt8) ∉ (⟨[120, c].toArray⟩ : ByteArray).data.toList := by rw [mk_list]; simp [Ne.symm c47]
  have s0 : (0 : UInt8) ∉ (⟨[120, c].toArray⟩ : ByteArray).data.toList := by rw [mk_list]; simp [Ne.symm c0]
  obtain ⟨k1, F1⟩ := fits_one (Nat.le_of_ble_eq_true rfl) (Nat.le_of_ble_eq_true rfl) (by rw [mk_list]; simpa using n1) (by rw [mk_list]; simp) hc1 (Nat.le_of_ble_eq_true rfl) (Nat.le_of_ble_eq_true rfl) s47 s0 (by rw [mk_list]; simp) (by rw [mk_list]; simp) hp1
  obtain ⟨k2, F2⟩ := fits_one (Nat.le_of_ble_eq_true rfl) (Nat.le_of_ble_eq_true rfl) (by rw [mk_list]; simpa using n2) (by rw [mk_list]; simp) hc2 (Nat.le_of_ble_eq_true rfl) (Nat.le_of_ble_eq_true rfl) s47 s0 (by rw [mk_list]; simp) (by rw [mk_list]; simp) hp2
  have G3 : ∀ d, glob_Fits.f (k3 + d) (⟨[120, 91, 97].toArray⟩ : ByteArray) ⟨[120, c].toArray⟩ = some (false, 3) := fun d => by
    unfold glob_Fits.f
    rw [F3 d]; rfl
  have t1 : strOfNums [120, (c.toNat : Int)] = ⟨[120, c].toArray⟩ := bytes_ext (by rw [strOfNums_data, mk_list]; simp)
  have t2 : strOfNums [(a.toNat : Int), 45, (b.toNat : Int)] = ⟨[a, 45, b].toArray⟩ := bytes_ext (by rw [strOfNums_data, mk_list]; simp)
  have q1 : ((⟨#[120, 91]⟩ : ByteArray) ++ ⟨[a, 45, b].toArray⟩) ++ ⟨#[93]⟩ = ⟨[120, 91, a, 45, b, 93].toArray⟩ := by
    rw [mk_app [120, 91] [a, 45, b], mk_app _ [93]]; rfl
  have q2 : ((⟨#[120, 91, 33]⟩ : ByteArray) ++ ⟨[a, 45, b].toArray⟩) ++ ⟨#[93]⟩ = ⟨[120, 91, 33, a, 45, b, 93].toArray⟩ := by
    rw [mk_app [120, 91, 33] [a, 45, b], mk_app _ [93]]; rfl
  have z2 : (⟨[a, 45, b].toArray⟩ : ByteArray).size = 3 := rfl
  have F1' := F1 (k2 + k3)
  have F2' := F2 (k1 + k3)
  have F3' := G3 (k1 + k2)
  rw [show k1 + (k2 + k3) = k1 + k2 + k3 by omega] at F1'
  rw [show k2 + (k1 + k3) = k1 + k2 + k3 by omega] at F2'
  rw [show k3 + (k1 + k2) = k1 + k2 + k3 by omega] at F3'
  refine ⟨k1 + k2 + k3 + 1, ?_⟩
  have zz1 : ((⟨#[120, 91]⟩ : ByteArray) ++ ⟨[a, 45, b].toArray⟩).size + 1 ≤ 9223372036854775807 := by rw [ByteArray.size_append, z2]; decide
  have zz2 : ((⟨#[120, 91, 33]⟩ : ByteArray) ++ ⟨[a, 45, b].toArray⟩).size + 1 ≤ 9223372036854775807 := by rw [ByteArray.size_append, z2]; decide
  rw [hx, Option.bind_some, if_neg h1, hy, Option.bind_some, if_neg h2, if_neg h3, show ((c.toNat : Int) == 0) = false from beq_eq_false_iff_ne.2 h4, creelkeep_GlobSets.j0, if_neg (by decide), Option.bind_some, Option.bind_some, t2, t1, if_pos (by rw [z2]; decide), if_pos zz1, q1, F1', Option.bind_some, Option.bind_some, t2, if_pos (by rw [z2]; decide), if_pos zz2, q2, F2', Option.bind_some, F3', Option.bind_some]
  dsimp only
  rw [if_pos rfl, if_pos rfl, if_pos rfl]
  by_cases h5 : (a.toNat : Int) ≤ (c.toNat : Int)
  · rw [if_pos h5, decide_eq_true h5]
    simp
  · rw [if_neg h5, decide_eq_false h5]
    simp

end Go.Proofs.YtjpihifgldmgoaaDoor.Pure
