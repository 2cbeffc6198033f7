/- Where two patterns fit two paths, both patterns behind one another fit both paths behind one another: for all raw things and numbers (second form: what it reads is of bulk at most 1048576). -/
import Derived.Test.YthonjghpblkpgaaDoorPGlobJoinsx7
import Derived.OpenShut
import Derived.Lib.SplitLaws
import Derived.Lib.IndexBytes
import Derived.Lib.TrimByte
import Derived.Lib.Strings
import Derived.Lib.SmallJoins
namespace Go.Proofs.YthonjghpblkpgaaDoor.Pure
open Go.RowKit Go.Proofs.YthonjghpblkpgaaDoor.PGlobJoins Go.Proofs.YthonjghpblkpgaaDoorW.PrintWords Go.Proofs.YthonjghpblkpgaaDoorW.PrintLast Go.Proofs.YthonjghpblkpgaaDoorW.PrintMore
set_option linter.unusedVariables false
set_option linter.unusedSimpArgs false

theorem w64 {n : Int} (h1 : -9223372036854775808 ≤ n) (h2 : n ≤ 9223372036854775807) : wrap64 n = n := by
  unfold wrap64
  omega

theorem app_list (a b : ByteArray) : (a ++ b).data.toList = a.data.toList ++ b.data.toList := by
  rw [ByteArray.data_append, Array.toList_append]
theorem size_list (a : ByteArray) : a.data.toList.length = a.size := by
  rw [Array.length_toList]; rfl
theorem bytes_ext {a b : ByteArray} (h : a.data.toList = b.data.toList) : a = b := by
  cases a; cases b; simp_all [← Array.toList_inj]

theorem idx_none : ∀ (t : List UInt8) (c : UInt8), c ∉ t → Lib.indexByte t c = -1
  | [], _, _ => rfl
  | b :: t, c, h => by
    have hb : (b == c) = false := by rw [beq_eq_false_iff_ne]; intro e; exact h (by simp [e])
    have ih := idx_none t c (fun hm => h (by simp [hm]))
    simp [Lib.indexByte, hb, ih]
theorem idx_at : ∀ (t r : List UInt8) (c : UInt8), c ∉ t → Lib.indexByte (t ++ c :: r) c = t.length
  | [], r, c, _ => by simp [Lib.indexByte]
  | b :: t, r, c, h => by
    have hb : (b == c) = false := by rw [beq_eq_false_iff_ne]; intro e; exact h (by simp [e])
    have ih := idx_at t r c (fun hm => h (by simp [hm]))
    have hn : ((t.length : Int) == -1) = false := by rw [beq_eq_false_iff_ne]; omega
    simp [Lib.indexByte, hb, ih, hn]
theorem idx_split (l : List UInt8) (c : UInt8) : ∃ t r, l = t ++ r ∧ c ∉ t ∧ (r = [] ∨ ∃ r', r = c :: r') := by
  induction l with
  | nil => exact ⟨[], [], rfl, by simp, .inl rfl⟩
  | cons b l ih =>
    by_cases e : b = c
    · exact ⟨[], b :: l, rfl, by simp, .inr ⟨l, by rw [e]⟩⟩
    · obtain ⟨t, r, h1, h2, h3⟩ := ih
      exact ⟨b :: t, r, by rw [h1]; rfl, by simp [Ne.symm e, h2], h3⟩
theorem repeat_one (c : UInt8) : ∀ n, Lib.repeatL [c] n = List.replicate n c
  | 0 => rfl
  | n + 1 => by simp [Lib.repeatL, repeat_one c n, List.replicate_succ]
theorem mk_list (l : List UInt8) : (⟨l.toArray⟩ : ByteArray).data.toList = l := by simp
theorem mk_size (l : List UInt8) : (⟨l.toArray⟩ : ByteArray).size = l.length := by rw [← size_list, mk_list]
theorem is_mk (s : ByteArray) : s = ⟨s.data.toList.toArray⟩ := by cases s; simp
theorem mk_inj {a b : List UInt8} : (⟨a.toArray⟩ : ByteArray) = ⟨b.toArray⟩ ↔ a = b := ⟨fun h => by have := congrArg (fun x : ByteArray => x.data.toList) h; simpa using this, fun h => by rw [h]⟩
theorem dw_nil (p : UInt8 → Bool) : ∀ l : List UInt8, l.dropWhile p = [] ↔ ∀ x ∈ l, p x = true
  | [] => by simp
  | a :: l => by
    by_cases h : p a = true
    · rw [List.dropWhile_cons_of_pos h, dw_nil p l]; simp [h]
    · rw [List.dropWhile_cons_of_neg h]; simp [h]
theorem trim_zero (r : List UInt8) (c : UInt8) : Lib.trimB r c = [] ↔ ∀ x ∈ r, x = c := by
  unfold Lib.trimB Lib.trimLeftB Lib.trimRightB
  constructor
  · intro h x hx
    have h1 : ∀ y ∈ (r.reverse.dropWhile (· == c)).reverse, (y == c) = true := by
      rw [dw_nil] at h
      exact h
    have h2 : r.reverse.dropWhile (· == c) = [] := by
      cases hd : r.reverse.dropWhile (· == c) with
      | nil => rfl
      | cons a l =>
        have ha := h1 a (by rw [hd]; simp)
        have := List.head?_dropWhile_not (· == c) r.reverse
        rw [hd] at this
        simp [ha] at this
    rw [dw_nil] at h2
    exact eq_of_beq (h2 x (by simpa using hx))
  · intro h
    have h2 : r.reverse.dropWhile (· == c) = [] := by
      rw [dw_nil]
      intro x hx
      exact beq_iff_eq.2 (h x (by simpa using hx))
    rw [h2]
    rfl
theorem toList_mk (l : List UInt8) : (⟨l.toArray⟩ : ByteArray).toList = l := by rw [ByteArray.toList_eq, mk_list]

def cutL (c : UInt8) : List UInt8 → List (List UInt8)
  | [] => [[]]
  | b :: l => if b = c then [] :: cutL c l else match cutL c l with
    | [] => [[b]]
    | t :: r => (b :: t) :: r
theorem cutL_ne (c : UInt8) : ∀ l, cutL c l ≠ []
  | [] => by simp [cutL]
  | b :: l => by unfold cutL; split; · simp
                 · split <;> simp
theorem cutL_app (c : UInt8) (v : List UInt8) : ∀ u, cutL c (u ++ c :: v) = cutL c u ++ cutL c v
  | [] => by simp [cutL]
  | b :: u => by
    rw [List.cons_append, cutL, cutL, cutL_app c v u]
    by_cases h : b = c
    · rw [if_pos h, if_pos h]; rfl
    · rw [if_neg h, if_neg h]
      cases e : cutL c u with
      | nil => exact absurd e (cutL_ne c u)
      | cons t r => rfl
theorem cutL_none (c : UInt8) : ∀ u, c ∉ u → cutL c u = [u]
  | [], _ => rfl
  | b :: u, h => by
    have hb : b ≠ c := fun e => h (by simp [e])
    rw [cutL, if_neg hb, cutL_none c u (fun hm => h (by simp [hm]))]
def joinL (c : UInt8) : List (List UInt8) → List UInt8
  | [] => []
  | [t] => t
  | t :: s :: r => t ++ c :: joinL c (s :: r)
theorem joinL_cut (c : UInt8) : ∀ l, joinL c (cutL c l) = l
  | [] => rfl
  | b :: l => by
    have ih := joinL_cut c l
    rw [cutL]
    by_cases h : b = c
    · rw [if_pos h]
      cases e : cutL c l with
      | nil => exact absurd e (cutL_ne c l)
      | cons t r => rw [e] at ih; rw [joinL, ih, h]; rfl
    · rw [if_neg h]
      cases e : cutL c l with
      | nil => exact absurd e (cutL_ne c l)
      | cons t r =>
        rw [e] at ih
        cases r with
        | nil => simp only [joinL] at ih ⊢; rw [ih]
        | cons s r => simp only [joinL] at ih ⊢; rw [List.cons_append, ih]
theorem cutL_inj (c : UInt8) {a b : List UInt8} (h : cutL c a = cutL c b) : a = b := by
  rw [← joinL_cut c a, h, joinL_cut]
theorem splitK_cut (c : UInt8) : ∀ (n : Nat) (l : List UInt8), l.length ≤ n → Lib.splitK [c] 0 (l.count c) l = cutL c l := by
  intro n
  induction n with
  | zero => intro l h; have : l = [] := List.eq_nil_of_length_eq_zero (by omega); subst this; rfl
  | succ n ih =>
    intro l h
    obtain ⟨t, r, h1, h2, h3⟩ := idx_split l c
    subst h1
    rcases h3 with h3 | ⟨r', h3⟩
    · subst h3
      rw [List.append_nil, List.count_eq_zero_of_not_mem h2, cutL_none c t h2]; rfl
    · subst h3
      have hc : (t ++ c :: r').count c = r'.count c + 1 := by
        rw [List.count_append, List.count_eq_zero_of_not_mem h2, List.count_cons_self]; omega
      have hi : Lib.index (t ++ c :: r') [c] = t.length := by rw [Lib.index_one, idx_at t r' c h2]
      have hm : ¬ ((Lib.index (t ++ c :: r') [c] == -1) = true) := by rw [beq_iff_eq, hi]; omega
      have hx : r'.length ≤ n := by simp at h; omega
      rw [hc, Lib.splitK, if_neg hm, hi, cutL_app, cutL_none c t h2]
      have e1 : (t ++ c :: r').take ((t.length : Int).toNat + 0) = t := by simp
      have e2 : (t ++ c :: r').drop ((t.length : Int).toNat + [c].length) = r' := by simp [List.drop_append]
      rw [e1, e2, ih r' hx]
      rfl
theorem splitB_cut (c : UInt8) (s : ByteArray) : (Lib.splitB ⟨#[c]⟩ 0 (Lib.countB s ⟨#[c]⟩) s).map (·.data.toList) = cutL c s.data.toList := by
  rw [Lib.splitB_data]
  have : Lib.countB s ⟨#[c]⟩ = s.data.toList.count c := Lib.count_one c s.data.toList
  rw [this]
  exact splitK_cut c _ _ (Nat.le_refl _)

structure Tot {α : Type} (c : α → α → Int) : Prop where
  neg : ∀ a b, c b a = - c a b
  zero : ∀ a b, c a b = 0 ↔ a = b
  tr : ∀ a b d, c a b ≤ 0 → c b d ≤ 0 → c a d ≤ 0
  rng : ∀ a b, c a b = -1 ∨ c a b = 0 ∨ c a b = 1
def lexC {α : Type} (c : α → α → Int) : List α → List α → Int
  | [], [] => 0
  | [], _ :: _ => -1
  | _ :: _, [] => 1
  | a :: x, b :: y => if c a b = 0 then lexC c x y else c a b
theorem lex_tot {α : Type} {c : α → α → Int} (T : Tot c) : Tot (lexC c) := by
  have rng : ∀ x y : List α, lexC c x y = -1 ∨ lexC c x y = 0 ∨ lexC c x y = 1 := by
    intro x
    induction x with
    | nil => intro y; cases y <;> simp [lexC]
    | cons a x ih =>
      intro y
      cases y with
      | nil => simp [lexC]
      | cons b y => rw [lexC]; split; · exact ih y
                    · exact T.rng a b
  have neg : ∀ x y : List α, lexC c y x = - lexC c x y := by
    intro x
    induction x with
    | nil => intro y; cases y <;> simp [lexC]
    | cons a x ih =>
      intro y
      cases y with
      | nil => simp [lexC]
      | cons b y =>
        rw [lexC, lexC, T.neg a b]
        by_cases h : c a b = 0
        · rw [if_pos h, if_pos (by omega), ih]
        · rw [if_neg h, if_neg (by omega)]
  have zero : ∀ x y : List α, lexC c x y = 0 ↔ x = y := by
    intro x
    induction x with
    | nil => intro y; cases y <;> simp [lexC]
    | cons a x ih =>
      intro y
      cases y with
      | nil => simp [lexC]
      | cons b y =>
        rw [lexC]
        by_cases h : c a b = 0
        · rw [if_pos h, ih]; simp [(T.zero a b).1 h]
        · rw [if_neg h]
          constructor
          · intro h'; exact absurd h' h
          · intro h'; injection h' with h1 h2; exact (T.zero a b).2 h1
  refine ⟨neg, zero, ?_, rng⟩
  intro x
  induction x with
  | nil => intro y z _ _; cases z <;> simp [lexC]
  | cons a x ih =>
    intro y z h1 h2
    cases y with
    | nil => simp [lexC] at h1
    | cons b y =>
      cases z with
      | nil => simp [lexC] at h2
      | cons d z =>
        rw [lexC] at h1 h2 ⊢
        by_cases e1 : c a b = 0
        · rw [if_pos e1] at h1
          have hab := (T.zero a b).1 e1
          subst hab
          by_cases e2 : c a d = 0
          · rw [if_pos e2] at h2 ⊢; exact ih y z h1 h2
          · rw [if_neg e2] at h2 ⊢; exact h2
        · rw [if_neg e1] at h1
          by_cases e2 : c b d = 0
          · have hbd := (T.zero b d).1 e2
            subst hbd
            rw [if_neg e1]; exact h1
          · rw [if_neg e2] at h2
            have h3 := T.tr a b d h1 h2
            by_cases e3 : c a d = 0
            · have had := (T.zero a d).1 e3
              subst had
              have := T.neg a b
              omega
            · rw [if_neg e3]; exact h3
def cU (a b : UInt8) : Int := if a < b then -1 else if b < a then 1 else 0
theorem cU_tot : Tot cU := by
  have e : ∀ a b : UInt8, (a < b ↔ a.toNat < b.toNat) ∧ (a = b ↔ a.toNat = b.toNat) := fun a b => ⟨UInt8.lt_iff_toNat_lt, ⟨fun h => by rw [h], UInt8.toNat_inj.1⟩⟩
  refine ⟨fun a b => ?_, fun a b => ?_, fun a b d => ?_, fun a b => ?_⟩
  all_goals simp only [cU, (e _ _).1, (e _ _).2]
  all_goals repeat' split
  all_goals omega
theorem less_lex : ∀ x y : List UInt8, Op.bytesLess x y = decide (lexC cU x y < 0)
  | [], [] => by simp [Op.bytesLess, lexC]
  | [], _ :: _ => by simp [Op.bytesLess, lexC]
  | _ :: _, [] => by simp [Op.bytesLess, lexC]
  | a :: x, b :: y => by
    rw [Op.bytesLess, less_lex x y, lexC]
    by_cases h : a < b
    · have : cU a b = -1 := by simp [cU, h]
      simp [h, this]
    · by_cases h' : a = b
      · subst h'; have : cU a a = 0 := (cU_tot.zero a a).2 rfl
        simp [h, this]
      · have : cU a b = 1 := by
          rcases cU_tot.rng a b with q | q | q
          · simp only [cU, h, if_false] at q; split at q <;> simp at q
          · exact absurd ((cU_tot.zero a b).1 q) h'
          · exact q
        simp [h, h', this]

def partsL (l : List UInt8) : List (List UInt8) := if l = [] then [] else cutL 47 l
theorem parts_spec (a : ByteArray) (h : a.size < 4294967281) : ∃ P : List ByteArray, path_Parts.f a = some P ∧ P.map (·.data.toList) = partsL a.data.toList ∧ P.length ≤ a.size + 1 := by
  unfold path_Parts.f strings_Split.f partsL
  rw [ByteArray.toList_eq]
  by_cases e : a.data.toList = []
  · rw [if_pos e, if_pos e]; exact ⟨[], rfl, rfl, by simp⟩
  · rw [if_neg e, if_neg e, if_pos (by decide), if_pos h]
    refine ⟨_, rfl, splitB_cut 47 a, ?_⟩
    refine Nat.le_trans (Lib.splitB_length_le _ _ _ _) ?_
    have := Lib.countB_le ⟨#[47]⟩ (by decide) a.size a (Nat.le_refl _)
    omega

theorem bt_list (s : ByteArray) (i : Int) (h : i.toNat < s.size) : bt s i = ((s.data.toList.getD i.toNat 0).toNat : Int) := by
  unfold bt
  rw [dif_pos h]
  have hl : i.toNat < s.data.toList.length := by rw [size_list]; exact h
  rw [List.getD_eq_getElem?_getD, List.getElem?_eq_getElem hl]
  rfl
theorem bt_nums (l : List Int) (i : Int) (h : i.toNat < l.length) (hr : 0 ≤ l.getD i.toNat 0 ∧ l.getD i.toNat 0 ≤ 255) : bt (strOfNums l) i = l.getD i.toNat 0 := by
  rw [bt_list _ _ (by rw [strOfNums_size]; exact h), strOfNums_data]
  rw [List.getD_eq_getElem?_getD, List.getElem?_map]
  rw [List.getD_eq_getElem?_getD] at hr ⊢
  rw [List.getElem?_eq_getElem h] at hr ⊢
  simp only [Option.map_some, Option.getD_some] at hr ⊢
  have : (UInt8.ofNat l[i.toNat].toNat).toNat = l[i.toNat].toNat := by
    rw [UInt8.toNat_ofNat']
    omega
  omega

theorem ext_take (s : ByteArray) (n : Nat) : (s.extract 0 n).data.toList = s.data.toList.take n := by simp [ByteArray.data_extract]
theorem ext_drop (s : ByteArray) (n : Nat) : (s.extract n s.size).data.toList = s.data.toList.drop n := by
  rw [ByteArray.data_extract, Array.toList_extract]
  have : s.size = s.data.toList.length := (size_list s).symm
  rw [this, List.extract_eq_take_drop]
  exact List.take_of_length_le (by simp)
theorem mk_app (a b : List UInt8) : (⟨a.toArray⟩ : ByteArray) ++ ⟨b.toArray⟩ = ⟨(a ++ b).toArray⟩ := by
  apply bytes_ext; rw [app_list, mk_list, mk_list, mk_list]

/-- A text without the signs of patterns. -/
def NoSign (l : List UInt8) : Prop := (42 : UInt8) ∉ l ∧ (63 : UInt8) ∉ l ∧ (91 : UInt8) ∉ l
def PartOk (l : List UInt8) : Prop := l ≠ [] ∧ l ≠ [46] ∧ l ≠ [46, 46]
/-- A path of parts that may be, without a byte 0 and signs of patterns. -/
structure Plain (s : ByteArray) : Prop where
  sign : NoSign s.data.toList
  zero : (0 : UInt8) ∉ s.data.toList
  parts : ∀ l ∈ cutL 47 s.data.toList, PartOk l
theorem cut_mem (c b : UInt8) : ∀ (l t : List UInt8), t ∈ cutL c l → b ∈ t → b ∈ l := by
  intro l t ht hb
  have h := joinL_cut c l
  rw [← h]
  clear h
  generalize cutL c l = q at ht
  induction q with
  | nil => cases ht
  | cons x q ih =>
    cases q with
    | nil =>
      rw [List.mem_singleton] at ht
      subst ht
      exact hb
    | cons y q =>
      rw [joinL]
      · rcases List.mem_cons.1 ht with rfl | ht
        · exact List.mem_append_left _ hb
        · exact List.mem_append_right _ (List.mem_cons_of_mem _ (ih ht))
      all_goals simp
theorem plain_ne {s : ByteArray} (h : Plain s) : s.data.toList ≠ [] := fun e => by
  have := h.parts [] (by rw [e]; simp [cutL])
  exact this.1 rfl
theorem rd_map (P : List ByteArray) (i : Nat) (hi : i < P.length) : (rdOf ByteArray.empty P (i : Int)).data.toList = (P.map (·.data.toList)).getD i [] := by
  unfold rdOf
  simp [List.getD_eq_getElem?_getD, List.getElem?_eq_getElem hi]
theorem pcheck_loop (P : List ByteArray) (hP : P.length ≤ 1000000000) (h : ∀ l ∈ P.map (·.data.toList), PartOk l) : ∀ (k i : Nat), i ≤ P.length → P.length - i < k → path_Check.l0 k P (P.length : Int) (i : Int) = some 0
  | 0, i, _, h2 => absurd h2 (by omega)
  | k + 1, i, h1, h2 => by
    rw [path_Check.l0]
    by_cases hi : i < P.length
    · have hm : (rdOf ByteArray.empty P (i : Int)).data.toList ∈ P.map (·.data.toList) := by
        unfold rdOf
        simp only [Int.toNat_natCast, List.getD_eq_getElem?_getD, List.getElem?_eq_getElem hi, Option.getD_some]
        exact List.mem_map.2 ⟨_, List.getElem_mem _, rfl⟩
      obtain ⟨p1, p2, p3⟩ := h _ hm
      rw [if_pos (by omega), if_pos (by omega), if_pos (by omega), ByteArray.toList_eq, if_neg p1, if_neg p2, if_neg p3, w64 (by omega) (by omega)]
      exact pcheck_loop P hP h k (i + 1) (by omega) (by omega)
    · rw [if_neg (by omega)]
theorem split_ok (s : ByteArray) (h : s.size ≤ 1000) : ∃ P, strings_Split.f s ⟨#[47]⟩ = some P ∧ P.map (·.data.toList) = cutL 47 s.data.toList ∧ P.length ≤ s.size + 1 := by
  unfold strings_Split.f
  rw [if_pos (by decide), if_pos (by omega)]
  refine ⟨_, rfl, splitB_cut 47 s, ?_⟩
  refine Nat.le_trans (Lib.splitB_length_le _ _ _ _) ?_
  have := Lib.countB_le ⟨#[47]⟩ (by decide) s.size s (Nat.le_refl _)
  omega
theorem plain_size {s : ByteArray} (h : Plain s) : 0 < s.size := by
  have := size_list s
  have h2 := plain_ne h
  cases e : s.data.toList with
  | nil => exact absurd e h2
  | cons b l => rw [e] at this; simp at this; omega
theorem path_check_ok {s : ByteArray} (h : Plain s) (hs : s.size ≤ 400) (k : Nat) (hk : 1000 < k) : path_Check.f k s = some 0 := by
  have h0 := plain_size h
  unfold path_Check.f
  rw [if_neg (by omega), show decide ((s.size : Int) > 400) = false from decide_eq_false (by omega)]
  obtain ⟨k, rfl⟩ : ∃ q, k = q + 1 := ⟨k - 1, by omega⟩
  rw [path_Check.j0, if_neg (by decide)]
  unfold strings_IndexByte.f
  have hz : Lib.indexByte s.data.toList (0 : Int).toNat.toUInt8 = -1 := idx_none _ _ h.zero
  rw [hz, Option.bind_some, if_neg (by omega)]
  obtain ⟨P, h1, h2, h3⟩ := split_ok s (by omega)
  rw [h1, Option.bind_some]
  exact pcheck_loop P (by omega) (by rw [h2]; exact h.parts) k 0 (by omega) (by omega)
theorem gcheck_one (P : List ByteArray) (n i : Int) (r : Int) : ∀ (m : Nat) (x : ByteArray) (k : Nat), x.data.toList.length = m → (91 : UInt8) ∉ x.data.toList → (42 : UInt8) ∉ x.data.toList → glob_Check.l0 k P n (wrap64 (i + 1)) = some r → glob_Check.l1 (k + 2 * m + 2) x P n i = some r
  | 0, x, k, hm, h91, h42, h => by
    have hx : x.toList = [] := by rw [ByteArray.toList_eq]; exact List.length_eq_zero_iff.1 hm
    rw [show k + 2 * 0 + 2 = (k + 1) + 1 from rfl, glob_Check.l1, hx, if_neg (by simp), glob_Check.j3, if_neg (by decide)]
    exact h
  | m + 1, x, k, hm, h91, h42, h => by
    cases hl : x.data.toList with
    | nil => rw [hl] at hm; cases hm
    | cons b l =>
      have hsz : x.size = m + 1 := by rw [← size_list, hm]
      have hx : x.toList ≠ [] := by rw [ByteArray.toList_eq, hl]; simp
      have hx2 : x.toList ≠ [42, 42] := by rw [ByteArray.toList_eq]; intro e; rw [e] at h42; simp at h42
      have hb : bt x 0 = (b.toNat : Int) := by rw [bt_list x 0 (by show 0 < x.size; omega), hl]; rfl
      have hb91 : ¬ bt x 0 = 91 := fun e => by
        rw [hb] at e
        have : b = 91 := UInt8.toNat_inj.1 (show b.toNat = (91 : UInt8).toNat from by have h9 : (91 : UInt8).toNat = 91 := rfl; omega)
        rw [hl, this] at h91
        simp at h91
      have hne : (x.toList != ([] : List UInt8)) = true := bne_iff_ne.mpr hx
      rw [show k + 2 * (m + 1) + 2 = (k + 2 * m + 2 + 1) + 1 by omega, glob_Check.l1, if_neg hx2, hne, glob_Check.j3, if_pos rfl, if_pos (by omega), if_neg hb91, if_pos (by omega)]
      have hd : (x.extract 1 x.size).data.toList = l := by rw [ext_drop, hl]; rfl
      exact gcheck_one P n i r m _ k (by rw [hd]; rw [hl] at hm; simpa using hm) (by rw [hd]; intro e; apply h91; rw [hl]; exact List.mem_cons_of_mem _ e) (by rw [hd]; intro e; apply h42; rw [hl]; exact List.mem_cons_of_mem _ e) h
theorem gcheck_loop (P : List ByteArray) (hP : P.length ≤ 1000000000) (h : ∀ l ∈ P.map (·.data.toList), l ≠ [] ∧ (91 : UInt8) ∉ l ∧ (42 : UInt8) ∉ l) : ∀ (d i : Nat), i + d = P.length → ∃ k, glob_Check.l0 k P (P.length : Int) (i : Int) = some 0
  | 0, i, hd => ⟨1, by rw [glob_Check.l0, if_neg (by omega)]⟩
  | d + 1, i, hd => by
    obtain ⟨k, hk⟩ := gcheck_loop P hP h d (i + 1) (by omega)
    have hi : i < P.length := by omega
    have hm : (rdOf ByteArray.empty P (i : Int)).data.toList ∈ P.map (·.data.toList) := by
      unfold rdOf
      simp only [Int.toNat_natCast, List.getD_eq_getElem?_getD, List.getElem?_eq_getElem hi, Option.getD_some]
      exact List.mem_map.2 ⟨_, List.getElem_mem _, rfl⟩
    obtain ⟨p1, p2, p3⟩ := h _ hm
    refine ⟨(k + 2 * (rdOf ByteArray.empty P (i : Int)).data.toList.length + 2) + 1, ?_⟩
    · rw [glob_Check.l0, if_pos (by omega), if_pos (by omega), if_pos (by omega), ByteArray.toList_eq, if_neg p1]
      exact gcheck_one P _ _ 0 _ _ k rfl p2 p3 (by rw [w64 (by omega) (by omega)]; exact hk)
theorem leO_add {α : Type} {f : Nat → Option α} (hf : ∀ k, LeO (f k) (f (k + 1))) {k : Nat} {r : α} (h : f k = some r) : ∀ d, f (k + d) = some r
  | 0 => h
  | d + 1 => hf _ _ (leO_add hf h d)
theorem glob_check_ok {s : ByteArray} (h : Plain s) (hs : s.size ≤ 400) : ∃ k, ∀ d, glob_Check.f (k + d) s = some 0 := by
  have h0 := plain_size h
  obtain ⟨P, h1, h2, h3⟩ := split_ok s (by omega)
  obtain ⟨k, hk⟩ := gcheck_loop P (by omega) (fun l hl => by
    rw [h2] at hl
    exact ⟨(h.parts l hl).1, fun e => h.sign.2.2 (cut_mem 47 91 _ l hl e), fun e => h.sign.1 (cut_mem 47 42 _ l hl e)⟩) P.length 0 (by omega)
  refine ⟨k + 1, leO_add (f := fun k => glob_Check.f k s) (fun k => glob_Check.mono s k) ?_⟩
  show glob_Check.f (k + 1) s = some 0
  unfold glob_Check.f
  rw [if_neg (by omega), show decide ((s.size : Int) > 400) = false from decide_eq_false (by omega), glob_Check.j0, if_neg (by decide), h1, Option.bind_some]
  exact hk
/-- The signs of a part of a pattern, one by one. -/
def singles (l : List UInt8) : List ByteArray := l.map fun b => ⟨#[b]⟩
theorem gsplit_loop : ∀ (m : Nat) (x : ByteArray) (k : Nat) (acc : List ByteArray), x.data.toList.length = m → m < k → acc.length + m ≤ 1000000 → (91 : UInt8) ∉ x.data.toList → glob_split.l0 k x acc = some (acc ++ singles x.data.toList)
  | 0, x, k, acc, hm, hk, _, h91 => by
    obtain ⟨k, rfl⟩ : ∃ q, k = q + 1 := ⟨k - 1, by omega⟩
    have hx : x.data.toList = [] := List.length_eq_zero_iff.1 hm
    rw [glob_split.l0, ByteArray.toList_eq, hx, if_pos rfl]
    simp [singles]
  | m + 1, x, k, acc, hm, hk, ha, h91 => by
    obtain ⟨k, rfl⟩ : ∃ q, k = q + 1 := ⟨k - 1, by omega⟩
    cases hl : x.data.toList with
    | nil => rw [hl] at hm; cases hm
    | cons b l =>
      have hsz : x.size = m + 1 := by rw [← size_list, hm]
      have hb : bt x 0 = (b.toNat : Int) := by rw [bt_list x 0 (by show 0 < x.size; omega), hl]; rfl
      have hb91 : ¬ bt x 0 = 91 := fun e => by
        rw [hb] at e
        have : b = 91 := UInt8.toNat_inj.1 (show b.toNat = (91 : UInt8).toNat from by have h9 : (91 : UInt8).toNat = 91 := rfl; omega)
        rw [hl, this] at h91
        simp at h91
      rw [glob_split.l0, ByteArray.toList_eq, hl, if_neg (by simp), if_pos (by omega), if_neg hb91, if_pos (by omega), if_pos (by omega), if_pos (by omega)]
      have hd : (x.extract 1 x.size).data.toList = l := by rw [ext_drop, hl]; rfl
      have ht : x.extract 0 1 = ⟨#[b]⟩ := bytes_ext (by rw [ext_take, hl]; rfl)
      rw [gsplit_loop m _ k _ (by rw [hd]; rw [hl] at hm; simpa using hm) (by omega) (by simp; omega) (by rw [hd]; intro e; apply h91; rw [hl]; exact List.mem_cons_of_mem _ e), hd, ht]
      simp [singles]

theorem fit_plain {n m : Nat} {st : Nat → Bool} {ft : Nat → Nat → Bool} (hs : ∀ i, i < n → st i = false) : ∀ (d i k : Nat), i + d = n → k ≤ m → (Fit n m st ft i k ↔ k + d = m ∧ ∀ q, q < d → ft (i + q) (k + q) = true)
  | 0, i, k, hd, hk => by
    constructor
    · intro h
      rcases fit_inv h with ⟨h1, h2⟩ | ⟨h1, _⟩ | ⟨h1, _⟩ | ⟨h1, _⟩
      · exact ⟨by omega, fun q hq => by omega⟩
      all_goals omega
    · rintro ⟨h1, _⟩
      obtain rfl : i = n := by omega
      obtain rfl : k = m := by omega
      exact fit_end
  | d + 1, i, k, hd, hk => by
    have hi : i < n := by omega
    constructor
    · intro h
      rcases fit_inv h with ⟨h1, h2⟩ | ⟨_, h2, _⟩ | ⟨_, h2, _⟩ | ⟨_, _, h3, h4, h5⟩
      · omega
      · rw [hs i hi] at h2; cases h2
      · rw [hs i hi] at h2; cases h2
      · obtain ⟨g1, g2⟩ := (fit_plain hs d (i + 1) (k + 1) (by omega) (by omega)).1 h5
        refine ⟨by omega, fun q hq => ?_⟩
        cases q with
        | zero => exact h4
        | succ q => rw [show i + (q + 1) = i + 1 + q by omega, show k + (q + 1) = k + 1 + q by omega]; exact g2 q (by omega)
    · rintro ⟨h1, h2⟩
      refine fit_one hi (hs i hi) (by omega) (h2 0 (by omega)) ((fit_plain hs d (i + 1) (k + 1) (by omega) (by omega)).2 ⟨by omega, fun q hq => ?_⟩)
      have := h2 (q + 1) (by omega)
      rw [show i + 1 + q = i + (q + 1) by omega, show k + 1 + q = k + (q + 1) by omega]
      exact this
theorem cut_len (c : UInt8) : ∀ (l t : List UInt8), t ∈ cutL c l → t.length ≤ l.length := by
  intro l t ht
  have h := joinL_cut c l
  rw [← h]
  clear h
  generalize cutL c l = q at ht
  induction q with
  | nil => cases ht
  | cons x q ih =>
    cases q with
    | nil =>
      rw [List.mem_singleton] at ht
      subst ht
      exact Nat.le_refl _
    | cons y q =>
      rw [joinL]
      · rw [List.length_append, List.length_cons]
        rcases List.mem_cons.1 ht with rfl | ht
        · omega
        · have := ih ht; omega
      all_goals simp
theorem single_at (L : List UInt8) (i : Nat) (hi : i < L.length) : rdOf ByteArray.empty (singles L) (i : Int) = ⟨#[L.getD i 0]⟩ := by
  unfold rdOf singles
  simp [List.getD_eq_getElem?_getD, List.getElem?_eq_getElem hi]
theorem sign_single (b : UInt8) (c : Int) (h1 : b ≠ 63) (h2 : b ≠ 91) : glob_sign.f ⟨#[b]⟩ c = some ((b.toNat : Int) == c) := by
  unfold glob_sign.f
  have hb : bt ⟨#[b]⟩ 0 = (b.toNat : Int) := rfl
  rw [if_pos (by show (0 : Int) < 1; decide), hb, if_neg (fun e => h1 (UInt8.toNat_inj.1 (show b.toNat = (63 : UInt8).toNat from by have h9 : (63 : UInt8).toNat = 63 := rfl; omega))), if_neg (fun e => h2 (UInt8.toNat_inj.1 (show b.toNat = (91 : UInt8).toNat from by have h9 : (91 : UInt8).toNat = 91 := rfl; omega)))]

theorem gcheck_any (P : List ByteArray) (n i : Int) (r : Int) : ∀ (m : Nat) (x : ByteArray) (k : Nat), x.data.toList.length = m → (91 : UInt8) ∉ x.data.toList → glob_Check.l0 k P n (wrap64 (i + 1)) = some r → ∃ k', glob_Check.l1 k' x P n i = some r
  | 0, x, k, hm, h91, h => by
    have hx : x.toList = [] := by rw [ByteArray.toList_eq]; exact List.length_eq_zero_iff.1 hm
    exact ⟨(k + 1) + 1, by rw [glob_Check.l1, hx, if_neg (by simp), glob_Check.j3, if_neg (by decide)]; exact h⟩
  | m + 1, x, k, hm, h91, h => by
    by_cases hx2 : x.toList = [42, 42]
    · exact ⟨(k + 1) + 1, by rw [glob_Check.l1, if_pos hx2, glob_Check.j3, if_neg (by decide)]; exact h⟩
    cases hl : x.data.toList with
    | nil => rw [hl] at hm; cases hm
    | cons b l =>
      have hsz : x.size = m + 1 := by rw [← size_list, hm]
      have hx : x.toList ≠ [] := by rw [ByteArray.toList_eq, hl]; simp
      have hb : bt x 0 = (b.toNat : Int) := by rw [bt_list x 0 (by show 0 < x.size; omega), hl]; rfl
      have hb91 : ¬ bt x 0 = 91 := fun e => by
        rw [hb] at e
        have : b = 91 := UInt8.toNat_inj.1 (show b.toNat = (91 : UInt8).toNat from by have h9 : (91 : UInt8).toNat = 91 := rfl; omega)
        rw [hl, this] at h91
        simp at h91
      have hne : (x.toList != ([] : List UInt8)) = true := bne_iff_ne.mpr hx
      have hd : (x.extract 1 x.size).data.toList = l := by rw [ext_drop, hl]; rfl
      obtain ⟨k', hk'⟩ := gcheck_any P n i r m _ k (by rw [hd]; rw [hl] at hm; simpa using hm) (by rw [hd]; intro e; apply h91; rw [hl]; exact List.mem_cons_of_mem _ e) h
      exact ⟨(k' + 1) + 1, by rw [glob_Check.l1, if_neg hx2, hne, glob_Check.j3, if_pos rfl, if_pos (by omega), if_neg hb91, if_pos (by omega)]; exact hk'⟩
theorem gcheck_loop2 (P : List ByteArray) (hP : P.length ≤ 1000000000) (h : ∀ l ∈ P.map (·.data.toList), l ≠ [] ∧ (91 : UInt8) ∉ l) : ∀ (d i : Nat), i + d = P.length → ∃ k, glob_Check.l0 k P (P.length : Int) (i : Int) = some 0
  | 0, i, hd => ⟨1, by rw [glob_Check.l0, if_neg (by omega)]⟩
  | d + 1, i, hd => by
    obtain ⟨k, hk⟩ := gcheck_loop2 P hP h d (i + 1) (by omega)
    have hi : i < P.length := by omega
    have hm : (rdOf ByteArray.empty P (i : Int)).data.toList ∈ P.map (·.data.toList) := by
      unfold rdOf
      simp only [Int.toNat_natCast, List.getD_eq_getElem?_getD, List.getElem?_eq_getElem hi, Option.getD_some]
      exact List.mem_map.2 ⟨_, List.getElem_mem _, rfl⟩
    obtain ⟨p1, p2⟩ := h _ hm
    obtain ⟨k', hk'⟩ := gcheck_any P (P.length : Int) (i : Int) 0 _ (rdOf ByteArray.empty P (i : Int)) k rfl p2 (by rw [w64 (by omega) (by omega)]; exact hk)
    refine ⟨k' + 1, ?_⟩
    rw [glob_Check.l0, if_pos (by omega), if_pos (by omega), if_pos (by omega), ByteArray.toList_eq, if_neg p1]
    exact hk'
theorem check_ok2 {s : ByteArray} (h0 : 0 < s.size) (hs : s.size ≤ 400) (h91 : (91 : UInt8) ∉ s.data.toList) (hne : ∀ l ∈ cutL 47 s.data.toList, l ≠ []) : ∃ k, ∀ d, glob_Check.f (k + d) s = some 0 := by
  obtain ⟨P, h1, h2, h3⟩ := split_ok s (by omega)
  obtain ⟨k, hk⟩ := gcheck_loop2 P (by omega) (fun l hl => by
    rw [h2] at hl
    exact ⟨hne l hl, fun e => h91 (cut_mem 47 91 _ l hl e)⟩) P.length 0 (by omega)
  refine ⟨k + 1, leO_add (f := fun k => glob_Check.f k s) (fun k => glob_Check.mono s k) ?_⟩
  show glob_Check.f (k + 1) s = some 0
  unfold glob_Check.f
  rw [if_neg (by omega), show decide ((s.size : Int) > 400) = false from decide_eq_false (by omega), glob_Check.j0, if_neg (by decide), h1, Option.bind_some]
  exact hk

theorem map_one {P : List ByteArray} {s : ByteArray} (h : P.map (·.data.toList) = [s.data.toList]) : P = [s] := by
  cases P with
  | nil => cases h
  | cons a P =>
    rw [List.map_cons] at h
    injection h with h1 h2
    rw [List.map_eq_nil_iff.1 h2, bytes_ext h1]
/-- A path of one part. -/
theorem parts_one {s : ByteArray} (hs : s.size ≤ 400) (h0 : 0 < s.size) (h47 : (47 : UInt8) ∉ s.data.toList) : path_Parts.f s = some [s] := by
  obtain ⟨P, h1, h2, h3⟩ := parts_spec s (by omega)
  unfold partsL at h2
  have hn : s.data.toList ≠ [] := fun e => by have := size_list s; rw [e] at this; simp at this; omega
  rw [if_neg hn, cutL_none 47 _ h47] at h2
  rw [h1, map_one h2]
theorem fit_one_one {st : Nat → Bool} {ft : Nat → Nat → Bool} (hs : st 0 = false) : Fit 1 1 st ft 0 0 ↔ ft 0 0 = true := by
  rw [fit_plain (n := 1) (m := 1) (fun i hi => by
    obtain rfl : i = 0 := by omega
    exact hs) 1 0 0 (by omega) (by omega)]
  exact ⟨fun h => h.2 0 (by omega), fun h => ⟨by omega, fun q hq => by
    obtain rfl : q = 0 := by omega
    exact h⟩⟩
/-- One part by one part. -/
theorem fits_one {p s : ByteArray} {r : Bool} (hp : p.size ≤ 400) (hp0 : 0 < p.size) (hp47 : (47 : UInt8) ∉ p.data.toList) (hss : p.data.toList ≠ [42, 42]) (hck : ∃ k, ∀ d, glob_Check.f (k + d) p = some 0)
    (hs : s.size ≤ 400) (hs0 : 0 < s.size) (hs47 : (47 : UInt8) ∉ s.data.toList) (hz : (0 : UInt8) ∉ s.data.toList) (h1 : s.data.toList ≠ [46]) (h2 : s.data.toList ≠ [46, 46]) (hr : glob_part.f p s = some r) : ∃ k, ∀ d, glob_Fits.f (k + d) p s = some (r, 0) := by
  obtain ⟨k, hk⟩ := hck
  have hn : s.data.toList ≠ [] := fun e => by have := size_list s; rw [e] at this; simp at this; omega
  refine ⟨k + 1010, fun d => ?_⟩
  have hpc : ∀ k, 1000 < k → path_Check.f k s = some 0 := fun k hk => by
    unfold path_Check.f
    rw [if_neg (by omega), show decide ((s.size : Int) > 400) = false from decide_eq_false (by omega)]
    obtain ⟨k, rfl⟩ : ∃ q, k = q + 1 := ⟨k - 1, by omega⟩
    rw [path_Check.j0, if_neg (by decide)]
    unfold strings_IndexByte.f
    have hz : Lib.indexByte s.data.toList (0 : Int).toNat.toUInt8 = -1 := idx_none _ _ hz
    rw [hz, Option.bind_some, if_neg (by omega)]
    obtain ⟨P, g1, g2, g3⟩ := split_ok s (by omega)
    rw [g1, Option.bind_some]
    refine pcheck_loop P (by omega) ?_ k 0 (by omega) (by omega)
    rw [g2, cutL_none 47 _ hs47]
    intro l hl
    rw [List.mem_singleton] at hl
    subst hl
    exact ⟨hn, h1, h2⟩
  unfold glob_Fits.f
  rw [show k + 1010 + d = k + (1010 + d) by omega, hk, Option.bind_some, if_pos rfl, hpc _ (by omega), Option.bind_some, if_pos rfl, parts_one hp hp0 hp47, Option.bind_some, parts_one hs hs0 hs47, Option.bind_some]
  have e0 : rdOf ByteArray.empty [p] ((0 : Nat) : Int) = p := rfl
  have e1 : rdOf ByteArray.empty [s] ((0 : Nat) : Int) = s := rfl
  have hst : partsSt [p] 0 = false := by
    unfold partsSt
    rw [e0, ByteArray.toList_eq]
    exact beq_eq_false_iff_ne.2 hss
  have hft : partsFt [p] [s] 0 0 = r := by
    unfold partsFt
    rw [e0, e1, hr]; rfl
  have hf : glob_parts.f [p] [s] = some r := by
    unfold glob_parts.f
    rw [show ([p] : List ByteArray).length = 1 from rfl, show ([s] : List ByteArray).length = 1 from rfl, if_pos]
    · congr 1
      rw [Bool.eq_iff_iff, fitB_fit, fit_one_one hst, hft]
    · refine ⟨by omega, by omega, ?_⟩
      rw [List.all_eq_true]
      intro i hi
      rw [List.all_eq_true]
      intro k hk
      obtain rfl : i = 0 := by have := List.mem_range.1 hi; omega
      obtain rfl : k = 0 := by have := List.mem_range.1 hk; omega
      rw [e0, e1, hr]
      simp
  rw [hf, Option.bind_some]
theorem sign_one (b c : UInt8) (h2 : b ≠ 91) : glob_sign.f ⟨#[b]⟩ (c.toNat : Int) = some (b == 63 || b == c) := by
  have hb : bt ⟨#[b]⟩ 0 = (b.toNat : Int) := rfl
  by_cases h1 : b = 63
  · unfold glob_sign.f
    rw [if_pos (by show (0 : Int) < 1; decide), hb, h1, if_pos (by decide)]; rfl
  · rw [sign_single b _ h1 h2]
    have e1 : (b == 63) = false := beq_eq_false_iff_ne.2 h1
    rw [e1, Bool.false_or]
    congr 1
    rw [Bool.eq_iff_iff, beq_iff_eq, beq_iff_eq, ← UInt8.toNat_inj]
    omega
/-- A part without a set, by signs. -/
theorem part_fit {p s : ByteArray} (h91 : (91 : UInt8) ∉ p.data.toList) (hps : p.size ≤ 400) (hss : s.size ≤ 400) : ∃ r, glob_part.f p s = some r ∧ (r = true ↔ Fit p.size s.size (fun i => p.data.toList.getD i 0 == 42) (fun i k => p.data.toList.getD i 0 == 63 || p.data.toList.getD i 0 == s.data.toList.getD k 0) 0 0) := by
  have hL := size_list p
  have hsp : glob_split.f (3 * p.size + 10) p = some (singles p.data.toList) := by
    unfold glob_split.f
    rw [gsplit_loop p.size p _ [] hL (by omega) (by simp; omega) h91]; rfl
  have hlen : (singles p.data.toList).length = p.size := by rw [singles, List.length_map, hL]
  have hmem : ∀ i, i < p.size → p.data.toList.getD i 0 ∈ p.data.toList := fun i hi => by
    rw [List.getD_eq_getElem?_getD, List.getElem?_eq_getElem (by omega)]; exact List.getElem_mem _
  have hst : ∀ i, i < p.size → partSt (singles p.data.toList) i = (p.data.toList.getD i 0 == 42) := fun i hi => by
    unfold partSt
    rw [single_at _ _ (by omega), ByteArray.toList_eq]
    rw [Bool.eq_iff_iff, beq_iff_eq, beq_iff_eq]
    exact ⟨fun e => by simpa using e, fun e => by rw [e]⟩
  have hsg : ∀ i k, i < p.size → k < s.size → glob_sign.f (rdOf ByteArray.empty (singles p.data.toList) (i : Int)) (bt s (k : Int)) = some (p.data.toList.getD i 0 == 63 || p.data.toList.getD i 0 == s.data.toList.getD k 0) := fun i k hi hk => by
    rw [single_at _ _ (by omega), bt_list s (k : Int) (by simpa using hk), Int.toNat_natCast]
    exact sign_one _ _ (fun e => h91 (e ▸ hmem i hi))
  unfold glob_part.f
  rw [hsp, Option.bind_some, hlen, if_pos]
  · refine ⟨_, rfl, ?_⟩
    rw [fitB_fit]
    have hf : ∀ i k, i < p.size → k < s.size → partFt (singles p.data.toList) s i k = (p.data.toList.getD i 0 == 63 || p.data.toList.getD i 0 == s.data.toList.getD k 0) := fun i k hi hk => by
      unfold partFt; rw [hsg i k hi hk]; rfl
    exact ⟨fun ⟨f, h⟩ => ⟨f, gm_congr hst (fun i k hi hk _ => hf i k hi hk) f _ _ h⟩, fun ⟨f, h⟩ => ⟨f, gm_congr (fun i hi => (hst i hi).symm) (fun i k hi hk _ => (hf i k hi hk).symm) f _ _ h⟩⟩
  · refine ⟨by omega, by omega, ?_⟩
    rw [List.all_eq_true]
    intro i hi
    rw [List.all_eq_true]
    intro k hk
    rw [hsg i k (List.mem_range.1 hi) (List.mem_range.1 hk)]
    simp

theorem picked_spec {a m : Int} (hw : (Lit.int .i64 a).wf = true) (hm : 0 < m) : ∃ t, creelkeep_picked.f a m = some t ∧ 0 ≤ t ∧ t < m := by
  obtain ⟨h1, h2⟩ := bounds_i64 hw
  unfold creelkeep_picked.f
  have e : ¬ m = 0 := by omega
  by_cases h : a < 0
  · rw [if_pos h, if_neg e, w64 (n := a + 1) (by omega) (by omega), w64 (by omega) (by omega)]
    exact ⟨_, rfl, Int.tmod_nonneg _ (by omega), Int.tmod_lt_of_pos _ hm⟩
  · rw [if_neg h, if_neg e]
    exact ⟨_, rfl, Int.tmod_nonneg _ (by omega), Int.tmod_lt_of_pos _ hm⟩

/-- A text without a byte 0: each is '0' instead. -/
def noz (l : List UInt8) : List UInt8 := l.map fun b => if b = 0 then 48 else b
theorem noz_free (l : List UInt8) : (0 : UInt8) ∉ noz l := by
  intro h
  simp only [noz, List.mem_map] at h
  obtain ⟨b, _, hb⟩ := h
  by_cases e : b = 0
  · rw [if_pos e] at hb; cases hb
  · rw [if_neg e] at hb; exact e hb
theorem replaceK_noz : ∀ (k : Nat) (l : List UInt8), l.count 0 ≤ k → Lib.replaceK [0] [48] k l = noz l
  | 0, l, h => by
    have hn : (0 : UInt8) ∉ l := by
      rw [← List.count_eq_zero]; omega
    simp only [Lib.replaceK, noz]
    symm
    rw [List.map_congr_left (g := id) (fun b hb => by rw [if_neg (fun e : b = 0 => hn (e ▸ hb))]; rfl)]
    simp
  | k + 1, l, h => by
    simp only [Lib.replaceK, Lib.index_one]
    obtain ⟨t, r, rfl, hn, rfl | ⟨r', rfl⟩⟩ := idx_split l 0
    · rw [List.append_nil, idx_none t 0 hn, if_pos (by decide)]
      have := replaceK_noz 0 t (by rw [List.count_eq_zero.2 hn]; omega)
      simpa [Lib.replaceK] using this
    · have hne : ((t.length : Int) == -1) = false := by rw [beq_eq_false_iff_ne]; omega
      rw [idx_at t r' 0 hn, hne]
      have e1 : ((t.length : Nat) : Int).toNat = t.length := by omega
      simp only [Bool.false_eq_true, if_false, e1, List.length_singleton, List.take_left]
      have e2 : (t ++ 0 :: r').drop (t.length + 1) = r' := by
        rw [← List.drop_drop, List.drop_left]; rfl
      rw [e2, replaceK_noz k r' (by rw [List.count_append, List.count_cons_self] at h; omega)]
      have ht : noz t = t := by
        have := replaceK_noz 0 t (by rw [List.count_eq_zero.2 hn]; omega)
        simpa [Lib.replaceK] using this.symm
      simp [noz] at ht ⊢
      exact ht.symm
theorem replaceAll_noz (l : List UInt8) : Lib.replaceAll l [0] [48] = noz l := by
  unfold Lib.replaceAll Lib.replace
  rw [if_neg (by decide)]
  apply replaceK_noz
  unfold Lib.replaceNum
  rw [if_pos (.inl (by decide)), Lib.count_one]
  exact Nat.le_refl _
theorem mn_spec (a b : Int) : mn a b = if a ≤ b then a else b := by
  unfold mn
  split <;> split <;> omega
theorem clean_spec (s : ByteArray) (m : Int) (hs : s.size ≤ 1048576) (h0 : 0 ≤ m) : ∃ l : List UInt8, creelkeep_clean.f s m = some ⟨l.toArray⟩ ∧ (0 : UInt8) ∉ l ∧ (l.length : Int) ≤ m ∧ l.length ≤ s.size := by
  unfold creelkeep_clean.f strings_ReplaceAll.f
  have hc := Lib.countB_le (⟨#[0]⟩ : ByteArray) (by decide) s.size s (Nat.le_refl _)
  have s1 : (⟨#[48]⟩ : ByteArray).size = 1 := rfl
  rw [if_pos (by omega), if_pos (by decide), if_pos (by rw [s1]; omega)]
  have k1 : (⟨#[0]⟩ : ByteArray).data.toList = [0] := rfl
  have k2 : (⟨#[48]⟩ : ByteArray).data.toList = [48] := rfl
  rw [k1, k2, replaceAll_noz]
  simp only [Option.bind_some]
  have hl : (noz s.data.toList).length = s.size := by rw [noz, List.length_map, size_list]
  rw [mk_size, hl, mn_spec]
  have e : (if (s.size : Int) ≤ m then (s.size : Int) else m) = ((min s.size m.toNat : Nat) : Int) := by split <;> omega
  rw [e, if_pos (by omega), if_pos (by omega)]
  have e2 : (((min s.size m.toNat : Nat) : Int)).toNat = min s.size m.toNat := by omega
  refine ⟨(noz s.data.toList).take (min s.size m.toNat), ?_, ?_, ?_, ?_⟩
  · rw [e2]
    congr 1
    apply bytes_ext
    rw [Lib.extract_data, mk_list, mk_list, List.drop_zero, Nat.sub_zero]
  · intro h
    exact noz_free _ (List.mem_of_mem_take h)
  · rw [List.length_take]; omega
  · rw [List.length_take]; omega

/-- What is known of one raw thing. -/
def RawOk (r : S23) : Prop := (Lit.int .i64 r.f0).wf = true ∧ (Lit.int .i64 r.f1).wf = true ∧ (Lit.int .i64 r.f2).wf = true ∧ r.f3.size ≤ 1048576
theorem repeat_ok (c : ByteArray) (q : Int) (hc : c.size ≤ 1000) (h0 : 0 ≤ q) (h1 : q ≤ 100000) : ∃ s, strings_Repeat.f c q = some s ∧ s.size = q.toNat * c.size := by
  have hm : c.size * q.toNat ≤ 1000 * 100000 := Nat.mul_le_mul hc (by omega)
  have : ∃ s, strings_Repeat.f c q = some s := by
    unfold strings_Repeat.f
    rw [if_pos h0, if_pos (by omega), if_pos (by omega)]
    exact ⟨_, rfl⟩
  obtain ⟨s, hs⟩ := this
  exact ⟨s, hs, (repeat_size hs).2⟩
theorem clean_ok (s : ByteArray) (m : Int) (hs : s.size ≤ 1048576) (h0 : 0 ≤ m) : ∃ c, creelkeep_clean.f s m = some c ∧ (c.size : Int) ≤ m := by
  obtain ⟨l, h1, _, h2, _⟩ := clean_spec s m hs h0
  exact ⟨_, h1, by rw [mk_size]; exact h2⟩
theorem names_ok : ∃ ns, creelkeep_names.f = some ns ∧ ns.length = 11 := by
  unfold creelkeep_names.f
  obtain ⟨a, h1, _⟩ := repeat_ok ⟨#[110]⟩ 60 (by decide) (by decide) (by decide)
  obtain ⟨b, h2, _⟩ := repeat_ok ⟨#[109]⟩ 130 (by decide) (by decide) (by decide)
  rw [h1, Option.bind_some, h2, Option.bind_some]
  exact ⟨_, rfl, rfl⟩
theorem meta_ok {r : S23} (h : RawOk r) : ∃ m, creelkeep_Meta.f r.f0 r.f1 r.f2 r.f3 = some m := by
  obtain ⟨w0, w1, w2, w3⟩ := h
  unfold creelkeep_Meta.f
  obtain ⟨x1, h1, _⟩ := picked_spec (m := 4096) w1 (by decide)
  obtain ⟨x2, h2, _⟩ := picked_spec (m := 3000) w2 (by decide)
  obtain ⟨x3, h3, _⟩ := picked_spec (m := 3000) w1 (by decide)
  obtain ⟨x4, h4, _⟩ := clean_ok r.f3 40 w3 (by decide)
  obtain ⟨x5, h5, _⟩ := picked_spec (m := 17179869184) w2 (by decide)
  obtain ⟨x6, h6, _⟩ := picked_spec (m := 9) w0 (by decide)
  obtain ⟨x7, h7, _⟩ := picked_spec (m := 1000000000) w1 (by decide)
  obtain ⟨x8, h8, _⟩ := picked_spec (m := 1125899906842625) w2 (by decide)
  obtain ⟨x9, h9, _⟩ := picked_spec (m := 1125899906842625) w1 (by decide)
  obtain ⟨y, hy, hy0, hy1⟩ := picked_spec (m := 61) w1 (by decide)
  obtain ⟨z, hz, _⟩ := repeat_ok ⟨#[103]⟩ y (by decide) hy0 (by omega)
  rw [h1, Option.bind_some, h2, Option.bind_some, h3, Option.bind_some, h4, Option.bind_some, h5, Option.bind_some, h6, Option.bind_some, h7, h8, h9, hy]
  simp only [Option.bind_some, hz]
  repeat' split
  all_goals exact ⟨_, rfl⟩
theorem node_ok {r : S23} (h : RawOk r) (p : ByteArray) : ∃ n, treeNode r p = some n ∧ n.f0 = p ∧ n.f5.length ≤ 1200 := by
  obtain ⟨w0, w1, w2, w3⟩ := h
  unfold treeNode
  obtain ⟨m, hm⟩ := meta_ok ⟨w0, w1, w2, w3⟩
  obtain ⟨c, hc, hc2⟩ := clean_ok r.f3 40 w3 (by decide)
  obtain ⟨q, hq, hq0, hq1⟩ := picked_spec (m := 30) w2 (by decide)
  obtain ⟨s, hs, hs2⟩ := repeat_ok c q (by omega) hq0 (by omega)
  rw [hm, Option.bind_some, hc, Option.bind_some, hq, Option.bind_some, hs, Option.bind_some]
  refine ⟨_, rfl, rfl, ?_⟩
  show (bytesOf s).length ≤ 1200
  rw [bytesOf_length, hs2]
  have : q.toNat * c.size ≤ 30 * 40 := Nat.mul_le_mul (by omega) (by omega)
  omega
/-- What holds of the nodes and the directories while the tree grows. -/
structure TOk (P : ByteArray → Prop) (t : List S116) (dirs : List ByteArray) : Prop where
  node : ∀ n ∈ t, P n.f0 ∧ n.f0.size ≤ 400 ∧ n.f5.length ≤ 1200
  nodup : (t.map (·.f0)).Nodup
  ne : dirs ≠ []
  dir : ∀ s ∈ dirs, s.size ≤ 400 ∧ (s.toList = [] ∨ P s)
def Grows (P : ByteArray → Prop) : Prop := ∀ ns, creelkeep_names.f = some ns → ∀ nm ∈ ns, P nm ∧ ∀ p, P p → P (p ++ ⟨#[47]⟩ ++ nm)
theorem path_ok {P : ByteArray → Prop} (hP : Grows P) {r : S23} (h : RawOk r) {t : List S116} {dirs : List ByteArray} (hT : TOk P t dirs) : ∃ p, treePath r dirs = some p ∧ P p := by
  obtain ⟨w0, w1, w2, w3⟩ := h
  unfold treePath
  have hd : 0 < dirs.length := by
    cases hh : dirs with
    | nil => exact absurd hh hT.ne
    | cons _ _ => simp
  obtain ⟨i, hi, hi0, hi1⟩ := picked_spec (m := (dirs.length : Int)) w2 (by omega)
  obtain ⟨ns, hns, hnl⟩ := names_ok
  obtain ⟨j, hj, hj0, hj1⟩ := picked_spec (m := (ns.length : Int)) w1 (by omega)
  rw [hi, Option.bind_some, if_pos ⟨hi0, hi1⟩, hns, Option.bind_some, hj, Option.bind_some, if_pos ⟨hj0, hj1⟩]
  have hm1 : rdOf ByteArray.empty dirs i ∈ dirs := by
    unfold rdOf; rw [List.getD_eq_getElem?_getD, List.getElem?_eq_getElem (by omega)]; exact List.getElem_mem _
  have hm2 : rdOf ByteArray.empty ns j ∈ ns := by
    unfold rdOf; rw [List.getD_eq_getElem?_getD, List.getElem?_eq_getElem (by omega)]; exact List.getElem_mem _
  obtain ⟨p1, p2⟩ := hP ns hns _ hm2
  split
  · exact ⟨_, rfl, p1⟩
  · rename_i hz
    exact ⟨_, rfl, p2 _ ((hT.dir _ hm1).2.resolve_left hz)⟩
theorem nodup_app {t : List S116} {n : S116} (h : (t.map (·.f0)).Nodup) (hn : ¬ t.any (fun x => x.f0.toList == n.f0.toList) = true) : ((t ++ [n]).map (·.f0)).Nodup := by
  rw [List.map_append, List.map_singleton, List.nodup_append]
  refine ⟨h, by simp, fun a ha b hb => ?_⟩
  rw [List.mem_singleton] at hb
  subst hb
  rintro rfl
  obtain ⟨x, hx, hx2⟩ := List.mem_map.1 ha
  exact hn (List.any_eq_true.2 ⟨x, hx, by simp [hx2]⟩)
theorem set_f0 {t : List S116} {k : Nat} {u v : S116} (hu : t[k]? = some u) (hv : v.f0 = u.f0) : (t.set k v).map (·.f0) = t.map (·.f0) := by
  refine List.ext_getElem? (fun q => ?_)
  rw [List.getElem?_map, List.getElem?_map]
  by_cases e : k = q
  · subst e
    rw [List.getElem?_set_self (List.getElem?_eq_some_iff.1 hu).1, hu]
    simp [hv]
  · rw [List.getElem?_set_ne e]
theorem any_f0 {t t' : List S116} (h : t'.map (·.f0) = t.map (·.f0)) (p : ByteArray) : t'.any (fun x => x.f0.toList == p.toList) = t.any (fun x => x.f0.toList == p.toList) := by
  have e : ∀ l : List S116, l.any (fun x => x.f0.toList == p.toList) = (l.map (·.f0)).any (fun s => s.toList == p.toList) := fun l => by rw [List.any_map]; rfl
  rw [e, e, h]
theorem TOk.push {P : ByteArray → Prop} {t : List S116} {dirs : List ByteArray} {n : S116} (hT : TOk P t dirs) (h1 : P n.f0) (h2 : n.f0.size ≤ 400) (h3 : n.f5.length ≤ 1200) (hn : ¬ t.any (fun x => x.f0.toList == n.f0.toList) = true) : TOk P (t ++ [n]) dirs :=
  ⟨fun x hx => by
    rcases List.mem_append.1 hx with hx | hx
    · exact hT.node x hx
    · rw [List.mem_singleton.1 hx]; exact ⟨h1, h2, h3⟩, nodup_app hT.nodup hn, hT.ne, hT.dir⟩
theorem step_ok {P : ByteArray → Prop} (hP : Grows P) {r : S23} (h : RawOk r) {t : List S116} {dirs : List ByteArray} (hT : TOk P t dirs) (hl : t.length ≤ 100000000) : ∃ t' dirs', treeStep r t dirs = some (t', dirs') ∧ TOk P t' dirs' ∧ t'.length ≤ t.length + 1 := by
  unfold treeStep
  obtain ⟨p, hp, hpP⟩ := path_ok hP h hT
  rw [hp, Option.bind_some]
  split
  · exact ⟨t, dirs, rfl, hT, by omega⟩
  rename_i hno
  have hno1 : p.size ≤ 400 := by
    rcases Nat.lt_or_ge 400 p.size with h | h
    · exact absurd (.inl h) hno
    · exact h
  have hno2 : ¬ t.any (fun x => x.f0.toList == p.toList) = true := fun h => hno (.inr h)
  obtain ⟨n, hn, hn0, hn5⟩ := node_ok h p
  rw [hn, Option.bind_some]
  obtain ⟨w0, w1, w2, w3⟩ := h
  obtain ⟨kd, hk, _⟩ := picked_spec (m := 7) w0 (by decide)
  rw [hk, Option.bind_some]
  split
  · refine ⟨_, _, rfl, ⟨(hT.push (n := { n with f1 := 2, f5 := [] }) (by rw [hn0]; exact hpP) (by rw [hn0]; exact hno1) (by simp) (by rw [hn0]; exact hno2)).node, (hT.push (n := { n with f1 := 2, f5 := [] }) (by rw [hn0]; exact hpP) (by rw [hn0]; exact hno1) (by simp) (by rw [hn0]; exact hno2)).nodup, by simp, fun s hs => ?_⟩, by simp⟩
    rcases List.mem_append.1 hs with hs | hs
    · exact hT.dir s hs
    · rw [List.mem_singleton.1 hs]; exact ⟨hno1, .inr hpP⟩
  split
  · obtain ⟨c, hc, hc2⟩ := clean_ok r.f3 10 w3 (by decide)
    obtain ⟨q, hq, hq0, hq1⟩ := picked_spec (m := 20) w1 (by decide)
    obtain ⟨s, hs, hs2⟩ := repeat_ok c q (by omega) hq0 (by omega)
    have : q.toNat * c.size ≤ 20 * 10 := Nat.mul_le_mul (by omega) (by omega)
    rw [hc, Option.bind_some, hq, Option.bind_some, hs, Option.bind_some, if_pos (by omega)]
    exact ⟨_, _, rfl, hT.push (by rw [hn0]; exact hpP) (by rw [hn0]; exact hno1) (by simp) (by rw [hn0]; exact hno2), by simp⟩
  split
  · obtain ⟨k, hk2, hk0, hk1⟩ := picked_spec (m := (t.length : Int) + 1) w1 (by omega)
    rw [hk2, Option.bind_some, if_pos hk0]
    cases hu : t[k.toNat]? with
    | none => exact ⟨_, _, rfl, hT.push (by rw [hn0]; exact hpP) (by rw [hn0]; exact hno1) hn5 (by rw [hn0]; exact hno2), by simp⟩
    | some u =>
      dsimp only
      split
      · have hum := hT.node u (List.mem_of_getElem? hu)
        have hcl : slices_Clone_byte_byte.f u.f5 = some u.f5 := by
          unfold slices_Clone_byte_byte.f; rw [if_pos (by omega)]
        rw [hcl, Option.bind_some]
        have hmf := set_f0 hu (v := { u with f2 := if u.f2 = 0 then k + 1 else u.f2 }) rfl
        have hT2 : TOk P (t.set k.toNat { u with f2 := if u.f2 = 0 then k + 1 else u.f2 }) dirs := ⟨fun x hx => by
          rcases List.mem_or_eq_of_mem_set hx with hx | rfl
          · exact hT.node x hx
          · exact hum, by rw [hmf]; exact hT.nodup, hT.ne, hT.dir⟩
        exact ⟨_, _, rfl, hT2.push hpP hno1 hum.2.2 (by rw [any_f0 hmf]; exact hno2), by simp⟩
      · exact ⟨_, _, rfl, hT.push (by rw [hn0]; exact hpP) (by rw [hn0]; exact hno1) hn5 (by rw [hn0]; exact hno2), by simp⟩
  · exact ⟨_, _, rfl, hT.push (by rw [hn0]; exact hpP) (by rw [hn0]; exact hno1) hn5 (by rw [hn0]; exact hno2), by simp⟩
theorem go_ok {P : ByteArray → Prop} (hP : Grows P) (most : Int) : ∀ (l : List S23) (t : List S116) (dirs : List ByteArray), (∀ x ∈ l, RawOk x) → TOk P t dirs → t.length + l.length ≤ 100000000 → ∃ t' dirs', treeGo most l t dirs = some t' ∧ TOk P t' dirs' ∧ t'.length ≤ t.length + l.length
  | [], t, dirs, _, hT, _ => ⟨t, dirs, rfl, hT, by simp⟩
  | r :: l, t, dirs, hR, hT, hl => by
    rw [treeGo]
    split
    · exact ⟨t, dirs, rfl, hT, by omega⟩
    · simp only [List.length_cons] at hl ⊢
      obtain ⟨t1, dirs1, h1, hT1, hl1⟩ := step_ok hP (hR r (List.mem_cons_self ..)) hT (by omega)
      rw [h1, Option.bind_some]
      obtain ⟨t2, dirs2, h2, hT2, hl2⟩ := go_ok hP most l t1 dirs1 (fun x hx => hR x (List.mem_cons_of_mem _ hx)) hT1 (by omega)
      exact ⟨t2, dirs2, h2, hT2, by omega⟩
theorem tree_ok {P : ByteArray → Prop} (hP : Grows P) (most : Int) (l : List S23) (hR : ∀ x ∈ l, RawOk x) (hl : l.length ≤ 1048576) : ∃ t, creelkeep_Tree.f l most = some t ∧ (∀ n ∈ t, P n.f0 ∧ n.f0.size ≤ 400 ∧ n.f5.length ≤ 1200) ∧ (t.map (·.f0)).Nodup ∧ t.length ≤ l.length := by
  obtain ⟨t, dirs, h1, hT, hl1⟩ := go_ok hP most l [] [⟨#[]⟩] hR ⟨fun n hn => by (cases hn), by simp, by simp, fun s hs => by rw [List.mem_singleton.1 hs]; exact ⟨by decide, .inl (by rw [ByteArray.toList_eq])⟩⟩ (by simp; omega)
  unfold creelkeep_Tree.f
  rw [if_pos (by omega), h1, Option.bind_some, if_pos hT.nodup]
  have hp := List.mergeSort_perm t nodeLe
  exact ⟨_, rfl, fun n hn => hT.node n (hp.mem_iff.1 hn), ((hp.map (·.f0)).nodup_iff).2 hT.nodup, by rw [hp.length_eq]; simpa using hl1⟩
theorem paths_ok {P : ByteArray → Prop} (hP : Grows P) (ha : P ⟨#[97]⟩) (most : Int) (l : List S23) (hR : ∀ x ∈ l, RawOk x) (hl : l.length ≤ 1048576) : ∃ ps, creelkeep_paths.f l most = some ps ∧ 0 < ps.length ∧ ps.length ≤ 1048577 ∧ ∀ s ∈ ps, P s ∧ s.size ≤ 400 := by
  obtain ⟨t, h1, h2, _, h3⟩ := tree_ok hP most l hR hl
  unfold creelkeep_paths.f
  rw [h1, Option.bind_some, if_pos (by omega)]
  refine ⟨_, rfl, by simp, by simp; omega, fun s hs => ?_⟩
  rcases List.mem_cons.1 hs with rfl | hs
  · exact ⟨ha, by decide⟩
  · obtain ⟨n, hn, rfl⟩ := List.mem_map.1 hs
    exact ⟨(h2 n hn).1, (h2 n hn).2.1⟩


theorem plain_join {p q : ByteArray} (hp : Plain p) (hq : Plain q) : Plain (p ++ ⟨#[47]⟩ ++ q) := by
  have e : (p ++ (⟨#[47]⟩ : ByteArray) ++ q).data.toList = p.data.toList ++ 47 :: q.data.toList := by
    rw [app_list, app_list]; simp
  refine ⟨?_, ?_, ?_⟩
  · unfold NoSign
    rw [e]
    have h1 := hp.sign
    have h2 := hq.sign
    unfold NoSign at h1 h2
    simp only [List.mem_append, List.mem_cons]
    refine ⟨?_, ?_, ?_⟩
    · rintro (h | h | h)
      · exact h1.1 h
      · exact absurd h (by decide)
      · exact h2.1 h
    · rintro (h | h | h)
      · exact h1.2.1 h
      · exact absurd h (by decide)
      · exact h2.2.1 h
    · rintro (h | h | h)
      · exact h1.2.2 h
      · exact absurd h (by decide)
      · exact h2.2.2 h
  · rw [e]
    simp only [List.mem_append, List.mem_cons]
    rintro (h | h | h)
    · exact hp.zero h
    · exact absurd h (by decide)
    · exact hq.zero h
  · rw [e, cutL_app]
    intro l hl
    rcases List.mem_append.1 hl with h | h
    · exact hp.parts l h
    · exact hq.parts l h
theorem plain_rep (c : UInt8) (n : Nat) (h0 : c ≠ 42 ∧ c ≠ 63 ∧ c ≠ 91 ∧ c ≠ 0 ∧ c ≠ 47 ∧ c ≠ 46) (hn : 0 < n) : Plain ⟨(List.replicate n c).toArray⟩ := by
  obtain ⟨n1, n2, n3, n4, n5, n6⟩ := h0
  have hm : ∀ b, b ≠ c → b ∉ List.replicate n c := fun b hb h => hb (List.eq_of_mem_replicate h)
  have hh : ∀ l : List UInt8, l.head? = some 46 → List.replicate n c ≠ l := fun l hl e => by
    rw [← e] at hl
    cases n with
    | zero => omega
    | succ n => exact n6 (by simpa [List.replicate_succ] using hl)
  refine ⟨?_, ?_, ?_⟩
  · unfold NoSign; rw [mk_list]; exact ⟨hm _ n1.symm, hm _ n2.symm, hm _ n3.symm⟩
  · rw [mk_list]; exact hm _ n4.symm
  · rw [mk_list, cutL_none 47 _ (hm _ n5.symm)]
    intro l hl
    rw [List.mem_singleton] at hl
    subst hl
    exact ⟨by cases n with | zero => omega | succ n => simp [List.replicate_succ], hh _ rfl, hh _ rfl⟩
instance (l : List UInt8) : Decidable (NoSign l) := by unfold NoSign; infer_instance
instance (l : List UInt8) : Decidable (PartOk l) := by unfold PartOk; infer_instance
theorem plain_lit (s : ByteArray) (h1 : NoSign s.data.toList) (h2 : (0 : UInt8) ∉ s.data.toList) (h3 : ∀ l ∈ cutL 47 s.data.toList, PartOk l) : Plain s := ⟨h1, h2, h3⟩
theorem grows_plain : Grows Plain := by
  intro ns hns nm hnm
  have key : Plain nm := by
    unfold creelkeep_names.f strings_Repeat.f at hns
    rw [if_pos (by decide), if_pos (by decide), if_pos (by decide), Option.bind_some, if_pos (by decide), if_pos (by decide), if_pos (by decide), Option.bind_some] at hns
    injection hns with hns
    subst hns
    have k1 : (⟨#[110]⟩ : ByteArray).data.toList = [110] := rfl
    have k2 : (⟨#[109]⟩ : ByteArray).data.toList = [109] := rfl
    rw [k1, k2, repeat_one, repeat_one] at hnm
    simp only [List.mem_cons, List.not_mem_nil, or_false] at hnm
    rcases hnm with rfl | rfl | rfl | rfl | rfl | rfl | rfl | rfl | rfl | rfl | rfl
    all_goals first | exact plain_rep _ _ (by decide) (by decide) | exact plain_lit _ (by decide) (by decide) (by decide)
  exact ⟨key, fun p hp => plain_join hp key⟩

theorem litePrefix_spec (s p : ByteArray) : stringslite_HasPrefix.f s p = some (p.data.toList.isPrefixOf s.data.toList) := by
  unfold stringslite_HasPrefix.f
  by_cases h : (s.size : Int) ≥ (p.size : Int)
  · rw [if_pos h, if_pos (by omega), if_pos (by omega)]
    simp only [Option.bind_some, Option.some.injEq]
    rw [Lib.extract_toList, Lib.toList_data, Bool.eq_iff_iff, List.isPrefixOf_iff_prefix, beq_iff_eq]
    have hl := size_list s
    have hp := size_list p
    have e : ((p.size : Int)).toNat - 0 = p.data.toList.length := by omega
    rw [List.drop_zero, e]
    constructor
    · intro g; rw [← g]; exact List.take_prefix _ _
    · rintro ⟨t, g⟩; rw [← g]; simp
  · rw [if_neg h]
    simp only [Option.bind_some, Option.some.injEq]
    symm
    rw [Bool.eq_false_iff]
    intro g
    rw [List.isPrefixOf_iff_prefix] at g
    have := g.length_le
    have hl := size_list s
    have hp := size_list p
    omega

theorem hasPrefix_spec (s p : ByteArray) : strings_HasPrefix.f s p = some (p.data.toList.isPrefixOf s.data.toList) := by
  unfold strings_HasPrefix.f
  rw [litePrefix_spec, Option.bind_some]

theorem drop_mk {l : List UInt8} {n e : Nat} (he : e = l.length) : (⟨l.toArray⟩ : ByteArray).extract n e = ⟨(l.drop n).toArray⟩ := by
  apply bytes_ext
  have := ext_drop (⟨l.toArray⟩ : ByteArray) n
  rw [mk_size] at this
  rw [he, this, mk_list, mk_list]
theorem take_mk (l : List UInt8) (n : Nat) : (⟨l.toArray⟩ : ByteArray).extract 0 n = ⟨(l.take n).toArray⟩ := by
  apply bytes_ext
  rw [ext_take, mk_list, mk_list]
theorem bt_mk (l : List UInt8) (i : Int) (h : i.toNat < l.length) : bt ⟨l.toArray⟩ i = ((l.getD i.toNat 0).toNat : Int) := by
  rw [bt_list _ _ (by rw [mk_size]; exact h), mk_list]
theorem w2 : wrap64 (1 + 1) = 2 := w64 (by omega) (by omega)
theorem w3 : wrap64 (1 + 1 + 1) = 3 := w64 (by omega) (by omega)
theorem w1' : wrap64 (0 + 1) = 1 := w64 (by omega) (by omega)
theorem nat_ne {a b : UInt8} (h : a ≠ b) : ¬ (a.toNat : Int) = (b.toNat : Int) := fun e => h (UInt8.toNat_inj.1 (by omega))
theorem prefix_no {b : UInt8} {l : List UInt8} (h : b ≠ 33) : strings_HasPrefix.f (⟨(b :: l).toArray⟩ : ByteArray) ⟨#[33]⟩ = some false := by
  rw [hasPrefix_spec, mk_list]
  congr 1
  show ((33 : UInt8) == b && [].isPrefixOf l) = false
  rw [beq_eq_false_iff_ne.2 (Ne.symm h)]; rfl
theorem prefix_yes {l : List UInt8} : strings_HasPrefix.f (⟨((33 : UInt8) :: l).toArray⟩ : ByteArray) ⟨#[33]⟩ = some true := by
  rw [hasPrefix_spec, mk_list]
  rfl

theorem set_loop (c : Int) (nt : Bool) (a b : UInt8) (hb : b ≠ 93) (k : Nat) : setL c nt (k + 2) ⟨[a, 45, b, 93].toArray⟩ false 0 = some ((decide ((a.toNat : Int) ≤ c) && decide (c ≤ (b.toNat : Int))) != nt, ⟨[].toArray⟩) := by
  have z0 : (⟨[a, 45, b, 93].toArray⟩ : ByteArray).size = 4 := rfl
  have e1 : (⟨[a, 45, b, 93].toArray⟩ : ByteArray).extract 1 4 = ⟨[45, b, 93].toArray⟩ := drop_mk rfl
  have z1 : (⟨[45, b, 93].toArray⟩ : ByteArray).size = 3 := rfl
  have e2 : (⟨[45, b, 93].toArray⟩ : ByteArray).extract 2 3 = ⟨[93].toArray⟩ := drop_mk rfl
  have z2 : (⟨[93].toArray⟩ : ByteArray).size = 1 := rfl
  have e3 : (⟨[93].toArray⟩ : ByteArray).extract 1 1 = ⟨[].toArray⟩ := drop_mk rfl
  have b0 : bt ⟨[a, 45, b, 93].toArray⟩ 0 = (a.toNat : Int) := by rw [bt_mk _ _ (by simp)]; rfl
  have b1 : bt ⟨[45, b, 93].toArray⟩ 0 = 45 := by rw [bt_mk _ _ (by simp)]; rfl
  have b2 : bt ⟨[45, b, 93].toArray⟩ 1 = (b.toNat : Int) := by rw [bt_mk _ _ (by simp)]; rfl
  have b3 : bt ⟨[93].toArray⟩ 0 = 93 := by rw [bt_mk _ _ (by simp)]; rfl
  have hbn : ¬ (b.toNat : Int) = 93 := nat_ne (b := 93) hb
  have hst : setStep ⟨[a, 45, b, 93].toArray⟩ = ((a.toNat : Int), (b.toNat : Int), ⟨[93].toArray⟩) := by
    unfold setStep
    rw [z0, e1, z1, b1, b2, b0, e2, if_pos ⟨by decide, rfl, hbn⟩]
  rw [setL, z0, if_neg (by omega), if_neg (by omega), hst]
  rw [setL, z2, if_neg (by omega), if_pos ⟨by omega, b3⟩, e3]
  simp
theorem set_one (c : Int) (a b : UInt8) (ha : a ≠ 33) (hb : b ≠ 93) : glob_set.f ⟨[91, a, 45, b, 93].toArray⟩ c = some (decide ((a.toNat : Int) ≤ c) && decide (c ≤ (b.toNat : Int)), ⟨[].toArray⟩) := by
  unfold glob_set.f
  have e2 : (⟨[91, a, 45, b, 93].toArray⟩ : ByteArray).extract 1 (⟨[91, a, 45, b, 93].toArray⟩ : ByteArray).size = ⟨[a, 45, b, 93].toArray⟩ := drop_mk rfl
  have z : (⟨[91, a, 45, b, 93].toArray⟩ : ByteArray).size = 5 := rfl
  rw [e2, if_pos (by rw [z]; decide), prefix_no ha, Option.bind_some, if_neg (by decide), z, set_loop c false a b hb 4]
  simp
section
variable {a b : UInt8} (ha : a ≠ 33) (ha93 : a ≠ 93) (hb : b ≠ 93)
include hb in
theorem idx_set : strings_IndexByte.f (⟨[45, b, 93].toArray⟩ : ByteArray) 93 = some 2 := by
  unfold strings_IndexByte.f
  rw [mk_list]
  have := idx_at [45, b] [] 93 (by simp [Ne.symm hb])
  exact congrArg some this
include ha hb in
theorem end_one (k : Nat) : glob_end.f (k + 1) ⟨[91, a, 45, b, 93].toArray⟩ = some 5 := by
  unfold glob_end.f
  have e1 : ((⟨[91, a, 45, b, 93].toArray⟩ : ByteArray).size : Int) = 5 := rfl
  have e2 : (⟨[91, a, 45, b, 93].toArray⟩ : ByteArray).extract 1 (⟨[91, a, 45, b, 93].toArray⟩ : ByteArray).size = ⟨[a, 45, b, 93].toArray⟩ := drop_mk rfl
  have e3 : (⟨[91, a, 45, b, 93].toArray⟩ : ByteArray).extract 2 (⟨[91, a, 45, b, 93].toArray⟩ : ByteArray).size = ⟨[45, b, 93].toArray⟩ := drop_mk rfl
  rw [if_pos (by rw [e1]; decide), e2, prefix_no ha, Option.bind_some, if_neg (by decide), glob_end.j0, w2, show (2 : Int).toNat = 2 from rfl, e3, e1, if_pos (by decide), if_pos (by decide), if_pos (by decide), idx_set hb, Option.bind_some, if_neg (by decide), show wrap64 (2 + 2) = 4 from w64 (by decide) (by decide), show wrap64 (4 + 1) = 5 from w64 (by decide) (by decide)]
end

theorem fit_join2 {n1 m1 n2 m2 : Nat} {st st2 : Nat → Bool} {ft ft2 : Nat → Nat → Bool} (hs : ∀ i, i < n2 → st (n1 + i) = st2 i) (hf : ∀ i k, i < n2 → k < m2 → st2 i = false → ft (n1 + i) (m1 + k) = ft2 i k) : ∀ f i k, GM n2 m2 st2 ft2 f i k → Fit (n1 + n2) (m1 + m2) st ft (n1 + i) (m1 + k)
  | 0, i, k, h => by
    obtain ⟨rfl, rfl⟩ := h
    exact fit_end
  | f + 1, i, k, h => by
    rcases h with ⟨rfl, rfl⟩ | ⟨h1, h2, h3, h⟩ | ⟨h1, h2, h3, h⟩ | ⟨h1, h2, h3, h4, h⟩
    · exact fit_end
    · exact fit_skip (by omega) (by rw [hs i h1]; exact h2) (by omega) (fit_join2 hs hf f (i + 1) k h)
    · exact fit_eat (by omega) (by rw [hs i h1]; exact h2) (by omega) (fit_join2 hs hf f i (k + 1) h)
    · exact fit_one (by omega) (by rw [hs i h1]; exact h2) (by omega) (by rw [hf i k h1 h3 h2]; exact h4) (fit_join2 hs hf f (i + 1) (k + 1) h)
theorem fit_join1 {n1 m1 N M : Nat} {st st1 : Nat → Bool} {ft ft1 : Nat → Nat → Bool} (hN : n1 ≤ N) (hM : m1 ≤ M) (hs : ∀ i, i < n1 → st i = st1 i) (hf : ∀ i k, i < n1 → k < m1 → st1 i = false → ft i k = ft1 i k) (he : Fit N M st ft n1 m1) : ∀ f i k, GM n1 m1 st1 ft1 f i k → Fit N M st ft i k
  | 0, i, k, h => by
    obtain ⟨rfl, rfl⟩ := h
    exact he
  | f + 1, i, k, h => by
    rcases h with ⟨rfl, rfl⟩ | ⟨h1, h2, h3, h⟩ | ⟨h1, h2, h3, h⟩ | ⟨h1, h2, h3, h4, h⟩
    · exact he
    · exact fit_skip (by omega) (by rw [hs i h1]; exact h2) (by omega) (fit_join1 hN hM hs hf he f (i + 1) k h)
    · exact fit_eat (by omega) (by rw [hs i h1]; exact h2) (by omega) (fit_join1 hN hM hs hf he f i (k + 1) h)
    · exact fit_one (by omega) (by rw [hs i h1]; exact h2) (by omega) (by rw [hf i k h1 h3 h2]; exact h4) (fit_join1 hN hM hs hf he f (i + 1) (k + 1) h)
/-- A part of a pattern that may be, and that says yes or no of any part of a path. -/
structure Good (l : List UInt8) : Prop where
  ne : l ≠ []
  chk : ∀ (P : List ByteArray) (n i r : Int) (x : ByteArray) (k : Nat), x.data.toList = l → glob_Check.l0 k P n (wrap64 (i + 1)) = some r → ∃ k', glob_Check.l1 k' x P n i = some r
  part : l ≠ [42, 42] → ∀ s : ByteArray, s.size ≤ 400 → ∃ r, glob_part.f ⟨l.toArray⟩ s = some r
theorem good_plain {l : List UInt8} (h0 : l ≠ []) (h91 : (91 : UInt8) ∉ l) (hl : l.length ≤ 100) : Good l := by
  refine ⟨h0, fun P n i r x k hx h => ?_, fun _ s hs => ?_⟩
  · subst hx
    exact gcheck_any P n i r _ x k rfl h91 h
  · obtain ⟨r, h1, _⟩ := part_fit (p := ⟨l.toArray⟩) (s := s) (by rw [mk_list]; exact h91) (by rw [mk_size]; omega) hs
    exact ⟨r, h1⟩
theorem part_some {p s : ByteArray} {L : List ByteArray} (h : glob_split.f (3 * p.size + 10) p = some L) (hL : L.length ≤ 1000) (hs : s.size ≤ 400) (hg : ∀ i c, i < L.length → (glob_sign.f (rdOf ByteArray.empty L (i : Int)) c).isSome = true) : ∃ r, glob_part.f p s = some r := by
  unfold glob_part.f
  rw [h, Option.bind_some, if_pos]
  · exact ⟨_, rfl⟩
  · refine ⟨by omega, by omega, ?_⟩
    rw [List.all_eq_true]
    intro i hi
    rw [List.all_eq_true]
    intro k hk
    rw [hg i _ (List.mem_range.1 hi)]
    simp
/-- A part that begins with a set, of so many bytes. -/
theorem good_set {l : List UInt8} {e : Nat} (hl : l.length ≤ 100) (he : e ≤ l.length + 1) (h91 : (91 : UInt8) ∉ (91 :: l).drop e) (hr : ∀ k, glob_end.f (k + 1) ⟨(91 :: l).toArray⟩ = some (e : Int)) (hp : ∀ s : ByteArray, s.size ≤ 400 → ∃ r, glob_part.f ⟨(91 :: l).toArray⟩ s = some r) : Good (91 :: l) := by
  refine ⟨by simp, fun P n i r x k hx h => ?_, fun _ => hp⟩
  have hxx : x = ⟨(91 :: l).toArray⟩ := by rw [is_mk x, hx]
  subst hxx
  have ez : (⟨(91 :: l).toArray⟩ : ByteArray).size = l.length + 1 := by rw [mk_size]; rfl
  have b1 : bt ⟨(91 :: l).toArray⟩ 0 = 91 := by rw [bt_mk _ _ (by simp)]; rfl
  obtain ⟨k', hk'⟩ := gcheck_any P n i r _ ⟨((91 :: l).drop e).toArray⟩ k rfl (by rw [mk_list]; exact h91) h
  have hk2 : k' ≠ 0 := fun e0 => by rw [e0, glob_Check.l1] at hk'; cases hk'
  obtain ⟨q, rfl⟩ := Nat.exists_eq_succ_of_ne_zero hk2
  refine ⟨q + 1 + 2, ?_⟩
  rw [glob_Check.l1, ByteArray.toList_eq, mk_list, if_neg (by simp), show ((91 :: l : List UInt8) != []) = true from rfl, glob_Check.j3, if_pos rfl, ez, if_pos (by omega), if_pos b1, hr, Option.bind_some, if_neg (by omega), if_pos (by omega), if_pos (by omega), Int.toNat_natCast, drop_mk (by simp)]
  exact hk'
theorem end_na (k : Nat) : glob_end.f (k + 1) ⟨[91, 33, 97, 93, 42].toArray⟩ = some ((4 : Nat) : Int) := by
  unfold glob_end.f
  have e1 : ((⟨[91, 33, 97, 93, 42].toArray⟩ : ByteArray).size : Int) = 5 := rfl
  have e2 : (⟨[91, 33, 97, 93, 42].toArray⟩ : ByteArray).extract 1 (⟨[91, 33, 97, 93, 42].toArray⟩ : ByteArray).size = ⟨[33, 97, 93, 42].toArray⟩ := drop_mk rfl
  have e3 : (⟨[91, 33, 97, 93, 42].toArray⟩ : ByteArray).extract 3 (⟨[91, 33, 97, 93, 42].toArray⟩ : ByteArray).size = ⟨[93, 42].toArray⟩ := drop_mk rfl
  rw [if_pos (by rw [e1]; decide), e2, prefix_yes, Option.bind_some, if_pos rfl, glob_end.j0, w3, show (3 : Int).toNat = 3 from rfl, e3, e1, if_pos (by decide), if_pos (by decide), if_pos (by decide), show strings_IndexByte.f (⟨[93, 42].toArray⟩ : ByteArray) 93 = some 0 from rfl, Option.bind_some, if_neg (by decide), show wrap64 (3 + 0) = 3 from w64 (by decide) (by decide), show wrap64 (3 + 1) = 4 from w64 (by decide) (by decide)]
  rfl
theorem good_ab : Good [91, 97, 45, 98, 93] := by
  refine good_set (l := [97, 45, 98, 93]) (e := 5) (by decide) (by decide) (by decide) (fun k => end_one (by decide) (by decide) k) (fun s hs => ?_)
  refine part_some (L := [⟨#[91, 97, 45, 98, 93]⟩]) (by decide +kernel) (by decide) hs (fun i c hi => ?_)
  obtain rfl : i = 0 := by simp at hi; omega
  show (glob_sign.f ⟨[91, 97, 45, 98, 93].toArray⟩ c).isSome = true
  unfold glob_sign.f
  rw [if_pos (by decide), if_neg (by decide), if_pos (by decide), set_one c 97 98 (by decide) (by decide)]
  rfl
theorem set_na (c : Int) : glob_set.f ⟨[91, 33, 97, 93].toArray⟩ c = some (!(decide ((97 : Int) ≤ c) && decide (c ≤ (97 : Int))), ⟨[].toArray⟩) := by
  unfold glob_set.f
  have e2 : (⟨[91, 33, 97, 93].toArray⟩ : ByteArray).extract 1 (⟨[91, 33, 97, 93].toArray⟩ : ByteArray).size = ⟨[33, 97, 93].toArray⟩ := drop_mk rfl
  have z : (⟨[91, 33, 97, 93].toArray⟩ : ByteArray).size = 4 := rfl
  have e3 : (⟨[33, 97, 93].toArray⟩ : ByteArray).extract 1 (⟨[33, 97, 93].toArray⟩ : ByteArray).size = ⟨[97, 93].toArray⟩ := drop_mk rfl
  rw [e2, e3, if_pos (by decide), prefix_yes, Option.bind_some, if_pos rfl, if_pos (by decide), z]
  have z1 : (⟨[97, 93].toArray⟩ : ByteArray).size = 2 := rfl
  have e4 : (⟨[97, 93].toArray⟩ : ByteArray).extract 1 2 = ⟨[93].toArray⟩ := drop_mk rfl
  have z2 : (⟨[93].toArray⟩ : ByteArray).size = 1 := rfl
  have e5 : (⟨[93].toArray⟩ : ByteArray).extract 1 1 = ⟨[].toArray⟩ := drop_mk rfl
  have hst : setStep ⟨[97, 93].toArray⟩ = ((97 : Int), (97 : Int), ⟨[93].toArray⟩) := by
    unfold setStep
    rw [z1, e4, z2, if_neg (by omega)]
    rfl
  rw [setL, z1, if_neg (by omega), if_neg (by omega), hst, setL, z2, if_neg (by omega), if_pos ⟨by omega, rfl⟩, e5]
  simp
theorem good_na : Good [91, 33, 97, 93, 42] := by
  refine good_set (l := [33, 97, 93, 42]) (e := 4) (by decide) (by decide) (by decide) (fun k => end_na k) (fun s hs => ?_)
  refine part_some (L := [⟨#[91, 33, 97, 93]⟩, ⟨#[42]⟩]) (by decide +kernel) (by decide) hs (fun i c hi => ?_)
  rcases (by simp at hi; omega : i = 0 ∨ i = 1) with rfl | rfl
  · show (glob_sign.f ⟨[91, 33, 97, 93].toArray⟩ c).isSome = true
    unfold glob_sign.f
    rw [if_pos (by decide), if_neg (by decide), if_pos (by decide), set_na]
    rfl
  · show (glob_sign.f ⟨#[42]⟩ c).isSome = true
    rw [sign_single 42 c (by decide) (by decide)]
    rfl
def pats : List ByteArray := [(⟨#[97]⟩ : ByteArray), (⟨#[42, 42]⟩ : ByteArray), (⟨#[42]⟩ : ByteArray), (⟨#[97, 47, 42, 42]⟩ : ByteArray), (⟨#[42, 42, 47, 98]⟩ : ByteArray), (⟨#[63]⟩ : ByteArray), (⟨#[91, 97, 45, 98, 93]⟩ : ByteArray), (⟨#[91, 33, 97, 93, 42]⟩ : ByteArray), (⟨#[42, 42, 47, 42, 46, 116, 120, 116]⟩ : ByteArray), (⟨#[120, 42]⟩ : ByteArray), (⟨#[97, 98, 47, 42]⟩ : ByteArray), (⟨#[42, 42, 47, 110, 42]⟩ : ByteArray)]
def pieceOk (l : List UInt8) : Bool := (l != [] && !(l.contains 91) && decide (l.length ≤ 100)) || l == [91, 97, 45, 98, 93] || l == [91, 33, 97, 93, 42]
theorem piece_good {l : List UInt8} (h : pieceOk l = true) : Good l := by
  unfold pieceOk at h
  simp only [Bool.or_eq_true, Bool.and_eq_true, beq_iff_eq, bne_iff_ne, decide_eq_true_iff, Bool.not_eq_true'] at h
  rcases h with (⟨⟨h1, h2⟩, h3⟩ | rfl) | rfl
  · exact good_plain h1 (fun hm => by
      have := List.contains_iff_mem.2 hm
      rw [h2] at this; cases this) h3
  · exact good_ab
  · exact good_na
structure PatOk (p : ByteArray) : Prop where
  pos : 0 < p.size
  size : p.size ≤ 100
  parts : ∀ l ∈ cutL 47 p.data.toList, Good l
theorem pats_ok : ∀ p ∈ pats, PatOk p := by
  have h : pats.all (fun p => decide (0 < p.size ∧ p.size ≤ 8) && (cutL 47 p.data.toList).all pieceOk) = true := by decide +kernel
  intro p hp
  have := List.all_eq_true.1 h p hp
  rw [Bool.and_eq_true, decide_eq_true_iff] at this
  exact ⟨this.1.1, by omega, fun l hl => piece_good (List.all_eq_true.1 this.2 l hl)⟩
theorem pats_size : ∀ p ∈ pats, p.size ≤ 8 := by
  have h : pats.all (fun p => decide (p.size ≤ 8)) = true := by decide +kernel
  intro p hp
  exact of_decide_eq_true (List.all_eq_true.1 h p hp)
theorem join_list (a b : ByteArray) : (a ++ (⟨#[47]⟩ : ByteArray) ++ b).data.toList = a.data.toList ++ 47 :: b.data.toList := by
  rw [app_list, app_list]; simp
theorem join_size (a b : ByteArray) : (a ++ (⟨#[47]⟩ : ByteArray) ++ b).size = a.size + 1 + b.size := by
  rw [ByteArray.size_append, ByteArray.size_append]; rfl
theorem gcheck_good (P : List ByteArray) (hP : P.length ≤ 1000000000) (h : ∀ l ∈ P.map (·.data.toList), Good l) : ∀ (d i : Nat), i + d = P.length → ∃ k, glob_Check.l0 k P (P.length : Int) (i : Int) = some 0
  | 0, i, hd => ⟨1, by rw [glob_Check.l0, if_neg (by omega)]⟩
  | d + 1, i, hd => by
    obtain ⟨k, hk⟩ := gcheck_good P hP h d (i + 1) (by omega)
    have hi : i < P.length := by omega
    have hm : (rdOf ByteArray.empty P (i : Int)).data.toList ∈ P.map (·.data.toList) := by
      unfold rdOf
      simp only [Int.toNat_natCast, List.getD_eq_getElem?_getD, List.getElem?_eq_getElem hi, Option.getD_some]
      exact List.mem_map.2 ⟨_, List.getElem_mem _, rfl⟩
    have g := h _ hm
    obtain ⟨k', hk'⟩ := g.chk P (P.length : Int) (i : Int) 0 (rdOf ByteArray.empty P (i : Int)) k rfl (by rw [w64 (by omega) (by omega)]; exact hk)
    refine ⟨k' + 1, ?_⟩
    rw [glob_Check.l0, if_pos (by omega), if_pos (by omega), if_pos (by omega), ByteArray.toList_eq, if_neg g.ne]
    exact hk'
theorem check_good {s : ByteArray} (h : PatOk s) : ∃ k, ∀ d, glob_Check.f (k + d) s = some 0 := by
  have h0 := h.pos; have hs := h.size
  obtain ⟨P, h1, h2, h3⟩ := split_ok s (by omega)
  obtain ⟨k, hk⟩ := gcheck_good P (by omega) (fun l hl => by
    rw [h2] at hl
    exact h.parts l hl) P.length 0 (by omega)
  refine ⟨k + 1, leO_add (f := fun k => glob_Check.f k s) (fun k => glob_Check.mono s k) ?_⟩
  show glob_Check.f (k + 1) s = some 0
  unfold glob_Check.f
  rw [if_neg (by omega), show decide ((s.size : Int) > 400) = false from decide_eq_false (by omega), glob_Check.j0, if_neg (by decide), h1, Option.bind_some]
  exact hk
theorem rd_mem {P : List ByteArray} {i : Nat} (hi : i < P.length) : rdOf ByteArray.empty P (i : Int) ∈ P := by
  unfold rdOf
  simp only [Int.toNat_natCast, List.getD_eq_getElem?_getD, List.getElem?_eq_getElem hi, Option.getD_some]
  exact List.getElem_mem _
theorem fits_good {p s : ByteArray} (hp : PatOk p) (hs : Plain s) (hss : s.size ≤ 400) : ∃ A B r k, A.map (·.data.toList) = cutL 47 p.data.toList ∧ B.map (·.data.toList) = cutL 47 s.data.toList ∧ (∀ d, glob_Fits.f (k + d) p s = some (r, 0)) ∧ (r = true ↔ Fit A.length B.length (partsSt A) (partsFt A B) 0 0) := by
  obtain ⟨k, hk⟩ := check_good hp
  have hp0 := hp.pos; have hp1 := hp.size
  obtain ⟨A, a1, a2, a3⟩ := parts_spec p (by omega)
  obtain ⟨B, b1, b2, b3⟩ := parts_spec s (by omega)
  unfold partsL at a2 b2
  have hpn : p.data.toList ≠ [] := fun e => by have := size_list p; rw [e] at this; simp at this; omega
  rw [if_neg hpn] at a2
  rw [if_neg (plain_ne hs)] at b2
  have hc : A.length ≤ 1000000000 ∧ B.length ≤ 1000000000 ∧ ((List.range A.length).all fun i => (List.range B.length).all fun k => partsSt A i || (glob_part.f (rdOf ByteArray.empty A (i : Int)) (rdOf ByteArray.empty B (k : Int))).isSome) = true := by
    refine ⟨by omega, by omega, ?_⟩
    rw [List.all_eq_true]
    intro i hi
    rw [List.all_eq_true]
    intro q hq
    have hi := List.mem_range.1 hi
    have hq := List.mem_range.1 hq
    cases h : partsSt A i with
    | true => rfl
    | false =>
      have g := hp.parts _ (by rw [← a2]; exact List.mem_map.2 ⟨_, rd_mem hi, rfl⟩)
      have hb : (rdOf ByteArray.empty B (q : Int)).data.toList ∈ cutL 47 s.data.toList := by rw [← b2]; exact List.mem_map.2 ⟨_, rd_mem hq, rfl⟩
      have h2 := cut_len 47 _ _ hb
      rw [size_list, size_list] at h2
      obtain ⟨r, hr⟩ := g.part (fun e => by
        unfold partsSt at h
        rw [ByteArray.toList_eq, e] at h
        exact absurd h (by decide)) (rdOf ByteArray.empty B (q : Int)) (by omega)
      rw [← is_mk] at hr
      rw [hr]; rfl
  refine ⟨A, B, _, k + 1001, a2, b2, fun d => ?_, fitB_fit⟩
  unfold glob_Fits.f
  rw [show k + 1001 + d = k + (1001 + d) by omega, hk, Option.bind_some, if_pos rfl, path_check_ok hs hss _ (by omega), Option.bind_some, if_pos rfl, a1, Option.bind_some, b1, Option.bind_some]
  unfold glob_parts.f
  rw [if_pos hc, Option.bind_some]
theorem map_inj {A B : List ByteArray} (h : A.map (·.data.toList) = B.map (·.data.toList)) : A = B := by
  induction A generalizing B with
  | nil => cases B with
    | nil => rfl
    | cons b B => cases h
  | cons a A ih => cases B with
    | nil => cases h
    | cons b B =>
      rw [List.map_cons, List.map_cons] at h
      injection h with h1 h2
      rw [bytes_ext h1, ih h2]
theorem rd_left {A A' : List ByteArray} {i : Nat} (hi : i < A.length) : rdOf ByteArray.empty (A ++ A') (i : Int) = rdOf ByteArray.empty A (i : Int) := by
  unfold rdOf
  rw [Int.toNat_natCast, List.getD_eq_getElem?_getD, List.getD_eq_getElem?_getD, List.getElem?_append_left hi]
theorem rd_right {A A' : List ByteArray} {i : Nat} : rdOf ByteArray.empty (A ++ A') ((A.length + i : Nat) : Int) = rdOf ByteArray.empty A' (i : Int) := by
  unfold rdOf
  rw [Int.toNat_natCast, Int.toNat_natCast, List.getD_eq_getElem?_getD, List.getD_eq_getElem?_getD, List.getElem?_append_right (by omega), Nat.add_sub_cancel_left]
/-- Two that fit two. -/
theorem three_fits {a b s t : ByteArray} (ha : a ∈ pats) (hb : b ∈ pats) (hs : Plain s) (ht : Plain t) (hst : s.size + t.size < 400) : ∃ r1 r2 r3 k, (∀ d, glob_Fits.f (k + d) a s = some (r1, 0)) ∧ (∀ d, glob_Fits.f (k + d) b t = some (r2, 0)) ∧ (∀ d, glob_Fits.f (k + d) (a ++ ⟨#[47]⟩ ++ b) (s ++ ⟨#[47]⟩ ++ t) = some (r3, 0)) ∧ (r1 = true → r2 = true → r3 = true) := by
  have pa := pats_ok a ha; have pb := pats_ok b hb
  have sa := pats_size a ha; have sb := pats_size b hb
  have pj : PatOk (a ++ ⟨#[47]⟩ ++ b) := ⟨by rw [join_size]; omega, by rw [join_size]; omega, fun l hl => by
    rw [join_list, cutL_app] at hl
    rcases List.mem_append.1 hl with h | h
    · exact pa.parts l h
    · exact pb.parts l h⟩
  obtain ⟨A1, B1, r1, k1, a1, b1, f1, g1⟩ := fits_good pa hs (by omega)
  obtain ⟨A2, B2, r2, k2, a2, b2, f2, g2⟩ := fits_good pb ht (by omega)
  obtain ⟨A3, B3, r3, k3, a3, b3, f3, g3⟩ := fits_good pj (plain_join hs ht) (by rw [join_size]; omega)
  have eA : A3 = A1 ++ A2 := map_inj (by rw [a3, join_list, cutL_app, List.map_append, a1, a2])
  have eB : B3 = B1 ++ B2 := map_inj (by rw [b3, join_list, cutL_app, List.map_append, b1, b2])
  subst eA
  subst eB
  refine ⟨r1, r2, r3, k1 + k2 + k3, fun d => ?_, fun d => ?_, fun d => ?_, fun h1 h2 => ?_⟩
  · rw [show k1 + k2 + k3 + d = k1 + (k2 + k3 + d) by omega]; exact f1 _
  · rw [show k1 + k2 + k3 + d = k2 + (k1 + k3 + d) by omega]; exact f2 _
  · rw [show k1 + k2 + k3 + d = k3 + (k1 + k2 + d) by omega]; exact f3 _
  · rw [g3, List.length_append, List.length_append]
    obtain ⟨q1, hq1⟩ := g1.1 h1
    obtain ⟨q2, hq2⟩ := g2.1 h2
    refine fit_join1 (by omega) (by omega) (fun i hi => ?_) (fun i k hi hk _ => ?_) (fit_join2 (st2 := partsSt A2) (ft2 := partsFt A2 B2) (fun i hi => ?_) (fun i k hi hk _ => ?_) q2 0 0 hq2) q1 0 0 hq1
    · unfold partsSt; rw [rd_left hi]
    · unfold partsFt; rw [rd_left hi, rd_left hk]
    · unfold partsSt; rw [rd_right]
    · unfold partsFt; rw [rd_right, rd_right]
def RulesOk (R : List S69) : Prop := R.length ≤ 1000000 ∧ ∀ x ∈ R, x.f1 ∈ pats
theorem rules_loop (l : List S23) (hR : ∀ x ∈ l, RawOk x) (hl : l.length ≤ 1048576) : ∀ (d i : Nat) (k : Nat) (acc : List S69), i + d = l.length → d < k → acc.length ≤ i → acc.length ≤ 3 → (∀ x ∈ acc, x.f1 ∈ pats) → ∃ R, creelkeep_Rules.l0 k 3 acc pats l (l.length : Int) (i : Int) = some R ∧ RulesOk R
  | 0, i, k, acc, hd, hk, ha, ha3, hm => by
    obtain ⟨k, rfl⟩ : ∃ q, k = q + 1 := ⟨k - 1, by omega⟩
    exact ⟨acc, by rw [creelkeep_Rules.l0, if_neg (by omega)], by omega, hm⟩
  | d + 1, i, k, acc, hd, hk, ha, ha3, hm => by
    obtain ⟨k, rfl⟩ : ∃ q, k = q + 1 := ⟨k - 1, by omega⟩
    rw [creelkeep_Rules.l0, if_pos (by omega), if_pos (by omega), if_pos (by omega), w64 (by omega) (by omega)]
    by_cases h3 : (i : Int) < 3
    · have hr : RawOk (rd_T23 l (i : Int)) := hR _ (by
        unfold rd_T23
        rw [Int.toNat_natCast, List.getD_eq_getElem?_getD, List.getElem?_eq_getElem (by omega)]
        exact List.getElem_mem _)
      obtain ⟨w0, w1, w2, w3⟩ := hr
      obtain ⟨u, hu, _, _⟩ := picked_spec (m := 2) w0 (by decide)
      obtain ⟨v, hv, v0, v1⟩ := picked_spec (m := 12) w1 (by decide)
      rw [if_pos h3, hu, Option.bind_some, show ((pats.length : Nat) : Int) = 12 from rfl, hv, Option.bind_some, if_pos v0, if_pos v1, if_pos (by omega)]
      refine rules_loop l hR hl d (i + 1) k _ (by omega) (by omega) (by simp; omega) (by simp; omega) (fun x hx => ?_)
      rcases List.mem_append.1 hx with hx | hx
      · exact hm x hx
      · rw [List.mem_singleton] at hx
        subst hx
        have := rd_mem (P := pats) (i := v.toNat) (by show v.toNat < 12; omega)
        rw [show ((v.toNat : Nat) : Int) = v by omega] at this
        exact this
    · rw [if_neg h3]
      exact rules_loop l hR hl d (i + 1) k acc (by omega) (by omega) (by omega) ha3 hm
theorem rules_ok (l : List S23) (hR : ∀ x ∈ l, RawOk x) (hl : l.length ≤ 1048576) : ∃ R, (∀ d, creelkeep_Rules.f (1048577 + d) l 3 = some R) ∧ RulesOk R := by
  obtain ⟨R, h1, h2⟩ := rules_loop l hR hl l.length 0 1048577 [] (by omega) (by omega) (by simp) (by simp) (fun x hx => by cases hx)
  exact ⟨R, leO_add (f := fun k => creelkeep_Rules.f k l 3) (fun k => creelkeep_Rules.mono l 3 k) h1, h2⟩
theorem rd_rule {R : List S69} {i : Nat} (hi : i < R.length) : rd_T69 R (i : Int) ∈ R := by
  unfold rd_T69
  rw [Int.toNat_natCast, List.getD_eq_getElem?_getD, List.getElem?_eq_getElem hi]
  exact List.getElem_mem _
theorem inner_ok (l : List S23) {s t : ByteArray} (hs : Plain s) (ht : Plain t) (hst : s.size + t.size < 400) (R R2 : List S69) (o n : Int) (y : Bool) (a : ByteArray) (ha : a ∈ pats) (h2 : RulesOk R2) (hn : ∃ k, ∀ d, creelkeep_GlobJoins.l0 (k + d) l s t R n (wrap64 (o + 1)) = some true) : ∀ (d i : Nat), i + d = R2.length → ∃ k, ∀ e, creelkeep_GlobJoins.l1 (k + e) l s t R n o R2 (R2.length : Int) (i : Int) y a = some true
  | 0, i, hd => by
    obtain ⟨k, hk⟩ := hn
    refine ⟨k + 1, fun e => ?_⟩
    rw [show k + 1 + e = k + e + 1 by omega, creelkeep_GlobJoins.l1, if_neg (by omega)]
    exact hk e
  | d + 1, i, hd => by
    obtain ⟨k1, hk1⟩ := inner_ok l hs ht hst R R2 o n y a ha h2 hn d (i + 1) (by omega)
    have hl := h2.1
    have hb := h2.2 _ (rd_rule (R := R2) (i := i) (by omega))
    obtain ⟨r1, r2, r3, k2, f1, f2, f3, g⟩ := three_fits ha hb hs ht hst
    have sa := pats_size a ha; have sb := pats_size _ hb
    refine ⟨k1 + k2 + 1, fun e => ?_⟩
    have q1 := f1 (k1 + e); have q2 := f2 (k1 + e); have q3 := f3 (k1 + e); have q4 := hk1 (k2 + e)
    rw [show k2 + (k1 + e) = k1 + k2 + e by omega] at q1 q2 q3
    rw [show k1 + (k2 + e) = k1 + k2 + e by omega] at q4
    have z1 : (a ++ (⟨#[47]⟩ : ByteArray)).size = a.size + 1 := by rw [ByteArray.size_append]; rfl
    have z2 : (s ++ (⟨#[47]⟩ : ByteArray)).size = s.size + 1 := by rw [ByteArray.size_append]; rfl
    rw [show k1 + k2 + 1 + e = k1 + k2 + e + 1 by omega, creelkeep_GlobJoins.l1, if_pos (by omega), if_pos (by omega), if_pos (by omega), q1, Option.bind_some, q2, Option.bind_some, if_pos (by omega), if_pos (by omega), if_pos (by omega), if_pos (by omega), q3, Option.bind_some, w64 (by omega) (by omega)]
    dsimp only
    rw [if_pos rfl, if_pos rfl, if_pos rfl]
    cases r1 with
    | false => rw [if_neg (by decide)]; exact q4
    | true =>
      rw [if_pos rfl]
      cases r2 with
      | false => rw [if_neg (by decide)]; exact q4
      | true => rw [if_pos rfl, if_pos (g rfl rfl)]; exact q4
theorem outer_ok (l : List S23) {s t : ByteArray} (hs : Plain s) (ht : Plain t) (hst : s.size + t.size < 400) (R R2 : List S69) (h1 : RulesOk R) (h2 : RulesOk R2) (hr : ∀ d, creelkeep_Rules.f (1048577 + d) l 3 = some R2) (he : ∃ k, ∀ d, glob_Fits.f (k + d) (⟨#[91, 97, 45, 99, 93, 63, 42]⟩ : ByteArray) (⟨#[98, 120, 121]⟩ : ByteArray) = some (true, 0)) : ∀ (d i : Nat), i + d = R.length → ∃ k, ∀ e, creelkeep_GlobJoins.l0 (k + e) l s t R (R.length : Int) (i : Int) = some true
  | 0, i, hd => by
    obtain ⟨k, hk⟩ := he
    refine ⟨k + 1, fun e => ?_⟩
    rw [show k + 1 + e = k + e + 1 by omega, creelkeep_GlobJoins.l0, if_neg (by omega), hk, Option.bind_some]
    rfl
  | d + 1, i, hd => by
    obtain ⟨k1, hk1⟩ := outer_ok l hs ht hst R R2 h1 h2 hr he d (i + 1) (by omega)
    have hl := h1.1
    have ha := h1.2 _ (rd_rule (R := R) (i := i) (by omega))
    obtain ⟨k2, hk2⟩ := inner_ok l hs ht hst R R2 (i : Int) (R.length : Int) ((rd_T69 R (i : Int)).f0) _ ha h2 ⟨k1, fun d => by rw [w64 (by omega) (by omega)]; exact hk1 d⟩ R2.length 0 (by omega)
    refine ⟨k2 + 1048577 + 1, fun e => ?_⟩
    have q1 := hr (k2 + e); have q2 := hk2 (1048577 + e)
    rw [show 1048577 + (k2 + e) = k2 + 1048577 + e by omega] at q1
    rw [show k2 + (1048577 + e) = k2 + 1048577 + e by omega] at q2
    rw [show k2 + 1048577 + 1 + e = k2 + 1048577 + e + 1 by omega, creelkeep_GlobJoins.l0, if_pos (by omega), if_pos (by omega), if_pos (by omega), q1, Option.bind_some]
    exact q2
theorem GlobJoins : creelkeep_GlobJoins.Pure := by
  intro l0 l1 a2 a3 hl hR hl1 hR1 w2 w3
  obtain ⟨ps, h1, h2, h3, h4⟩ := paths_ok grows_plain (plain_lit _ (by decide) (by decide) (by decide)) 10 l0 hR hl
  obtain ⟨i, hi, hi0, hi1⟩ := picked_spec (m := (ps.length : Int)) w2 (by omega)
  obtain ⟨j, hj, hj0, hj1⟩ := picked_spec (m := (ps.length : Int)) w3 (by omega)
  have hm : ∀ q : Int, 0 ≤ q → q < ps.length → rdOf ByteArray.empty ps q ∈ ps := fun q q0 q1 => by
    unfold rdOf; rw [List.getD_eq_getElem?_getD, List.getElem?_eq_getElem (by omega)]; exact List.getElem_mem _
  obtain ⟨sp, ss⟩ := h4 _ (hm i hi0 hi1)
  obtain ⟨tp, ts⟩ := h4 _ (hm j hj0 hj1)
  unfold creelkeep_GlobJoins.f
  generalize hs : rdOf ByteArray.empty ps i = s at sp ss
  generalize ht : rdOf ByteArray.empty ps j = t at tp ts
  by_cases hst : s.size + t.size < 400
  · obtain ⟨R, q1, g1⟩ := rules_ok l1 hR1 hl1
    obtain ⟨R2, q2, g2⟩ := rules_ok l0 hR hl
    obtain ⟨k, hk⟩ := outer_ok l0 sp tp hst R R2 g1 g2 q2 ⟨60, leO_add (f := fun k => glob_Fits.f k _ _) (fun k => glob_Fits.mono _ _ k) (by decide +kernel)⟩ R.length 0 (by omega)
    refine ⟨k + 1048577, ?_⟩
    have e1 := q1 k
    rw [Nat.add_comm] at e1
    rw [h1, Option.bind_some, hi, Option.bind_some, if_pos hi0, if_pos hi1, hj, Option.bind_some, if_pos hj0, if_pos hj1, hs, ht, w64 (by omega) (by omega), if_neg (by omega), e1, Option.bind_some]
    exact hk 1048577
  · refine ⟨1001, ?_⟩
    rw [h1, Option.bind_some, hi, Option.bind_some, if_pos hi0, if_pos hi1, hj, Option.bind_some, if_pos hj0, if_pos hj1, hs, ht, w64 (by omega) (by omega), if_pos (by omega), path_check_ok sp ss _ (by omega), Option.bind_some]
    rfl

end Go.Proofs.YthonjghpblkpgaaDoor.Pure
