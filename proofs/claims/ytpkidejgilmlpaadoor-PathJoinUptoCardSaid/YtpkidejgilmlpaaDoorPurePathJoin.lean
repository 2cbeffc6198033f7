/- A path's parts join to it, and its folder and its last part too: for all strings (second form: what it reads is of bulk at most 1048576). -/
import Derived.Test.YtpkidejgilmlpaaDoorPPathJoinx2
import Derived.OpenShut
import Derived.Lib.SplitLaws
import Derived.Lib.IndexBytes
import Derived.Lib.Join
import Derived.Lib.Strings
import Derived.Lib.SmallJoins
namespace Go.Proofs.YtpkidejgilmlpaaDoor.Pure
open Go.RowKit Go.Proofs.YtpkidejgilmlpaaDoor.PPathJoin Go.Proofs.YtpkidejgilmlpaaDoorW.PrintWords Go.Proofs.YtpkidejgilmlpaaDoorW.PrintLast Go.Proofs.YtpkidejgilmlpaaDoorW.PrintMore
set_option linter.unusedVariables false
set_option linter.unusedSimpArgs false

theorem w64 {n : Int} (h1 : -9223372036854775808 ≤ n) (h2 : n ≤ 9223372036854775807) : wrap64 n = n := by
  unfold wrap64
  omega

theorem app_list (a b : ByteArray) : (a ++ b).data.toList = a.data.toList ++ b.data.toList := by
  rw [ByteArray.data_append, Array.toList_append]
theorem size_list (a : ByteArray) : a.data.toList.length = a.size := by
  rw [Array.length_toList]; rfl
theorem bytes_ext {a b : ByteArray} (h : a.data.toList = b.data.toList) : a = b := by
  cases a; cases b; simp_all [← Array.toList_inj]

theorem idx_none : ∀ (t : List UInt8) (c : UInt8), c ∉ t → Lib.indexByte t c = -1
  | [], _, _ => rfl
  | b :: t, c, h => by
    have hb : (b == c) = false := by rw [beq_eq_false_iff_ne]; intro e; exact h (by simp [e])
    have ih := idx_none t c (fun hm => h (by simp [hm]))
    simp [Lib.indexByte, hb, ih]
theorem idx_at : ∀ (t r : List UInt8) (c : UInt8), c ∉ t → Lib.indexByte (t ++ c :: r) c = t.length
  | [], r, c, _ => by simp [Lib.indexByte]
  | b :: t, r, c, h => by
    have hb : (b == c) = false := by rw [beq_eq_false_iff_ne]; intro e; exact h (by simp [e])
    have ih := idx_at t r c (fun hm => h (by simp [hm]))
    have hn : ((t.length : Int) == -1) = false := by rw [beq_eq_false_iff_ne]; omega
    simp [Lib.indexByte, hb, ih, hn]
theorem idx_split (l : List UInt8) (c : UInt8) : ∃ t r, l = t ++ r ∧ c ∉ t ∧ (r = [] ∨ ∃ r', r = c :: r') := by
  induction l with
  | nil => exact ⟨[], [], rfl, by simp, .inl rfl⟩
  | cons b l ih =>
    by_cases e : b = c
    · exact ⟨[], b :: l, rfl, by simp, .inr ⟨l, by rw [e]⟩⟩
    · obtain ⟨t, r, h1, h2, h3⟩ := ih
      exact ⟨b :: t, r, by rw [h1]; rfl, by simp [Ne.symm e, h2], h3⟩
theorem repeat_one (c : UInt8) : ∀ n, Lib.repeatL [c] n = List.replicate n c
  | 0 => rfl
  | n + 1 => by simp [Lib.repeatL, repeat_one c n, List.replicate_succ]
theorem mk_list (l : List UInt8) : (⟨l.toArray⟩ : ByteArray).data.toList = l := by simp
theorem mk_size (l : List UInt8) : (⟨l.toArray⟩ : ByteArray).size = l.length := by rw [← size_list, mk_list]
theorem is_mk (s : ByteArray) : s = ⟨s.data.toList.toArray⟩ := by cases s; simp
theorem mk_inj {a b : List UInt8} : (⟨a.toArray⟩ : ByteArray) = ⟨b.toArray⟩ ↔ a = b := ⟨fun h => by have := congrArg (fun x : ByteArray => x.data.toList) h; simpa using this, fun h => by rw [h]⟩
theorem dw_nil (p : UInt8 → Bool) : ∀ l : List UInt8, l.dropWhile p = [] ↔ ∀ x ∈ l, p x = true
  | [] => by simp
  | a :: l => by
    by_cases h : p a = true
    · rw [List.dropWhile_cons_of_pos h, dw_nil p l]; simp [h]
    · rw [List.dropWhile_cons_of_neg h]; simp [h]
theorem trim_zero (r : List UInt8) (c : UInt8) : Lib.trimB r c = [] ↔ ∀ x ∈ r, x = c := by
  unfold Lib.trimB Lib.trimLeftB Lib.trimRightB
  constructor
  · intro h x hx
    have h1 : ∀ y ∈ (r.reverse.dropWhile (· == c)).reverse, (y == c) = true := by
      rw [dw_nil] at h
      exact h
    have h2 : r.reverse.dropWhile (· == c) = [] := by
      cases hd : r.reverse.dropWhile (· == c) with
      | nil => rfl
      | cons a l =>
        have ha := h1 a (by rw [hd]; simp)
        have := List.head?_dropWhile_not (· == c) r.reverse
        rw [hd] at this
        simp [ha] at this
    rw [dw_nil] at h2
    exact eq_of_beq (h2 x (by simpa using hx))
  · intro h
    have h2 : r.reverse.dropWhile (· == c) = [] := by
      rw [dw_nil]
      intro x hx
      exact beq_iff_eq.2 (h x (by simpa using hx))
    rw [h2]
    rfl
theorem toList_mk (l : List UInt8) : (⟨l.toArray⟩ : ByteArray).toList = l := by rw [ByteArray.toList_eq, mk_list]

def cutL (c : UInt8) : List UInt8 → List (List UInt8)
  | [] => [[]]
  | b :: l => if b = c then [] :: cutL c l else match cutL c l with
    | [] => [[b]]
    | t :: r => (b :: t) :: r
theorem cutL_ne (c : UInt8) : ∀ l, cutL c l ≠ []
  | [] => by simp [cutL]
  | b :: l => by unfold cutL; split; · simp
                 · split <;> simp
theorem cutL_app (c : UInt8) (v : List UInt8) : ∀ u, cutL c (u ++ c :: v) = cutL c u ++ cutL c v
  | [] => by simp [cutL]
  | b :: u => by
    rw [List.cons_append, cutL, cutL, cutL_app c v u]
    by_cases h : b = c
    · rw [if_pos h, if_pos h]; rfl
    · rw [if_neg h, if_neg h]
      cases e : cutL c u with
      | nil => exact absurd e (cutL_ne c u)
      | cons t r => rfl
theorem cutL_none (c : UInt8) : ∀ u, c ∉ u → cutL c u = [u]
  | [], _ => rfl
  | b :: u, h => by
    have hb : b ≠ c := fun e => h (by simp [e])
    rw [cutL, if_neg hb, cutL_none c u (fun hm => h (by simp [hm]))]
def joinL (c : UInt8) : List (List UInt8) → List UInt8
  | [] => []
  | [t] => t
  | t :: s :: r => t ++ c :: joinL c (s :: r)
theorem joinL_cut (c : UInt8) : ∀ l, joinL c (cutL c l) = l
  | [] => rfl
  | b :: l => by
    have ih := joinL_cut c l
    rw [cutL]
    by_cases h : b = c
    · rw [if_pos h]
      cases e : cutL c l with
      | nil => exact absurd e (cutL_ne c l)
      | cons t r => rw [e] at ih; rw [joinL, ih, h]; rfl
    · rw [if_neg h]
      cases e : cutL c l with
      | nil => exact absurd e (cutL_ne c l)
      | cons t r =>
        rw [e] at ih
        cases r with
        | nil => simp only [joinL] at ih ⊢; rw [ih]
        | cons s r => simp only [joinL] at ih ⊢; rw [List.cons_append, ih]
theorem cutL_inj (c : UInt8) {a b : List UInt8} (h : cutL c a = cutL c b) : a = b := by
  rw [← joinL_cut c a, h, joinL_cut]
theorem splitK_cut (c : UInt8) : ∀ (n : Nat) (l : List UInt8), l.length ≤ n → Lib.splitK [c] 0 (l.count c) l = cutL c l := by
  intro n
  induction n with
  | zero => intro l h; have : l = [] := List.eq_nil_of_length_eq_zero (by omega); subst this; rfl
  | succ n ih =>
    intro l h
    obtain ⟨t, r, h1, h2, h3⟩ := idx_split l c
    subst h1
    rcases h3 with h3 | ⟨r', h3⟩
    · subst h3
      rw [List.append_nil, List.count_eq_zero_of_not_mem h2, cutL_none c t h2]; rfl
    · subst h3
      have hc : (t ++ c :: r').count c = r'.count c + 1 := by
        rw [List.count_append, List.count_eq_zero_of_not_mem h2, List.count_cons_self]; omega
      have hi : Lib.index (t ++ c :: r') [c] = t.length := by rw [Lib.index_one, idx_at t r' c h2]
      have hm : ¬ ((Lib.index (t ++ c :: r') [c] == -1) = true) := by rw [beq_iff_eq, hi]; omega
      have hx : r'.length ≤ n := by simp at h; omega
      rw [hc, Lib.splitK, if_neg hm, hi, cutL_app, cutL_none c t h2]
      have e1 : (t ++ c :: r').take ((t.length : Int).toNat + 0) = t := by simp
      have e2 : (t ++ c :: r').drop ((t.length : Int).toNat + [c].length) = r' := by simp [List.drop_append]
      rw [e1, e2, ih r' hx]
      rfl
theorem splitB_cut (c : UInt8) (s : ByteArray) : (Lib.splitB ⟨#[c]⟩ 0 (Lib.countB s ⟨#[c]⟩) s).map (·.data.toList) = cutL c s.data.toList := by
  rw [Lib.splitB_data]
  have : Lib.countB s ⟨#[c]⟩ = s.data.toList.count c := Lib.count_one c s.data.toList
  rw [this]
  exact splitK_cut c _ _ (Nat.le_refl _)

theorem bt_list (s : ByteArray) (i : Int) (h : i.toNat < s.size) : bt s i = ((s.data.toList.getD i.toNat 0).toNat : Int) := by
  unfold bt
  rw [dif_pos h]
  have hl : i.toNat < s.data.toList.length := by rw [size_list]; exact h
  rw [List.getD_eq_getElem?_getD, List.getElem?_eq_getElem hl]
  rfl
theorem bt_nums (l : List Int) (i : Int) (h : i.toNat < l.length) (hr : 0 ≤ l.getD i.toNat 0 ∧ l.getD i.toNat 0 ≤ 255) : bt (strOfNums l) i = l.getD i.toNat 0 := by
  rw [bt_list _ _ (by rw [strOfNums_size]; exact h), strOfNums_data]
  rw [List.getD_eq_getElem?_getD, List.getElem?_map]
  rw [List.getD_eq_getElem?_getD] at hr ⊢
  rw [List.getElem?_eq_getElem h] at hr ⊢
  simp only [Option.map_some, Option.getD_some] at hr ⊢
  have : (UInt8.ofNat l[i.toNat].toNat).toNat = l[i.toNat].toNat := by
    rw [UInt8.toNat_ofNat']
    omega
  omega

theorem last_loop (a : ByteArray) (c : UInt8) (n : Nat) (r : Int) (hs : a.size ≤ 9223372036854775806) (hr : (n = 0 ∧ r = -1) ∨ (0 < n ∧ a.data.toList.getD (n - 1) 0 = c ∧ r = n - 1)) (hn : ∀ j, n ≤ j → j < a.size → a.data.toList.getD j 0 ≠ c) :
    ∀ (k i : Nat), n ≤ i → i ≤ a.size → i < k → bytealg_LastIndexByteString.l0 k a (c.toNat : Int) ((i : Int) - 1) = some r
  | 0, i, _, _, h => absurd h (by omega)
  | k + 1, 0, h1, _, _ => by
    rw [bytealg_LastIndexByteString.l0, if_neg (by omega)]
    rcases hr with ⟨_, hr⟩ | ⟨hr, _⟩
    · rw [hr]
    · omega
  | k + 1, i + 1, h1, h2, h3 => by
    have e : ((i + 1 : Nat) : Int) - 1 = (i : Int) := by omega
    rw [bytealg_LastIndexByteString.l0, e, if_pos (by omega), if_pos (by omega), if_pos (by omega), bt_list _ _ (by omega)]
    have e2 : ((i : Int)).toNat = i := by omega
    rw [e2]
    by_cases h : a.data.toList.getD i 0 = c
    · rw [if_pos (by rw [h])]
      have : n = i + 1 := by
        by_cases q : n ≤ i
        · exact absurd h (hn i q (by omega))
        · omega
      rcases hr with ⟨hr, _⟩ | ⟨_, _, hr⟩
      · omega
      · rw [hr, this]; congr 1; omega
    · rw [if_neg (fun hh => h (UInt8.toNat_inj.1 (by omega)))]
      have hni : n ≤ i := by
        by_cases q : n ≤ i
        · exact q
        · have : n = i + 1 := by omega
          rcases hr with ⟨hr, _⟩ | ⟨_, hr, _⟩
          · omega
          · rw [this] at hr; exact absurd hr h
      rw [w64 (by omega) (by omega)]
      exact last_loop a c n r hs hr hn k i hni (by omega) (by omega)
theorem last_none (a : ByteArray) (c : UInt8) (k : Nat) (hs : a.size ≤ 9223372036854775806) (hk : a.size < k) (h : c ∉ a.data.toList) : bytealg_LastIndexByteString.f k a (c.toNat : Int) = some (-1) := by
  unfold bytealg_LastIndexByteString.f
  rw [w64 (by omega) (by omega)]
  refine last_loop a c 0 (-1) hs (.inl ⟨rfl, rfl⟩) (fun j _ hj e => h ?_) k a.size (by omega) (Nat.le_refl _) hk
  rw [← e, List.getD_eq_getElem?_getD, List.getElem?_eq_getElem (by rw [size_list]; exact hj)]
  exact List.getElem_mem _
theorem last_at (a : ByteArray) (c : UInt8) (u v : List UInt8) (k : Nat) (hs : a.size ≤ 9223372036854775806) (hk : a.size < k) (ha : a.data.toList = u ++ c :: v) (h : c ∉ v) : bytealg_LastIndexByteString.f k a (c.toNat : Int) = some (u.length : Int) := by
  unfold bytealg_LastIndexByteString.f
  rw [w64 (by omega) (by omega)]
  have hl : a.size = u.length + 1 + v.length := by rw [← size_list, ha]; simp; omega
  refine last_loop a c (u.length + 1) _ hs (.inr ⟨by omega, ?_, by omega⟩) (fun j h1 hj e => h ?_) k a.size (by omega) (Nat.le_refl _) hk
  · rw [ha]; simp
  · rw [ha, List.getD_eq_getElem?_getD, List.getElem?_append_right (by omega)] at e
    obtain ⟨m, hm⟩ : ∃ m, j - u.length = m + 1 := ⟨j - u.length - 1, by omega⟩
    rw [hm, List.getElem?_cons_succ, List.getElem?_eq_getElem (by omega)] at e
    rw [← e]
    exact List.getElem_mem _
theorem mem_last (c : UInt8) : ∀ l : List UInt8, c ∈ l → ∃ u v, l = u ++ c :: v ∧ c ∉ v
  | [], h => by simp at h
  | b :: l, h => by
    by_cases hl : c ∈ l
    · obtain ⟨u, v, h1, h2⟩ := mem_last c l hl
      exact ⟨b :: u, v, by rw [h1]; rfl, h2⟩
    · have : b = c := by
        rcases List.mem_cons.1 h with h | h
        · exact h.symm
        · exact absurd h hl
      exact ⟨[], l, by rw [this]; rfl, hl⟩
theorem ext_take (s : ByteArray) (n : Nat) : (s.extract 0 n).data.toList = s.data.toList.take n := by simp [ByteArray.data_extract]
theorem ext_drop (s : ByteArray) (n : Nat) : (s.extract n s.size).data.toList = s.data.toList.drop n := by
  rw [ByteArray.data_extract, Array.toList_extract]
  have : s.size = s.data.toList.length := (size_list s).symm
  rw [this, List.extract_eq_take_drop]
  exact List.take_of_length_le (by simp)

theorem contains_one (l : List UInt8) (c : UInt8) : Lib.contains l [c] = decide (c ∈ l) := by
  unfold Lib.contains
  rw [Lib.index_one]
  obtain ⟨t, r, h1, h2, h3⟩ := idx_split l c
  subst h1
  rcases h3 with h3 | ⟨r', h3⟩
  · subst h3
    rw [List.append_nil, idx_none t c h2]
    simp [h2]
  · subst h3
    rw [idx_at t r' c h2]
    simp
theorem join_joinL (c : UInt8) : ∀ xs, Lib.join xs [c] = joinL c xs
  | [] => rfl
  | [x] => Lib.join_one x [c]
  | x :: y :: r => by
    have h := join_joinL c (y :: r)
    rw [Lib.join_cons, joinL, ← h, Lib.join_cons]
    simp [Lib.joinTail]
theorem check_ab (n : Nat) : path_Check.f (n + 10) ⟨#[97, 47, 98]⟩ = some 0 := by
  have h1 : strings_IndexByte.f ⟨#[97, 47, 98]⟩ 0 = some (-1) := by decide +kernel
  have h2 : strings_Split.f ⟨#[97, 47, 98]⟩ ⟨#[47]⟩ = some [⟨#[97]⟩, ⟨#[98]⟩] := by decide +kernel
  have h3 : ∀ n, path_Check.l0 (n + 3) [⟨#[97]⟩, ⟨#[98]⟩] 2 0 = some 0 := by
    intro n
    rw [path_Check.l0, if_pos (by decide), if_pos (by decide), if_pos (by decide), if_neg (by decide +kernel), if_neg (by decide +kernel), if_neg (by decide +kernel)]
    rw [show wrap64 (0 + 1) = 1 from by decide +kernel, path_Check.l0, if_pos (by decide), if_pos (by decide), if_pos (by decide), if_neg (by decide +kernel), if_neg (by decide +kernel), if_neg (by decide +kernel)]
    rw [show wrap64 (1 + 1) = 2 from by decide +kernel, path_Check.l0, if_neg (by decide)]
  unfold path_Check.f
  rw [if_neg (by decide), show decide (((⟨#[97, 47, 98]⟩ : ByteArray).size : Int) > 400) = false from by decide, path_Check.j0, if_neg (by simp), h1, Option.bind_some, if_neg (by decide), h2, Option.bind_some]
  exact h3 (n + 6)
theorem up_ab (n : Nat) : path_Up.f (n + 10) ⟨#[97, 47, 98]⟩ = some ⟨#[97]⟩ := by
  unfold path_Up.f strings_LastIndexByte.f
  rw [show (47 : Int) = ((47 : UInt8).toNat : Int) from rfl, last_at ⟨#[97, 47, 98]⟩ 47 [97] [98] (n + 10) (by decide) (by rw [show (⟨#[97, 47, 98]⟩ : ByteArray).size = 3 from rfl]; omega) rfl (by decide)]
  rfl
theorem PathJoin : creelkeep_PathJoin.Pure := by
  intro a ha
  refine ⟨a.size + 10, ?_⟩
  unfold creelkeep_PathJoin.f path_Parts.f path_Up.f path_Base.f strings_LastIndexByte.f strings_Split.f
  have hu := up_ab a.size
  unfold path_Up.f strings_LastIndexByte.f at hu
  rw [check_ab, hu]
  simp only [Option.bind_some, if_true]
  rw [show ((⟨#[97]⟩ : ByteArray).toList != ([97] : List UInt8)) = false from by decide +kernel]
  have c47 : (47 : Int) = ((47 : UInt8).toNat : Int) := rfl
  have hne : ¬ (false = true) := by simp
  have e47 : (⟨#[47]⟩ : ByteArray).data.toList = [47] := rfl
  rw [if_pos (show (⟨#[47]⟩ : ByteArray).size = 1 from rfl), if_pos (show a.size < 4294967281 by omega), c47]
  have hsz := size_list a
  by_cases hm : (47 : UInt8) ∈ a.data.toList
  · obtain ⟨u, v, h1, h2⟩ := mem_last 47 _ hm
    have hl : a.size = u.length + 1 + v.length := by rw [← size_list, h1]; simp; omega
    have hnil : a.data.toList ≠ [] := by rw [h1]; simp
    rw [ByteArray.toList_eq, if_neg hnil, last_at a 47 u v _ (by omega) (by omega) h1 h2]
    repeat rw [Option.bind_some]
    rw [if_neg (by omega), if_pos (by omega), if_pos (by omega), w64 (by omega) (by omega), if_pos (by omega), if_pos (by omega)]
    repeat rw [Option.bind_some]
    rw [creelkeep_PathJoin.j0, if_neg hne]
    unfold strings_Contains.f strings_Join.f
    rw [if_pos (by omega : a.size < 4294967281), Option.bind_some, e47, contains_one, if_pos (by simpa using hm)]
    have hx := splitB_cut 47 a
    obtain ⟨P, hP⟩ : ∃ P, Lib.splitB ⟨#[47]⟩ 0 (Lib.countB a ⟨#[47]⟩) a = P := ⟨_, rfl⟩
    rw [hP] at hx ⊢
    have hj : Lib.join (P.map (·.data.toList)) [47] = a.data.toList := by rw [hx, join_joinL, joinL_cut]
    have hPl : P.length ≤ a.size + 1 := by
      rw [← hP]
      refine Nat.le_trans (Lib.splitB_length_le _ _ _ _) ?_
      have := Lib.countB_le ⟨#[47]⟩ (by decide) a.size a (Nat.le_refl _)
      omega
    have tu : a.data.toList.take u.length = u := by rw [h1]; simp
    have tv : a.data.toList.drop (u.length + 1) = v := by rw [h1]; simp
    have eu : a.extract 0 ((u.length : Int)).toNat = ⟨u.toArray⟩ := by
      apply bytes_ext; rw [ext_take, Int.toNat_natCast, tu]
    have ev : a.extract ((u.length : Int) + 1).toNat a.size = ⟨v.toArray⟩ := by
      apply bytes_ext; rw [ext_drop, show ((u.length : Int) + 1).toNat = u.length + 1 by omega, tv]
    rw [eu, ev, mk_size, if_pos (by omega), ByteArray.size_append, mk_size, mk_size, if_pos (by rw [mk_size]; simp only [List.length_singleton]; omega)]
    rw [ByteArray.toList_eq, app_list, app_list, mk_list, mk_list, mk_list, ByteArray.toList_eq, if_pos (by rw [h1]; simp)]
    rw [if_pos (by omega), hj, hsz, if_pos (by omega), Option.bind_some, toList_mk, if_pos rfl, if_neg hnil]
    -- the last part
    have hlast : P.map (·.data.toList) = cutL 47 u ++ [v] := by rw [hx, h1, cutL_app, cutL_none 47 v h2]
    have hPn : P.length = (cutL 47 u).length + 1 := by have := congrArg List.length hlast; simpa using this
    rw [w64 (by omega) (by omega), if_pos (by omega), if_pos (by omega)]
    have hg : (rdOf ByteArray.empty P ((P.length : Int) - 1)).data.toList = v := by
      have e1 : ((P.length : Int) - 1).toNat = P.length - 1 := by omega
      unfold rdOf
      rw [e1, List.getD_eq_getElem?_getD]
      have h3 : (P.map (·.data.toList))[P.length - 1]? = some v := by rw [hlast, hPn]; simp
      rw [List.getElem?_map] at h3
      cases h4 : P[P.length - 1]? with
      | none => rw [h4] at h3; cases h3
      | some y => rw [h4] at h3; simpa using h3
    rw [ByteArray.toList_eq, hg, toList_mk]
    simp
  · rw [last_none a 47 _ (by omega) (by omega) hm]
    simp only [Option.bind_some]
    rw [if_pos (show (-1 : Int) < 0 by decide)]
    simp only [Option.bind_some]
    rw [w64 (by decide) (by decide), if_pos (show (0 : Int) ≤ -1 + 1 by decide), if_pos (show (-1 : Int) + 1 ≤ (a.size : Int) by omega)]
    simp only [Option.bind_some]
    have e0 : a.extract ((-1 : Int) + 1).toNat a.size = a := by apply bytes_ext; rw [ext_drop]; simp
    rw [e0, ByteArray.toList_eq]
    by_cases hnil : a.data.toList = []
    · rw [if_pos hnil, Option.bind_some, creelkeep_PathJoin.j0, if_neg hne]
      unfold strings_Contains.f strings_Join.f
      rw [if_pos (by omega : a.size < 4294967281), Option.bind_some, e47, contains_one, if_neg (by simpa using hm)]
      rw [ByteArray.toList_eq, if_pos rfl, if_pos (by decide)]
      rw [if_pos (by decide), Option.bind_some, hnil, toList_mk, if_pos rfl, List.map_nil, Lib.join_nil, if_pos rfl]
    · rw [if_neg hnil, Option.bind_some, creelkeep_PathJoin.j0, if_neg hne]
      unfold strings_Contains.f strings_Join.f
      rw [if_pos (by omega : a.size < 4294967281), Option.bind_some, e47, contains_one, if_neg (by simpa using hm)]
      have hx := splitB_cut 47 a
      rw [cutL_none 47 _ hm] at hx
      obtain ⟨P, hP⟩ : ∃ P, Lib.splitB ⟨#[47]⟩ 0 (Lib.countB a ⟨#[47]⟩) a = P := ⟨_, rfl⟩
      rw [hP] at hx ⊢
      have hPa : P = [a] := by
        cases P with
        | nil => cases hx
        | cons p r =>
          simp only [List.map_cons, List.cons.injEq, List.map_eq_nil_iff] at hx
          rw [hx.2, bytes_ext hx.1]
      subst hPa
      rw [ByteArray.toList_eq, if_pos rfl, if_pos (by simp), hx, Lib.join_one, hsz, if_pos (by omega), Option.bind_some, toList_mk, if_pos rfl, if_neg hnil]
      rw [show ((([a] : List ByteArray).length : Int) - 1) = 0 from rfl, w64 (by decide) (by decide), if_pos (by decide), if_pos (by simp)]
      simp [rdOf, ByteArray.toList_eq]

end Go.Proofs.YtpkidejgilmlpaaDoor.Pure
