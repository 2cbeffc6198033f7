/- Members made of raw numbers: plain facts on their paths. -/
import Derived.Test.YtnfbomhhgjlacaaDoorRtree3
namespace Go.Proofs.YtnfbomhhgjlacaaDoor.Abs
open Go.RowKit Go.MapKept
set_option linter.unusedVariables false
set_option linter.unusedSimpArgs false
set_option maxRecDepth 100000
set_option maxHeartbeats 4000000
/-- What a path's bytes may be, up to some place: b: a part begins here. -/
def wP : Bool → List UInt8 → Bool
  | _, [] => true
  | true, c :: l => decide (c ≠ 47) && decide (c ≠ 46) && decide (c ≠ 0) && wP false l
  | false, c :: l => decide (c ≠ 0) && wP (decide (c = 47)) l
/-- Is the end where a part begins? -/
def eP : Bool → List UInt8 → Bool
  | b, [] => b
  | _, c :: l => eP (decide (c = 47)) l
theorem wP_take : ∀ (l : List UInt8) (b : Bool) (n : Nat), wP b l = true → wP b (l.take n) = true
  | [], b, n, h => by rw [List.take_nil]; exact h
  | c :: l, b, 0, h => by rw [List.take_zero]; unfold wP; rfl
  | c :: l, true, n + 1, h => by
    rw [List.take_succ_cons]
    simp only [wP, Bool.and_eq_true] at h ⊢
    exact ⟨h.1, wP_take l _ n h.2⟩
  | c :: l, false, n + 1, h => by
    rw [List.take_succ_cons]
    simp only [wP, Bool.and_eq_true] at h ⊢
    exact ⟨h.1, wP_take l _ n h.2⟩
theorem wP_app : ∀ (l m : List UInt8) (b : Bool), wP b l = true → wP (eP b l) m = true → wP b (l ++ m) = true
  | [], m, b, _, h => h
  | c :: l, m, true, h1, h2 => by
    rw [List.cons_append]
    simp only [wP, Bool.and_eq_true] at h1 ⊢
    have h47 : decide (c = 47) = false := by simpa using h1.1.1.1
    rw [eP, h47] at h2
    exact ⟨h1.1, wP_app l m _ h1.2 h2⟩
  | c :: l, m, false, h1, h2 => by
    rw [List.cons_append]
    simp only [wP, Bool.and_eq_true] at h1 ⊢
    exact ⟨h1.1, wP_app l m _ h1.2 h2⟩
theorem eP_app : ∀ (l m : List UInt8) (b : Bool), eP b (l ++ m) = eP (eP b l) m
  | [], m, b => rfl
  | c :: l, m, b => eP_app l m _
theorem wP_back : ∀ (l m : List UInt8) (b : Bool), wP b (l ++ m) = true → wP (eP b l) m = true
  | [], m, b, h => h
  | c :: l, m, true, h => by
    rw [List.cons_append] at h
    simp only [wP, Bool.and_eq_true] at h
    have h47 : decide (c = 47) = false := by simpa using h.1.1.1
    rw [eP, h47]
    exact wP_back l m _ h.2
  | c :: l, m, false, h => by
    rw [List.cons_append] at h
    simp only [wP, Bool.and_eq_true] at h
    exact wP_back l m _ h.2
theorem wP_zero : ∀ (l : List UInt8) (b : Bool), wP b l = true → (0 : UInt8) ∉ l
  | [], b, _ => by simp
  | c :: l, true, h => by
    simp only [wP, Bool.and_eq_true] at h
    have hc : c ≠ 0 := by simpa using h.1.2
    rw [List.mem_cons, not_or]
    exact ⟨fun e => hc e.symm, wP_zero l _ h.2⟩
  | c :: l, false, h => by
    simp only [wP, Bool.and_eq_true] at h
    have hc : c ≠ 0 := by simpa using h.1
    rw [List.mem_cons, not_or]
    exact ⟨fun e => hc e.symm, wP_zero l _ h.2⟩
/-- A part that may be: it begins with no dot. -/
def PartOk (p : List UInt8) : Prop := ∃ c q, p = c :: q ∧ c ≠ 46
theorem parts_ok : ∀ (l : List UInt8) (b : Bool), wP b l = true → eP b l = false → ∃ p r, cutL 47 l = p :: r ∧ (∀ q ∈ r, PartOk q) ∧ (b = true → PartOk p)
  | [], true, _, h => by cases h
  | [], false, _, _ => ⟨[], [], rfl, by simp, by simp⟩
  | c :: l, true, h, he => by
    simp only [wP, Bool.and_eq_true] at h
    have h47 : c ≠ 47 := by simpa using h.1.1.1
    have h46 : c ≠ 46 := by simpa using h.1.1.2
    rw [eP, decide_eq_false h47] at he
    obtain ⟨p, r, h1, h2, _⟩ := parts_ok l false h.2 he
    refine ⟨c :: p, r, ?_, h2, fun _ => ⟨c, p, rfl, h46⟩⟩
    rw [cutL, if_neg h47, h1]
  | c :: l, false, h, he => by
    simp only [wP, Bool.and_eq_true] at h
    by_cases h47 : c = 47
    · rw [eP, decide_eq_true h47] at he
      have h2' := h.2
      rw [decide_eq_true h47] at h2'
      obtain ⟨p, r, h1, h2, h3⟩ := parts_ok l true h2' he
      refine ⟨[], p :: r, ?_, ?_, by simp⟩
      · rw [cutL, if_pos h47, h1]
      · intro q hq
        rcases List.mem_cons.1 hq with rfl | hq
        · exact h3 rfl
        · exact h2 q hq
    · rw [eP, decide_eq_false h47] at he
      have h2' := h.2
      rw [decide_eq_false h47] at h2'
      obtain ⟨p, r, h1, h2, _⟩ := parts_ok l false h2' he
      refine ⟨c :: p, r, ?_, h2, by simp⟩
      rw [cutL, if_neg h47, h1]
theorem part_good {p : List UInt8} (h : PartOk p) : badPart (mkS p) = false := by
  obtain ⟨c, q, rfl, hc⟩ := h
  have hl : (mkS (c :: q)).data.toList = c :: q := mkS_list _
  unfold badPart
  rw [Bool.or_eq_false_iff, Bool.or_eq_false_iff]
  refine ⟨⟨decide_eq_false fun e => ?_, decide_eq_false fun e => ?_⟩, decide_eq_false fun e => ?_⟩
  · rw [e] at hl; cases hl
  · rw [e] at hl
    have hl : [46] = c :: q := hl
    injection hl with h1 _
    exact hc h1.symm
  · rw [e] at hl
    have hl : [46, 46] = c :: q := hl
    injection hl with h1 _
    exact hc h1.symm
/-- Such a path may be. -/
theorem path_good {s : ByteArray} (h4 : s.size ≤ 400) (hw : wP true s.data.toList = true) (he : eP true s.data.toList = false) : pathChk s = 0 := by
  have h1 : ¬ (s.size < 1 ∨ s.size > 400) := by
    intro h
    rcases h with h | h
    · have : s.data.toList = [] := List.eq_nil_of_length_eq_zero (by rw [size_list]; omega)
      rw [this] at he
      cases he
    · omega
  have h2 : ¬ 0 ≤ Lib.indexByte s.data.toList 0 := by
    rw [idx_none _ _ (wP_zero _ _ hw)]
    decide
  obtain ⟨p, r, e1, e2, e3⟩ := parts_ok _ _ hw he
  have h3 : ¬ (partsS s).any badPart = true := by
    unfold partsS
    rw [e1]
    intro h
    obtain ⟨x, hx, hb⟩ := List.any_eq_true.1 h
    obtain ⟨q, hq, rfl⟩ := List.mem_map.1 hx
    have hok : PartOk q := by
      rcases List.mem_cons.1 hq with rfl | hq
      · exact e3 rfl
      · exact e2 q hq
    rw [part_good hok] at hb
    cases hb
  unfold pathChk
  rw [if_neg h1, if_neg h2, if_neg h3]
/-! ### The path of raw numbers. -/
def nmF (i : Int) : ByteArray := namesF.getD (pickF i 11).toNat ⟨#[]⟩
theorem names_good : ∀ x ∈ namesF, wP true x.data.toList = true ∧ eP true x.data.toList = false ∧ x.size ≤ 130 := by
  have h : (namesF.all fun x => wP true x.data.toList && !eP true x.data.toList && decide (x.size ≤ 130)) = true := by kernel_rfl
  intro x hx
  have := List.all_eq_true.1 h x hx
  simp only [Bool.and_eq_true, Bool.not_eq_true', decide_eq_true_eq] at this
  exact ⟨this.1.1, this.1.2, this.2⟩
theorem nm_get (i : Int) : namesF[(pickF i 11).toNat]? = some (nmF i) := by
  have p2 := pick_lt (n := i) (m := 11) (by decide)
  obtain ⟨nm, hnm⟩ := get_lt (l := namesF) (k := (pickF i 11).toNat) (by show _ < 11; omega)
  unfold nmF
  rw [List.getD_eq_getElem?_getD, hnm]
  rfl
def pathK (a : Int) : Nat → ByteArray
  | 0 => nmF a
  | k + 1 => pathK a k ++ (⟨#[47]⟩ ++ nmF (IntKind.i64.wrap (a + (k : Int))))
theorem pathK_good (a : Int) : ∀ k, wP true (pathK a k).data.toList = true ∧ eP true (pathK a k).data.toList = false ∧ (pathK a k).size ≤ 130 + 131 * k
  | 0 => by
    have := names_good _ (List.mem_of_getElem? (nm_get a))
    exact ⟨this.1, this.2.1, by show (nmF a).size ≤ _; have := this.2.2; omega⟩
  | k + 1 => by
    obtain ⟨h1, h2, h3⟩ := pathK_good a k
    obtain ⟨n1, n2, n3⟩ := names_good _ (List.mem_of_getElem? (nm_get (IntKind.i64.wrap (a + (k : Int)))))
    have e : (pathK a (k + 1)).data.toList = (pathK a k).data.toList ++ (47 :: (nmF (IntKind.i64.wrap (a + (k : Int)))).data.toList) := by
      rw [pathK, app_list, app_list]
      rfl
    rw [e]
    refine ⟨wP_app _ _ _ h1 ?_, ?_, ?_⟩
    · rw [h2]
      exact n1
    · rw [eP_app, h2]
      exact n2
    · rw [pathK, ByteArray.size_append, ByteArray.size_append, show (⟨#[47]⟩ : ByteArray).size = 1 from rfl]
      omega
def cut400 (s : ByteArray) : ByteArray := if s.size > 400 then s.extract 0 100 else s
def sufF (s p : ByteArray) : Bool := decide (p.size ≤ s.size) && decide (s.extract (s.size - p.size) s.size = p)
def trimSl (s : ByteArray) : ByteArray := if sufF s ⟨#[47]⟩ = true then s.extract 0 (s.size - 1) else s
theorem ext_listE (s : ByteArray) (a b : Nat) : (s.extract a b).data.toList = (s.data.toList.take b).drop a := by
  rw [ByteArray.data_extract, Array.toList_extract, List.extract_eq_take_drop, List.drop_take]
theorem cut400_good {s : ByteArray} (h : wP true s.data.toList = true) (h1 : 1 ≤ s.size) : wP true (cut400 s).data.toList = true ∧ (cut400 s).size ≤ 400 ∧ 1 ≤ (cut400 s).size := by
  unfold cut400
  split
  · have hs : (s.extract 0 100).size = 100 := by rw [← size_list, ext_listE, List.length_drop, List.length_take, size_list]; omega
    refine ⟨?_, by omega, by omega⟩
    rw [ext_listE, List.drop_zero]
    exact wP_take _ _ _ h
  · exact ⟨h, by omega, h1⟩
theorem eP_last : ∀ (l : List UInt8) (c : UInt8) (b : Bool), eP b (l ++ [c]) = decide (c = 47)
  | [], c, b => rfl
  | d :: l, c, b => eP_last l c _
theorem trimSl_good {s : ByteArray} (h : wP true s.data.toList = true) (h1 : 1 ≤ s.size) : wP true (trimSl s).data.toList = true ∧ eP true (trimSl s).data.toList = false ∧ (trimSl s).size ≤ s.size := by
  have hsl := size_list s
  obtain ⟨l, c, hlc⟩ : ∃ l c, s.data.toList = l ++ [c] := by
    rcases List.eq_nil_or_concat s.data.toList with e | ⟨l, c, e⟩
    · rw [e] at hsl; simp at hsl; omega
    · exact ⟨l, c, by rw [e, List.concat_eq_append]⟩
  have hl : l.length = s.size - 1 := by rw [hlc] at hsl; simp at hsl; omega
  have e1 : (s.extract (s.size - 1) s.size).data.toList = [c] := by
    rw [ext_listE, List.take_of_length_le (by omega), hlc, ← hl]
    exact List.drop_left
  have hsuf : sufF s ⟨#[47]⟩ = decide (c = 47) := by
    unfold sufF
    rw [show (⟨#[47]⟩ : ByteArray).size = 1 from rfl, decide_eq_true (show 1 ≤ s.size from h1), Bool.true_and]
    congr 1
    apply propext
    constructor
    · intro e
      rw [e] at e1
      have e1 : [47] = [c] := e1
      injection e1 with e1 _
      exact e1.symm
    · intro e
      apply bytes_ext
      rw [e1, e]
  unfold trimSl
  rw [hsuf]
  by_cases hc : c = 47
  · rw [if_pos (by simpa using hc)]
    have e2 : (s.extract 0 (s.size - 1)).data.toList = l := by
      rw [ext_listE, List.drop_zero, hlc, ← hl]
      exact List.take_left
    rw [e2]
    refine ⟨?_, ?_, by rw [← size_list, e2]; omega⟩
    · have := wP_take _ _ (s.size - 1) h
      rw [hlc, ← hl, List.take_left] at this
      exact this
    · rw [hlc] at h
      have h2 := wP_back l [c] true h
      cases hb : eP true l with
      | false => rfl
      | true =>
        rw [hb] at h2
        simp [wP, hc] at h2
  · rw [if_neg (by simpa using hc)]
    exact ⟨h, by rw [hlc, eP_last]; exact decide_eq_false hc, Nat.le_refl _⟩
def entPath (a : Int) (k : Nat) : ByteArray := trimSl (cut400 (pathK a k))
theorem pathK_pos (a : Int) (k : Nat) : 1 ≤ (pathK a k).size := by
  rcases Nat.eq_zero_or_pos (pathK a k).size with h | h
  · have h2 := (pathK_good a k).2.1
    rw [List.eq_nil_of_length_eq_zero (show (pathK a k).data.toList.length = 0 by rw [size_list, h])] at h2
    cases h2
  · exact h
theorem entPath_good (a : Int) (k : Nat) : pathChk (entPath a k) = 0 := by
  have h1 := cut400_good (pathK_good a k).1 (pathK_pos a k)
  have h2 := trimSl_good h1.1 h1.2.2
  exact path_good (by unfold entPath; omega) h2.1 h2.2.1
end Go.Proofs.YtnfbomhhgjlacaaDoor.Abs
