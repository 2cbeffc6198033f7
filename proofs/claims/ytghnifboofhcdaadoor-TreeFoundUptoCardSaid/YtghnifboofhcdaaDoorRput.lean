/- Putting a node into a tree: what it makes. -/
import Derived.Test.YtghnifboofhcdaaDoorRchk
namespace Go.Proofs.YtghnifboofhcdaaDoor.Abs
open Go.RowKit Go.MapKept
set_option linter.unusedVariables false
set_option linter.unusedSimpArgs false
def ltP (s : ByteArray) (x : NodeT) : Bool := decide (compareF x.path s < 0)
def restP (s : ByteArray) : List NodeT → List NodeT
  | [] => []
  | y :: r => if compareF y.path s = 0 then r else y :: r
def putL (t : List NodeT) (n : NodeT) : List NodeT := t.takeWhile (ltP n.path) ++ n :: restP n.path (t.dropWhile (ltP n.path))
def bsF (t : List NodeT) (s : ByteArray) : Nat := (t.takeWhile (ltP s)).length
def bsB (t : List NodeT) (s : ByteArray) : Bool := match t[bsF t s]? with
  | some y => decide (compareF y.path s = 0)
  | none => false
theorem tw_take (t : List NodeT) (s : ByteArray) : t.take (bsF t s) = t.takeWhile (ltP s) := by
  unfold bsF
  conv => lhs; rw [← List.takeWhile_append_dropWhile (p := ltP s) (l := t)]
  rw [List.takeWhile_append_dropWhile]
  conv => lhs; arg 2; rw [← List.takeWhile_append_dropWhile (p := ltP s) (l := t)]
  rw [List.take_left]
theorem tw_drop (t : List NodeT) (s : ByteArray) : t.drop (bsF t s) = t.dropWhile (ltP s) := by
  unfold bsF
  conv => lhs; arg 2; rw [← List.takeWhile_append_dropWhile (p := ltP s) (l := t)]
  rw [List.drop_left]
theorem bs_le (t : List NodeT) (s : ByteArray) : bsF t s ≤ t.length := by
  have := congrArg List.length (List.takeWhile_append_dropWhile (p := ltP s) (l := t))
  rw [List.length_append] at this
  unfold bsF
  omega
theorem bs_lt {t : List NodeT} {s : ByteArray} {k : Nat} {x : NodeT} (hk : k < bsF t s) (hx : t[k]? = some x) : compareF x.path s < 0 := by
  have h : (t.take (bsF t s))[k]? = some x := by rw [List.getElem?_take, if_pos hk]; exact hx
  rw [tw_take] at h
  have h2 := List.mem_of_getElem? h
  have h3 : ∀ (l : List NodeT), x ∈ l.takeWhile (ltP s) → ltP s x = true := by
    intro l
    induction l with
    | nil => intro h; cases h
    | cons y l ih =>
      intro h
      rw [List.takeWhile_cons] at h
      split at h
      · rename_i hy
        rcases List.mem_cons.1 h with rfl | h
        · exact hy
        · exact ih h
      · cases h
  exact of_decide_eq_true (h3 t h2)
theorem bsF_at {t : List NodeT} {s : ByteArray} {x : NodeT} (hx : t[bsF t s]? = some x) : ¬ compareF x.path s < 0 := by
  have h : (t.drop (bsF t s))[0]? = some x := by rw [List.getElem?_drop, Nat.add_zero]; exact hx
  rw [tw_drop] at h
  have h2 : (t.dropWhile (ltP s)).head? = some x := by rw [List.head?_eq_getElem?]; exact h
  have h3 := List.head?_dropWhile_not (ltP s) t
  rw [h2] at h3
  exact of_decide_eq_false h3
/-- Sorted, all ahead are less. -/
theorem bs_ge {t : List NodeT} (hT : TreeOk t) {s : ByteArray} (hs : pathChk s = 0) {k : Nat} {x : NodeT} (hk : bsF t s ≤ k) (hx : t[k]? = some x) : ¬ compareF x.path s < 0 := by
  rcases Nat.lt_or_ge (bsF t s) k with h | h
  · have hkl := (List.getElem?_eq_some_iff.1 hx).1
    obtain ⟨y, hy⟩ := get_lt (l := t) (k := bsF t s) (by omega)
    have h1 := bsF_at hy
    have h2 := less_at hT hy hx h
    have gy := (hT.node y (List.mem_of_getElem? hy)).path
    have gx := (hT.node x (List.mem_of_getElem? hx)).path
    rw [compare_less gy hs] at h1
    rw [compare_less gx hs]
    intro h3
    have := lessF_tot.tr y.path x.path s (by omega) (by omega)
    have h5 : lessF y.path s = 0 := by omega
    have h6 := (lessF_tot.zero _ _).1 h5
    rw [h6] at h2
    have h7 := lessF_tot.neg x.path s
    omega
  · obtain rfl : k = bsF t s := by omega
    exact bsF_at hx
theorem bs_is {t : List NodeT} {s : ByteArray} {i : Nat} (hi : i ≤ t.length) (h1 : ∀ k x, k < i → t[k]? = some x → compareF x.path s < 0) (h2 : ∀ x, t[i]? = some x → ¬ compareF x.path s < 0) : i = bsF t s := by
  rcases Nat.lt_trichotomy i (bsF t s) with h | h | h
  · have := bs_le t s
    obtain ⟨x, hx⟩ := get_lt (l := t) (k := i) (by omega)
    exact absurd (bs_lt h hx) (h2 x hx)
  · exact h
  · obtain ⟨x, hx⟩ := get_lt (l := t) (k := bsF t s) (by omega)
    exact absurd (h1 _ x h hx) (bsF_at hx)
theorem putL_is (t : List NodeT) (n : NodeT) : putL t n = t.take (bsF t n.path) ++ n :: t.drop (if bsB t n.path = true then bsF t n.path + 1 else bsF t n.path) := by
  have e : t.dropWhile (ltP n.path) = t.drop (bsF t n.path) := (tw_drop t n.path).symm
  unfold putL
  rw [tw_take, e]
  congr 2
  cases hq : t[bsF t n.path]? with
  | none =>
    have hl : t.length ≤ bsF t n.path := by simpa using hq
    have hb : bsB t n.path = false := by unfold bsB; rw [hq]
    rw [hb, if_neg (by decide), List.drop_eq_nil_of_le hl]
    rfl
  | some y =>
    by_cases h : compareF y.path n.path = 0
    · have hb : bsB t n.path = true := by unfold bsB; rw [hq]; exact decide_eq_true h
      rw [hb, if_pos rfl, drop_at hq, restP, if_pos h]
    · have hb : bsB t n.path = false := by unfold bsB; rw [hq]; exact decide_eq_false h
      rw [hb, if_neg (by decide), drop_at hq, restP, if_neg h]
theorem put_len (t : List NodeT) (n : NodeT) : (putL t n).length ≤ t.length + 1 := by
  rw [putL_is]
  have := bs_le t n.path
  split <;> simp <;> omega
theorem put_mem {t : List NodeT} (hT : TreeOk t) {n : NodeT} (hn : pathChk n.path = 0) {y : NodeT} : y ∈ putL t n ↔ y = n ∨ (y ∈ t ∧ y.path ≠ n.path) := by
  have hsplit := List.take_append_drop (bsF t n.path) t
  rw [putL_is, List.mem_append, List.mem_cons]
  have hlow : y ∈ t.take (bsF t n.path) → y.path ≠ n.path := fun h e => by
    obtain ⟨k, hk⟩ := List.getElem?_of_mem h
    rw [List.getElem?_take] at hk
    split at hk
    · rename_i hlt
      have := bs_lt hlt hk
      have hg := (hT.node y (List.mem_of_getElem? hk)).path
      rw [e, (compare_less hn hn), (lessF_tot.zero _ _).2 rfl] at this
      omega
    · cases hk
  have hnod := tree_nodup hT
  cases hq : t[bsF t n.path]? with
  | none =>
    have hd : t.drop (bsF t n.path) = [] := List.drop_eq_nil_of_le (by simpa using hq)
    have hb : bsB t n.path = false := by unfold bsB; rw [hq]
    have ht : t.take (bsF t n.path) = t := by rw [hd, List.append_nil] at hsplit; exact hsplit
    rw [hb, if_neg (by decide), hd, ht]
    rw [ht] at hlow
    constructor
    · rintro (h | h | h)
      · exact .inr ⟨h, hlow h⟩
      · exact .inl h
      · cases h
    · rintro (h | ⟨h, _⟩)
      · exact .inr (.inl h)
      · exact .inl h
  | some z =>
    have hz := bsF_at hq
    have hzm := List.mem_of_getElem? hq
    have hzg := (hT.node z hzm).path
    have hhigh : ∀ w ∈ t.drop (bsF t n.path + 1), w.path ≠ n.path := fun w hw e => by
      obtain ⟨k, hk⟩ := List.getElem?_of_mem hw
      rw [List.getElem?_drop] at hk
      have h1 := less_at hT hq hk (by omega)
      rw [compare_less hzg hn] at hz
      rw [e] at h1
      omega
    by_cases hc : compareF z.path n.path = 0
    · have hb : bsB t n.path = true := by unfold bsB; rw [hq]; exact decide_eq_true hc
      have hze : z.path = n.path := by
        rw [compare_less hzg hn] at hc
        exact (lessF_tot.zero _ _).1 hc
      rw [hb, if_pos rfl]
      constructor
      · rintro (h | h | h)
        · exact .inr ⟨List.mem_of_mem_take h, hlow h⟩
        · exact .inl h
        · exact .inr ⟨List.mem_of_mem_drop h, hhigh _ h⟩
      · rintro (h | ⟨h, hne⟩)
        · exact .inr (.inl h)
        · rw [← hsplit, List.mem_append, drop_at hq, List.mem_cons] at h
          rcases h with h | rfl | h
          · exact .inl h
          · exact absurd hze hne
          · exact .inr (.inr h)
    · have hb : bsB t n.path = false := by unfold bsB; rw [hq]; exact decide_eq_false hc
      have hzne : z.path ≠ n.path := fun e => by
        rw [compare_less hzg hn, (lessF_tot.zero _ _).2 e] at hc
        exact hc rfl
      rw [hb, if_neg (by decide)]
      constructor
      · rintro (h | h | h)
        · exact .inr ⟨List.mem_of_mem_take h, hlow h⟩
        · exact .inl h
        · refine .inr ⟨List.mem_of_mem_drop h, ?_⟩
          rw [drop_at hq, List.mem_cons] at h
          rcases h with rfl | h
          · exact hzne
          · exact hhigh _ h
      · rintro (h | ⟨h, hne⟩)
        · exact .inr (.inl h)
        · rw [← hsplit, List.mem_append] at h
          rcases h with h | h
          · exact .inl h
          · exact .inr (.inr h)
theorem put_good {t : List NodeT} (hT : TreeOk t) {n : NodeT} (hn : NodeGood n) : ∀ y ∈ putL t n, NodeGood y := fun y hy => by
  rcases (put_mem hT hn.path).1 hy with rfl | ⟨h, _⟩
  · exact hn
  · exact hT.node y h
/-- Taken away again, it leaves the tree. -/
theorem put_removed {t : List NodeT} (hT : TreeOk t) {n : NodeT} (hn : NodeGood n) (hno : ∀ y ∈ t, y.path ≠ n.path) : removeL (putL t n) n.path = t := by
  have hne := path_ne hn.path
  have hgone : goneP n.path n = true := by unfold goneP; rw [decide_eq_true rfl]; rfl
  have hstay : ∀ y ∈ t, goneP n.path y = false := fun y hy => by
    unfold goneP
    rw [decide_eq_false (hno y hy), Bool.false_or]
    cases hq : inF y.path n.path with
    | false => rfl
    | true =>
      obtain ⟨m, hm, h1, _⟩ := tree_in hT hne y.path.size y hy (Nat.le_refl _) hq
      exact absurd h1 (hno m hm)
  have hb : bsB t n.path = false := by
    unfold bsB
    cases hq : t[bsF t n.path]? with
    | none => rfl
    | some z =>
      have hzm := List.mem_of_getElem? hq
      refine decide_eq_false fun h => hno z hzm ?_
      rw [compare_less (hT.node z hzm).path hn.path] at h
      exact (lessF_tot.zero _ _).1 h
  have hall : ∀ l : List NodeT, (∀ y ∈ l, y ∈ t) → l.filter (fun x => !goneP n.path x) = l := fun l hl => by
    rw [List.filter_eq_self]
    intro y hy
    rw [hstay y (hl y hy)]
    rfl
  unfold removeL
  rw [putL_is, hb, if_neg (by decide), List.filter_append, List.filter_cons, hgone]
  rw [if_neg (by decide), hall _ (fun y hy => List.mem_of_mem_take hy), hall _ (fun y hy => List.mem_of_mem_drop hy), List.take_append_drop]
end Go.Proofs.YtghnifboofhcdaaDoor.Abs
