/- Trees, level by level: plain facts. -/
import Derived.Test.YtghnifboofhcdaaDoorRchk
namespace Go.Proofs.YtghnifboofhcdaaDoor.Abs
open Go.RowKit Go.MapKept
set_option linter.unusedVariables false
set_option linter.unusedSimpArgs false
instance memS_dec (s : ByteArray) (l : List ByteArray) : Decidable (s ∈ l) := @List.instDecidableMemOfLawfulBEq ByteArray instBEqOfDecidableEq inferInstance s l
theorem flt_keep {α : Type} {q : α → Bool} {xs : List α} {k : Nat} {x : α} (hx : xs[k]? = some x) (h : q x = true) : (xs.take (k + 1)).filter q = (xs.take k).filter q ++ [x] := by
  rw [take_snoc hx, List.filter_append, List.filter_cons_of_pos h]; rfl
theorem flt_drop {α : Type} {q : α → Bool} {xs : List α} {k : Nat} {x : α} (hx : xs[k]? = some x) (h : q x = false) : (xs.take (k + 1)).filter q = (xs.take k).filter q := by
  rw [take_snoc hx, List.filter_append, List.filter_cons_of_neg (by rw [h]; decide)]; simp
def kids (t : List NodeT) (d : ByteArray) : List NodeT := t.filter fun n => decide (upF n.path = d)
def under (t : List NodeT) (d : ByteArray) : List NodeT := t.filter fun n => inF n.path d
def block (t : List NodeT) (k : NodeT) : List NodeT := t.filter (goneP k.path)
theorem lex_pre {α : Type} {c : α → α → Int} (T : Tot c) : ∀ (p x y : List α), lexC c (p ++ x) (p ++ y) = lexC c x y
  | [], _, _ => rfl
  | a :: p, x, y => by
    rw [List.cons_append, List.cons_append, lexC, if_pos ((T.zero a a).2 rfl)]
    exact lex_pre T p x y
theorem lex_head {α : Type} {c : α → α → Int} {a b : α} (x y : List α) (h : c a b ≠ 0) : lexC c (a :: x) (b :: y) = c a b := by rw [lexC, if_neg h]
theorem parts_in {s d : ByteArray} (hd : d ≠ ⟨#[]⟩) (h : inF s d = true) : ∃ r, partsS s = partsS d ++ r := by
  obtain ⟨v, hv⟩ := (in_iff hd).1 h
  refine ⟨(cutL 47 v).map mkS, ?_⟩
  unfold partsS
  rw [hv, cutL_app, List.map_append]
theorem empty_bad {v : List UInt8} : (partsS (mkS (47 :: v))).any badPart = true := by
  unfold partsS
  rw [mkS_list]
  rfl
/-- A path's parts: those of what it is in, and one more. -/
theorem kid_parts {s d : ByteArray} (hs : pathChk s = 0) (h : upF s = d) : ∃ x, partsS s = pathParts d ++ [x] ∧ baseF s = x ∧ (47 : UInt8) ∉ x.data.toList ∧ (if d = ⟨#[]⟩ then x else d ++ ⟨#[47]⟩ ++ x) = s := by
  subst h
  rcases up_split s with ⟨h1, h2⟩ | ⟨u, v, h1, h2, h3⟩
  · refine ⟨s, ?_, ?_, h1, by rw [h2, if_pos rfl]⟩
    · rw [h2]
      unfold pathParts
      rw [if_pos rfl]
      exact parts_one h1
    · unfold baseF
      rw [last_no h1 _ (by rw [size_list]; exact Nat.le_refl _)]
      apply bytes_ext
      rw [ByteArray.data_extract, Array.toList_extract, List.extract_eq_take_drop]
      show List.take (s.size - 0) (List.drop 0 s.data.toList) = _
      rw [List.drop_zero, Nat.sub_zero, ← size_list s, List.take_length]
  · have hu : u ≠ [] := fun e => by
      subst e
      have := (pathChk_zero.1 hs).2.2.2
      rw [show s = mkS (47 :: v) by rw [← mkS_self s, h1]; rfl, empty_bad] at this
      cases this
    have hne : mkS u ≠ ⟨#[]⟩ := fun e => by
      have := congrArg (fun b : ByteArray => b.data.toList) e
      have this : (mkS u).data.toList = [] := this
      rw [mkS_list] at this
      exact hu this
    have hl : s.size = u.length + 1 + v.length := by rw [← size_list, h1]; simp; omega
    refine ⟨mkS v, ?_, ?_, by rw [mkS_list]; exact h2, ?_⟩
    · rw [h3]
      unfold pathParts
      rw [if_neg hne]
      unfold partsS
      rw [h1, cutL_app, List.map_append, mkS_list, cutL_none 47 v h2]
      rfl
    · unfold baseF
      rw [h1, hl, last_at h2 _ (Nat.le_refl _)]
      apply bytes_ext
      rw [mkS_list, ByteArray.data_extract, Array.toList_extract, List.extract_eq_take_drop, h1]
      have e1 : ((u.length : Int) + 1).toNat = u.length + 1 := by omega
      have e2 : (u ++ 47 :: v).drop (u.length + 1) = v := by
        rw [← List.drop_drop, List.drop_left]; rfl
      rw [e1, e2, List.take_of_length_le (by omega)]
    · rw [h3, if_neg hne]
      apply bytes_ext
      rw [app_list, app_list, mkS_list, mkS_list, show (⟨#[47]⟩ : ByteArray).data.toList = [47] from rfl, h1]
      simp
theorem gone_parts {k : ByteArray} {n : NodeT} (hk : k ≠ ⟨#[]⟩) (h : goneP k n = true) : ∃ r, partsS n.path = partsS k ++ r := by
  unfold goneP at h
  rw [Bool.or_eq_true, decide_eq_true_eq] at h
  rcases h with h | h
  · exact ⟨[], by rw [h, List.append_nil]⟩
  · exact parts_in hk h
/-- What is in one of two siblings is ahead of what is in the other. -/
theorem siblings {d k k' : ByteArray} {x y : NodeT} (hk : pathChk k = 0) (hk' : pathChk k' = 0) (h : upF k = d) (h' : upF k' = d) (hlt : lessF k k' < 0) (hx : goneP k x = true) (hy : goneP k' y = true) : lessF x.path y.path < 0 := by
  obtain ⟨a, ha, _⟩ := kid_parts hk h
  obtain ⟨b, hb, _⟩ := kid_parts hk' h'
  obtain ⟨r, hr⟩ := gone_parts (path_ne hk) hx
  obtain ⟨r', hr'⟩ := gone_parts (path_ne hk') hy
  have T := cmpS_tot
  unfold lessF at hlt ⊢
  rw [ha, hb, lex_pre T] at hlt
  have hc : cmpS a b < 0 := by
    by_cases hz : cmpS a b = 0
    · rw [lexC, if_pos hz] at hlt
      exact absurd hlt (by show ¬ (0 : Int) < 0; omega)
    · rw [lex_head _ _ hz] at hlt
      exact hlt
  rw [hr, hr', ha, hb, List.append_assoc, List.append_assoc, lex_pre T]
  show lexC cmpS (a :: r) (b :: r') < 0
  rw [lex_head _ _ (by omega)]
  exact hc
theorem in_root {s : ByteArray} (h : s ≠ ⟨#[]⟩) : inF s ⟨#[]⟩ = true := by
  unfold inF
  rw [decide_eq_true rfl, decide_eq_false h]
  rfl
theorem kid_in {s d : ByteArray} (hs : pathChk s = 0) (h : upF s = d) : inF s d = true := by
  by_cases hd : d = ⟨#[]⟩
  · rw [hd]; exact in_root (path_ne hs)
  · rw [← h]; exact up_in (by rw [h]; exact hd)
theorem in_of_gone {t : List NodeT} (hT : TreeOk t) {d : ByteArray} {k n : NodeT} (hk : k ∈ t) (hn : n ∈ t) (h : upF k.path = d) (hg : goneP k.path n = true) : inF n.path d = true := by
  have hkp := (hT.node k hk).path
  have hnp := (hT.node n hn).path
  by_cases hd : d = ⟨#[]⟩
  · rw [hd]; exact in_root (path_ne hnp)
  · have hin := kid_in hkp h
    unfold goneP at hg
    rw [Bool.or_eq_true, decide_eq_true_eq] at hg
    rcases hg with hg | hg
    · rw [hg]; exact hin
    · exact in_trans (path_ne hkp) hd hg hin
theorem kid_of {t : List NodeT} (hT : TreeOk t) {d : ByteArray} : ∀ (f : Nat) (n : NodeT), n ∈ t → n.path.size ≤ f → inF n.path d = true → ∃ k ∈ kids t d, goneP k.path n = true
  | 0, n, hn, hf, _ => by
    have := (pathChk_zero.1 (hT.node n hn).path).1
    omega
  | f + 1, n, hn, hf, hi => by
    have hnp := (hT.node n hn).path
    by_cases hu : upF n.path = d
    · exact ⟨n, List.mem_filter.2 ⟨hn, decide_eq_true hu⟩, by unfold goneP; rw [decide_eq_true rfl]; rfl⟩
    · have hz : upF n.path ≠ ⟨#[]⟩ := fun e => by
        by_cases hd : d = ⟨#[]⟩
        · exact hu (e.trans hd.symm)
        · rcases in_up hd hi with h | h
          · exact hu h
          · rw [e] at h
            obtain ⟨v, hv⟩ := (in_iff hd).1 h
            simp at hv
      rcases hT.up n hn with h1 | ⟨m, hm, h1, h2⟩
      · exact absurd h1 hz
      · have hmi : inF m.path d = true := by
          by_cases hd : d = ⟨#[]⟩
          · rw [hd]; exact in_root (path_ne (hT.node m hm).path)
          · rcases in_up hd hi with h | h
            · exact absurd h hu
            · rw [h1]; exact h
        have hsz := up_size hz
        obtain ⟨k, hk, hg⟩ := kid_of hT f m hm (by rw [h1]; omega) hmi
        have hnm : inF n.path m.path = true := by rw [h1]; exact up_in hz
        have hkp := path_ne (hT.node k (List.mem_filter.1 hk).1).path
        refine ⟨k, hk, ?_⟩
        unfold goneP at hg ⊢
        rw [Bool.or_eq_true, decide_eq_true_eq] at hg ⊢
        rcases hg with hg | hg
        · rw [← hg]; exact .inr hnm
        · exact .inr (in_trans (path_ne (hT.node m hm).path) hkp hnm hg)
theorem strict_nodup {l : List NodeT} (h : l.Pairwise fun a b => lessF a.path b.path < 0) : l.Nodup := by
  refine h.imp fun {a b} hab e => ?_
  rw [e, (lessF_tot.zero _ _).2 rfl] at hab
  revert hab; decide
theorem strict_ext {l m : List NodeT} (hl : l.Pairwise fun a b => lessF a.path b.path < 0) (hm : m.Pairwise fun a b => lessF a.path b.path < 0) (h : ∀ x, x ∈ l ↔ x ∈ m) : l = m := by
  refine List.Perm.eq_of_pairwise (le := fun a b => lessF a.path b.path < 0) (fun a b _ _ h1 h2 => ?_) hl hm ((List.perm_ext_iff_of_nodup (strict_nodup hl) (strict_nodup hm)).2 h)
  have := lessF_tot.neg a.path b.path
  omega
/-- All in a directory: its own nodes, each with all in it. -/
theorem under_kids {t : List NodeT} (hT : TreeOk t) (d : ByteArray) : under t d = (kids t d).flatMap (block t) := by
  refine strict_ext (hT.sorted.filter _) ?_ fun x => ?_
  · rw [List.pairwise_flatMap]
    refine ⟨fun k _ => hT.sorted.filter _, ?_⟩
    have hp : (kids t d).Pairwise fun a b => (a ∈ kids t d ∧ b ∈ kids t d) ∧ lessF a.path b.path < 0 := by
      rw [List.pairwise_iff_getElem]
      intro i j hi hj hij
      exact ⟨⟨List.getElem_mem _, List.getElem_mem _⟩, List.pairwise_iff_getElem.1 (hT.sorted.filter _) i j hi hj hij⟩
    refine hp.imp fun {a b} ⟨⟨ha, hb⟩, hlt⟩ x hx y hy => ?_
    obtain ⟨ha1, ha2⟩ := List.mem_filter.1 ha
    obtain ⟨hb1, hb2⟩ := List.mem_filter.1 hb
    exact siblings (hT.node a ha1).path (hT.node b hb1).path (of_decide_eq_true ha2) (of_decide_eq_true hb2) hlt (List.mem_filter.1 hx).2 (List.mem_filter.1 hy).2
  · constructor
    · intro hx
      obtain ⟨h1, h2⟩ := List.mem_filter.1 hx
      obtain ⟨k, hk, hg⟩ := kid_of hT x.path.size x h1 (Nat.le_refl _) h2
      exact List.mem_flatMap.2 ⟨k, hk, List.mem_filter.2 ⟨h1, hg⟩⟩
    · intro hx
      obtain ⟨k, hk, hx⟩ := List.mem_flatMap.1 hx
      obtain ⟨h1, h2⟩ := List.mem_filter.1 hx
      obtain ⟨hk1, hk2⟩ := List.mem_filter.1 hk
      exact List.mem_filter.2 ⟨h1, in_of_gone hT hk1 h1 (of_decide_eq_true hk2) h2⟩
/-- A node, and all in it. -/
theorem block_is {t : List NodeT} (hT : TreeOk t) {k : NodeT} (hk : k ∈ t) : block t k = k :: under t k.path := by
  have hkp := (hT.node k hk).path
  refine strict_ext (hT.sorted.filter _) ?_ fun x => ?_
  · rw [List.pairwise_cons]
    refine ⟨fun x hx => ?_, hT.sorted.filter _⟩
    obtain ⟨h1, h2⟩ := List.mem_filter.1 hx
    obtain ⟨v, hv⟩ := (in_iff (path_ne hkp)).1 h2
    have e : partsS x.path = partsS k.path ++ (cutL 47 v).map mkS := by
      unfold partsS
      rw [hv, cutL_app, List.map_append]
    unfold lessF
    rw [e, lex_prefix cmpS_tot _ _ (by simp [cutL_ne 47 v])]
    decide
  · constructor
    · intro hx
      obtain ⟨h1, h2⟩ := List.mem_filter.1 hx
      unfold goneP at h2
      rw [Bool.or_eq_true, decide_eq_true_eq] at h2
      rcases h2 with h2 | h2
      · rw [nodup_inj (tree_nodup hT) x k h1 hk h2]; exact List.mem_cons_self ..
      · exact List.mem_cons_of_mem _ (List.mem_filter.2 ⟨h1, h2⟩)
    · intro hx
      rcases List.mem_cons.1 hx with rfl | hx
      · exact List.mem_filter.2 ⟨hk, by unfold goneP; rw [decide_eq_true rfl]; rfl⟩
      · obtain ⟨h1, h2⟩ := List.mem_filter.1 hx
        exact List.mem_filter.2 ⟨h1, by unfold goneP; rw [h2, Bool.or_true]⟩
/-- Nothing is in what is no directory. -/
theorem under_none {t : List NodeT} (hT : TreeOk t) {k : NodeT} (hk : k ∈ t) (h : k.kind ≠ 2) : under t k.path = [] := by
  unfold under
  rw [List.filter_eq_nil_iff]
  intro n hn hi
  obtain ⟨m, hm, h1, h2⟩ := tree_in hT (path_ne (hT.node k hk).path) n.path.size n hn (Nat.le_refl _) hi
  rw [nodup_inj (tree_nodup hT) m k hm hk h1] at h2
  exact h h2
theorem under_root {t : List NodeT} (hT : TreeOk t) : under t ⟨#[]⟩ = t := by
  unfold under
  rw [List.filter_eq_self]
  exact fun n hn => in_root (path_ne (hT.node n hn).path)
/-- The bases of a directory's nodes are sorted. -/
theorem kids_sorted {t : List NodeT} (hT : TreeOk t) (d : ByteArray) : ((kids t d).map fun n => baseF n.path).Pairwise fun a b => cmpS a b < 0 := by
  rw [List.pairwise_map]
  have hp : (kids t d).Pairwise fun a b => (a ∈ kids t d ∧ b ∈ kids t d) ∧ lessF a.path b.path < 0 := by
    rw [List.pairwise_iff_getElem]
    intro i j hi hj hij
    exact ⟨⟨List.getElem_mem _, List.getElem_mem _⟩, List.pairwise_iff_getElem.1 (hT.sorted.filter _) i j hi hj hij⟩
  refine hp.imp fun {a b} ⟨⟨ha, hb⟩, hlt⟩ => ?_
  obtain ⟨ha1, ha2⟩ := List.mem_filter.1 ha
  obtain ⟨hb1, hb2⟩ := List.mem_filter.1 hb
  obtain ⟨x, hx, hx2, _⟩ := kid_parts (hT.node a ha1).path (of_decide_eq_true ha2)
  obtain ⟨y, hy, hy2, _⟩ := kid_parts (hT.node b hb1).path (of_decide_eq_true hb2)
  unfold lessF at hlt
  rw [hx, hy, lex_pre cmpS_tot] at hlt
  rw [hx2, hy2]
  by_cases hz : cmpS x y = 0
  · rw [lexC, if_pos hz] at hlt
    exact absurd hlt (by show ¬ (0 : Int) < 0; omega)
  · rw [lex_head _ _ hz] at hlt
    exact hlt
/-- Each node is in just one directory. -/
theorem kids_count (t : List NodeT) : ∀ (ds : List ByteArray), ds.Nodup → ((ds.map fun d => (kids t d).length).sum) = (t.filter fun n => decide (upF n.path ∈ ds)).length
  | [], _ => by rw [List.filter_eq_nil_iff.2 (fun n _ => by simp)]; rfl
  | d :: ds, h => by
    rw [List.nodup_cons] at h
    have ih := kids_count t ds h.2
    rw [List.map_cons, List.sum_cons, ih]
    unfold kids
    induction t with
    | nil => rfl
    | cons n t iht =>
      have ih2 := iht (kids_count t ds h.2)
      rw [List.filter_cons, List.filter_cons, List.filter_cons]
      by_cases h1 : upF n.path = d
      · have h2 : ¬ upF n.path ∈ ds := fun hm => h.1 (h1 ▸ hm)
        have h3 : upF n.path ∈ d :: ds := by rw [h1]; exact List.mem_cons_self ..
        rw [decide_eq_true h1, decide_eq_false h2, decide_eq_true h3, if_pos rfl, if_neg (by decide), if_pos rfl, List.length_cons, List.length_cons, ← ih2]
        omega
      · by_cases h2 : upF n.path ∈ ds
        · rw [decide_eq_false h1, decide_eq_true h2, decide_eq_true (List.mem_cons_of_mem _ h2), if_neg (by decide), if_pos rfl, if_pos rfl, List.length_cons, List.length_cons, ← ih2]
          omega
        · have h3 : ¬ upF n.path ∈ d :: ds := fun hm => by
            rcases List.mem_cons.1 hm with h | h
            · exact h1 h
            · exact h2 h
          rw [decide_eq_false h1, decide_eq_false h2, decide_eq_false h3, if_neg (by decide), if_neg (by decide), if_neg (by decide)]
          exact ih2
end Go.Proofs.YtghnifboofhcdaaDoor.Abs
