/- What Check says of a tree: all that may be asked of it. -/
import Derived.Test.YtgjldbcpohkmkaaDoorRpure
namespace Go.Proofs.YtgjldbcpohkmkaaDoor.Abs
open Go.RowKit Go.MapKept
set_option linter.unusedVariables false
set_option linter.unusedSimpArgs false
theorem kind_of_same {n : NodeT} (h : NodeGood n) (h0 : n.same ≠ 0) : n.kind = 1 := by
  rcases h.kind with ⟨a, _, _⟩ | ⟨_, _, a, _⟩ | ⟨_, _, _, a, _⟩
  · exact a
  · omega
  · omega
theorem alike_dest {f n : NodeT} (h : alikeF f n = true) : f.mt = n.mt ∧ f.data = n.data := by
  unfold alikeF at h
  simpa using h
/-- What is met ahead of a node. -/
structure Ahead (pre : List NodeT) (m : List (Int × NodeT)) : Prop where
  tree : TreeOk pre
  met : ∀ x ∈ pre, x.same ≠ 0 → ∃ f, m.lookup x.same = some f ∧ f.mt = x.mt ∧ f.data = x.data
theorem Ahead.push {pre : List NodeT} {m m' : List (Int × NodeT)} {n : NodeT} (h : Ahead pre m) (hg : NodeGood n) (h1 : prevBad pre n = false) (h2 : upBad pre n = false)
    (hm : ∀ s f, m.lookup s = some f → m'.lookup s = some f) (hn : n.same ≠ 0 → ∃ f, m'.lookup n.same = some f ∧ f.mt = n.mt ∧ f.data = n.data) : Ahead (pre ++ [n]) m' := by
  have T := lessF_tot
  obtain ⟨⟨t1, t2, t3, t4⟩, hmet⟩ := h
  have hmet' : ∀ x ∈ pre ++ [n], x.same ≠ 0 → ∃ f, m'.lookup x.same = some f ∧ f.mt = x.mt ∧ f.data = x.data := fun x hx h0 => by
    rcases List.mem_append.1 hx with hx | hx
    · obtain ⟨f, a, b⟩ := hmet x hx h0
      exact ⟨f, hm _ _ a, b⟩
    · rw [List.mem_singleton] at hx; subst hx; exact hn h0
  have hgood : ∀ x ∈ pre ++ [n], NodeGood x := fun x hx => by
    rcases List.mem_append.1 hx with hx | hx
    · exact t1 x hx
    · rw [List.mem_singleton] at hx; subst hx; exact hg
  refine ⟨⟨hgood, ?_, fun x hx => ?_, fun a ha b hb e e0 => ?_⟩, hmet'⟩
  · rw [List.pairwise_append]
    refine ⟨t2, by simp, fun a ha b hb => ?_⟩
    rw [List.mem_singleton] at hb
    subst hb
    have hl : ∃ z, pre.getLast? = some z := by
      cases hz : pre.getLast? with
      | none => rw [List.getLast?_eq_none_iff] at hz; subst hz; cases ha
      | some z => exact ⟨z, rfl⟩
    obtain ⟨z, hz⟩ := hl
    unfold prevBad at h1
    rw [hz] at h1
    have hzm : z ∈ pre := List.mem_of_getLast? hz
    have h3 := of_decide_eq_false h1
    rw [compare_less (t1 z hzm).path hg.path] at h3
    obtain ⟨k, hk⟩ := List.getElem?_of_mem ha
    obtain ⟨hk1, hk2⟩ := List.getElem?_eq_some_iff.1 hk
    rw [List.getLast?_eq_getElem?] at hz
    obtain ⟨hz1, hz2⟩ := List.getElem?_eq_some_iff.1 hz
    by_cases e : k = pre.length - 1
    · subst e
      rw [hk] at hz
      injection hz with hz
      subst hz
      omega
    · have h4 := List.pairwise_iff_getElem.1 t2 k (pre.length - 1) hk1 hz1 (by omega)
      rw [hk2, hz2] at h4
      have h5 := T.tr a.path z.path b.path (by omega) (by omega)
      rcases Int.lt_or_le (lessF a.path b.path) 0 with h6 | h6
      · exact h6
      · have h7 : lessF a.path b.path = 0 := by omega
        have h8 := (T.zero _ _).1 h7
        have h9 := T.neg z.path a.path
        rw [h8] at h9 h4
        omega
  · rcases List.mem_append.1 hx with hx | hx
    · exact upOk_app (t3 x hx) n
    · rw [List.mem_singleton] at hx
      subst hx
      unfold upBad at h2
      by_cases hu : upF x.path = ⟨#[]⟩
      · exact .inl hu
      · rw [decide_eq_false hu] at h2
        cases hf : pre.find? (fun y => decide (y.path = upF x.path)) with
        | none => rw [hf] at h2; cases h2
        | some d =>
          rw [hf] at h2
          have h3 : d.kind = 2 := by simpa using h2
          have h4 := List.find?_some hf
          exact .inr ⟨d, List.mem_append_left _ (List.mem_of_find?_eq_some hf), by simpa using h4, h3⟩
  · obtain ⟨f, a1, a2, a3⟩ := hmet' a ha e0
    obtain ⟨f', b1, b2, b3⟩ := hmet' b hb (by rw [← e]; exact e0)
    rw [e] at a1
    rw [a1] at b1
    injection b1 with b1
    subst b1
    exact ⟨a2.symm.trans b2, a3.symm.trans b3, by rw [kind_of_same (hgood a ha) e0, kind_of_same (hgood b hb) (by rw [← e]; exact e0)]⟩
theorem lookup_app {s : Int} {f g : NodeT} {a : Int} : ∀ {m : List (Int × NodeT)}, m.lookup s = some f → (m ++ [(a, g)]).lookup s = some f
  | (b, y) :: m, h => by
    rw [List.lookup] at h
    rw [List.cons_append, List.lookup]
    cases hq : s == b with
    | true => rw [hq] at h; exact h
    | false => rw [hq] at h; exact lookup_app h
theorem lookup_new {s : Int} {g : NodeT} : ∀ {m : List (Int × NodeT)}, m.lookup s = none → (m ++ [(s, g)]).lookup s = some g
  | [], _ => by
    show (match s == s with | true => some g | false => none) = some g
    rw [beq_self_eq_true]
  | (b, y) :: m, h => by
    rw [List.lookup] at h
    rw [List.cons_append, List.lookup]
    cases hq : s == b with
    | true => rw [hq] at h; cases h
    | false => rw [hq] at h; exact lookup_new h
theorem chk_says : ∀ (l pre : List NodeT) (m : List (Int × NodeT)), (∀ n ∈ l, NodeGood n) → Ahead pre m → chkL pre l m = 0 → TreeOk (pre ++ l)
  | [], pre, m, _, h, _ => by rw [List.append_nil]; exact h.tree
  | n :: l, pre, m, hg, h, hc => by
    have hgn := hg n (List.mem_cons_self ..)
    have hgl : ∀ x ∈ l, NodeGood x := fun x hx => hg x (List.mem_cons_of_mem _ hx)
    have e : pre ++ n :: l = (pre ++ [n]) ++ l := by simp
    rw [e]
    rw [chkL] at hc
    split at hc
    · cases hc
    rename_i h1
    split at hc
    · cases hc
    rename_i h2
    have h1 : prevBad pre n = false := by simpa using h1
    have h2 : upBad pre n = false := by simpa using h2
    split at hc
    · rename_i h0
      exact chk_says l _ m hgl (h.push hgn h1 h2 (fun _ _ h => h) (fun h => absurd h0 h)) hc
    · rename_i h0
      cases hlk : m.lookup n.same with
      | none =>
        rw [hlk] at hc
        exact chk_says l _ _ hgl (h.push hgn h1 h2 (fun _ _ h => lookup_app h) (fun _ => ⟨n, lookup_new hlk, rfl, rfl⟩)) hc
      | some f =>
        rw [hlk] at hc
        dsimp only at hc
        split at hc
        · rename_i ha
          exact chk_says l _ m hgl (h.push hgn h1 h2 (fun _ _ h => h) (fun _ => ⟨f, hlk, alike_dest ha⟩)) hc
        · cases hc
theorem tree_nil : TreeOk [] := ⟨fun n hn => (by cases hn), List.Pairwise.nil, fun n hn => (by cases hn), fun a ha => (by cases ha)⟩
/-- Check's yes is all that may be asked. -/
theorem tree_of {t : List NodeT} (hg : ∀ n ∈ t, NodeGood n) (h : chkF t = 0) : TreeOk t ∧ t.length ≤ 40 := by
  unfold chkF at h
  split at h
  · cases h
  · rename_i hl
    have := chk_says t [] [] hg ⟨tree_nil, fun x hx => (by cases hx)⟩ h
    exact ⟨this, by omega⟩
theorem tree_iff {t : List NodeT} (hg : ∀ n ∈ t, NodeGood n) : chkF t = 0 ↔ TreeOk t ∧ t.length ≤ 40 := ⟨tree_of hg, fun h => check_tree h.1 h.2⟩
/-! ### Being in a path -/
theorem preF_iff {s p : ByteArray} : preF s p = true ↔ ∃ v, s.data.toList = p.data.toList ++ v := by
  unfold preF
  rw [Bool.and_eq_true, decide_eq_true_eq, decide_eq_true_eq]
  have key : (s.extract 0 p.size).data.toList = s.data.toList.take p.size := by
    rw [ByteArray.data_extract, Array.toList_extract, List.extract_eq_take_drop, List.drop_zero, Nat.sub_zero]
  constructor
  · rintro ⟨h1, h2⟩
    refine ⟨s.data.toList.drop p.size, ?_⟩
    rw [← h2, key, h2, List.take_append_drop]
  · rintro ⟨v, hv⟩
    have hl := congrArg List.length hv
    rw [List.length_append, size_list, size_list] at hl
    refine ⟨by omega, bytes_ext ?_⟩
    rw [key, hv, ← size_list p, List.take_left]
theorem in_iff {s d : ByteArray} (h : d ≠ ⟨#[]⟩) : inF s d = true ↔ ∃ v, s.data.toList = d.data.toList ++ 47 :: v := by
  unfold inF
  rw [decide_eq_false h, Bool.false_and, Bool.false_or, preF_iff, app_list]
  constructor
  · rintro ⟨v, hv⟩
    exact ⟨v, by rw [hv, List.append_assoc]; rfl⟩
  · rintro ⟨v, hv⟩
    exact ⟨v, by rw [hv, List.append_assoc]; rfl⟩
/-- What a path is in, by its bytes. -/
theorem up_split (s : ByteArray) : ((47 : UInt8) ∉ s.data.toList ∧ upF s = ⟨#[]⟩) ∨ ∃ u v, s.data.toList = u ++ 47 :: v ∧ (47 : UInt8) ∉ v ∧ upF s = mkS u := by
  obtain ⟨t, r, h1, h2, h3⟩ := idx_split s.data.toList.reverse 47
  have h1' : s.data.toList = r.reverse ++ t.reverse := by
    have := congrArg List.reverse h1
    rw [List.reverse_reverse, List.reverse_append] at this
    exact this
  rcases h3 with rfl | ⟨r', rfl⟩
  · refine .inl ⟨?_, up_none ?_⟩ <;> rw [h1'] <;> simpa using h2
  · refine .inr ⟨r'.reverse, t.reverse, ?_, by simpa using h2, ?_⟩
    · rw [h1']; simp
    · refine up_some (v := t.reverse) ?_ (by simpa using h2)
      rw [mkS_list, h1']; simp
/-- A path is in what it stands in, or in what that is in. -/
theorem in_up {s d : ByteArray} (hd : d ≠ ⟨#[]⟩) (h : inF s d = true) : upF s = d ∨ inF (upF s) d = true := by
  obtain ⟨v, hv⟩ := (in_iff hd).1 h
  rcases up_split s with ⟨h1, _⟩ | ⟨u, w, h1, h2, h3⟩
  · exact absurd (by rw [hv]; simp) h1
  · rw [h3]
    rw [hv] at h1
    rcases List.append_eq_append_iff.1 h1 with ⟨a, ha, hb⟩ | ⟨a, ha, hb⟩
    · -- d ++ a = u, 47 :: v = a ++ 47 :: w
      cases a with
      | nil =>
        left
        rw [List.append_nil] at ha
        rw [ha, mkS_self]
      | cons b a =>
        right
        rw [List.cons_append] at hb
        injection hb with hb1 hb2
        refine (in_iff hd).2 ⟨a, ?_⟩
        rw [mkS_list, ha, ← hb1]
    · -- u ++ a = d, 47 :: w = a ++ 47 :: v
      cases a with
      | nil =>
        left
        rw [List.append_nil] at ha
        rw [← ha, mkS_self]
      | cons b a =>
        rw [List.cons_append] at hb
        injection hb with hb1 hb2
        exact absurd (by rw [hb2]; simp) h2
theorem up_size {s : ByteArray} (h : upF s ≠ ⟨#[]⟩) : (upF s).size < s.size := by
  rcases up_split s with ⟨_, h1⟩ | ⟨u, w, h1, _, h3⟩
  · exact absurd h1 h
  · rw [h3, mkS_size, ← size_list s, h1]
    simp
theorem up_in {s : ByteArray} (h : upF s ≠ ⟨#[]⟩) : inF s (upF s) = true := by
  rw [in_iff h]
  rcases up_split s with ⟨_, h1⟩ | ⟨u, w, h1, _, h3⟩
  · exact absurd h1 h
  · exact ⟨w, by rw [h3, mkS_list, h1]⟩
theorem in_trans {a b c : ByteArray} (hb : b ≠ ⟨#[]⟩) (hc : c ≠ ⟨#[]⟩) (h : inF a b = true) (h2 : inF b c = true) : inF a c = true := by
  obtain ⟨v, hv⟩ := (in_iff hb).1 h
  obtain ⟨w, hw⟩ := (in_iff hc).1 h2
  exact (in_iff hc).2 ⟨w ++ 47 :: v, by rw [hv, hw]; simp⟩
theorem path_ne {s : ByteArray} (h : pathChk s = 0) : s ≠ ⟨#[]⟩ := fun e => by
  have := (pathChk_zero.1 h).1
  rw [e] at this
  revert this; decide
theorem in_self {s : ByteArray} (h : s ≠ ⟨#[]⟩) : inF s s = false := by
  cases hq : inF s s with
  | false => rfl
  | true =>
    obtain ⟨v, hv⟩ := (in_iff h).1 hq
    have := congrArg List.length hv
    simp at this
/-- With a node all that it is in is there. -/
theorem tree_in {t : List NodeT} (hT : TreeOk t) {d : ByteArray} (hd : d ≠ ⟨#[]⟩) : ∀ (k : Nat) (n : NodeT), n ∈ t → n.path.size ≤ k → inF n.path d = true → ∃ m ∈ t, m.path = d ∧ m.kind = 2
  | 0, n, hn, hk, hi => by
    have := (pathChk_zero.1 (hT.node n hn).path).1
    omega
  | k + 1, n, hn, hk, hi => by
    rcases in_up hd hi with h | h
    · rcases hT.up n hn with h1 | ⟨m, hm, h1, h2⟩
      · exact absurd (h.symm.trans h1) hd
      · exact ⟨m, hm, h1.trans h, h2⟩
    · rcases hT.up n hn with h1 | ⟨m, hm, h1, h2⟩
      · rw [h1] at h
        obtain ⟨v, hv⟩ := (in_iff hd).1 h
        simp at hv
      · by_cases hz : upF n.path = ⟨#[]⟩
        · rw [hz] at h
          obtain ⟨v, hv⟩ := (in_iff hd).1 h
          simp at hv
        · have hs := up_size hz
          exact tree_in hT hd k m hm (by rw [h1]; omega) (by rw [h1]; exact h)
/-! ### What is taken away -/
def goneP (s : ByteArray) (n : NodeT) : Bool := decide (n.path = s) || inF n.path s
def removeL (t : List NodeT) (s : ByteArray) : List NodeT := t.filter fun n => !goneP s n
theorem removed_tree {t : List NodeT} (hT : TreeOk t) {s : ByteArray} (hs : s ≠ ⟨#[]⟩) : TreeOk (removeL t s) := by
  unfold removeL
  refine ⟨fun n hn => hT.node n (List.mem_filter.1 hn).1, hT.sorted.filter _, fun n hn => ?_, fun a ha b hb => hT.one a (List.mem_filter.1 ha).1 b (List.mem_filter.1 hb).1⟩
  obtain ⟨h1, h2⟩ := List.mem_filter.1 hn
  rcases hT.up n h1 with h | ⟨m, hm, h3, h4⟩
  · exact .inl h
  · by_cases hz : upF n.path = ⟨#[]⟩
    · exact .inl hz
    refine .inr ⟨m, List.mem_filter.2 ⟨hm, ?_⟩, h3, h4⟩
    have hin := up_in hz
    have h5 : goneP s n = false := by simpa using h2
    unfold goneP at h5 ⊢
    rw [Bool.or_eq_false_iff] at h5
    rw [Bool.not_eq_true', Bool.or_eq_false_iff]
    have hnot : ∀ b : Bool, ¬ b = true → b = false := fun b h => by simpa using h
    refine ⟨decide_eq_false (fun e => ?_), hnot _ (fun e => ?_)⟩
    · rw [← h3, e] at hin
      rw [hin] at h5
      cases h5.2
    · rw [← h3] at hin
      have := in_trans (by rw [h3]; exact hz) hs hin e
      rw [this] at h5
      cases h5.2
theorem find_mem {t : List NodeT} {s : ByteArray} : ¬ findN t s < 0 ↔ ∃ n ∈ t, n.path = s := by
  constructor
  · intro h
    obtain ⟨j, x, _, h2, _, h4⟩ := findF_some h
    exact ⟨x, List.mem_of_getElem? h2, by simpa using h4⟩
  · rintro ⟨n, hn, h1⟩ h
    have := List.find?_eq_none.1 (findF_none h) n hn
    simp [h1] at this
theorem find_is {t : List NodeT} (hd : (t.map (·.path)).Nodup) {n : NodeT} (hn : n ∈ t) : ∃ j : Nat, findN t n.path = (j : Int) ∧ t[j]? = some n := by
  have h : ¬ findN t n.path < 0 := find_mem.2 ⟨n, hn, rfl⟩
  obtain ⟨j, x, h1, h2, _, h4⟩ := findF_some h
  have e : x = n := nodup_inj hd x n (List.mem_of_getElem? h2) hn (by simpa using h4)
  subst e
  exact ⟨j, by rw [findN, h1, Nat.zero_add], h2⟩
end Go.Proofs.YtgjldbcpohkmkaaDoor.Abs
