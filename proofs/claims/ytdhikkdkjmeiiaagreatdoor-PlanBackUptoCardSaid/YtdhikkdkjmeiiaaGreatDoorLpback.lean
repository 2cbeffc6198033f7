/- The law of members made of a tree and a tree made of these: it is the tree again, but for the numbers. -/
import Derived.Test.YtdhikkdkjmeiiaaGreatDoorRplanx
import Derived.Test.YtdhikkdkjmeiiaaGreatDoorRcopy
import Derived.Test.YtdhikkdkjmeiiaaGreatDoorRdalike
namespace Go.Proofs.YtdhikkdkjmeiiaaGreatDoor.Abs
open Go.RowKit Go.MapKept
set_option linter.unusedVariables false
set_option linter.unusedSimpArgs false
set_option maxRecDepth 100000
set_option maxHeartbeats 4000000
/-! ### plan.Tree, walked: the tree that a tree's members make is the tree numbered anew. -/
/-- The places of members, from i on. -/
def plL : Nat → List EntT → List (Value × AV)
  | _, [] => []
  | i, x :: l => (.string x.path, .v (.int .i64 i)) :: plL (i + 1) l
theorem plL_snoc (x : EntT) : ∀ (l : List EntT) (i : Nat), plL i (l ++ [x]) = plL i l ++ [(.string x.path, .v (.int .i64 ((i + l.length : Nat) : Int)))]
  | [], i => rfl
  | y :: l, i => by
    rw [List.cons_append, plL, plL_snoc x l (i + 1), plL, List.cons_append, List.length_cons, show i + 1 + l.length = i + (l.length + 1) by omega]
theorem cPl : ∀ (l : List EntT) (i : Nat), ClosedK (plL i l)
  | [], i => fun j => rfl
  | x :: l, i => fun j => by
    show (true && avoidsKV j (plL (i + 1) l)) = true
    rw [cPl l (i + 1) j]; rfl
theorem plL_find {s : ByteArray} : ∀ {l : List EntT} {i j : Nat} {y : EntT}, (l.map (·.path)).Nodup → l[j]? = some y → y.path = s → kvFind (.string s) (plL i l) = some (.v (.int .i64 ((i + j : Nat) : Int)))
  | [], _, _, _, _, h, _ => by simp at h
  | x :: l, i, 0, y, hn, h, e => by
    injection h with h
    subst h
    rw [plL, kvFind, keyEq_str, decide_eq_true e.symm, if_pos rfl]
    rfl
  | x :: l, i, j + 1, y, hn, h, e => by
    have h : l[j]? = some y := by simpa using h
    rw [List.map_cons, List.nodup_cons] at hn
    have hne : ¬ s = x.path := fun e2 => hn.1 (List.mem_map.2 ⟨y, List.mem_of_getElem? h, by rw [e, e2]⟩)
    rw [plL, kvFind, keyEq_str, decide_eq_false hne, if_neg (by decide), plL_find hn.2 h e, show i + 1 + j = i + (j + 1) by omega]
theorem plL_set {s : ByteArray} {v : AV} : ∀ {l : List EntT} {i : Nat}, (∀ y ∈ l, ¬ y.path = s) → kvSet (.string s) v (plL i l) = plL i l ++ [(.string s, v)]
  | [], _, _ => rfl
  | x :: l, i, h => by
    have hne : ¬ s = x.path := fun e => h x (List.mem_cons_self ..) e.symm
    rw [plL, kvSet, keyEq_str, decide_eq_false hne, if_neg (by decide), plL_set (fun y hy => h y (List.mem_cons_of_mem _ hy)), List.cons_append]
theorem look_fresh {l : List EntT} (hn : (l.map (·.path)).Nodup) {k : Nat} {x : EntT} (hk : l[k]? = some x) : ∀ y ∈ l.take k, ¬ y.path = x.path := fun y hy e => by
  have h := look_new hn hk
  unfold lookE at h
  rw [List.find?_eq_none] at h
  exact h y hy (decide_eq_true e)
theorem ptree_ac {t : List NodeT} (hT : TreeOk t) (ht : t.length ≤ 40) : AC CX 20 [.row 11 ((entsL t).map encE)] (.tup [.row 12 ((anewL t).map encNode), .v (.int .i64 0)]) := by
  have hch := pcheckT_ac hT ht
  have hE := ents_ok hT
  have hnd := ents_nodup hE
  have hel := ents_len t
  have hF := firstsOf t
  have hat : ∀ (i : Nat) (n : NodeT), t[i]? = some n → ∃ (q : Nat) (m : NodeT), (firstsL t 0 []).1[i]? = some (q : Int) ∧ q ≤ i ∧ t[q]? = some m ∧ (firstsL t 0 []).1[q]? = some (q : Int) ∧ (entsL t)[q]? = some (entOf m) ∧ (entsL t)[i]? = some (if q < i then linkOf n m.path else entOf n) ∧ (q < i → m.mt = n.mt ∧ m.data = n.data ∧ m.kind = n.kind ∧ m.kind = 1 ∧ m.target = n.target) ∧ n.kind ≤ 3 := fun i n hn => by
    obtain ⟨q, m, h1, h2, h3, h4⟩ := ents_at hn
    have gn := hT.node n (List.mem_of_getElem? hn)
    have hk3 : n.kind ≤ 3 := by
      rcases gn.kind with ⟨a, _⟩ | ⟨a, _⟩ | ⟨a, _⟩ <;> omega
    obtain ⟨p, g1, g2⟩ := hF.at_ q (List.getElem?_eq_some_iff.1 h3).1
    have e := firsts_self h2 g2
    subst e
    exact ⟨_, m, h1, h2.1, h3, g1, ents_first h2 h3, h4, fun h => (link_facts hT hn h3 h2 h).2, hk3⟩
  have hga : growL t (firstsL t 0 []).1 t.length = anewL t := grow_all hF
  have hg0 : growL t (firstsL t 0 []).1 0 = [] := by unfold growL; rw [List.take_zero]; rfl
  have hcp := copyR_ac (anewL t) (by rw [anew_len]; omega) (fun x hx => by have := ((anewT_tree hT).node x hx).data; omega)
  have hal := anew_len t
  have hgl : ∀ k, k ≤ t.length → (growL t (firstsL t 0 []).1 k).length = k := grow_len hF.len
  have hgf := fun (k : Nat) (x : NodeT) => grow_first (t := t) hF (k := k) (x := x)
  have hgk := fun (k : Nat) (x : NodeT) (q : Nat) (m : NodeT) => grow_link (t := t) hF (k := k) (x := x) (q := q) (m := m)
  generalize anewL t = an at hga hcp hal
  generalize hL : (firstsL t 0 []).1 = L at hat hga hg0 hgl hgf hgk
  generalize entsL t = es at hel hat hch hnd
  clear hF hE
  refine AC_walk ⟨TB, 66, 0, [], []⟩ (fn := Tryz.f20) TB_ok Tryz.func20 rfl rfl rfl rfl rfl (fun _ => rfl) (fun _ => rfl) ?_; intro E hna hX
  refine goT ?_
  refine ⟨_, hch, by kernel_rfl, fun _ => rfl, ?_⟩
  repeat (first | ((with_reducible show W _ _ _ _ _ _); first | refine W_seq ?_ | refine W_region hX ?_ | refine W_cond ?_ | refine W_skip ?_ | refine W_exit ?_ | refine W_ret ?_) | ((fail_if_success (with_reducible show W _ _ _ _ _ _)); show W _ _ _ _ _ _) | refine andA ?_ | refine condT ?_ | refine condF ?_ | refine exB ?_ | refine exL ?_ | refine Exists.intro _ (And.intro rfl ?_) | refine Exists.intro _ (And.intro (get_mapN (by assumption)) ?_) | ((fail_if_success (with_reducible show LoopEnd _ _ _ _ _ _ _)); show LoopEnd _ _ _ _ _ _ _) | ((fail_if_success (with_reducible show JoinEnd _ _ _ _ _)); show JoinEnd _ _ _ _ _) | ((fail_if_success (with_reducible show JoinG _ _ _ _ _)); show JoinG _ _ _ _ _))
  refine W_nilOwn hX 5 40 12 rfl rfl ?_
  have hcell : ∀ (t : List NodeT), ∀ l ∈ t.map encNode, l.length = 12 := fun t l hl => by obtain ⟨x, _, rfl⟩ := List.mem_map.1 hl; rfl
  refine goT ?_
  refine W_loop (fun k : Nat => k ≤ t.length) (fun k => t.length - k) (fun k => ⟨[(5, .own 1 12 0 k), (6, .mp 0), (17, .row 11 (es.map encE)), (18, .v (.int .i64 t.length)), (19, .v (.int .i64 k))], [.map .string (plL 0 (es.take k)), .row 40 12 ((growL t L k).map encNode)]⟩) 0 (Nat.zero_le _) (Drops.to [5, 6, 17, 18, 19] (by rw [hg0, ← hel]; rfl)) ?_
  intro k hk
  refine goT ?_
  refine condB_intro (fun h1 => ?_) (fun h1 => ?_)
  · have e1 : (k : Int) < (t.length : Int) := of_decide_eq_true h1
    obtain ⟨x, hx⟩ := get_lt (l := t) (k := k) (by omega)
    obtain ⟨q, m, hq, hqk, hm, hqq, heq, he, hlf, hk3⟩ := hat k x hx
    have hgk0 := hgl k hk
    have htl : (es.take k).length = k := by rw [List.length_take]; omega
    by_cases h2 : q < k
    · rw [if_pos h2] at he
      obtain ⟨f1, f2, f3, f4, f5⟩ := hlf h2
      obtain ⟨⟨s, hs⟩, hg1⟩ := hgk k x q m hx hq h2 hm hqq
      have hset : kvSet (.string x.path) (.v (.int .i64 k)) (plL 0 (es.take k)) = plL 0 (es.take (k + 1)) := by
        have hfr : ∀ y ∈ es.take k, ¬ y.path = x.path := look_fresh hnd he
        rw [plL_set (s := x.path) hfr, take_snoc he, plL_snoc, htl, Nat.zero_add]
        rfl
      have hfind : ∀ z, (kvFind (.string (linkOf x m.path).target) (plL 0 (es.take k))).getD z = .v (.int .i64 q) := fun z => by
        show (kvFind (.string m.path) _).getD z = _
        rw [plL_find (s := m.path) (i := 0) (j := q) (y := entOf m) (hnd.sublist ((List.take_sublist k es).map _)) (by rw [List.getElem?_take, if_pos h2]; exact heq) rfl, Nat.zero_add]
        rfl
      generalize hrow : growL t L k = row at hs hgk0 hg1
      have hget2 : (row.set q { m with same := (q : Int) + 1 })[q]? = some { m with same := (q : Int) + 1 } := by
        rw [List.getElem?_set_self (by omega)]
      have hlen2 : (row.set q { m with same := (q : Int) + 1 }).length = k := by rw [List.length_set]; exact hgk0
      have hnode : ({ m with same := (q : Int) + 1, path := x.path } : NodeT) = { x with same := (q : Int) + 1 } := by
        cases m; cases x
        simp only [NodeT.mk.injEq] at *
        simp_all
      refine goT ?_
      rw [hfind]
      refine goT ?_
      refine ⟨q, 2, encNode { m with same := s }, (row.set q { m with same := (q : Int) + 1 }).map encNode, by omega, get_mapN hs, by decide, by rw [List.map_set]; rfl, ?_⟩
      refine goT ?_
      refine ⟨q, 0, encNode { m with same := (q : Int) + 1 }, by omega, get_mapN hget2, hcell _, ?_⟩
      refine goT ?_
      refine ⟨plL 0 (es.take (k + 1)), ⟨hset⟩, ?_⟩
      refine goT ?_
      refine ⟨⟨cPl _ _, True.intro⟩, fun _ => rfl, cN _, k + 1, (growL t L (k + 1)).map encNode, rfl, by rw [hg1, ← hnode, List.map_append]; rfl, ?_⟩
      refine goT ?_
      exact LoopEnd_fin (k + 1) [5, 6, 17, 18, 19] 2 hX (by omega) (by omega) rfl rfl rfl rfl ⟨cPl _ _, cN _, trivial⟩
    · rw [if_neg h2] at he
      obtain rfl : q = k := by omega
      have hg1 := hgf q x hx hq
      have hk4 : ¬ (entOf x).kind = 4 := by show ¬ x.kind = 4; omega
      have hset : kvSet (.string x.path) (.v (.int .i64 q)) (plL 0 (es.take q)) = plL 0 (es.take (q + 1)) := by
        have hfr : ∀ y ∈ es.take q, ¬ y.path = x.path := look_fresh hnd he
        rw [plL_set (s := x.path) hfr, take_snoc he, plL_snoc, htl, Nat.zero_add]
        rfl
      generalize hrow : growL t L q = row at hgk0 hg1
      refine goT ?_
      refine ⟨plL 0 (es.take (q + 1)), ⟨hset⟩, ?_⟩
      refine goT ?_
      refine ⟨⟨cPl _ _, True.intro⟩, fun _ => rfl, cN _, q + 1, (growL t L (q + 1)).map encNode, rfl, by rw [hg1, List.map_append]; rfl, ?_⟩
      refine goT ?_
      exact LoopEnd_fin (q + 1) [5, 6, 17, 18, 19] 2 hX (by omega) (by omega) rfl rfl rfl rfl ⟨cPl _ _, cN _, trivial⟩
  · have e1 : ¬ (k : Int) < (t.length : Int) := of_decide_eq_false h1
    obtain rfl : k = t.length := by omega
    rw [hga]
    repeat (first | ((with_reducible show W _ _ _ _ _ _); first | refine W_seq ?_ | refine W_block ?_ | refine W_regionB hX 18 rfl ?_ | refine W_cond ?_ | refine W_skip ?_ | refine W_exit ?_ | refine W_ret ?_) | ((fail_if_success (with_reducible show W _ _ _ _ _ _)); show W _ _ _ _ _ _) | refine andA ?_ | refine condT ?_ | refine condF ?_ | refine exB ?_ | refine exL ?_ | refine Exists.intro _ (And.intro rfl ?_) | refine Exists.intro _ (And.intro (get_mapN (by assumption)) ?_) | ((fail_if_success (with_reducible show LoopEnd _ _ _ _ _ _ _)); show LoopEnd _ _ _ _ _ _ _) | ((fail_if_success (with_reducible show JoinEnd _ _ _ _ _)); show JoinEnd _ _ _ _ _) | ((fail_if_success (with_reducible show JoinG _ _ _ _ _)); show JoinG _ _ _ _ _))
    refine W_freeze hna 1 [5] rfl (fun t ht => by simp at ht; subst ht; rfl) (by rw [List.length_map]; exact hal) (cN _) ⟨cPl _ _, True.intro⟩ rfl ?_
    refine goT ?_
    refine ⟨_, hcp, by kernel_rfl, fun _ => rfl, ?_⟩
    refine goT ?_
    rfl
/-! ### The law of members made of a tree and a tree made of these: it is the tree again, but for the numbers. -/
theorem pbackLaw_ac (l : List RawT) (hl : l.length ≤ 100000000) (hg : ∀ r ∈ l, RawGood r) : AC CX 7 [.row 4 (l.map encRaw)] (.v (.bool true)) := by
  obtain ⟨hT, hn⟩ := tree_ok (most := 30) hg (by decide)
  have hta := tree_ac l 30 hl hg
  generalize treeF l 30 = a at hT hn hta
  have hmk := make0_ac hT (by omega)
  have hpt := ptree_ac hT (by omega)
  have hlen := anew_len a
  have hal := aliket_ac (anewL a) a (by omega) (by omega)
  rw [decide_eq_true ((alike_anew (anewT_tree hT) hT).2 (anewL_again hT))] at hal
  have hel := ents_len a
  generalize anewL a = an at hpt hal hlen
  generalize entsL a = es at hel hmk hpt
  obtain ⟨sm, u, hul, hsm, hsr⟩ := psmall_ex
  refine AC_walk ⟨TB, 54, 0, [], []⟩ (fn := Tryz.f7) TB_ok Tryz.func7 rfl rfl rfl rfl rfl (fun _ => rfl) (fun _ => rfl) ?_; intro E hna hX
  refine goT ?_
  refine ⟨_, hta, by kernel_rfl, fun _ => rfl, ?_⟩
  refine goT ?_
  refine ⟨_, hmk, by kernel_rfl, fun _ => rfl, ?_⟩
  refine goT ?_
  refine ⟨_, hpt, by kernel_rfl, fun _ => rfl, ?_⟩
  refine goT ?_
  refine ⟨_, hsm, by kernel_rfl, fun _ => rfl, ?_⟩
  refine goT ?_
  refine ⟨_, hsr, by kernel_rfl, fun _ => rfl, ?_⟩
  refine goT ?_
  refine ⟨_, hal, by kernel_rfl, fun _ => rfl, ?_⟩
  refine goT ?_
  rfl
end Go.Proofs.YtdhikkdkjmeiiaaGreatDoor.Abs
