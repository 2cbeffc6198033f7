/- Growing a tree. -/
import Derived.Test.YtgjldbcpohkmkaaDoorRsort
import Derived.Test.YtgjldbcpohkmkaaDoorDr9
namespace Go.Proofs.YtgjldbcpohkmkaaDoor.Abs
open Go.RowKit Go.MapKept
set_option linter.unusedVariables false
set_option linter.unusedSimpArgs false
set_option maxRecDepth 100000
set_option maxHeartbeats 4000000
def pre1 (d : ByteArray) : ByteArray := if d = ⟨#[]⟩ then d else d ++ ⟨#[47]⟩
def pathOf (r : RawT) (dirs : List ByteArray) : ByteArray := pre1 (dirs.getD (pickF r.c dirs.length).toNat ⟨#[]⟩) ++ namesF.getD (pickF r.b 11).toNat ⟨#[]⟩
def repF (s : ByteArray) (n : Int) : ByteArray := mkS (Lib.repeatL s.data.toList n.toNat)
def nodeOf (r : RawT) (p : ByteArray) : NodeT := ⟨p, 1, 0, ⟨#[]⟩, metaF r, repF (cleanF r.s 40) (pickF r.c 30)⟩
def stepT (r : RawT) (t : List NodeT) (dirs : List ByteArray) : List NodeT × List ByteArray :=
  let p := pathOf r dirs
  let n := nodeOf r p
  if 400 < p.size ∨ 0 ≤ findN t p then (t, dirs)
  else if pickF r.a 7 = 0 ∨ pickF r.a 7 = 1 then (t ++ [{ n with kind := 2, data := ⟨#[]⟩ }], dirs ++ [p])
  else if pickF r.a 7 = 2 then (t ++ [{ n with kind := 3, data := ⟨#[]⟩, target := ⟨#[116]⟩ ++ repF (cleanF r.s 10) (pickF r.b 20) }], dirs)
  else if pickF r.a 7 = 3 ∨ pickF r.a 7 = 4 then
    match t[(pickF r.b (t.length + 1)).toNat]? with
    | some u => if u.kind = 1 then
        (t.set (pickF r.b (t.length + 1)).toNat { u with same := if u.same = 0 then pickF r.b (t.length + 1) + 1 else u.same } ++ [{ u with same := if u.same = 0 then pickF r.b (t.length + 1) + 1 else u.same, path := p }], dirs)
      else (t ++ [n], dirs)
    | none => (t ++ [n], dirs)
  else (t ++ [n], dirs)
def growT (most : Int) : List RawT → List NodeT × List ByteArray → List NodeT
  | [], x => x.1
  | r :: l, x => if (x.1.length : Int) ≥ most then x.1 else growT most l (stepT r x.1 x.2)
def treeF (l : List RawT) (most : Int) : List NodeT := sortF (growT most l ([], [⟨#[]⟩]))
structure TInv (k : Nat) (t : List NodeT) (dirs : List ByteArray) : Prop where
  tl : t.length ≤ k
  dl : dirs.length ≤ k + 1
  d0 : 0 < dirs.length
  ds : ∀ d ∈ dirs, d.size ≤ 400
  tp : ∀ n ∈ t, n.path.size ≤ 400 ∧ n.data.size ≤ 1200
  nd : (t.map (·.path)).Nodup
theorem rep_size (s : ByteArray) (n : Int) : (repF s n).size = n.toNat * s.size := by
  unfold repF
  rw [mkS_size, Lib.repeatL_length, size_list]
theorem TInv.step {k : Nat} {t t' : List NodeT} {dirs dirs' : List ByteArray} {y : NodeT} {p : ByteArray} (h : TInv k t dirs) (hp : ¬ findN t p ≥ 0) (hs : p.size ≤ 400) (hy : y.path = p) (hd : y.data.size ≤ 1200) (ht : t'.map (·.path) = t.map (·.path)) (hd' : ∀ n ∈ t', n.data.size ≤ 1200) (hdir : dirs' = dirs ∨ dirs' = dirs ++ [p]) : TInv (k + 1) (t' ++ [y]) dirs' := by
  obtain ⟨h1, h2, h3, h4, h5, h6⟩ := h
  have hl : t'.length = t.length := by simpa using congrArg List.length ht
  have hmem : ∀ n ∈ t', ∃ m ∈ t, m.path = n.path := fun n hn => by
    have : n.path ∈ t'.map (·.path) := List.mem_map_of_mem (f := (·.path)) hn
    rw [ht] at this
    exact List.mem_map.1 this
  have hno : p ∉ t.map (·.path) := fun hm => by
    obtain ⟨m, hm, he⟩ := List.mem_map.1 hm
    have hf := findF_none (p := fun x : NodeT => decide (x.path = p)) (l := t) (k := 0) (show findN t p < 0 by omega)
    have := List.find?_eq_none.1 hf m hm
    simp [he] at this
  refine ⟨by simp [hl]; omega, ?_, ?_, ?_, ?_, ?_⟩
  · rcases hdir with rfl | rfl
    · omega
    · simp; omega
  · rcases hdir with rfl | rfl
    · exact h3
    · simp
  · rcases hdir with rfl | rfl
    · exact h4
    · intro d hd
      rcases List.mem_append.1 hd with hd | hd
      · exact h4 d hd
      · rw [List.mem_singleton] at hd; subst hd; exact hs
  · intro n hn
    rcases List.mem_append.1 hn with hn | hn
    · obtain ⟨m, hm, he⟩ := hmem n hn
      exact ⟨he ▸ (h5 m hm).1, hd' n hn⟩
    · rw [List.mem_singleton] at hn
      subst hn
      exact ⟨by rw [hy]; exact hs, hd⟩
  · rw [List.map_append, ht, List.map_singleton, hy, List.nodup_append]
    refine ⟨h6, by simp, fun a ha b hb e => ?_⟩
    rw [List.mem_singleton] at hb
    subst hb; subst e
    exact hno ha
/-- The boxes while a link is laid. -/
def treeBx (r : RawT) (t : List NodeT) (dirs : List ByteArray) (p : ByteArray) : List (List BoxC) :=
  [[.cells 34 [.own 2 12 0 t.length], .row 9 1 (dirs.map encS), .row 40 12 (t.map encNode), .cells 54 (encRaw r), .cells 40 (encNode (nodeOf r p))],
   [.cells 34 [.own 2 12 0 t.length], .row 9 1 (dirs.map encS), .row 40 12 (t.map encNode), .cells 54 (encRaw r), .cells 40 ((encNode (nodeOf r p)).set 1 (.v (.int .i64 3)))],
   [.cells 34 [.own 2 12 0 t.length], .row 9 1 (dirs.map encS), .row 40 12 (t.map encNode), .cells 54 (encRaw r), .cells 40 (((encNode (nodeOf r p)).set 1 (.v (.int .i64 3))).set 11 (.v (.slice none 0 0)))]]
theorem names_size : ∀ x ∈ namesF, x.size ≤ 130 := by
  have h : (namesF.all fun x => decide (x.size ≤ 130)) = true := by kernel_rfl
  exact fun x hx => of_decide_eq_true (List.all_eq_true.1 h x hx)
/-- A tree that will be written to. -/
theorem tree_acb (l : List RawT) (most : Int) (hl : l.length ≤ 100000000) (hg : ∀ r ∈ l, RawGood r) : ACB CX 10 [.row 4 (l.map encRaw), .v (.int .i64 most)] [] (.own 2 12 0 (treeF l most).length) [.none, .none, .row 40 12 ((treeF l most).map encNode)] := by
  refine ACB_walk ⟨TB, 144, 0, [], [13]⟩ (fn := Tryd.f10) TB_ok Tryd.func10 rfl rfl rfl rfl (fun i h => by cases h) rfl ?_; intro E hX
  repeat (first | ((with_reducible show W _ _ _ _ _ _); first | refine W_seq ?_ | refine W_region hX ?_ | refine W_cond ?_ | refine W_skip ?_ | refine W_exit ?_ | refine W_ret ?_) | ((fail_if_success (with_reducible show W _ _ _ _ _ _)); show W _ _ _ _ _ _) | refine andA ?_ | refine condT ?_ | refine condF ?_ | refine exB ?_ | refine exL ?_ | refine Exists.intro _ (And.intro rfl ?_) | refine Exists.intro _ (And.intro (get_mapN (by assumption)) ?_) | ((fail_if_success (with_reducible show LoopEnd _ _ _ _ _ _ _)); show LoopEnd _ _ _ _ _ _ _) | ((fail_if_success (with_reducible show JoinEnd _ _ _ _ _)); show JoinEnd _ _ _ _ _) | ((fail_if_success (with_reducible show JoinG _ _ _ _ _)); show JoinG _ _ _ _ _))
  refine W_nilBox 0 0 40 12 rfl rfl ?_
  refine W_joinG (γ := List NodeT × List ByteArray) (fun g => growT most l ([], [⟨#[]⟩]) = g.1 ∧ TInv l.length g.1 g.2) (fun g => ⟨[(5, .ptr 0 0)], [.cells 34 [.own 2 12 0 g.1.length], .row 9 1 (g.2.map encS), .row 40 12 (g.1.map encNode)]⟩) ?_ ?_
  · refine goT ?_
    refine W_loop (γ := Nat × List NodeT × List ByteArray) (fun g => g.1 ≤ l.length ∧ growT most l ([], [⟨#[]⟩]) = growT most (l.drop g.1) g.2 ∧ TInv g.1 g.2.1 g.2.2) (fun g => l.length - g.1) (fun g => ⟨[(1, .v (.int .i64 most)), (5, .ptr 0 0), (6, .own 1 1 0 g.2.2.length), (7, .fn (.func 19) [.ptr 0 0]), (15, .row 4 (l.map encRaw)), (16, .v (.int .i64 l.length)), (17, .v (.int .i64 g.1))], [.cells 34 [.own 2 12 0 g.2.1.length], .row 9 1 (g.2.2.map encS), .row 40 12 (g.2.1.map encNode)]⟩) (0, [], [⟨#[]⟩]) ⟨Nat.zero_le _, rfl, ⟨Nat.le_refl _, Nat.le_refl _, by decide, fun d hd => (by rw [List.mem_singleton] at hd; subst hd; decide), fun n hn => (by cases hn), by simp⟩⟩ (Drops.to [1, 5, 6, 7, 15, 16, 17] rfl) ?_
    rintro ⟨k, t, dirs⟩ ⟨hk, he, hI⟩
    dsimp only at hk he hI ⊢
    have i1 := hI.tl
    have i2 := hI.dl
    have i3 := hI.d0
    have cT : ∀ t : List NodeT, ClosedE (t.map encNode) := fun t => ClosedE_map (fun _ _ => rfl) t
    have cD : ∀ t : List ByteArray, ClosedE (t.map encS) := fun t => ClosedE_map (fun _ _ => rfl) t
    have up : TInv l.length t dirs := ⟨by omega, by omega, i3, hI.ds, hI.tp, hI.nd⟩
    refine goT ?_
    refine condB_intro (fun h1 => ?_) (fun h1 => ?_)
    · have e1 : (k : Int) < (l.length : Int) := of_decide_eq_true h1
      obtain ⟨r, hx⟩ := get_lt (l := l) (k := k) (by omega)
      have hgr := hg r (List.mem_of_getElem? hx)
      rw [drop_at hx, growT] at he
      dsimp only at he
      refine goT ?_
      refine condB_intro (fun h2 => ?_) (fun h2 => ?_)
      · have e2 : (t.length : Int) ≥ most := of_decide_eq_true h2
        rw [if_pos e2] at he
        refine goT ?_
        exact JoinG.mk' (t, dirs) ⟨he, up⟩ (Drops.fin [5] 3 (by rw [hX.np]; exact Nat.zero_le _) rfl rfl rfl ⟨rfl, cD _, cT _, trivial⟩)
      · have e2 : ¬ (t.length : Int) ≥ most := of_decide_eq_false h2
        rw [if_neg e2] at he
        have p1 := pick_lt (n := r.c) (m := dirs.length) (by omega)
        obtain ⟨d, hd⟩ := get_lt (l := dirs) (k := (pickF r.c dirs.length).toNat) (by omega)
        have hds := hI.ds d (List.mem_of_getElem? hd)
        have p2 := pick_lt (n := r.b) (m := 11) (by decide)
        obtain ⟨nm, hnm⟩ := get_lt (l := namesF) (k := (pickF r.b 11).toNat) (by show _ < 11; omega)
        have hnn := names_size nm (List.mem_of_getElem? hnm)
        have hp : pathOf r dirs = pre1 d ++ nm := by
          unfold pathOf
          rw [List.getD_eq_getElem?_getD, hd, List.getD_eq_getElem?_getD, hnm]
          rfl
        have hpre : (pre1 d).size ≤ 401 := by
          have s1 : (⟨#[47]⟩ : ByteArray).size = 1 := rfl
          unfold pre1
          split
          · omega
          · rw [ByteArray.size_append]; omega
        have s1 : (⟨#[47]⟩ : ByteArray).size = 1 := rfl
        refine goT ?_
        refine ⟨_, picked_ac r.c dirs.length hgr.c (by omega), by kernel_rfl, fun _ => rfl, ?_⟩
        refine goT ?_
        refine ⟨(pickF r.c dirs.length).toNat, by omega, by omega, ?_⟩
        refine goT ?_
        refine ⟨(pickF r.c dirs.length).toNat, 0, encS d, by omega, get_mapN hd, fun l hl => (by obtain ⟨x, _, rfl⟩ := List.mem_map.1 hl; rfl), ?_⟩
        refine goT ?_
        refine cnd_join True ⟨[(1, .v (.int .i64 most)), (5, .ptr 0 0), (6, .own 1 1 0 dirs.length), (7, .fn (.func 19) [.ptr 0 0]), (15, .row 4 (l.map encRaw)), (16, .v (.int .i64 l.length)), (17, .v (.int .i64 k)), (9, .ptr 3 0), (10, .v (.string (pre1 d)))], [.cells 34 [.own 2 12 0 t.length], .row 9 1 (dirs.map encS), .row 40 12 (t.map encNode), .cells 54 (encRaw r)]⟩ ?_ fun _ => ?_
        · refine condB_intro (fun h3 => ?_) (fun h3 => ?_)
          · have hq : pre1 d = d ++ ⟨#[47]⟩ := if_neg (by simpa using h3)
            refine goT ?_
            exact ⟨trivial, Drops.to [1, 5, 6, 7, 15, 16, 17, 9, 10] (by rw [hq]; rfl)⟩
          · have hq : pre1 d = d := if_pos (by simpa using h3)
            refine goT ?_
            exact ⟨trivial, Drops.to [1, 5, 6, 7, 15, 16, 17, 9, 10] (by rw [hq]; rfl)⟩
        refine goT ?_
        refine W_draw hX (n := 10) (follows_mixed Tryd.checked) (ws := [[], [], [], [(2, 39)], [(1, 38)], [(4, 41)], [(3, 40), (4, 41), (5, 42)], [(1, 38), (6, 43)], [(7, 44)], [(0, 37), (8, 45)]]) (ds := [37, 38, 39, 40, 41, 42, 43, 44, 45, 46]) (bi := []) (wa := [(0, 37), (1, 38), (2, 39), (3, 40), (4, 41), (5, 42), (6, 43), (7, 44), (8, 45), (9, 46)]) ⟨by kernel_rfl, by kernel_rfl, by kernel_rfl, by kernel_rfl, by decide, by kernel_rfl, by kernel_rfl, rfl, by decide, rfl⟩ ?_
        refine ⟨_, names_ac, by kernel_rfl, fun _ => rfl, ?_⟩
        refine goT ?_
        refine ⟨_, names_ac, by kernel_rfl, fun _ => rfl, ?_⟩
        refine goT ?_
        refine ⟨_, picked_ac r.b 11 hgr.b (by decide), by kernel_rfl, fun _ => rfl, ?_⟩
        refine goT ?_
        refine ⟨(pickF r.b 11).toNat, by omega, _, get_mapN hnm, ?_⟩
        refine goT ?_
        rw [← hp]
        have hps : (pathOf r dirs).size ≤ 531 := by rw [hp, ByteArray.size_append]; omega
        have upS : TInv (k + 1) t dirs := ⟨by omega, by omega, i3, hI.ds, hI.tp, hI.nd⟩
        generalize hpq : pathOf r dirs = p at hps
        refine condB_intro (fun h4 => ?_) (fun h4 => ?_)
        · have e4 := of_decide_eq_true h4
          have hst : stepT r t dirs = (t, dirs) := by
            unfold stepT
            dsimp only
            rw [hpq, if_pos (.inl (by omega))]
          rw [hst] at he
          refine goT ?_
          exact LoopEnd_fin (k + 1, t, dirs) [1, 5, 6, 7, 15, 16, 17] 3 hX ⟨by omega, he, upS⟩ (by show l.length - (k + 1) < l.length - k; omega) rfl rfl rfl rfl ⟨rfl, cD _, cT _, trivial⟩
        have e4 := of_decide_eq_false h4
        refine goT ?_
        refine .inr ⟨[0, 2], _, _, _, _, ⟨tree1_ac t p (by omega), by kernel_rfl, rfl, rfl, rfl, by decide, rfl, Nat.le_refl _, rfl, ballc rfl (ballc (cT t) balln), ballc rfl (ballc (cT t) balln), rfl, fun j _ => rfl, fun j _ => ⟨.inl (by decide), .inr (cD dirs j), .inl (by decide), .inr rfl, trivial⟩⟩, ?_⟩
        refine goT ?_
        refine condB_intro (fun h5 => ?_) (fun h5 => ?_)
        · have e5 := of_decide_eq_true h5
          have hst : stepT r t dirs = (t, dirs) := by
            unfold stepT
            dsimp only
            rw [hpq, if_pos (.inr e5)]
          rw [hst] at he
          refine goT ?_
          exact LoopEnd_fin (k + 1, t, dirs) [1, 5, 6, 7, 15, 16, 17] 3 hX ⟨by omega, he, upS⟩ (by show l.length - (k + 1) < l.length - k; omega) rfl rfl rfl rfl ⟨rfl, cD _, cT _, trivial⟩
        have e5 := of_decide_eq_false h5
        refine goT ?_
        refine W_drops (st' := ⟨[(1, .v (.int .i64 most)), (5, .ptr 0 0), (6, .own 1 1 0 dirs.length), (7, .fn (.func 19) [.ptr 0 0]), (15, .row 4 (l.map encRaw)), (16, .v (.int .i64 l.length)), (17, .v (.int .i64 k)), (9, .ptr 3 0), (10, .v (.string p))], [.cells 34 [.own 2 12 0 t.length], .row 9 1 (dirs.map encS), .row 40 12 (t.map encNode), .cells 54 (encRaw r)]⟩) (Drops.to [1, 5, 6, 7, 15, 16, 17, 9, 10] rfl) ?_
        have hst : stepT r t dirs = _ := rfl
        conv at hst => rhs; unfold stepT
        dsimp only at hst
        rw [hpq, if_neg (by omega)] at hst
        have c1 := clean_size r.s 40
        have c2 := clean_size r.s 10
        have q1 := pick_lt (n := r.c) (m := 30) (by decide)
        have q2 := pick_lt (n := r.b) (m := 20) (by decide)
        have q3 : (repF (cleanF r.s 40) (pickF r.c 30)).size ≤ 1200 := by
          rw [rep_size]
          have : (pickF r.c 30).toNat * (cleanF r.s 40).size ≤ 30 * 40 := Nat.mul_le_mul (by omega) (by omega)
          omega
        have q4 : (repF (cleanF r.s 10) (pickF r.b 20)).size ≤ 200 := by
          rw [rep_size]
          have : (pickF r.b 20).toNat * (cleanF r.s 10).size ≤ 20 * 10 := Nat.mul_le_mul (by omega) (by omega)
          omega
        have q5 : (cleanF r.s 40).size * (pickF r.c 30).toNat ≤ 40 * 30 := Nat.mul_le_mul (by omega) (by omega)
        have q6 : (cleanF r.s 10).size * (pickF r.b 20).toNat ≤ 10 * 20 := Nat.mul_le_mul (by omega) (by omega)
        refine goT ?_
        refine W_draw hX (n := 13) (follows_mixed Tryd.checked) (ws := [[], [], [(1, 57)], [], [(3, 59)], [(2, 58), (4, 60)], [], [(6, 62)], [(5, 61), (7, 63)], [(5, 61), (8, 64)], [(9, 65)], [(0, 56), (2, 58), (10, 66)], []]) (ds := [56, 57, 58, 59, 60, 61, 62, 63, 64, 65, 66, 67, 11]) (bi := [12]) (wa := [(0, 56), (1, 57), (2, 58), (3, 59), (4, 60), (5, 61), (6, 62), (7, 63), (8, 64), (9, 65), (10, 66), (11, 67), (12, 11)]) ⟨by kernel_rfl, by kernel_rfl, by kernel_rfl, by kernel_rfl, by decide, by kernel_rfl, by kernel_rfl, rfl, by decide, rfl⟩ ?_
        refine ⟨_, meta_ac r hgr, by kernel_rfl, fun _ => rfl, ?_⟩
        refine goT ?_
        refine ⟨_, clean_ac r.s 40 (by have := hgr.s; omega) (by decide), by kernel_rfl, fun _ => rfl, ?_⟩
        refine goT ?_
        refine ⟨_, picked_ac r.c 30 hgr.c (by decide), by kernel_rfl, fun _ => rfl, ?_⟩
        refine goT ?_
        refine ⟨_, repeat_ac (cleanF r.s 40) (pickF r.c 30) q1.1 (by omega) (by omega), by kernel_rfl, fun _ => rfl, ?_⟩
        repeat (first | ((with_reducible show W _ _ _ _ _ _); first | refine W_seq ?_ | refine W_region hX ?_ | refine W_cond ?_ | refine W_skip ?_ | refine W_exit ?_ | refine W_ret ?_) | ((fail_if_success (with_reducible show W _ _ _ _ _ _)); show W _ _ _ _ _ _) | refine andA ?_ | refine condT ?_ | refine condF ?_ | refine exB ?_ | refine exL ?_ | refine Exists.intro _ (And.intro rfl ?_) | refine Exists.intro _ (And.intro (get_mapN (by assumption)) ?_) | ((fail_if_success (with_reducible show LoopEnd _ _ _ _ _ _ _)); show LoopEnd _ _ _ _ _ _ _) | ((fail_if_success (with_reducible show JoinEnd _ _ _ _ _)); show JoinEnd _ _ _ _ _) | ((fail_if_success (with_reducible show JoinG _ _ _ _ _)); show JoinG _ _ _ _ _))
        refine ⟨_, picked_ac r.a 7 hgr.a (by decide), by kernel_rfl, fun _ => rfl, ?_⟩
        repeat (first | ((with_reducible show W _ _ _ _ _ _); first | refine W_seq ?_ | refine W_region hX ?_ | refine W_cond ?_ | refine W_skip ?_ | refine W_exit ?_ | refine W_ret ?_) | ((fail_if_success (with_reducible show W _ _ _ _ _ _)); show W _ _ _ _ _ _) | refine andA ?_ | refine condT ?_ | refine condF ?_ | refine exB ?_ | refine exL ?_ | refine Exists.intro _ (And.intro rfl ?_) | refine Exists.intro _ (And.intro (get_mapN (by assumption)) ?_) | ((fail_if_success (with_reducible show LoopEnd _ _ _ _ _ _ _)); show LoopEnd _ _ _ _ _ _ _) | ((fail_if_success (with_reducible show JoinEnd _ _ _ _ _)); show JoinEnd _ _ _ _ _) | ((fail_if_success (with_reducible show JoinG _ _ _ _ _)); show JoinG _ _ _ _ _))
        refine W_drops (st' := ⟨[(1, .v (.int .i64 most)), (5, .ptr 0 0), (6, .own 1 1 0 dirs.length), (7, .fn (.func 19) [.ptr 0 0]), (15, .row 4 (l.map encRaw)), (16, .v (.int .i64 l.length)), (17, .v (.int .i64 k)), (9, .ptr 3 0), (10, .v (.string p)), (11, .ptr 4 0), (70, .v (.int .i64 (pickF r.a 7)))], [.cells 34 [.own 2 12 0 t.length], .row 9 1 (dirs.map encS), .row 40 12 (t.map encNode), .cells 54 (encRaw r), .cells 40 (encNode (nodeOf r p))]⟩) (Drops.to [1, 5, 6, 7, 15, 16, 17, 9, 10, 11, 70] rfl) ?_
        have hTI : ∀ {dirs' : List ByteArray} {y : NodeT}, (dirs' = dirs ∨ dirs' = dirs ++ [p]) → y.path = p → y.data.size ≤ 1200 → TInv (k + 1) (t ++ [y]) dirs' := fun h1 h2 h3 => hI.step e5 (by omega) h2 h3 rfl (fun n hn => (hI.tp n hn).2) h1
        refine W_joinG (γ := List NodeT × List ByteArray × NodeT) (fun g => stepT r t dirs = (g.1 ++ [g.2.2], g.2.1) ∧ TInv (k + 1) (g.1 ++ [g.2.2]) g.2.1) (fun g => ⟨[(1, .v (.int .i64 most)), (5, .ptr 0 0), (6, .own 1 1 0 g.2.1.length), (7, .fn (.func 19) [.ptr 0 0]), (15, .row 4 (l.map encRaw)), (16, .v (.int .i64 l.length)), (17, .v (.int .i64 k)), (11, .ptr 4 0)], [.cells 34 [.own 2 12 0 g.1.length], .row 9 1 (g.2.1.map encS), .row 40 12 (g.1.map encNode), .cells 54 (encRaw r), .cells 40 (encNode g.2.2)]⟩) ?_ ?_
        · refine goT ?_
          refine condB_intro (fun h6 => ?_) (fun h6 => ?_)
          · have e6 := of_decide_eq_true h6
            refine goT ?_
            refine ⟨dirs.length + 1, (dirs ++ [p]).map encS, rfl, by rw [List.map_append]; rfl, ?_⟩
            refine goT ?_
            refine JoinG.mk' (t, dirs ++ [p], { nodeOf r p with kind := 2, data := ⟨#[]⟩ }) ⟨by rw [hst, if_pos (.inl e6)], hTI (.inr rfl) rfl (by show (0 : Nat) ≤ 1200; decide)⟩ ?_
            refine Drops.trans (Drops.nilBoxRow 4 11 1 rfl rfl) (Drops.to [1, 5, 6, 7, 15, 16, 17, 11] ?_)
            simp only [List.length_append, List.length_singleton]
            rfl
          have e6 := of_decide_eq_false h6
          refine goT ?_
          refine condB_intro (fun h7 => ?_) (fun h7 => ?_)
          · have e7 := of_decide_eq_true h7
            refine goT ?_
            refine ⟨dirs.length + 1, (dirs ++ [p]).map encS, rfl, by rw [List.map_append]; rfl, ?_⟩
            refine goT ?_
            refine JoinG.mk' (t, dirs ++ [p], { nodeOf r p with kind := 2, data := ⟨#[]⟩ }) ⟨by rw [hst, if_pos (.inr e7)], hTI (.inr rfl) rfl (by show (0 : Nat) ≤ 1200; decide)⟩ ?_
            refine Drops.trans (Drops.nilBoxRow 4 11 1 rfl rfl) (Drops.to [1, 5, 6, 7, 15, 16, 17, 11] ?_)
            simp only [List.length_append, List.length_singleton]
            rfl
          have e7 := of_decide_eq_false h7
          rw [if_neg (by omega)] at hst
          refine goT ?_
          refine condB_intro (fun h8 => ?_) (fun h8 => ?_)
          · have e8 := of_decide_eq_true h8
            refine goT ?_
            refine W_drawS hX (n := 12) (follows_mixed Tryd.checked) 12 [.ptr 3 3, .v (.string r.s), .v (.string (cleanF r.s 10)), .ptr 3 1, .v (.int .i64 r.b), .v (.int .i64 (pickF r.b 20)), .v (.string (repF (cleanF r.s 10) (pickF r.b 20))), .v (.string (⟨#[116]⟩ ++ repF (cleanF r.s 10) (pickF r.b 20))), .ptr 4 1, .junk, .ptr 4 11, .junk] (treeBx r t dirs p) [9, 11] [[0], [0], [0], [0], [0], [0], [0], [0, 1, 2], [0], [], [1], []] (ws := [[], [(0, 82)], [(1, 83)], [], [(3, 85)], [(2, 84), (4, 86)], [(2, 84), (5, 87)], [(6, 88)], [], [(6, 88), (8, 90)], [(8, 90)], [(8, 90), (10, 91)]]) (ds := [82, 83, 84, 85, 86, 87, 88, 89, 90, 91]) (wa := [(0, 82), (1, 83), (2, 84), (3, 85), (4, 86), (5, 87), (6, 88), (7, 89), (8, 90), (10, 91)]) ⟨by kernel_rfl, by kernel_rfl, by kernel_rfl, by kernel_rfl, by decide, by kernel_rfl, by kernel_rfl, by kernel_rfl, by decide, by kernel_rfl, by kernel_rfl⟩ rfl rfl rfl rfl rfl ?_ ?_
            · exact ⟨⟨rfl, True.intro⟩, ⟨rfl, True.intro⟩, ⟨⟨_, clean_ac r.s 10 (by have := hgr.s; omega) (by decide), by kernel_rfl, fun _ => rfl, rfl⟩, True.intro⟩, ⟨rfl, True.intro⟩, ⟨rfl, True.intro⟩, ⟨⟨_, picked_ac r.b 20 hgr.b (by decide), by kernel_rfl, fun _ => rfl, rfl⟩, True.intro⟩, ⟨⟨_, repeat_ac (cleanF r.s 10) (pickF r.b 20) q2.1 (by omega) (by omega), by kernel_rfl, fun _ => rfl, rfl⟩, True.intro⟩, ⟨⟨by show (1 : Nat) + (repF _ _).size ≤ _; omega, rfl⟩, ⟨by show (1 : Nat) + (repF _ _).size ≤ _; omega, rfl⟩, ⟨by show (1 : Nat) + (repF _ _).size ≤ _; omega, rfl⟩, True.intro⟩, ⟨rfl, True.intro⟩, rfl, ⟨rfl, True.intro⟩, rfl, True.intro⟩
            refine goT ?_
            refine JoinG.mk' (t, dirs, { nodeOf r p with kind := 3, data := ⟨#[]⟩, target := ⟨#[116]⟩ ++ repF (cleanF r.s 10) (pickF r.b 20) }) ⟨by rw [hst, if_pos e8], hTI (.inl rfl) rfl (by show (0 : Nat) ≤ 1200; decide)⟩ ?_
            exact Drops.trans (Drops.nilBoxRow 4 11 1 rfl rfl) (Drops.to [1, 5, 6, 7, 15, 16, 17, 11] rfl)
          have e8 := of_decide_eq_false h8
          rw [if_neg e8] at hst
          have fall : stepT r t dirs = (t ++ [nodeOf r p], dirs) → ∀ s, Drops CX E s ⟨[(1, .v (.int .i64 most)), (5, .ptr 0 0), (6, .own 1 1 0 dirs.length), (7, .fn (.func 19) [.ptr 0 0]), (15, .row 4 (l.map encRaw)), (16, .v (.int .i64 l.length)), (17, .v (.int .i64 k)), (11, .ptr 4 0)], [.cells 34 [.own 2 12 0 t.length], .row 9 1 (dirs.map encS), .row 40 12 (t.map encNode), .cells 54 (encRaw r), .cells 40 (encNode (nodeOf r p))]⟩ → JoinG CX E (fun g : List NodeT × List ByteArray × NodeT => stepT r t dirs = (g.1 ++ [g.2.2], g.2.1) ∧ TInv (k + 1) (g.1 ++ [g.2.2]) g.2.1) (fun g => ⟨[(1, .v (.int .i64 most)), (5, .ptr 0 0), (6, .own 1 1 0 g.2.1.length), (7, .fn (.func 19) [.ptr 0 0]), (15, .row 4 (l.map encRaw)), (16, .v (.int .i64 l.length)), (17, .v (.int .i64 k)), (11, .ptr 4 0)], [.cells 34 [.own 2 12 0 g.1.length], .row 9 1 (g.2.1.map encS), .row 40 12 (g.1.map encNode), .cells 54 (encRaw r), .cells 40 (encNode g.2.2)]⟩) s := fun h s hs => JoinG.mk' (t, dirs, nodeOf r p) ⟨h, hTI (.inl rfl) rfl q3⟩ hs
          have hcl : ∀ (t : List NodeT), ∀ l ∈ t.map encNode, l.length = 12 := fun t l hl => by obtain ⟨x, _, rfl⟩ := List.mem_map.1 hl; rfl
          have q7 := pick_lt (n := r.b) (m := t.length + 1) (by omega)
          refine goT ?_
          refine cnd_join True ⟨[(93, .v (.bool (decide (pickF r.a 7 = 3 ∨ pickF r.a 7 = 4)))), (1, .v (.int .i64 most)), (5, .ptr 0 0), (6, .own 1 1 0 dirs.length), (7, .fn (.func 19) [.ptr 0 0]), (15, .row 4 (l.map encRaw)), (16, .v (.int .i64 l.length)), (17, .v (.int .i64 k)), (9, .ptr 3 0), (10, .v (.string p)), (11, .ptr 4 0)], [.cells 34 [.own 2 12 0 t.length], .row 9 1 (dirs.map encS), .row 40 12 (t.map encNode), .cells 54 (encRaw r), .cells 40 (encNode (nodeOf r p))]⟩ ?_ fun _ => ?_
          · refine condB_intro (fun h9 => ?_) (fun h9 => ?_)
            · have e9 := of_decide_eq_true h9
              refine goT ?_
              exact ⟨trivial, Drops.to [93, 1, 5, 6, 7, 15, 16, 17, 9, 10, 11] (by rw [decide_eq_true (.inl e9 : pickF r.a 7 = 3 ∨ pickF r.a 7 = 4), decide_eq_true e9]; rfl)⟩
            · have e9 := of_decide_eq_false h9
              have e91 : decide (pickF r.a 7 = 3 ∨ pickF r.a 7 = 4) = decide (pickF r.a 7 = 4) := by
                rw [Bool.eq_iff_iff, decide_eq_true_eq, decide_eq_true_eq]
                exact ⟨fun h => h.resolve_left e9, .inr⟩
              refine goT ?_
              exact ⟨trivial, Drops.to [93, 1, 5, 6, 7, 15, 16, 17, 9, 10, 11] (by rw [e91]; rfl)⟩
          refine goT ?_
          refine condB_intro (fun h10 => ?_) (fun h10 => ?_)
          · have e10 := of_decide_eq_true h10
            rw [if_pos e10] at hst
            refine goT ?_
            refine ⟨_, picked_ac r.b (t.length + 1) hgr.b (by omega), by kernel_rfl, fun _ => rfl, ?_⟩
            refine goT ?_
            generalize hi : pickF r.b (t.length + 1) = i at q7 hst
            obtain ⟨j, rfl⟩ : ∃ j : Nat, i = (j : Int) := ⟨i.toNat, by omega⟩
            rw [Int.toNat_natCast] at hst
            refine condB_intro (fun g1 => ?_) (fun g1 => ?_)
            · have e11 := of_decide_eq_true g1
              obtain ⟨u, hu⟩ := get_lt (l := t) (k := j) (by omega)
              rw [hu] at hst
              dsimp only at hst
              have hud := hI.tp u (List.mem_of_getElem? hu)
              refine goT ?_
              refine ⟨j, 1, encNode u, by omega, get_mapN hu, hcl t, ?_⟩
              refine goT ?_
              refine condB_intro (fun g2 => ?_) (fun g2 => ?_)
              · have e12 := of_decide_eq_true g2
                rw [if_pos e12] at hst
                refine goT ?_
                refine ⟨j, 2, encNode u, by omega, get_mapN hu, hcl t, ?_⟩
                refine goT ?_
                obtain ⟨su, hsu⟩ : ∃ su : NodeT, su = { u with same := if u.same = 0 then (j : Int) + 1 else u.same } := ⟨_, rfl⟩
                have hst2 : stepT r t dirs = (t.set j su ++ [{ su with path := p }], dirs) := by rw [hst, hsu]
                have hsp : su.path = u.path := by rw [hsu]
                have hsd : su.data = u.data := by rw [hsu]
                have hsg : (t.set j su)[j]? = some su := by rw [List.getElem?_set_self (by omega)]
                refine cnd_join True ⟨[(1, .v (.int .i64 most)), (5, .ptr 0 0), (6, .own 1 1 0 dirs.length), (7, .fn (.func 19) [.ptr 0 0]), (15, .row 4 (l.map encRaw)), (16, .v (.int .i64 l.length)), (17, .v (.int .i64 k)), (10, .v (.string p)), (11, .ptr 4 0), (12, .v (.int .i64 (j : Int)))], [.cells 34 [.own 2 12 0 t.length], .row 9 1 (dirs.map encS), .row 40 12 ((t.set j su).map encNode), .cells 54 (encRaw r), .cells 40 (encNode (nodeOf r p))]⟩ ?_ fun _ => ?_
                · refine condB_intro (fun g3 => ?_) (fun g3 => ?_)
                  · have e13 := of_decide_eq_true g3
                    rw [if_pos e13] at hsu
                    refine goT ?_
                    refine ⟨j, 2, encNode u, (t.set j su).map encNode, by omega, get_mapN hu, by decide, by rw [List.map_set, hsu]; rfl, ?_⟩
                    refine goT ?_
                    exact ⟨trivial, Drops.to [1, 5, 6, 7, 15, 16, 17, 10, 11, 12] rfl⟩
                  · have e13 := of_decide_eq_false g3
                    rw [if_neg e13] at hsu
                    have e14 : t.set j su = t := by
                      obtain ⟨hj1, hj2⟩ := List.getElem?_eq_some_iff.1 hu
                      have : su = t[j] := by rw [hsu, hj2]
                      rw [this, List.set_getElem_self]
                    refine goT ?_
                    exact ⟨trivial, Drops.to [1, 5, 6, 7, 15, 16, 17, 10, 11, 12] (by rw [e14]; rfl)⟩
                refine goT ?_
                refine ⟨j, 0, encNode su, by omega, get_mapN hsg, hcl _, ?_⟩
                refine goT ?_
                refine ⟨_, clone_ac su.data (by rw [hsd]; omega), by kernel_rfl, fun _ => rfl, ?_⟩
                refine goT ?_
                refine JoinG.mk' (t.set j su, dirs, { su with path := p }) ⟨hst2, hI.step e5 (by omega) rfl (by show su.data.size ≤ 1200; rw [hsd]; exact hud.2) ?_ ?_ (.inl rfl)⟩ (Drops.to [1, 5, 6, 7, 15, 16, 17, 11] ?_)
                · show (t.set j su).map (·.path) = _
                  rw [List.map_set, hsp]
                  obtain ⟨hj1, hj2⟩ := List.getElem?_eq_some_iff.1 hu
                  apply List.ext_getElem?
                  intro m
                  rw [List.getElem?_set]
                  split
                  · rename_i hm
                    subst hm
                    rw [List.length_map, if_pos hj1, List.getElem?_map, hu]
                    rfl
                  · rfl
                · intro n hn
                  rcases List.mem_or_eq_of_mem_set hn with hn | rfl
                  · exact (hI.tp n hn).2
                  · rw [hsd]; exact hud.2
                · show _ = St.mk _ _
                  rw [List.length_set]
                  rfl
              · have e12 := of_decide_eq_false g2
                rw [if_neg e12] at hst
                refine goT ?_
                exact fall hst _ (Drops.to [1, 5, 6, 7, 15, 16, 17, 11] rfl)
            · have e11 := of_decide_eq_false g1
              rw [List.getElem?_eq_none (by omega)] at hst
              refine goT ?_
              exact fall hst _ (Drops.to [1, 5, 6, 7, 15, 16, 17, 11] rfl)
          have e10 := of_decide_eq_false h10
          rw [if_neg e10] at hst
          refine goT ?_
          exact fall hst _ (Drops.to [1, 5, 6, 7, 15, 16, 17, 11] rfl)
        · rintro ⟨t', dirs', y⟩ ⟨hs1, hs2⟩
          dsimp only at hs1 hs2 ⊢
          have htl := hs2.tl
          rw [List.length_append, List.length_singleton] at htl
          refine goT ?_
          refine ⟨t'.length + 1, (t' ++ [y]).map encNode, rfl, by rw [List.map_append]; rfl, ?_⟩
          refine goT ?_
          rw [hs1] at he
          exact LoopEnd_fin (k + 1, t' ++ [y], dirs') [1, 5, 6, 7, 15, 16, 17] 3 hX ⟨by omega, he, hs2⟩ (by show l.length - (k + 1) < l.length - k; omega) rfl (by simp only [List.length_append, List.length_singleton]; rfl) rfl rfl ⟨rfl, cD _, cT _, trivial⟩
    · have e1 : ¬ (k : Int) < (l.length : Int) := of_decide_eq_false h1
      obtain rfl : k = l.length := by omega
      rw [List.drop_length] at he
      refine goT ?_
      exact JoinG.mk' (t, dirs) ⟨he, up⟩ (Drops.fin [5] 3 (by rw [hX.np]; exact Nat.zero_le _) rfl rfl rfl ⟨rfl, cD _, cT _, trivial⟩)
  · rintro ⟨t, dirs⟩ ⟨he, hI⟩
    dsimp only at he hI ⊢
    have cT : ∀ t : List NodeT, ClosedE (t.map encNode) := fun t => ClosedE_map (fun _ _ => rfl) t
    have cD : ∀ t : List ByteArray, ClosedE (t.map encS) := fun t => ClosedE_map (fun _ _ => rfl) t
    have hlt := hI.tl
    have hsl : (sortF t).length = t.length := by unfold sortF; exact List.length_mergeSort _
    refine goT ?_
    refine .inr ⟨[2, 0], _, _, _, _, ⟨sort_ac t (by omega) (fun x hx => by have := (hI.tp x hx).1; omega) hI.nd, by kernel_rfl, rfl, rfl, rfl, by decide, rfl, Nat.le_refl _, rfl, ballc (cT t) (ballc rfl balln), ballc (cT _) (ballc rfl balln), rfl, fun j _ => rfl, fun j _ => ⟨.inl (by decide), .inr (cD dirs j), .inl (by decide), trivial⟩⟩, ?_⟩
    repeat (first | ((with_reducible show W _ _ _ _ _ _); first | refine W_seq ?_ | refine W_block ?_ | refine W_region hX ?_ | refine W_cond ?_ | refine W_skip ?_ | refine W_exit ?_) | ((fail_if_success (with_reducible show W _ _ _ _ _ _)); show W _ _ _ _ _ _) | refine andA ?_ | refine condT ?_ | refine condF ?_ | refine exB ?_ | refine exL ?_ | refine Exists.intro _ (And.intro rfl ?_) | refine Exists.intro _ (And.intro (get_mapN (by assumption)) ?_) | ((fail_if_success (with_reducible show LoopEnd _ _ _ _ _ _ _)); show LoopEnd _ _ _ _ _ _ _) | ((fail_if_success (with_reducible show JoinEnd _ _ _ _ _)); show JoinEnd _ _ _ _ _) | ((fail_if_success (with_reducible show JoinG _ _ _ _ _)); show JoinG _ _ _ _ _))
    have ht : treeF l most = sortF t := by unfold treeF; rw [he]
    rw [ht, hsl]
    refine W_unbox 0 rfl ?_
    refine W_unbox 1 rfl ?_
    refine goT ?_
    exact ⟨_, rfl⟩
theorem tree_ac (l : List RawT) (most : Int) (hl : l.length ≤ 100000000) (hg : ∀ r ∈ l, RawGood r) : AC CX 10 [.row 4 (l.map encRaw), .v (.int .i64 most)] (.row 12 ((treeF l most).map encNode)) :=
  AC_of_ACB (tree_acb l most hl hg) rfl (List.length_map _) (fun i => ClosedE_map (fun _ _ => rfl) _ i)
end Go.Proofs.YtgjldbcpohkmkaaDoor.Abs
