/- The law of nodes in whatever order: sorted, they are the tree again. -/
import Derived.Test.YtgjldbcpohkmkaaDoorRdepth
import Derived.Test.YtgjldbcpohkmkaaDoorRsame
import Derived.Test.YtgjldbcpohkmkaaDoorRtree4
namespace Go.Proofs.YtgjldbcpohkmkaaDoor.Abs
open Go.RowKit Go.MapKept
set_option linter.unusedVariables false
set_option linter.unusedSimpArgs false
set_option maxRecDepth 100000
set_option maxHeartbeats 4000000
theorem swap_perm {l : List NodeT} {i k : Nat} {x y : NodeT} (hx : l[i]? = some x) (hy : l[k]? = some y) : ((l.set i y).set k x).Perm l := by
  obtain ⟨h1, h2⟩ := List.getElem?_eq_some_iff.1 hx
  obtain ⟨h3, h4⟩ := List.getElem?_eq_some_iff.1 hy
  have h := Array.swap_perm (xs := l.toArray) (i := i) (j := k) (by simpa using h1) (by simpa using h3)
  rw [Array.perm_iff_toList_perm] at h
  simpa [Array.toList_swap, h2, h4] using h
def nodeP (p : ByteArray) : NodeT := ⟨p, 0, 0, ⟨#[]⟩, smallM, ⟨#[]⟩⟩
theorem two_ac : AC CX 15 [.row 12 [encNil (nodeP ⟨#[98]⟩), encNil (nodeP ⟨#[97]⟩)]] (.row 12 ([nodeP ⟨#[97]⟩, nodeP ⟨#[98]⟩].map encNode)) := by
  have h := osort_ac [nodeP ⟨#[97]⟩, nodeP ⟨#[98]⟩] [nodeP ⟨#[98]⟩, nodeP ⟨#[97]⟩] (by rw [List.pairwise_cons]; exact ⟨fun b hb => by rw [List.mem_singleton] at hb; subst hb; show lessF (⟨#[97]⟩ : ByteArray) ⟨#[98]⟩ < 0; decide +kernel, List.pairwise_singleton ..⟩) (fun x hx => by
    rcases List.mem_cons.1 hx with rfl | hx
    · show pathChk ⟨#[97]⟩ = 0; kernel_rfl
    · rw [List.mem_singleton] at hx; subst hx; show pathChk ⟨#[98]⟩ = 0; kernel_rfl) (fun x hx => by
    rcases List.mem_cons.1 hx with rfl | hx
    · show (0 : Nat) ≤ _; decide
    · rw [List.mem_singleton] at hx; subst hx; show (0 : Nat) ≤ _; decide) (List.Perm.swap _ _ _) (by decide)
  intro w vs ok hgd hG hr
  obtain ⟨v, rest, rfl, hv, hr⟩ := hr
  exact h w _ ok hgd hG ⟨v, _, rfl, (Imp.row (l := [encNil (nodeP ⟨#[98]⟩), encNil (nodeP ⟨#[97]⟩)]) (m := [encNode (nodeP ⟨#[98]⟩), encNode (nodeP ⟨#[97]⟩)]) ⟨encNil_imp rfl, encNil_imp rfl, trivial⟩) _ _ _ _ hv, hr⟩
theorem osortedLaw_ac (l : List RawT) (hl : l.length ≤ 100000000) (hg : ∀ r ∈ l, RawGood r) (m : List Int) (hm : m.length ≤ 100000000) (hgm : ∀ x ∈ m, isI x) : AC CX 4 [.row 4 (l.map encRaw), .row 1 (m.map encI)] (.v (.bool true)) := by
  obtain ⟨hT, hn⟩ := tree_ok (most := 20) hg (by decide)
  have hta := tree_ac l 20 hl hg
  generalize treeF l 20 = a at hT hn hta
  have hcl := clone_acb a (by omega)
  have hdp := depth_ac hT (by omega)
  have hdn : ∀ x ∈ a, deepN x ≤ 1000 := fun x hx => by
    have hpx := (hT.node x hx).path
    have h1 := pathChk_size hpx
    have h2 := Lib.countB_le (⟨#[47]⟩ : ByteArray) (by decide) x.path.size x.path (Nat.le_refl _)
    unfold deepN
    omega
  have hsame := sameTree_ac a a (by omega) (by omega)
  rw [decide_eq_true rfl] at hsame
  have hso : ∀ xs : List NodeT, xs.Perm a → AC CX 15 [.row 12 (xs.map encNode)] (.row 12 (a.map encNode)) := fun xs hp => osort_ac a xs hT.sorted (fun x hx => (hT.node x hx).path) (fun x hx => by have := (hT.node x hx).data; omega) hp (by rw [hp.length_eq]; omega)
  have htwo := two_ac
  have hcell : ∀ (t : List NodeT), ∀ l ∈ t.map encNode, l.length = 12 := fun t l hl => by obtain ⟨x, _, rfl⟩ := List.mem_map.1 hl; rfl
  refine AC_walk ⟨TB, 102, 0, [], []⟩ (fn := Tryd.f4) TB_ok Tryd.func4 rfl rfl rfl rfl rfl (fun _ => rfl) (fun _ => rfl) ?_; intro E hna hX
  refine goT ?_
  refine ⟨_, hta, by kernel_rfl, fun _ => rfl, ?_⟩
  repeat (first | ((with_reducible show W _ _ _ _ _ _); first | refine W_seq ?_ | refine W_block ?_ | refine W_regionB hX 2 rfl ?_ | refine W_cond ?_ | refine W_skip ?_ | refine W_exit ?_ | refine W_ret ?_) | ((fail_if_success (with_reducible show W _ _ _ _ _ _)); show W _ _ _ _ _ _) | refine andA ?_ | refine condT ?_ | refine condF ?_ | refine exB ?_ | refine exL ?_ | refine Exists.intro _ (And.intro rfl ?_) | refine Exists.intro _ (And.intro (get_mapN (by assumption)) ?_) | ((fail_if_success (with_reducible show LoopEnd _ _ _ _ _ _ _)); show LoopEnd _ _ _ _ _ _ _) | ((fail_if_success (with_reducible show JoinEnd _ _ _ _ _)); show JoinEnd _ _ _ _ _) | ((fail_if_success (with_reducible show JoinG _ _ _ _ _)); show JoinG _ _ _ _ _))
  refine W_regionN hX 1 ?_
  refine goT ?_
  refine ⟨[], _, _, _, _, ⟨hcl, by kernel_rfl, rfl, rfl, rfl, by decide, rfl, Nat.zero_le _, rfl, balln, ballc (cN _) balln, rfl, fun j hj => (by cases hj), fun j hj => (by cases hj)⟩, ?_⟩
  refine goT ?_
  refine W_loop (γ := Int × List NodeT) (fun g => -1 ≤ g.1 ∧ g.1 < 20 ∧ (g.1 < (a.length : Int)) ∧ g.2.Perm a) (fun g => (g.1 + 1).toNat) (fun g => ⟨[(1, .row 1 (m.map encI)), (5, .row 12 (a.map encNode)), (6, .own 0 12 0 a.length), (7, .v (.int .i64 g.1))], [.row 40 12 (g.2.map encNode)]⟩) ((a.length : Int) - 1, a) ⟨by show (-1 : Int) ≤ _; omega, by show _ < (20 : Int); omega, by show _ < (a.length : Int); omega, List.Perm.refl _⟩ (Drops.to [1, 5, 6, 7] rfl) ?_
  rintro ⟨i, xs⟩ ⟨hi0, hi1, hi2, hp⟩
  dsimp only at hi0 hi1 hi2 hp ⊢
  have hxl := hp.length_eq
  repeat (first | ((with_reducible show W _ _ _ _ _ _); first | refine W_seq ?_ | refine W_block ?_ | refine W_regionB hX 4 rfl ?_ | refine W_cond ?_ | refine W_skip ?_ | refine W_exit ?_ | refine W_ret ?_) | ((fail_if_success (with_reducible show W _ _ _ _ _ _)); show W _ _ _ _ _ _) | refine andA ?_ | refine condT ?_ | refine condF ?_ | refine exB ?_ | refine exL ?_ | refine Exists.intro _ (And.intro rfl ?_) | refine Exists.intro _ (And.intro (get_mapN (by assumption)) ?_) | ((fail_if_success (with_reducible show LoopEnd _ _ _ _ _ _ _)); show LoopEnd _ _ _ _ _ _ _) | ((fail_if_success (with_reducible show JoinEnd _ _ _ _ _)); show JoinEnd _ _ _ _ _) | ((fail_if_success (with_reducible show JoinG _ _ _ _ _)); show JoinG _ _ _ _ _))
  refine W_join True ⟨[(1, .row 1 (m.map encI)), (5, .row 12 (a.map encNode)), (6, .own 0 12 0 a.length), (7, .v (.int .i64 i)), (28, .v (.bool (decide (0 < i ∧ 0 < m.length))))], [.row 40 12 (xs.map encNode)]⟩ ?_ fun _ => ?_
  · by_cases hi : i > 0
    · have hq : decide ((m.length : Int) > 0) = decide (0 < i ∧ 0 < m.length) := decide_eq_decide.2 ⟨fun h => ⟨hi, by omega⟩, fun h => by omega⟩
      refine goT ?_
      exact ⟨trivial, Drops.to [1, 5, 6, 7, 28] (by rw [← hq]; rfl)⟩
    · have hq : decide (0 < i ∧ 0 < m.length) = false := decide_eq_false (fun h => hi h.1)
      refine goT ?_
      exact ⟨trivial, Drops.to [1, 5, 6, 7, 28] (by rw [hq]; rfl)⟩
  refine goT ?_
  refine condB_intro (fun h1 => ?_) (fun h1 => ?_)
  · have e1 : 0 < i ∧ 0 < m.length := of_decide_eq_true h1
    obtain ⟨j, rfl⟩ : ∃ j : Nat, i = (j : Int) := ⟨i.toNat, by omega⟩
    obtain ⟨z, hz⟩ := get_lt (l := m) (k := j % m.length) (Nat.mod_lt _ e1.2)
    have hpk := picked_ac z ((j : Int) + 1) (hgm z (List.mem_of_getElem? hz)) (by omega)
    have hpl := pick_lt (n := z) (m := (j : Int) + 1) (by omega)
    obtain ⟨q, hq⟩ : ∃ q : Nat, pickF z ((j : Int) + 1) = (q : Int) := ⟨_, (Int.toNat_of_nonneg hpl.1).symm⟩
    rw [hq] at hpk hpl
    obtain ⟨x, hx⟩ := get_lt (l := xs) (k := j) (by omega)
    obtain ⟨y, hy⟩ := get_lt (l := xs) (k := q) (by omega)
    have hmod : (j : Int).tmod (m.length : Int) = ((j % m.length : Nat) : Int) := by rw [Int.tmod_eq_emod_of_nonneg (by omega)]; rfl
    refine goT ?_
    refine ⟨_, hpk, by kernel_rfl, fun _ => rfl, ?_⟩
    have hxs1 : (xs.set j y).length = a.length := by rw [List.length_set]; exact hxl
    obtain ⟨w, hw⟩ := get_lt (l := xs.set j y) (k := q) (by omega)
    have hsp := (swap_perm hx hy).trans hp
    have hms : ((xs.set j y).set q x).map encNode = ((xs.set j y).map encNode).set q (encNode x) := List.map_set ..
    refine goT ?_
    refine W_drawR hX (n := 14) (follows_mixed Tryd.checked) 14 [.own 0 12 0 a.length, .v (.int .i64 j), .own 0 12 0 a.length, .v (.int .i64 q), .own 0 12 0 a.length, .v (.int .i64 q), .ptr 0 ((0 + q) * 12), .agg (encNode y), .own 0 12 0 a.length, .v (.int .i64 j), .ptr 0 ((0 + j) * 12), .agg (encNode x), .ptr 0 ((0 + j) * 12), .junk] [[.row 40 12 (xs.map encNode)], [.row 40 12 ((xs.set j y).map encNode)]] [13] [[0], [0], [0, 1], [0, 1], [0], [0], [0], [0], [0], [0], [0], [0], [0], []] (ws := [[], [], [], [], [], [], [(4, 45), (5, 46)], [(6, 47)], [], [], [(8, 49), (9, 50)], [(10, 51)], [(0, 41), (1, 42), (4, 45), (5, 46), (6, 47), (7, 48), (11, 52)], [(0, 41), (1, 42), (4, 45), (5, 46), (6, 47), (7, 48), (11, 52), (12, 53)]]) (ds := [41, 42, 43, 44, 45, 46, 47, 48, 49, 50, 51, 52, 53]) (wa := [(0, 41), (1, 42), (2, 43), (3, 44), (4, 45), (5, 46), (6, 47), (7, 48), (8, 49), (9, 50), (10, 51), (11, 52), (12, 53)]) ⟨by kernel_rfl, by kernel_rfl, by kernel_rfl, by kernel_rfl, by decide, by kernel_rfl, by kernel_rfl, by kernel_rfl, by decide, by kernel_rfl, by kernel_rfl⟩ rfl rfl rfl rfl rfl ?_ ?_
    · exact ⟨⟨rfl, True.intro⟩, ⟨rfl, True.intro⟩, ⟨rfl, rfl, True.intro⟩, ⟨rfl, rfl, True.intro⟩, ⟨rfl, True.intro⟩, ⟨rfl, True.intro⟩, ⟨⟨q, rfl, by omega, rfl⟩, True.intro⟩, ⟨⟨q, 0, encNode y, by omega, get_mapN hy, hcell _, rfl⟩, True.intro⟩, ⟨rfl, True.intro⟩, ⟨rfl, True.intro⟩, ⟨⟨j, rfl, by omega, rfl⟩, True.intro⟩, ⟨⟨j, 0, encNode x, by omega, get_mapN hx, hcell _, rfl⟩, True.intro⟩, ⟨⟨j, rfl, by omega, rfl⟩, True.intro⟩, ⟨j, 0, encNode x, (xs.set j y).map encNode, by omega, get_mapN hx, by decide, by rw [List.map_set]; rfl, rfl⟩, True.intro⟩
    refine goT ?_
    refine ⟨q, 0, encNode w, ((xs.set j y).set q x).map encNode, by omega, get_mapN hw, by decide, hms.symm ▸ rfl, ?_⟩
    refine goT ?_
    exact LoopEnd_fin ((j : Int) - 1, (xs.set j y).set q x) [1, 5, 6, 7] 1 hX ⟨by show (-1 : Int) ≤ _; omega, by show _ < (20 : Int); omega, by show _ < (a.length : Int); omega, hsp⟩ (by show ((j : Int) - 1 + 1).toNat < ((j : Int) + 1).toNat; omega) rfl rfl rfl rfl ⟨cN _, trivial⟩
  · clear h1 hi0 hi1 hi2
    have hsx := hso xs hp
    refine goT ?_
    refine ⟨_, hdp, by kernel_rfl, fun _ => rfl, ?_⟩
    refine goT ?_
    refine W_loop (fun k : Nat => k ≤ a.length) (fun k => a.length - k) (fun k => ⟨[(5, .row 12 (a.map encNode)), (6, .own 0 12 0 a.length), (9, .v (.int .i64 (deepL a))), (10, .v (.int .i64 0)), (11, .v (.int .i64 (deepL (a.take k)))), (60, .row 12 (a.map encNode)), (61, .v (.int .i64 a.length)), (62, .v (.int .i64 k))], [.row 40 12 (xs.map encNode)]⟩) 0 (Nat.zero_le _) (Drops.to [5, 6, 9, 10, 11, 60, 61, 62] rfl) ?_
    intro k hk
    refine goT ?_
    refine condB_intro (fun h1 => ?_) (fun h1 => ?_)
    · have e1 : (k : Int) < (a.length : Int) := of_decide_eq_true h1
      obtain ⟨x, hx⟩ := get_lt (l := a) (k := k) (by omega)
      have hpx := pathChk_size (hT.node x (List.mem_of_getElem? hx)).path
      have hct := count_ac x.path (by omega)
      have hdx := hdn x (List.mem_of_getElem? hx)
      have hst := deep_step hx
      unfold deepN at hdx hst
      refine goT ?_
      refine ⟨_, hct, by kernel_rfl, fun _ => rfl, ?_⟩
      refine goT ?_
      exact LoopEnd_fin (k + 1) [5, 6, 9, 10, 11, 60, 61, 62] 1 hX (by omega) (by omega) rfl (by rw [hst]; rfl) rfl rfl ⟨cN _, trivial⟩
    · have e1 : ¬ (k : Int) < (a.length : Int) := of_decide_eq_false h1
      obtain rfl : k = a.length := by omega
      rw [List.take_length]
      refine goT ?_
      refine ⟨_, htwo, by kernel_rfl, fun _ => rfl, ?_⟩
      repeat (first | ((with_reducible show W _ _ _ _ _ _); first | refine W_seq ?_ | refine W_block ?_ | refine W_regionB hX 16 rfl ?_ | refine W_cond ?_ | refine W_skip ?_ | refine W_exit ?_ | refine W_ret ?_) | ((fail_if_success (with_reducible show W _ _ _ _ _ _)); show W _ _ _ _ _ _) | refine andA ?_ | refine condT ?_ | refine condF ?_ | refine exB ?_ | refine exL ?_ | refine Exists.intro _ (And.intro rfl ?_) | refine Exists.intro _ (And.intro (get_mapN (by assumption)) ?_) | ((fail_if_success (with_reducible show LoopEnd _ _ _ _ _ _ _)); show LoopEnd _ _ _ _ _ _ _) | ((fail_if_success (with_reducible show JoinEnd _ _ _ _ _)); show JoinEnd _ _ _ _ _) | ((fail_if_success (with_reducible show JoinG _ _ _ _ _)); show JoinG _ _ _ _ _))
      refine W_freeze hna 0 [6] rfl (fun t ht => by simp at ht; subst ht; rfl) (by rw [List.length_map]; exact hxl) (cN _) True.intro rfl ?_
      have h97 : decide ((⟨#[97]⟩ : ByteArray) = ⟨#[97]⟩) = true := decide_eq_true rfl
      refine goT ?_
      refine ⟨_, hsx, by kernel_rfl, fun _ => rfl, ?_⟩
      refine goT ?_
      refine ⟨_, hsame, by kernel_rfl, fun _ => rfl, ?_⟩
      refine goT ?_
      have hdd : decide (deepL a = deepL a) = true := decide_eq_true rfl
      rw [hdd]
      rfl
end Go.Proofs.YtgjldbcpohkmkaaDoor.Abs
