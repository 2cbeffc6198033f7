/- The law of names. -/
import Derived.Test.YtghnifboofhcdaaDoorRall
namespace Go.Proofs.YtghnifboofhcdaaDoor.Abs
open Go.RowKit Go.MapKept
set_option linter.unusedVariables false
set_option linter.unusedSimpArgs false
set_option maxRecDepth 100000
set_option maxHeartbeats 4000000
/-- The tree itself, as a node. -/
def rootN : NodeT := ⟨⟨#[]⟩, 2, 0, ⟨#[]⟩, smallM, ⟨#[]⟩⟩
def dirsF (l : List NodeT) : List ByteArray := (l.filter fun n => decide (n.kind = 2)).map (·.path)
/-- How many names are told by the directories of a row. -/
def manyF (t l : List NodeT) : Nat := ((dirsF l).map fun d => (kids t d).length).sum
theorem many_dir {t l : List NodeT} {k : Nat} {x : NodeT} (hx : l[k]? = some x) (h : x.kind = 2) : manyF t (l.take (k + 1)) = manyF t (l.take k) + (kids t x.path).length := by
  unfold manyF dirsF
  rw [flt_keep hx (decide_eq_true h), List.map_append, List.map_append, List.sum_append]
  simp
theorem many_none {t l : List NodeT} {k : Nat} {x : NodeT} (hx : l[k]? = some x) (h : ¬ x.kind = 2) : manyF t (l.take (k + 1)) = manyF t (l.take k) := by
  unfold manyF dirsF
  rw [flt_drop hx (decide_eq_false h)]
theorem many_all {t : List NodeT} (hT : TreeOk t) : manyF t (rootN :: t) = t.length := by
  unfold manyF
  have hnd : (dirsF (rootN :: t)).Nodup := by
    have e : dirsF (rootN :: t) = ⟨#[]⟩ :: dirsF t := rfl
    rw [e, List.nodup_cons]
    refine ⟨fun h => ?_, ?_⟩
    · obtain ⟨n, hn, hp⟩ := List.mem_map.1 h
      exact path_ne (hT.node n (List.mem_filter.1 hn).1).path hp
    · have := tree_nodup hT
      rw [List.Nodup, List.pairwise_map] at this
      unfold dirsF
      rw [List.Nodup, List.pairwise_map]
      exact this.filter _
  rw [kids_count t _ hnd, List.filter_eq_self.2]
  intro n hn
  refine decide_eq_true ?_
  rcases hT.up n hn with h | ⟨m, hm, h1, h2⟩
  · rw [h]; exact List.mem_cons_self ..
  · rw [← h1]
    exact List.mem_cons_of_mem _ (List.mem_map_of_mem (f := (·.path)) (List.mem_filter.2 ⟨hm, decide_eq_true h2⟩))
theorem many_le {t : List NodeT} (hT : TreeOk t) (k : Nat) : manyF t ((rootN :: t).take k) ≤ t.length := by
  have h1 : manyF t (rootN :: t) = manyF t ((rootN :: t).take k) + manyF t ((rootN :: t).drop k) := by
    unfold manyF dirsF
    conv => lhs; rw [← List.take_append_drop k (rootN :: t), List.filter_append, List.map_append, List.map_append, List.sum_append]
  rw [many_all hT] at h1
  omega
theorem W_imp {X : RX} {C : Ctx} {E : Env} {Q : AQ} {st : St} {c : Code} (t : Nat) {x y : AV} (hx : lkS t st.slots = x) (hj : x ≠ .junk) (hi : Imp x y) (hav : ∀ k, y.avoids k = true) (h : forceSt (st.imp t y) fun s => W X C E c Q s) : W X C E c Q st := by
  rw [forceSt_iff] at h
  rcases lkS_mem (l := st.slots) (k := t) with h' | h'
  · exact absurd (hx.symm.trans h') hj
  · rw [hx] at h'
    exact ⟨fun β a w H => h.run β a w (H.imp h' hi (fun k _ => hav k))⟩
theorem ImpLL.refl : ∀ l : List (List AV), ImpLL l l
  | [] => trivial
  | x :: l => ⟨ImpL.refl x, ImpLL.refl l⟩
theorem named_ac (l : List RawT) (hl : l.length ≤ 100000000) (hg : ∀ r ∈ l, RawGood r) : AC CX 5 [.row 4 (l.map encRaw)] (.v (.bool true)) := by
  obtain ⟨hT, hn⟩ := tree_ok (most := 30) hg (by decide)
  have hta := tree_ac l 30 hl hg
  generalize treeF l 30 = t at hT hn hta
  have hsm := onames_ac smallT ⟨#[97]⟩ small_tree (by decide) (.inr ⟨smallA, List.mem_cons_self .., rfl, rfl⟩)
  have hse : basesF smallT ⟨#[97]⟩ = [⟨#[98]⟩] := by kernel_rfl
  rw [hse] at hsm
  have heq := equalS_ac [⟨#[98]⟩] (by decide)
  have hrl : (rootN :: t).length = t.length + 1 := rfl
  refine AC_walk ⟨TB, 89, 0, [], [18]⟩ (fn := Tryd.f5) TB_ok Tryd.func5 rfl rfl rfl rfl rfl (fun _ => rfl) (fun _ => rfl) ?_; intro E hna hX
  repeat (first | ((with_reducible show W _ _ _ _ _ _); first | refine W_seq ?_ | refine W_block ?_ | refine W_region hX ?_ | refine W_cond ?_ | refine W_skip ?_ | refine W_exit ?_ | refine W_ret ?_) | ((fail_if_success (with_reducible show W _ _ _ _ _ _)); show W _ _ _ _ _ _) | refine andA ?_ | refine condT ?_ | refine condF ?_ | refine exB ?_ | refine exL ?_ | refine Exists.intro _ (And.intro rfl ?_) | refine Exists.intro _ (And.intro (get_mapN (by assumption)) ?_) | ((fail_if_success (with_reducible show LoopEnd _ _ _ _ _ _ _)); show LoopEnd _ _ _ _ _ _ _) | ((fail_if_success (with_reducible show JoinEnd _ _ _ _ _)); show JoinEnd _ _ _ _ _) | ((fail_if_success (with_reducible show JoinG _ _ _ _ _)); show JoinG _ _ _ _ _))
  refine ⟨_, hta, by kernel_rfl, fun _ => rfl, ?_⟩
  repeat (first | ((with_reducible show W _ _ _ _ _ _); first | refine W_seq ?_ | refine W_region hX ?_ | refine W_cond ?_ | refine W_skip ?_ | refine W_exit ?_ | refine W_ret ?_) | ((fail_if_success (with_reducible show W _ _ _ _ _ _)); show W _ _ _ _ _ _) | refine andA ?_ | refine condT ?_ | refine condF ?_ | refine exB ?_ | refine exL ?_ | refine Exists.intro _ (And.intro rfl ?_) | refine Exists.intro _ (And.intro (get_mapN (by assumption)) ?_) | ((fail_if_success (with_reducible show LoopEnd _ _ _ _ _ _ _)); show LoopEnd _ _ _ _ _ _ _) | ((fail_if_success (with_reducible show JoinEnd _ _ _ _ _)); show JoinEnd _ _ _ _ _) | ((fail_if_success (with_reducible show JoinG _ _ _ _ _)); show JoinG _ _ _ _ _))
  refine ⟨t.length + 1, encNil rootN :: t.map encNode, by rw [List.length_map]; omega, rfl, ?_⟩
  repeat (first | ((with_reducible show W _ _ _ _ _ _); first | refine W_seq ?_ | refine W_region hX ?_ | refine W_cond ?_ | refine W_skip ?_ | refine W_exit ?_ | refine W_ret ?_) | ((fail_if_success (with_reducible show W _ _ _ _ _ _)); show W _ _ _ _ _ _) | refine andA ?_ | refine condT ?_ | refine condF ?_ | refine exB ?_ | refine exL ?_ | refine Exists.intro _ (And.intro rfl ?_) | refine Exists.intro _ (And.intro (get_mapN (by assumption)) ?_) | ((fail_if_success (with_reducible show LoopEnd _ _ _ _ _ _ _)); show LoopEnd _ _ _ _ _ _ _) | ((fail_if_success (with_reducible show JoinEnd _ _ _ _ _)); show JoinEnd _ _ _ _ _) | ((fail_if_success (with_reducible show JoinG _ _ _ _ _)); show JoinG _ _ _ _ _))
  refine W_freeze hna 0 [20] rfl (fun t ht => by simp at ht; subst ht; rfl) (by rw [List.length_cons, List.length_map]) (ClosedE_app (a := [encNil rootN]) (fun _ => rfl) (cN t)) True.intro rfl ?_
  refine W_imp 20 (x := .row 12 (encNil rootN :: t.map encNode)) (y := .row 12 ((rootN :: t).map encNode)) rfl (by simp) (Imp.row ⟨encNil_imp rfl, ImpLL.refl _⟩) (fun _ => rfl) ?_
  repeat (first | ((with_reducible show W _ _ _ _ _ _); first | refine W_seq ?_ | refine W_block ?_ | refine W_region hX ?_ | refine W_cond ?_ | refine W_skip ?_ | refine W_exit ?_ | refine W_ret ?_) | ((fail_if_success (with_reducible show W _ _ _ _ _ _)); show W _ _ _ _ _ _) | refine andA ?_ | refine condT ?_ | refine condF ?_ | refine exB ?_ | refine exL ?_ | refine Exists.intro _ (And.intro rfl ?_) | refine Exists.intro _ (And.intro (get_mapN (by assumption)) ?_) | ((fail_if_success (with_reducible show LoopEnd _ _ _ _ _ _ _)); show LoopEnd _ _ _ _ _ _ _) | ((fail_if_success (with_reducible show JoinEnd _ _ _ _ _)); show JoinEnd _ _ _ _ _) | ((fail_if_success (with_reducible show JoinG _ _ _ _ _)); show JoinG _ _ _ _ _))
  refine W_loop (fun k : Nat => k ≤ t.length + 1) (fun k => t.length + 1 - k) (fun k => ⟨[(3, .row 12 (t.map encNode)), (4, .v (.int .i64 (manyF t ((rootN :: t).take k) : Nat))), (20, .row 12 ((rootN :: t).map encNode)), (21, .v (.int .i64 (t.length + 1 : Nat))), (22, .v (.int .i64 k))], []⟩) 0 (Nat.zero_le _) (Drops.fin [3, 4, 20, 21, 22] 0 (by rw [hX.np]; exact Nat.zero_le _) rfl rfl rfl trivial) ?_
  intro k hk
  repeat (first | ((with_reducible show W _ _ _ _ _ _); first | refine W_seq ?_ | refine W_block ?_ | refine W_region hX ?_ | refine W_cond ?_ | refine W_skip ?_ | refine W_exit ?_ | refine W_ret ?_) | ((fail_if_success (with_reducible show W _ _ _ _ _ _)); show W _ _ _ _ _ _) | refine andA ?_ | refine condT ?_ | refine condF ?_ | refine exB ?_ | refine exL ?_ | refine Exists.intro _ (And.intro rfl ?_) | refine Exists.intro _ (And.intro (get_mapN (by assumption)) ?_) | ((fail_if_success (with_reducible show LoopEnd _ _ _ _ _ _ _)); show LoopEnd _ _ _ _ _ _ _) | ((fail_if_success (with_reducible show JoinEnd _ _ _ _ _)); show JoinEnd _ _ _ _ _) | ((fail_if_success (with_reducible show JoinG _ _ _ _ _)); show JoinG _ _ _ _ _))
  refine condB_intro (fun h1 => ?_) (fun h1 => ?_)
  · have e1 : (k : Int) < ((t.length + 1 : Nat) : Int) := of_decide_eq_true h1
    obtain ⟨n, hnk⟩ := get_lt (l := rootN :: t) (k := k) (by omega)
    have hnm := List.mem_of_getElem? hnk
    have hml := many_le hT k
    have hml1 := many_le hT (k + 1)
    by_cases hkd : n.kind = 2
    · have hdir : DirOk t n.path := by
        rcases List.mem_cons.1 hnm with rfl | h
        · exact .inl rfl
        · exact .inr ⟨n, h, rfl, hkd⟩
      have hds := dir_size hT hdir
      have hnames := onames_ac t n.path hT (by omega) hdir
      have hbl : (basesF t n.path).length = (kids t n.path).length := by unfold basesF; rw [List.length_map]
      have hstep := many_dir (t := t) hnk hkd
      have hsort := sortedS_ac (basesF t n.path) (by omega) (kids_sorted hT n.path)
      repeat (first | ((with_reducible show W _ _ _ _ _ _); first | refine W_seq ?_ | refine W_block ?_ | refine W_region hX ?_ | refine W_cond ?_ | refine W_skip ?_ | refine W_exit ?_ | refine W_ret ?_) | ((fail_if_success (with_reducible show W _ _ _ _ _ _)); show W _ _ _ _ _ _) | refine andA ?_ | refine condT ?_ | refine condF ?_ | refine exB ?_ | refine exL ?_ | refine Exists.intro _ (And.intro rfl ?_) | refine Exists.intro _ (And.intro (get_mapN (by assumption)) ?_) | ((fail_if_success (with_reducible show LoopEnd _ _ _ _ _ _ _)); show LoopEnd _ _ _ _ _ _ _) | ((fail_if_success (with_reducible show JoinEnd _ _ _ _ _)); show JoinEnd _ _ _ _ _) | ((fail_if_success (with_reducible show JoinG _ _ _ _ _)); show JoinG _ _ _ _ _))
      refine ⟨_, hnames, by kernel_rfl, fun _ => rfl, ?_⟩
      repeat (first | ((with_reducible show W _ _ _ _ _ _); first | refine W_seq ?_ | refine W_block ?_ | refine W_region hX ?_ | refine W_cond ?_ | refine W_skip ?_ | refine W_exit ?_ | refine W_ret ?_) | ((fail_if_success (with_reducible show W _ _ _ _ _ _)); show W _ _ _ _ _ _) | refine andA ?_ | refine condT ?_ | refine condF ?_ | refine exB ?_ | refine exL ?_ | refine Exists.intro _ (And.intro rfl ?_) | refine Exists.intro _ (And.intro (get_mapN (by assumption)) ?_) | ((fail_if_success (with_reducible show LoopEnd _ _ _ _ _ _ _)); show LoopEnd _ _ _ _ _ _ _) | ((fail_if_success (with_reducible show JoinEnd _ _ _ _ _)); show JoinEnd _ _ _ _ _) | ((fail_if_success (with_reducible show JoinG _ _ _ _ _)); show JoinG _ _ _ _ _))
      refine ⟨_, hsort, by kernel_rfl, fun _ => rfl, ?_⟩
      repeat (first | ((with_reducible show W _ _ _ _ _ _); first | refine W_seq ?_ | refine W_block ?_ | refine W_region hX ?_ | refine W_cond ?_ | refine W_skip ?_ | refine W_exit ?_ | refine W_ret ?_) | ((fail_if_success (with_reducible show W _ _ _ _ _ _)); show W _ _ _ _ _ _) | refine andA ?_ | refine condT ?_ | refine condF ?_ | refine exB ?_ | refine exL ?_ | refine Exists.intro _ (And.intro rfl ?_) | refine Exists.intro _ (And.intro (get_mapN (by assumption)) ?_) | ((fail_if_success (with_reducible show LoopEnd _ _ _ _ _ _ _)); show LoopEnd _ _ _ _ _ _ _) | ((fail_if_success (with_reducible show JoinEnd _ _ _ _ _)); show JoinEnd _ _ _ _ _) | ((fail_if_success (with_reducible show JoinG _ _ _ _ _)); show JoinG _ _ _ _ _))
      generalize manyF t ((rootN :: t).take k) = M at hml hstep
      refine W_loop (fun j : Nat => j ≤ (kids t n.path).length) (fun j => (kids t n.path).length - j) (fun j => ⟨[(3, .row 12 (t.map encNode)), (4, .v (.int .i64 (M + j : Nat))), (6, .ptr 0 0), (20, .row 12 ((rootN :: t).map encNode)), (21, .v (.int .i64 (t.length + 1 : Nat))), (22, .v (.int .i64 k)), (45, .row 1 ((basesF t n.path).map encS)), (46, .v (.int .i64 (basesF t n.path).length)), (47, .v (.int .i64 j))], [.cells 35 (encNode n)]⟩) 0 (Nat.zero_le _) (Drops.to [3, 4, 6, 20, 21, 22, 45, 46, 47] rfl) ?_
      intro j hj
      repeat (first | ((with_reducible show W _ _ _ _ _ _); first | refine W_seq ?_ | refine W_block ?_ | refine W_region hX ?_ | refine W_cond ?_ | refine W_skip ?_ | refine W_exit ?_ | refine W_ret ?_) | ((fail_if_success (with_reducible show W _ _ _ _ _ _)); show W _ _ _ _ _ _) | refine andA ?_ | refine condT ?_ | refine condF ?_ | refine exB ?_ | refine exL ?_ | refine Exists.intro _ (And.intro rfl ?_) | refine Exists.intro _ (And.intro (get_mapN (by assumption)) ?_) | ((fail_if_success (with_reducible show LoopEnd _ _ _ _ _ _ _)); show LoopEnd _ _ _ _ _ _ _) | ((fail_if_success (with_reducible show JoinEnd _ _ _ _ _)); show JoinEnd _ _ _ _ _) | ((fail_if_success (with_reducible show JoinG _ _ _ _ _)); show JoinG _ _ _ _ _))
      refine condB_intro (fun h2 => ?_) (fun h2 => ?_)
      · have e2 : (j : Int) < ((basesF t n.path).length : Int) := of_decide_eq_true h2
        obtain ⟨x, hx⟩ := get_lt (l := kids t n.path) (k := j) (by omega)
        obtain ⟨hxt, hxu⟩ := List.mem_filter.1 (List.mem_of_getElem? hx)
        have hxu := of_decide_eq_true hxu
        have hxp := (hT.node x hxt).path
        have hxz := pathChk_size hxp
        have hsj : (basesF t n.path)[j]? = some (baseF x.path) := by unfold basesF; rw [List.getElem?_map, hx]; rfl
        have hbz : (baseF x.path).size ≤ 400 := Nat.le_trans base_size hxz
        obtain ⟨y, _, hy2, _, hy3⟩ := kid_parts hxp hxu
        have s1 : (⟨#[47]⟩ : ByteArray).size = 1 := rfl
        obtain ⟨q, hq1, hq2⟩ := find_is (tree_nodup hT) hxt
        have hfind := find_ac t x.path (by omega)
        rw [hq1, if_neg (by omega), if_neg (by omega)] at hfind
        repeat (first | ((with_reducible show W _ _ _ _ _ _); first | refine W_seq ?_ | refine W_block ?_ | refine W_region hX ?_ | refine W_cond ?_ | refine W_skip ?_ | refine W_exit ?_ | refine W_ret ?_) | ((fail_if_success (with_reducible show W _ _ _ _ _ _)); show W _ _ _ _ _ _) | refine andA ?_ | refine condT ?_ | refine condF ?_ | refine exB ?_ | refine exL ?_ | refine Exists.intro _ (And.intro rfl ?_) | refine Exists.intro _ (And.intro (get_mapN (by assumption)) ?_) | ((fail_if_success (with_reducible show LoopEnd _ _ _ _ _ _ _)); show LoopEnd _ _ _ _ _ _ _) | ((fail_if_success (with_reducible show JoinEnd _ _ _ _ _)); show JoinEnd _ _ _ _ _) | ((fail_if_success (with_reducible show JoinG _ _ _ _ _)); show JoinG _ _ _ _ _))
        refine cnd_join True ⟨[(3, .row 12 (t.map encNode)), (4, .v (.int .i64 (M + j : Nat))), (6, .ptr 0 0), (10, .v (.string x.path)), (20, .row 12 ((rootN :: t).map encNode)), (21, .v (.int .i64 (t.length + 1 : Nat))), (22, .v (.int .i64 k)), (45, .row 1 ((basesF t n.path).map encS)), (46, .v (.int .i64 (basesF t n.path).length)), (47, .v (.int .i64 j))], [.cells 35 (encNode n)]⟩ ?_ fun _ => ?_
        · refine condB_intro (fun h3 => ?_) (fun h3 => ?_)
          · have hne : n.path ≠ ⟨#[]⟩ := by simpa using h3
            rw [if_neg hne, ← hy2] at hy3
            repeat (first | ((with_reducible show W _ _ _ _ _ _); first | refine W_seq ?_ | refine W_block ?_ | refine W_region hX ?_ | refine W_cond ?_ | refine W_skip ?_ | refine W_exit ?_ | refine W_ret ?_) | ((fail_if_success (with_reducible show W _ _ _ _ _ _)); show W _ _ _ _ _ _) | refine andA ?_ | refine condT ?_ | refine condF ?_ | refine exB ?_ | refine exL ?_ | refine Exists.intro _ (And.intro rfl ?_) | refine Exists.intro _ (And.intro (get_mapN (by assumption)) ?_) | ((fail_if_success (with_reducible show LoopEnd _ _ _ _ _ _ _)); show LoopEnd _ _ _ _ _ _ _) | ((fail_if_success (with_reducible show JoinEnd _ _ _ _ _)); show JoinEnd _ _ _ _ _) | ((fail_if_success (with_reducible show JoinG _ _ _ _ _)); show JoinG _ _ _ _ _))
            exact ⟨trivial, Drops.to [3, 4, 6, 10, 20, 21, 22, 45, 46, 47] (by rw [hy3]; rfl)⟩
          · have he : n.path = ⟨#[]⟩ := by simpa using h3
            rw [if_pos he, ← hy2] at hy3
            repeat (first | ((with_reducible show W _ _ _ _ _ _); first | refine W_seq ?_ | refine W_block ?_ | refine W_region hX ?_ | refine W_cond ?_ | refine W_skip ?_ | refine W_exit ?_ | refine W_ret ?_) | ((fail_if_success (with_reducible show W _ _ _ _ _ _)); show W _ _ _ _ _ _) | refine andA ?_ | refine condT ?_ | refine condF ?_ | refine exB ?_ | refine exL ?_ | refine Exists.intro _ (And.intro rfl ?_) | refine Exists.intro _ (And.intro (get_mapN (by assumption)) ?_) | ((fail_if_success (with_reducible show LoopEnd _ _ _ _ _ _ _)); show LoopEnd _ _ _ _ _ _ _) | ((fail_if_success (with_reducible show JoinEnd _ _ _ _ _)); show JoinEnd _ _ _ _ _) | ((fail_if_success (with_reducible show JoinG _ _ _ _ _)); show JoinG _ _ _ _ _))
            exact ⟨trivial, Drops.to [3, 4, 6, 10, 20, 21, 22, 45, 46, 47] (by rw [hy3]; rfl)⟩
        repeat (first | ((with_reducible show W _ _ _ _ _ _); first | refine W_seq ?_ | refine W_block ?_ | refine W_region hX ?_ | refine W_cond ?_ | refine W_skip ?_ | refine W_exit ?_ | refine W_ret ?_) | ((fail_if_success (with_reducible show W _ _ _ _ _ _)); show W _ _ _ _ _ _) | refine andA ?_ | refine condT ?_ | refine condF ?_ | refine exB ?_ | refine exL ?_ | refine Exists.intro _ (And.intro rfl ?_) | refine Exists.intro _ (And.intro (get_mapN (by assumption)) ?_) | ((fail_if_success (with_reducible show LoopEnd _ _ _ _ _ _ _)); show LoopEnd _ _ _ _ _ _ _) | ((fail_if_success (with_reducible show JoinEnd _ _ _ _ _)); show JoinEnd _ _ _ _ _) | ((fail_if_success (with_reducible show JoinG _ _ _ _ _)); show JoinG _ _ _ _ _))
        refine ⟨_, hfind, by kernel_rfl, fun _ => rfl, ?_⟩
        repeat (first | ((with_reducible show W _ _ _ _ _ _); first | refine W_seq ?_ | refine W_block ?_ | refine W_region hX ?_ | refine W_cond ?_ | refine W_skip ?_ | refine W_exit ?_ | refine W_ret ?_) | ((fail_if_success (with_reducible show W _ _ _ _ _ _)); show W _ _ _ _ _ _) | refine andA ?_ | refine condT ?_ | refine condF ?_ | refine exB ?_ | refine exL ?_ | refine Exists.intro _ (And.intro rfl ?_) | refine Exists.intro _ (And.intro (get_mapN (by assumption)) ?_) | ((fail_if_success (with_reducible show LoopEnd _ _ _ _ _ _ _)); show LoopEnd _ _ _ _ _ _ _) | ((fail_if_success (with_reducible show JoinEnd _ _ _ _ _)); show JoinEnd _ _ _ _ _) | ((fail_if_success (with_reducible show JoinG _ _ _ _ _)); show JoinG _ _ _ _ _))
        exact LoopEnd_fin (j + 1) [3, 4, 6, 20, 21, 22, 45, 46, 47] 1 hX (by omega) (by omega) rfl rfl rfl rfl ⟨rfl, trivial⟩
      · have e2 : ¬ (j : Int) < ((basesF t n.path).length : Int) := of_decide_eq_false h2
        obtain rfl : j = (kids t n.path).length := by omega
        repeat (first | ((with_reducible show W _ _ _ _ _ _); first | refine W_seq ?_ | refine W_block ?_ | refine W_region hX ?_ | refine W_cond ?_ | refine W_skip ?_ | refine W_exit ?_ | refine W_ret ?_) | ((fail_if_success (with_reducible show W _ _ _ _ _ _)); show W _ _ _ _ _ _) | refine andA ?_ | refine condT ?_ | refine condF ?_ | refine exB ?_ | refine exL ?_ | refine Exists.intro _ (And.intro rfl ?_) | refine Exists.intro _ (And.intro (get_mapN (by assumption)) ?_) | ((fail_if_success (with_reducible show LoopEnd _ _ _ _ _ _ _)); show LoopEnd _ _ _ _ _ _ _) | ((fail_if_success (with_reducible show JoinEnd _ _ _ _ _)); show JoinEnd _ _ _ _ _) | ((fail_if_success (with_reducible show JoinG _ _ _ _ _)); show JoinG _ _ _ _ _))
        exact LoopEnd_fin (k + 1) [3, 4, 20, 21, 22] 0 hX (by omega) (by omega) rfl (by rw [hstep]; rfl) rfl rfl trivial
    · have hnt : n ∈ t := by
        rcases List.mem_cons.1 hnm with rfl | h
        · exact absurd rfl hkd
        · exact h
      have hbad := onamesBad_ac t n.path hT (by omega) hnt rfl hkd
      have hstep := many_none (t := t) hnk hkd
      repeat (first | ((with_reducible show W _ _ _ _ _ _); first | refine W_seq ?_ | refine W_block ?_ | refine W_region hX ?_ | refine W_cond ?_ | refine W_skip ?_ | refine W_exit ?_ | refine W_ret ?_) | ((fail_if_success (with_reducible show W _ _ _ _ _ _)); show W _ _ _ _ _ _) | refine andA ?_ | refine condT ?_ | refine condF ?_ | refine exB ?_ | refine exL ?_ | refine Exists.intro _ (And.intro rfl ?_) | refine Exists.intro _ (And.intro (get_mapN (by assumption)) ?_) | ((fail_if_success (with_reducible show LoopEnd _ _ _ _ _ _ _)); show LoopEnd _ _ _ _ _ _ _) | ((fail_if_success (with_reducible show JoinEnd _ _ _ _ _)); show JoinEnd _ _ _ _ _) | ((fail_if_success (with_reducible show JoinG _ _ _ _ _)); show JoinG _ _ _ _ _))
      refine ⟨_, hbad, by kernel_rfl, fun _ => rfl, ?_⟩
      repeat (first | ((with_reducible show W _ _ _ _ _ _); first | refine W_seq ?_ | refine W_block ?_ | refine W_region hX ?_ | refine W_cond ?_ | refine W_skip ?_ | refine W_exit ?_ | refine W_ret ?_) | ((fail_if_success (with_reducible show W _ _ _ _ _ _)); show W _ _ _ _ _ _) | refine andA ?_ | refine condT ?_ | refine condF ?_ | refine exB ?_ | refine exL ?_ | refine Exists.intro _ (And.intro rfl ?_) | refine Exists.intro _ (And.intro (get_mapN (by assumption)) ?_) | ((fail_if_success (with_reducible show LoopEnd _ _ _ _ _ _ _)); show LoopEnd _ _ _ _ _ _ _) | ((fail_if_success (with_reducible show JoinEnd _ _ _ _ _)); show JoinEnd _ _ _ _ _) | ((fail_if_success (with_reducible show JoinG _ _ _ _ _)); show JoinG _ _ _ _ _))
      exact LoopEnd_fin (k + 1) [3, 4, 20, 21, 22] 0 hX (by omega) (by omega) rfl (by rw [hstep]; rfl) rfl rfl trivial
  · have e1 : ¬ (k : Int) < ((t.length + 1 : Nat) : Int) := of_decide_eq_false h1
    obtain rfl : k = t.length + 1 := by omega
    have hall : manyF t ((rootN :: t).take (t.length + 1)) = t.length := by
      rw [← hrl, List.take_length]
      exact many_all hT
    rw [hall]
    repeat (first | ((with_reducible show W _ _ _ _ _ _); first | refine W_seq ?_ | refine W_block ?_ | refine W_region hX ?_ | refine W_cond ?_ | refine W_skip ?_ | refine W_exit ?_ | refine W_ret ?_) | ((fail_if_success (with_reducible show W _ _ _ _ _ _)); show W _ _ _ _ _ _) | refine andA ?_ | refine condT ?_ | refine condF ?_ | refine exB ?_ | refine exL ?_ | refine Exists.intro _ (And.intro rfl ?_) | refine Exists.intro _ (And.intro (get_mapN (by assumption)) ?_) | ((fail_if_success (with_reducible show LoopEnd _ _ _ _ _ _ _)); show LoopEnd _ _ _ _ _ _ _) | ((fail_if_success (with_reducible show JoinEnd _ _ _ _ _)); show JoinEnd _ _ _ _ _) | ((fail_if_success (with_reducible show JoinG _ _ _ _ _)); show JoinG _ _ _ _ _))
    refine ⟨_, small_ac, by kernel_rfl, fun _ => rfl, ?_⟩
    repeat (first | ((with_reducible show W _ _ _ _ _ _); first | refine W_seq ?_ | refine W_block ?_ | refine W_region hX ?_ | refine W_cond ?_ | refine W_skip ?_ | refine W_exit ?_ | refine W_ret ?_) | ((fail_if_success (with_reducible show W _ _ _ _ _ _)); show W _ _ _ _ _ _) | refine andA ?_ | refine condT ?_ | refine condF ?_ | refine exB ?_ | refine exL ?_ | refine Exists.intro _ (And.intro rfl ?_) | refine Exists.intro _ (And.intro (get_mapN (by assumption)) ?_) | ((fail_if_success (with_reducible show LoopEnd _ _ _ _ _ _ _)); show LoopEnd _ _ _ _ _ _ _) | ((fail_if_success (with_reducible show JoinEnd _ _ _ _ _)); show JoinEnd _ _ _ _ _) | ((fail_if_success (with_reducible show JoinG _ _ _ _ _)); show JoinG _ _ _ _ _))
    refine ⟨_, hsm, by kernel_rfl, fun _ => rfl, ?_⟩
    repeat (first | ((with_reducible show W _ _ _ _ _ _); first | refine W_seq ?_ | refine W_block ?_ | refine W_region hX ?_ | refine W_cond ?_ | refine W_skip ?_ | refine W_exit ?_ | refine W_ret ?_) | ((fail_if_success (with_reducible show W _ _ _ _ _ _)); show W _ _ _ _ _ _) | refine andA ?_ | refine condT ?_ | refine condF ?_ | refine exB ?_ | refine exL ?_ | refine Exists.intro _ (And.intro rfl ?_) | refine Exists.intro _ (And.intro (get_mapN (by assumption)) ?_) | ((fail_if_success (with_reducible show LoopEnd _ _ _ _ _ _ _)); show LoopEnd _ _ _ _ _ _ _) | ((fail_if_success (with_reducible show JoinEnd _ _ _ _ _)); show JoinEnd _ _ _ _ _) | ((fail_if_success (with_reducible show JoinG _ _ _ _ _)); show JoinG _ _ _ _ _))
    refine ⟨_, heq, by kernel_rfl, fun _ => rfl, ?_⟩
    repeat (first | ((with_reducible show W _ _ _ _ _ _); first | refine W_seq ?_ | refine W_block ?_ | refine W_region hX ?_ | refine W_cond ?_ | refine W_skip ?_ | refine W_exit ?_ | refine W_ret ?_) | ((fail_if_success (with_reducible show W _ _ _ _ _ _)); show W _ _ _ _ _ _) | refine andA ?_ | refine condT ?_ | refine condF ?_ | refine exB ?_ | refine exL ?_ | refine Exists.intro _ (And.intro rfl ?_) | refine Exists.intro _ (And.intro (get_mapN (by assumption)) ?_) | ((fail_if_success (with_reducible show LoopEnd _ _ _ _ _ _ _)); show LoopEnd _ _ _ _ _ _ _) | ((fail_if_success (with_reducible show JoinEnd _ _ _ _ _)); show JoinEnd _ _ _ _ _) | ((fail_if_success (with_reducible show JoinG _ _ _ _ _)); show JoinG _ _ _ _ _))
    rw [decide_eq_true rfl]
    rfl
end Go.Proofs.YtghnifboofhcdaaDoor.Abs
