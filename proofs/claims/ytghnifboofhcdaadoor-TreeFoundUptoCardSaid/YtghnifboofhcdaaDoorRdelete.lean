/- Taking nodes out of a tree. -/
import Derived.Test.YtghnifboofhcdaaDoorRput2
namespace Go.Proofs.YtghnifboofhcdaaDoor.Abs
open Go.RowKit Go.MapKept
set_option linter.unusedVariables false
set_option linter.unusedSimpArgs false
set_option maxRecDepth 100000
set_option maxHeartbeats 4000000
theorem findF_first {α : Type} {p : α → Bool} : ∀ {l : List α} {k j : Nat}, findF p l k = ((k + j : Nat) : Int) → ∀ (m : Nat) (x : α), m < j → l[m]? = some x → p x = false
  | [], _, _, _, m, x, _, hx => by simp at hx
  | y :: l, k, j, h, m, x, hm, hx => by
    rw [findF] at h
    by_cases hp : p y = true
    · rw [if_pos hp] at h
      omega
    · rw [if_neg hp] at h
      cases m with
      | zero =>
        injection hx with hx
        subst hx
        simpa using hp
      | succ m => exact findF_first (k := k + 1) (j := j - 1) (by rw [h]; omega) m x (by omega) (by simpa using hx)
theorem filter_keep {α : Type} {q : α → Bool} {xs : List α} {k : Nat} {x : α} (hx : xs[k]? = some x) (h : q x = true) : (xs.take (k + 1)).filter q = (xs.take k).filter q ++ [x] := by
  rw [take_snoc hx, List.filter_append, List.filter_cons_of_pos h]; rfl
theorem filter_drop {α : Type} {q : α → Bool} {xs : List α} {k : Nat} {x : α} (hx : xs[k]? = some x) (h : q x = false) : (xs.take (k + 1)).filter q = (xs.take k).filter q := by
  rw [take_snoc hx, List.filter_append, List.filter_cons_of_neg (by rw [h]; decide)]; simp
theorem cell12 (t : List NodeT) : ∀ l ∈ t.map encNode, l.length = 12 := fun l hl => by obtain ⟨x, _, rfl⟩ := List.mem_map.1 hl; rfl
theorem deleteFunc_acb (xs : List NodeT) (s : ByteArray) (f : Nat) (p : NodeT → Bool) (hl : xs.length ≤ 1000000) (hf : FnOk CX.P f = true) (h : ∀ x ∈ xs, AC CX f [.agg (encNode x), .eptr [.v (.string s)]] (.v (.bool (p x)))) : ACB CX 65 [.own 0 12 0 xs.length, .fn (.func f) [.ptr 1 0]] [.row 35 12 (xs.map encNode), .cells 9 [.v (.string s)]] (.own 0 12 0 (xs.filter fun x => !p x).length) [.row 35 12 ((xs.filter fun x => !p x).map encNode), .cells 9 [.v (.string s)]] := by
  have hix := indexFunc_ac xs f s p (by omega) hf h
  have hfl := findF_lt (p := p) xs 0
  refine ACB_walk ⟨TB, 42, 2, [], []⟩ (fn := Tryd.f65) TB_ok Tryd.func65 rfl rfl rfl rfl (fun i h => by cases h) rfl ?_; intro E hX
  repeat (first | ((with_reducible show W _ _ _ _ _ _); first | refine W_seq ?_ | refine W_block ?_ | refine W_region hX ?_ | refine W_cond ?_ | refine W_skip ?_ | refine W_exit ?_ | refine W_ret ?_) | ((fail_if_success (with_reducible show W _ _ _ _ _ _)); show W _ _ _ _ _ _) | refine andA ?_ | refine condT ?_ | refine condF ?_ | refine exB ?_ | refine exL ?_ | refine Exists.intro _ (And.intro rfl ?_) | refine Exists.intro _ (And.intro (get_mapN (by assumption)) ?_) | ((fail_if_success (with_reducible show LoopEnd _ _ _ _ _ _ _)); show LoopEnd _ _ _ _ _ _ _) | ((fail_if_success (with_reducible show JoinEnd _ _ _ _ _)); show JoinEnd _ _ _ _ _) | ((fail_if_success (with_reducible show JoinG _ _ _ _ _)); show JoinG _ _ _ _ _))
  refine .inl ⟨_, hix, by kernel_rfl, ⟨⟨⟨List.length_map _, cN _⟩, ⟨⟨True.intro, True.intro⟩, True.intro⟩⟩, True.intro⟩, ?_⟩
  by_cases hneg : findF p xs 0 < 0
  · have hm1 : findF p xs 0 = -1 := by omega
    have hno := List.find?_eq_none.1 (findF_none hneg)
    have hall : (xs.filter fun x => !p x) = xs := by
      rw [List.filter_eq_self]
      intro x hx
      have := hno x hx
      simpa using this
    rw [hm1, hall]
    repeat (first | ((with_reducible show W _ _ _ _ _ _); first | refine W_seq ?_ | refine W_block ?_ | refine W_region hX ?_ | refine W_cond ?_ | refine W_skip ?_ | refine W_exit ?_ | refine W_ret ?_) | ((fail_if_success (with_reducible show W _ _ _ _ _ _)); show W _ _ _ _ _ _) | refine andA ?_ | refine condT ?_ | refine condF ?_ | refine exB ?_ | refine exL ?_ | refine Exists.intro _ (And.intro rfl ?_) | refine Exists.intro _ (And.intro (get_mapN (by assumption)) ?_) | ((fail_if_success (with_reducible show LoopEnd _ _ _ _ _ _ _)); show LoopEnd _ _ _ _ _ _ _) | ((fail_if_success (with_reducible show JoinEnd _ _ _ _ _)); show JoinEnd _ _ _ _ _) | ((fail_if_success (with_reducible show JoinG _ _ _ _ _)); show JoinG _ _ _ _ _))
    exact ⟨_, rfl⟩
  obtain ⟨i0, x0, hfe, hx0, _, hpx⟩ := findF_some hneg
  have hfirst := findF_first (p := p) (l := xs) (k := 0) (j := i0) hfe
  rw [Nat.zero_add] at hfe
  have hi0 := (List.getElem?_eq_some_iff.1 hx0).1
  have hne : ¬ findF p xs 0 = -1 := by omega
  have hpre : (xs.take i0).filter (fun x => !p x) = xs.take i0 := by
    rw [List.filter_eq_self]
    intro x hx
    obtain ⟨k, hk⟩ := List.getElem?_of_mem hx
    rw [List.getElem?_take] at hk
    split at hk
    · rename_i hlt
      rw [hfirst k x hlt hk]
      rfl
    · cases hk
  rw [hfe]
  repeat (first | ((with_reducible show W _ _ _ _ _ _); first | refine W_seq ?_ | refine W_block ?_ | refine W_region hX ?_ | refine W_cond ?_ | refine W_skip ?_ | refine W_exit ?_ | refine W_ret ?_) | ((fail_if_success (with_reducible show W _ _ _ _ _ _)); show W _ _ _ _ _ _) | refine andA ?_ | refine condT ?_ | refine condF ?_ | refine exB ?_ | refine exL ?_ | refine Exists.intro _ (And.intro rfl ?_) | refine Exists.intro _ (And.intro (get_mapN (by assumption)) ?_) | ((fail_if_success (with_reducible show LoopEnd _ _ _ _ _ _ _)); show LoopEnd _ _ _ _ _ _ _) | ((fail_if_success (with_reducible show JoinEnd _ _ _ _ _)); show JoinEnd _ _ _ _ _) | ((fail_if_success (with_reducible show JoinG _ _ _ _ _)); show JoinG _ _ _ _ _))
  refine W_loop (γ := Nat × Nat × List NodeT) (fun g => g.1 < g.2.1 ∧ g.2.1 ≤ xs.length ∧ g.2.2.length = xs.length ∧ g.2.2.take g.1 = (xs.take g.2.1).filter (fun x => !p x) ∧ g.2.2.drop g.2.1 = xs.drop g.2.1) (fun g => xs.length - g.2.1) (fun g => ⟨[(0, .own 0 12 0 xs.length), (1, .fn (.func f) [.ptr 1 0]), (5, .v (.int .i64 g.1)), (6, .v (.int .i64 g.2.1))], [.row 35 12 (g.2.2.map encNode), .cells 9 [.v (.string s)]]⟩) (i0, i0 + 1, xs) ⟨by show i0 < i0 + 1; omega, by show i0 + 1 ≤ _; omega, rfl, by show xs.take i0 = (xs.take (i0 + 1)).filter _; rw [filter_drop hx0 (by rw [hpx]; rfl), hpre], rfl⟩ (Drops.to [0, 1, 5, 6] rfl) ?_
  rintro ⟨i, j, ys⟩ ⟨hij, hj, hyl, hyt, hyd⟩
  dsimp only at hij hj hyl hyt hyd ⊢
  repeat (first | ((with_reducible show W _ _ _ _ _ _); first | refine W_seq ?_ | refine W_block ?_ | refine W_region hX ?_ | refine W_cond ?_ | refine W_skip ?_ | refine W_exit ?_ | refine W_ret ?_) | ((fail_if_success (with_reducible show W _ _ _ _ _ _)); show W _ _ _ _ _ _) | refine andA ?_ | refine condT ?_ | refine condF ?_ | refine exB ?_ | refine exL ?_ | refine Exists.intro _ (And.intro rfl ?_) | refine Exists.intro _ (And.intro (get_mapN (by assumption)) ?_) | ((fail_if_success (with_reducible show LoopEnd _ _ _ _ _ _ _)); show LoopEnd _ _ _ _ _ _ _) | ((fail_if_success (with_reducible show JoinEnd _ _ _ _ _)); show JoinEnd _ _ _ _ _) | ((fail_if_success (with_reducible show JoinG _ _ _ _ _)); show JoinG _ _ _ _ _))
  refine condB_intro (fun h1 => ?_) (fun h1 => ?_)
  · have e1 : (j : Int) < (xs.length : Int) := of_decide_eq_true h1
    obtain ⟨x, hx⟩ := get_lt (l := xs) (k := j) (by omega)
    obtain ⟨y, hy⟩ := get_lt (l := ys) (k := i) (by omega)
    have hyj : ys[j]? = some x := by
      have : (ys.drop j)[0]? = (xs.drop j)[0]? := by rw [hyd]
      rw [List.getElem?_drop, List.getElem?_drop, Nat.add_zero] at this
      rw [this, hx]
    have hdrop : ∀ zs : List NodeT, zs.drop j = xs.drop j → zs.drop (j + 1) = xs.drop (j + 1) := fun zs hz => by
      have := congrArg (List.drop 1) hz
      rwa [List.drop_drop, List.drop_drop] at this
    have hcx := h x (List.mem_of_getElem? hx)
    repeat (first | ((with_reducible show W _ _ _ _ _ _); first | refine W_seq ?_ | refine W_block ?_ | refine W_region hX ?_ | refine W_cond ?_ | refine W_skip ?_ | refine W_exit ?_ | refine W_ret ?_) | ((fail_if_success (with_reducible show W _ _ _ _ _ _)); show W _ _ _ _ _ _) | refine andA ?_ | refine condT ?_ | refine condF ?_ | refine exB ?_ | refine exL ?_ | refine Exists.intro _ (And.intro rfl ?_) | refine Exists.intro _ (And.intro (get_mapN (by assumption)) ?_) | ((fail_if_success (with_reducible show LoopEnd _ _ _ _ _ _ _)); show LoopEnd _ _ _ _ _ _ _) | ((fail_if_success (with_reducible show JoinEnd _ _ _ _ _)); show JoinEnd _ _ _ _ _) | ((fail_if_success (with_reducible show JoinG _ _ _ _ _)); show JoinG _ _ _ _ _))
    refine ⟨j, 0, encNode x, by omega, get_mapN hyj, cell12 ys, ?_⟩
    cases hp : p x with
    | false =>
      rw [hp] at hcx
      repeat (first | ((with_reducible show W _ _ _ _ _ _); first | refine W_seq ?_ | refine W_block ?_ | refine W_region hX ?_ | refine W_cond ?_ | refine W_skip ?_ | refine W_exit ?_ | refine W_ret ?_) | ((fail_if_success (with_reducible show W _ _ _ _ _ _)); show W _ _ _ _ _ _) | refine andA ?_ | refine condT ?_ | refine condF ?_ | refine exB ?_ | refine exL ?_ | refine Exists.intro _ (And.intro rfl ?_) | refine Exists.intro _ (And.intro (get_mapN (by assumption)) ?_) | ((fail_if_success (with_reducible show LoopEnd _ _ _ _ _ _ _)); show LoopEnd _ _ _ _ _ _ _) | ((fail_if_success (with_reducible show JoinEnd _ _ _ _ _)); show JoinEnd _ _ _ _ _) | ((fail_if_success (with_reducible show JoinG _ _ _ _ _)); show JoinG _ _ _ _ _))
      refine .inl ⟨_, hcx, hf, ⟨⟨True.intro, True.intro⟩, ⟨True.intro, True.intro⟩⟩, ?_⟩
      repeat (first | ((with_reducible show W _ _ _ _ _ _); first | refine W_seq ?_ | refine W_block ?_ | refine W_region hX ?_ | refine W_cond ?_ | refine W_skip ?_ | refine W_exit ?_ | refine W_ret ?_) | ((fail_if_success (with_reducible show W _ _ _ _ _ _)); show W _ _ _ _ _ _) | refine andA ?_ | refine condT ?_ | refine condF ?_ | refine exB ?_ | refine exL ?_ | refine Exists.intro _ (And.intro rfl ?_) | refine Exists.intro _ (And.intro (get_mapN (by assumption)) ?_) | ((fail_if_success (with_reducible show LoopEnd _ _ _ _ _ _ _)); show LoopEnd _ _ _ _ _ _ _) | ((fail_if_success (with_reducible show JoinEnd _ _ _ _ _)); show JoinEnd _ _ _ _ _) | ((fail_if_success (with_reducible show JoinG _ _ _ _ _)); show JoinG _ _ _ _ _))
      refine ⟨i, 0, encNode y, (ys.set i x).map encNode, by omega, get_mapN hy, by decide, by rw [List.map_set]; rfl, ?_⟩
      repeat (first | ((with_reducible show W _ _ _ _ _ _); first | refine W_seq ?_ | refine W_block ?_ | refine W_region hX ?_ | refine W_cond ?_ | refine W_skip ?_ | refine W_exit ?_ | refine W_ret ?_) | ((fail_if_success (with_reducible show W _ _ _ _ _ _)); show W _ _ _ _ _ _) | refine andA ?_ | refine condT ?_ | refine condF ?_ | refine exB ?_ | refine exL ?_ | refine Exists.intro _ (And.intro rfl ?_) | refine Exists.intro _ (And.intro (get_mapN (by assumption)) ?_) | ((fail_if_success (with_reducible show LoopEnd _ _ _ _ _ _ _)); show LoopEnd _ _ _ _ _ _ _) | ((fail_if_success (with_reducible show JoinEnd _ _ _ _ _)); show JoinEnd _ _ _ _ _) | ((fail_if_success (with_reducible show JoinG _ _ _ _ _)); show JoinG _ _ _ _ _))
      refine LoopEnd_fin (i + 1, j + 1, ys.set i x) [0, 1, 5, 6] 2 hX ⟨by show i + 1 < j + 1; omega, by show j + 1 ≤ _; omega, by show (ys.set i x).length = _; rw [List.length_set]; exact hyl, ?_, ?_⟩ (by show xs.length - (j + 1) < xs.length - j; omega) rfl rfl rfl rfl ⟨cN _, rfl, trivial⟩
      · show (ys.set i x).take (i + 1) = (xs.take (j + 1)).filter _
        rw [filter_keep hx (by rw [hp]; rfl), ← hyt, take_snoc (x := x) (by rw [List.getElem?_set_self (by omega)]), List.take_set_of_le (Nat.le_refl _)]
      · show (ys.set i x).drop (j + 1) = xs.drop (j + 1)
        rw [List.drop_set_of_lt (by omega)]
        exact hdrop ys hyd
    | true =>
      rw [hp] at hcx
      repeat (first | ((with_reducible show W _ _ _ _ _ _); first | refine W_seq ?_ | refine W_block ?_ | refine W_region hX ?_ | refine W_cond ?_ | refine W_skip ?_ | refine W_exit ?_ | refine W_ret ?_) | ((fail_if_success (with_reducible show W _ _ _ _ _ _)); show W _ _ _ _ _ _) | refine andA ?_ | refine condT ?_ | refine condF ?_ | refine exB ?_ | refine exL ?_ | refine Exists.intro _ (And.intro rfl ?_) | refine Exists.intro _ (And.intro (get_mapN (by assumption)) ?_) | ((fail_if_success (with_reducible show LoopEnd _ _ _ _ _ _ _)); show LoopEnd _ _ _ _ _ _ _) | ((fail_if_success (with_reducible show JoinEnd _ _ _ _ _)); show JoinEnd _ _ _ _ _) | ((fail_if_success (with_reducible show JoinG _ _ _ _ _)); show JoinG _ _ _ _ _))
      refine .inl ⟨_, hcx, hf, ⟨⟨True.intro, True.intro⟩, ⟨True.intro, True.intro⟩⟩, ?_⟩
      repeat (first | ((with_reducible show W _ _ _ _ _ _); first | refine W_seq ?_ | refine W_block ?_ | refine W_region hX ?_ | refine W_cond ?_ | refine W_skip ?_ | refine W_exit ?_ | refine W_ret ?_) | ((fail_if_success (with_reducible show W _ _ _ _ _ _)); show W _ _ _ _ _ _) | refine andA ?_ | refine condT ?_ | refine condF ?_ | refine exB ?_ | refine exL ?_ | refine Exists.intro _ (And.intro rfl ?_) | refine Exists.intro _ (And.intro (get_mapN (by assumption)) ?_) | ((fail_if_success (with_reducible show LoopEnd _ _ _ _ _ _ _)); show LoopEnd _ _ _ _ _ _ _) | ((fail_if_success (with_reducible show JoinEnd _ _ _ _ _)); show JoinEnd _ _ _ _ _) | ((fail_if_success (with_reducible show JoinG _ _ _ _ _)); show JoinG _ _ _ _ _))
      refine LoopEnd_fin (i, j + 1, ys) [0, 1, 5, 6] 2 hX ⟨by show i < j + 1; omega, by show j + 1 ≤ _; omega, hyl, ?_, hdrop ys hyd⟩ (by show xs.length - (j + 1) < xs.length - j; omega) rfl rfl rfl rfl ⟨cN _, rfl, trivial⟩
      show ys.take i = (xs.take (j + 1)).filter _
      rw [filter_drop hx (by rw [hp]; rfl), hyt]
  · have e1 : ¬ (j : Int) < (xs.length : Int) := of_decide_eq_false h1
    obtain rfl : j = xs.length := by omega
    rw [List.take_length] at hyt
    have hlen : (xs.filter fun x => !p x).length = i := by rw [← hyt, List.length_take]; omega
    have het : (ys.map encNode).take i = (xs.filter fun x => !p x).map encNode := by rw [← List.map_take, hyt]
    rw [hlen]
    repeat (first | ((with_reducible show W _ _ _ _ _ _); first | refine W_seq ?_ | refine W_block ?_ | refine W_regionB hX 11 rfl ?_ | refine W_cond ?_ | refine W_skip ?_ | refine W_exit ?_ | refine W_ret ?_) | ((fail_if_success (with_reducible show W _ _ _ _ _ _)); show W _ _ _ _ _ _) | refine andA ?_ | refine condT ?_ | refine condF ?_ | refine exB ?_ | refine exL ?_ | refine Exists.intro _ (And.intro rfl ?_) | refine Exists.intro _ (And.intro (get_mapN (by assumption)) ?_) | ((fail_if_success (with_reducible show LoopEnd _ _ _ _ _ _ _)); show LoopEnd _ _ _ _ _ _ _) | ((fail_if_success (with_reducible show JoinEnd _ _ _ _ _)); show JoinEnd _ _ _ _ _) | ((fail_if_success (with_reducible show JoinG _ _ _ _ _)); show JoinG _ _ _ _ _))
    refine W_short 0 i rfl ?_
    rw [het]
    show W _ _ _ _ _ _
    refine ⟨AW_region ?_⟩
    refine AL_first hX ?_
    refine AL_first hX ?_
    refine AL_first hX ?_
    repeat (first | ((with_reducible show W _ _ _ _ _ _); first | refine W_seq ?_ | refine W_block ?_ | refine W_region hX ?_ | refine W_cond ?_ | refine W_skip ?_ | refine W_exit ?_ | refine W_ret ?_) | ((fail_if_success (with_reducible show W _ _ _ _ _ _)); show W _ _ _ _ _ _) | refine andA ?_ | refine condT ?_ | refine condF ?_ | refine exB ?_ | refine exL ?_ | refine Exists.intro _ (And.intro rfl ?_) | refine Exists.intro _ (And.intro (get_mapN (by assumption)) ?_) | ((fail_if_success (with_reducible show LoopEnd _ _ _ _ _ _ _)); show LoopEnd _ _ _ _ _ _ _) | ((fail_if_success (with_reducible show JoinEnd _ _ _ _ _)); show JoinEnd _ _ _ _ _) | ((fail_if_success (with_reducible show JoinG _ _ _ _ _)); show JoinG _ _ _ _ _))
    refine AL_clear (.inl rfl) rfl rfl rfl rfl ?_ (AllP_mem TB_ok.sls _ (look1_mem (t := 23) rfl)) ?_
    · rw [List.length_map, hlen]; omega
    refine AL_run hX ?_
    repeat (first | ((with_reducible show W _ _ _ _ _ _); first | refine W_seq ?_ | refine W_block ?_ | refine W_region hX ?_ | refine W_cond ?_ | refine W_skip ?_ | refine W_exit ?_ | refine W_ret ?_) | ((fail_if_success (with_reducible show W _ _ _ _ _ _)); show W _ _ _ _ _ _) | refine andA ?_ | refine condT ?_ | refine condF ?_ | refine exB ?_ | refine exL ?_ | refine Exists.intro _ (And.intro rfl ?_) | refine Exists.intro _ (And.intro (get_mapN (by assumption)) ?_) | ((fail_if_success (with_reducible show LoopEnd _ _ _ _ _ _ _)); show LoopEnd _ _ _ _ _ _ _) | ((fail_if_success (with_reducible show JoinEnd _ _ _ _ _)); show JoinEnd _ _ _ _ _) | ((fail_if_success (with_reducible show JoinG _ _ _ _ _)); show JoinG _ _ _ _ _))
    exact ⟨_, rfl⟩
def removeT (t : List NodeT) (s : ByteArray) : List NodeT := if findN t s < 0 then [] else removeL t s
theorem remove_ac (t : List NodeT) (s : ByteArray) (hT : TreeOk t) (hl : t.length ≤ 40) (hs : s.size ≤ 1000000) : AC CX 35 [.row 12 (t.map encNode), .v (.string s)] (.tup [.row 12 ((removeT t s).map encNode), .v (.int .i64 (if findN t s < 0 then 5 else 0))]) := by
  have hct := check_tree hT hl
  have hdat : ∀ x ∈ t, x.data.size ≤ 1000000 := fun x hx => by have := (hT.node x hx).data; omega
  have hchk := check_ac t hT.node (by omega)
  have hfind := find_ac t s (by omega)
  have hcop := copy_ac t (by omega) hdat
  have hdel := deleteFunc_acb t s 66 (goneP s) (by omega) (by kernel_rfl) (fun x hx => remove1_ac x s (by have := pathChk_size (hT.node x hx).path; omega) hs)
  rw [hct] at hchk
  unfold removeT
  by_cases hneg : findN t s < 0
  · rw [if_pos hneg, if_pos hneg]
    rw [if_pos hneg, if_pos hneg] at hfind
    refine AC_walk ⟨TB, 27, 0, [], []⟩ (fn := Tryd.f35) TB_ok Tryd.func35 rfl rfl rfl rfl rfl (fun _ => rfl) (fun _ => rfl) ?_; intro E hna hX
    repeat (first | ((with_reducible show W _ _ _ _ _ _); first | refine W_seq ?_ | refine W_block ?_ | refine W_region hX ?_ | refine W_cond ?_ | refine W_skip ?_ | refine W_exit ?_ | refine W_ret ?_) | ((fail_if_success (with_reducible show W _ _ _ _ _ _)); show W _ _ _ _ _ _) | refine andA ?_ | refine condT ?_ | refine condF ?_ | refine exB ?_ | refine exL ?_ | refine Exists.intro _ (And.intro rfl ?_) | refine Exists.intro _ (And.intro (get_mapN (by assumption)) ?_) | ((fail_if_success (with_reducible show LoopEnd _ _ _ _ _ _ _)); show LoopEnd _ _ _ _ _ _ _) | ((fail_if_success (with_reducible show JoinEnd _ _ _ _ _)); show JoinEnd _ _ _ _ _) | ((fail_if_success (with_reducible show JoinG _ _ _ _ _)); show JoinG _ _ _ _ _))
    refine ⟨_, hchk, by kernel_rfl, fun _ => rfl, ?_⟩
    repeat (first | ((with_reducible show W _ _ _ _ _ _); first | refine W_seq ?_ | refine W_block ?_ | refine W_region hX ?_ | refine W_cond ?_ | refine W_skip ?_ | refine W_exit ?_ | refine W_ret ?_) | ((fail_if_success (with_reducible show W _ _ _ _ _ _)); show W _ _ _ _ _ _) | refine andA ?_ | refine condT ?_ | refine condF ?_ | refine exB ?_ | refine exL ?_ | refine Exists.intro _ (And.intro rfl ?_) | refine Exists.intro _ (And.intro (get_mapN (by assumption)) ?_) | ((fail_if_success (with_reducible show LoopEnd _ _ _ _ _ _ _)); show LoopEnd _ _ _ _ _ _ _) | ((fail_if_success (with_reducible show JoinEnd _ _ _ _ _)); show JoinEnd _ _ _ _ _) | ((fail_if_success (with_reducible show JoinG _ _ _ _ _)); show JoinG _ _ _ _ _))
    refine ⟨_, hfind, by kernel_rfl, fun _ => rfl, ?_⟩
    repeat (first | ((with_reducible show W _ _ _ _ _ _); first | refine W_seq ?_ | refine W_block ?_ | refine W_region hX ?_ | refine W_cond ?_ | refine W_skip ?_ | refine W_exit ?_) | ((fail_if_success (with_reducible show W _ _ _ _ _ _)); show W _ _ _ _ _ _) | refine andA ?_ | refine condT ?_ | refine condF ?_ | refine exB ?_ | refine exL ?_ | refine Exists.intro _ (And.intro rfl ?_) | refine Exists.intro _ (And.intro (get_mapN (by assumption)) ?_) | ((fail_if_success (with_reducible show LoopEnd _ _ _ _ _ _ _)); show LoopEnd _ _ _ _ _ _ _) | ((fail_if_success (with_reducible show JoinEnd _ _ _ _ _)); show JoinEnd _ _ _ _ _) | ((fail_if_success (with_reducible show JoinG _ _ _ _ _)); show JoinG _ _ _ _ _))
    refine W_nilRow hX 4 12 rfl ?_
    repeat (first | ((with_reducible show W _ _ _ _ _ _); first | refine W_seq ?_ | refine W_block ?_ | refine W_region hX ?_ | refine W_cond ?_ | refine W_skip ?_ | refine W_exit ?_ | refine W_ret ?_) | ((fail_if_success (with_reducible show W _ _ _ _ _ _)); show W _ _ _ _ _ _) | refine andA ?_ | refine condT ?_ | refine condF ?_ | refine exB ?_ | refine exL ?_ | refine Exists.intro _ (And.intro rfl ?_) | refine Exists.intro _ (And.intro (get_mapN (by assumption)) ?_) | ((fail_if_success (with_reducible show LoopEnd _ _ _ _ _ _ _)); show LoopEnd _ _ _ _ _ _ _) | ((fail_if_success (with_reducible show JoinEnd _ _ _ _ _)); show JoinEnd _ _ _ _ _) | ((fail_if_success (with_reducible show JoinG _ _ _ _ _)); show JoinG _ _ _ _ _))
    rfl
  · rw [if_neg hneg, if_neg hneg]
    rw [if_neg hneg, if_neg hneg] at hfind
    refine AC_walk ⟨TB, 27, 0, [], []⟩ (fn := Tryd.f35) TB_ok Tryd.func35 rfl rfl rfl rfl rfl (fun _ => rfl) (fun _ => rfl) ?_; intro E hna hX
    repeat (first | ((with_reducible show W _ _ _ _ _ _); first | refine W_seq ?_ | refine W_block ?_ | refine W_region hX ?_ | refine W_cond ?_ | refine W_skip ?_ | refine W_exit ?_ | refine W_ret ?_) | ((fail_if_success (with_reducible show W _ _ _ _ _ _)); show W _ _ _ _ _ _) | refine andA ?_ | refine condT ?_ | refine condF ?_ | refine exB ?_ | refine exL ?_ | refine Exists.intro _ (And.intro rfl ?_) | refine Exists.intro _ (And.intro (get_mapN (by assumption)) ?_) | ((fail_if_success (with_reducible show LoopEnd _ _ _ _ _ _ _)); show LoopEnd _ _ _ _ _ _ _) | ((fail_if_success (with_reducible show JoinEnd _ _ _ _ _)); show JoinEnd _ _ _ _ _) | ((fail_if_success (with_reducible show JoinG _ _ _ _ _)); show JoinG _ _ _ _ _))
    refine ⟨_, hchk, by kernel_rfl, fun _ => rfl, ?_⟩
    repeat (first | ((with_reducible show W _ _ _ _ _ _); first | refine W_seq ?_ | refine W_block ?_ | refine W_region hX ?_ | refine W_cond ?_ | refine W_skip ?_ | refine W_exit ?_ | refine W_ret ?_) | ((fail_if_success (with_reducible show W _ _ _ _ _ _)); show W _ _ _ _ _ _) | refine andA ?_ | refine condT ?_ | refine condF ?_ | refine exB ?_ | refine exL ?_ | refine Exists.intro _ (And.intro rfl ?_) | refine Exists.intro _ (And.intro (get_mapN (by assumption)) ?_) | ((fail_if_success (with_reducible show LoopEnd _ _ _ _ _ _ _)); show LoopEnd _ _ _ _ _ _ _) | ((fail_if_success (with_reducible show JoinEnd _ _ _ _ _)); show JoinEnd _ _ _ _ _) | ((fail_if_success (with_reducible show JoinG _ _ _ _ _)); show JoinG _ _ _ _ _))
    refine ⟨_, hfind, by kernel_rfl, fun _ => rfl, ?_⟩
    repeat (first | ((with_reducible show W _ _ _ _ _ _); first | refine W_seq ?_ | refine W_block ?_ | refine W_regionB hX 7 rfl ?_ | refine W_cond ?_ | refine W_skip ?_ | refine W_exit ?_ | refine W_ret ?_) | ((fail_if_success (with_reducible show W _ _ _ _ _ _)); show W _ _ _ _ _ _) | refine andA ?_ | refine condT ?_ | refine condF ?_ | refine exB ?_ | refine exL ?_ | refine Exists.intro _ (And.intro rfl ?_) | refine Exists.intro _ (And.intro (get_mapN (by assumption)) ?_) | ((fail_if_success (with_reducible show LoopEnd _ _ _ _ _ _ _)); show LoopEnd _ _ _ _ _ _ _) | ((fail_if_success (with_reducible show JoinEnd _ _ _ _ _)); show JoinEnd _ _ _ _ _) | ((fail_if_success (with_reducible show JoinG _ _ _ _ _)); show JoinG _ _ _ _ _))
    refine W_regionN hX 1 ?_
    repeat (first | ((with_reducible show W _ _ _ _ _ _); first | refine W_seq ?_ | refine W_block ?_ | refine W_region hX ?_ | refine W_cond ?_ | refine W_skip ?_ | refine W_exit ?_ | refine W_ret ?_) | ((fail_if_success (with_reducible show W _ _ _ _ _ _)); show W _ _ _ _ _ _) | refine andA ?_ | refine condT ?_ | refine condF ?_ | refine exB ?_ | refine exL ?_ | refine Exists.intro _ (And.intro rfl ?_) | refine Exists.intro _ (And.intro (get_mapN (by assumption)) ?_) | ((fail_if_success (with_reducible show LoopEnd _ _ _ _ _ _ _)); show LoopEnd _ _ _ _ _ _ _) | ((fail_if_success (with_reducible show JoinEnd _ _ _ _ _)); show JoinEnd _ _ _ _ _) | ((fail_if_success (with_reducible show JoinG _ _ _ _ _)); show JoinG _ _ _ _ _))
    refine ⟨[], _, _, _, _, ⟨hcop, by kernel_rfl, rfl, rfl, rfl, by decide, rfl, Nat.zero_le _, rfl, balln, ballc (cN _) balln, rfl, fun j hj => (by cases hj), fun j hj => (by cases hj)⟩, ?_⟩
    repeat (first | ((with_reducible show W _ _ _ _ _ _); first | refine W_seq ?_ | refine W_block ?_ | refine W_region hX ?_ | refine W_cond ?_ | refine W_skip ?_ | refine W_exit ?_ | refine W_ret ?_) | ((fail_if_success (with_reducible show W _ _ _ _ _ _)); show W _ _ _ _ _ _) | refine andA ?_ | refine condT ?_ | refine condF ?_ | refine exB ?_ | refine exL ?_ | refine Exists.intro _ (And.intro rfl ?_) | refine Exists.intro _ (And.intro (get_mapN (by assumption)) ?_) | ((fail_if_success (with_reducible show LoopEnd _ _ _ _ _ _ _)); show LoopEnd _ _ _ _ _ _ _) | ((fail_if_success (with_reducible show JoinEnd _ _ _ _ _)); show JoinEnd _ _ _ _ _) | ((fail_if_success (with_reducible show JoinG _ _ _ _ _)); show JoinG _ _ _ _ _))
    refine .inr ⟨[1, 0], _, _, _, _, ⟨hdel, by kernel_rfl, rfl, rfl, rfl, by decide, rfl, Nat.le_refl _, rfl, ballc (cN _) (ballc rfl balln), ballc (cN _) (ballc rfl balln), rfl, fun j _ => rfl, fun j _ => ⟨.inl (by decide), .inl (by decide), trivial⟩⟩, ?_⟩
    repeat (first | ((with_reducible show W _ _ _ _ _ _); first | refine W_seq ?_ | refine W_block ?_ | refine W_region hX ?_ | refine W_cond ?_ | refine W_skip ?_ | refine W_exit ?_) | ((fail_if_success (with_reducible show W _ _ _ _ _ _)); show W _ _ _ _ _ _) | refine andA ?_ | refine condT ?_ | refine condF ?_ | refine exB ?_ | refine exL ?_ | refine Exists.intro _ (And.intro rfl ?_) | refine Exists.intro _ (And.intro (get_mapN (by assumption)) ?_) | ((fail_if_success (with_reducible show LoopEnd _ _ _ _ _ _ _)); show LoopEnd _ _ _ _ _ _ _) | ((fail_if_success (with_reducible show JoinEnd _ _ _ _ _)); show JoinEnd _ _ _ _ _) | ((fail_if_success (with_reducible show JoinG _ _ _ _ _)); show JoinG _ _ _ _ _))
    refine W_drops (st' := ⟨[(4, .own 1 12 0 (removeL t s).length), (5, .v (.int .i64 0))], [.cells 9 [.v (.string s)], .row 35 12 ((removeL t s).map encNode)]⟩) (Drops.to [4, 5] rfl) ?_
    refine W_freeze hna 1 [4] rfl (fun t ht => by simp at ht; subst ht; rfl) (by rw [List.length_map]) (cN _) True.intro rfl ?_
    repeat (first | ((with_reducible show W _ _ _ _ _ _); first | refine W_seq ?_ | refine W_block ?_ | refine W_region hX ?_ | refine W_cond ?_ | refine W_skip ?_ | refine W_exit ?_ | refine W_ret ?_) | ((fail_if_success (with_reducible show W _ _ _ _ _ _)); show W _ _ _ _ _ _) | refine andA ?_ | refine condT ?_ | refine condF ?_ | refine exB ?_ | refine exL ?_ | refine Exists.intro _ (And.intro rfl ?_) | refine Exists.intro _ (And.intro (get_mapN (by assumption)) ?_) | ((fail_if_success (with_reducible show LoopEnd _ _ _ _ _ _ _)); show LoopEnd _ _ _ _ _ _ _) | ((fail_if_success (with_reducible show JoinEnd _ _ _ _ _)); show JoinEnd _ _ _ _ _) | ((fail_if_success (with_reducible show JoinG _ _ _ _ _)); show JoinG _ _ _ _ _))
    rfl
end Go.Proofs.YtghnifboofhcdaaDoor.Abs
