/- What rules take of a tree: plain facts. -/
import Derived.Test.YtdhikkdkjmeiiaaGreatDoorRchk
namespace Go.Proofs.YtdhikkdkjmeiiaaGreatDoor.Abs
open Go.RowKit Go.MapKept
set_option linter.unusedVariables false
set_option linter.unusedSimpArgs false
/-- Taken, behind those that were. -/
def runB (tk : ByteArray → Bool) (out : List NodeT) (n : NodeT) : Bool := tk n.path && (decide (upF n.path = ⟨#[]⟩) || !decide (findN out (upF n.path) < 0))
def runS (tk : ByteArray → Bool) (out : List NodeT) (n : NodeT) : List NodeT := if runB tk out n = true then out ++ [n] else out
def runF (tk : ByteArray → Bool) : List NodeT → List NodeT → List NodeT
  | out, [] => out
  | out, n :: l => runF tk (runS tk out n) l
def runL (tk : ByteArray → Bool) (t : List NodeT) : List NodeT := runF tk [] t
theorem runB_iff {tk : ByteArray → Bool} {out : List NodeT} {n : NodeT} : runB tk out n = true ↔ tk n.path = true ∧ (upF n.path = ⟨#[]⟩ ∨ ∃ m ∈ out, m.path = upF n.path) := by
  unfold runB
  rw [Bool.and_eq_true, Bool.or_eq_true, decide_eq_true_eq, Bool.not_eq_true', decide_eq_false_iff_not, find_mem]
theorem runF_take (tk : ByteArray → Bool) : ∀ (l out : List NodeT) (k : Nat) (x : NodeT), l[k]? = some x → runF tk out (l.take (k + 1)) = runS tk (runF tk out (l.take k)) x
  | [], _, k, x, h => by simp at h
  | n :: l, out, 0, x, h => by
    injection h with h
    subst h
    rfl
  | n :: l, out, k + 1, x, h => by
    rw [List.take_succ_cons, List.take_succ_cons, runF, runF]
    exact runF_take tk l _ k x (by simpa using h)
theorem runL_take {tk : ByteArray → Bool} {t : List NodeT} {k : Nat} {x : NodeT} (h : t[k]? = some x) : runL tk (t.take (k + 1)) = runS tk (runL tk (t.take k)) x := runF_take tk t [] k x h
theorem runS_sub {tk : ByteArray → Bool} {out : List NodeT} {n : NodeT} : out.Sublist (runS tk out n) ∧ (runS tk out n).Sublist (out ++ [n]) := by
  unfold runS
  split
  · exact ⟨List.sublist_append_left _ _, List.Sublist.refl _⟩
  · exact ⟨List.Sublist.refl _, List.sublist_append_left _ _⟩
theorem runF_sub (tk : ByteArray → Bool) : ∀ (l out : List NodeT), (runF tk out l).Sublist (out ++ l)
  | [], out => by rw [runF, List.append_nil]; exact List.Sublist.refl _
  | n :: l, out => by
    rw [runF]
    have h1 := runF_sub tk l (runS tk out n)
    have h2 : (runS tk out n ++ l).Sublist (out ++ [n] ++ l) := List.Sublist.append runS_sub.2 (List.Sublist.refl _)
    rw [List.append_assoc] at h2
    exact h1.trans h2
theorem runL_sub (tk : ByteArray → Bool) (t : List NodeT) : (runL tk t).Sublist t := by
  have := runF_sub tk t []
  simpa [runL] using this
theorem runF_grow (tk : ByteArray → Bool) : ∀ (l out : List NodeT), out.Sublist (runF tk out l)
  | [], out => List.Sublist.refl _
  | n :: l, out => runS_sub.1.trans (runF_grow tk l _)
/-- Whoever is taken is so by himself, and what he is in was taken. -/
theorem runF_mem (tk : ByteArray → Bool) : ∀ (l out : List NodeT), (∀ m ∈ out, tk m.path = true ∧ (upF m.path = ⟨#[]⟩ ∨ ∃ p ∈ out, p.path = upF m.path)) → ∀ m ∈ runF tk out l, tk m.path = true ∧ (upF m.path = ⟨#[]⟩ ∨ ∃ p ∈ runF tk out l, p.path = upF m.path)
  | [], out, h, m, hm => h m hm
  | n :: l, out, h, m, hm => by
    refine runF_mem tk l (runS tk out n) (fun x hx => ?_) m hm
    unfold runS at hx ⊢
    split at hx
    · rename_i hr
      rw [if_pos hr]
      rcases List.mem_append.1 hx with hx | hx
      · obtain ⟨h1, h2⟩ := h x hx
        exact ⟨h1, h2.imp (fun h => h) fun ⟨p, hp, e⟩ => ⟨p, List.mem_append_left _ hp, e⟩⟩
      · rw [List.mem_singleton] at hx
        subst hx
        obtain ⟨h1, h2⟩ := runB_iff.1 hr
        exact ⟨h1, h2.imp (fun h => h) fun ⟨p, hp, e⟩ => ⟨p, List.mem_append_left _ hp, e⟩⟩
    · rename_i hr
      rw [if_neg hr]
      exact h x hx
theorem runL_mem (tk : ByteArray → Bool) (t : List NodeT) : ∀ m ∈ runL tk t, tk m.path = true ∧ (upF m.path = ⟨#[]⟩ ∨ ∃ p ∈ runL tk t, p.path = upF m.path) := runF_mem tk t [] (fun m hm => by cases hm)
theorem sub_tree {t r : List NodeT} (hT : TreeOk t) (hs : r.Sublist t) (hup : ∀ m ∈ r, upF m.path = ⟨#[]⟩ ∨ ∃ p ∈ r, p.path = upF m.path) : TreeOk r := by
  refine ⟨fun n hn => hT.node n (hs.subset hn), hT.sorted.sublist hs, fun n hn => ?_, fun a ha b hb => hT.one a (hs.subset ha) b (hs.subset hb)⟩
  rcases hup n hn with h | ⟨p, hp, e⟩
  · exact .inl h
  · by_cases hz : upF n.path = ⟨#[]⟩
    · exact .inl hz
    rcases hT.up n (hs.subset hn) with h1 | ⟨m, hm, h1, h2⟩
    · exact absurd h1 hz
    · have e2 : m = p := nodup_inj (tree_nodup hT) m p hm (hs.subset hp) (h1.trans e.symm)
      subst e2
      exact .inr ⟨m, hp, e, h2⟩
theorem run_tree {t : List NodeT} (hT : TreeOk t) (tk : ByteArray → Bool) : TreeOk (runL tk t) := sub_tree hT (runL_sub tk t) fun m hm => (runL_mem tk t m hm).2
/-- What may be taken is taken. -/
theorem runF_all {t : List NodeT} (tk : ByteArray → Bool) : ∀ (l out : List NodeT), t = out ++ l → TreeOk t → (∀ n ∈ l, tk n.path = true) → runF tk out l = t
  | [], out, h, _, _ => by rw [runF, h, List.append_nil]
  | n :: l, out, h, hT, hk => by
    have hnt : n ∈ t := by rw [h]; simp
    have hr : runB tk out n = true := by
      rw [runB_iff]
      refine ⟨hk n (List.mem_cons_self ..), ?_⟩
      rcases hT.up n hnt with h1 | ⟨m, hm, h1, _⟩
      · exact .inl h1
      · by_cases hz : upF n.path = ⟨#[]⟩
        · exact .inl hz
        refine .inr ⟨m, ?_, h1⟩
        have hl := less_up hz
        rw [← h1] at hl
        have hs := hT.sorted
        rw [h, List.pairwise_append] at hs
        have hs2 := (List.pairwise_cons.1 hs.2.1).1
        rw [h] at hm
        rcases List.mem_append.1 hm with hm | hm
        · exact hm
        · exfalso
          have h5 := lessF_tot.neg n.path m.path
          rcases List.mem_cons.1 hm with rfl | hm
          · rw [(lessF_tot.zero _ _).2 rfl] at hl
            omega
          · have := hs2 m hm
            omega
    rw [runF, runS, if_pos hr]
    exact runF_all tk l (out ++ [n]) (by rw [h]; simp) hT fun x hx => hk x (List.mem_cons_of_mem _ hx)
theorem run_all {t : List NodeT} (hT : TreeOk t) {tk : ByteArray → Bool} (h : ∀ n ∈ t, tk n.path = true) : runL tk t = t := runF_all tk t [] rfl hT h
theorem run_again {t : List NodeT} (hT : TreeOk t) (tk : ByteArray → Bool) : runL tk (runL tk t) = runL tk t := run_all (run_tree hT tk) fun n hn => (runL_mem tk t n hn).1
theorem runF_none (tk : ByteArray → Bool) : ∀ (l out : List NodeT), (∀ n ∈ l, tk n.path = false) → runF tk out l = out
  | [], _, _ => rfl
  | n :: l, out, h => by
    have hr : ¬ runB tk out n = true := fun hr => by
      have := (runB_iff.1 hr).1
      rw [h n (List.mem_cons_self ..)] at this
      cases this
    rw [runF, runS, if_neg hr]
    exact runF_none tk l out fun x hx => h x (List.mem_cons_of_mem _ hx)
theorem run_none {t : List NodeT} {tk : ByteArray → Bool} (h : ∀ n ∈ t, tk n.path = false) : runL tk t = [] := runF_none tk t [] h
/-! ### Taken, with all that it is in -/
def wantF (tk : ByteArray → Bool) : Nat → ByteArray → Bool
  | 0, _ => true
  | f + 1, s => if s = ⟨#[]⟩ then true else tk s && wantF tk f (upF s)
theorem want_mem {t : List NodeT} (hT : TreeOk t) (tk : ByteArray → Bool) : ∀ (f : Nat) (n : NodeT), n ∈ t → n.path.size ≤ f → (wantF tk f n.path = true ↔ n ∈ runL tk t)
  | 0, n, hn, hf => by
    have := (pathChk_zero.1 (hT.node n hn).path).1
    omega
  | f + 1, n, hn, hf => by
    have hnp := (hT.node n hn).path
    have hne := path_ne hnp
    rw [wantF, if_neg hne, Bool.and_eq_true]
    obtain ⟨k, hk⟩ := List.getElem?_of_mem hn
    have hkl := (List.getElem?_eq_some_iff.1 hk).1
    have hnod := tree_nodup hT
    have hsub : (runL tk (t.take (k + 1))).Sublist (runL tk t) := by
      have e : runL tk t = runF tk (runL tk (t.take (k + 1))) (t.drop (k + 1)) := by
        have key : ∀ (l out m : List NodeT), runF tk out (l ++ m) = runF tk (runF tk out l) m := by
          intro l
          induction l with
          | nil => intro out m; rfl
          | cons a l ih => intro out m; rw [List.cons_append, runF, runF, ih]
        unfold runL
        rw [← key, List.take_append_drop]
      rw [e]
      exact runF_grow tk _ _
    have hpre : ∀ m ∈ runL tk t, m ∈ t.take k → m ∈ runL tk (t.take k) := fun m hm hmk => by
      have e : runL tk t = runF tk (runL tk (t.take k)) (t.drop k) := by
        have key : ∀ (l out m : List NodeT), runF tk out (l ++ m) = runF tk (runF tk out l) m := by
          intro l
          induction l with
          | nil => intro out m; rfl
          | cons a l ih => intro out m; rw [List.cons_append, runF, runF, ih]
        unfold runL
        rw [← key, List.take_append_drop]
      rw [e] at hm
      rcases List.mem_append.1 ((runF_sub tk (t.drop k) (runL tk (t.take k))).subset hm) with h | h
      · exact h
      · exfalso
        obtain ⟨i, hi⟩ := List.getElem?_of_mem hmk
        rw [List.getElem?_take] at hi
        split at hi
        · rename_i hik
          obtain ⟨j, hj⟩ := List.getElem?_of_mem h
          rw [List.getElem?_drop] at hj
          have := less_at hT hi hj (by omega)
          rw [(lessF_tot.zero _ _).2 rfl] at this
          exact absurd this (by decide)
        · cases hi
    have hmem : n ∈ runL tk t ↔ runB tk (runL tk (t.take k)) n = true := by
      constructor
      · intro h
        obtain ⟨h1, h2⟩ := runL_mem tk t n h
        rw [runB_iff]
        refine ⟨h1, ?_⟩
        rcases h2 with h2 | ⟨p, hp, e⟩
        · exact .inl h2
        · by_cases hz : upF n.path = ⟨#[]⟩
          · exact .inl hz
          refine .inr ⟨p, hpre p hp ?_, e⟩
          have hl := less_up hz
          rw [← e] at hl
          obtain ⟨j, hj⟩ := List.getElem?_of_mem ((runL_sub tk t).subset hp)
          have hjk : j < k := by
            rcases Nat.lt_trichotomy j k with h | h | h
            · exact h
            · subst h
              rw [hk] at hj
              injection hj with hj
              rw [← hj, (lessF_tot.zero _ _).2 rfl] at hl
              exact absurd hl (by decide)
            · have h4 := less_at hT hk hj h
              have h5 := lessF_tot.neg n.path p.path
              omega
          exact List.mem_of_getElem? (i := j) (by rw [List.getElem?_take, if_pos hjk]; exact hj)
      · intro h
        refine hsub.subset ?_
        rw [runL_take hk, runS, if_pos h]
        simp
    rw [hmem, runB_iff]
    by_cases hz : upF n.path = ⟨#[]⟩
    · rw [hz]
      have e : wantF tk f ⟨#[]⟩ = true := by cases f <;> simp [wantF]
      rw [e]
      simp
    · obtain ⟨m, hm, h1, h2⟩ := (hT.up n hn).resolve_left hz
      have hsz := up_size hz
      have ih := want_mem hT tk f m hm (by rw [h1]; omega)
      rw [h1] at ih
      rw [ih]
      constructor
      · rintro ⟨g1, g2⟩
        refine ⟨g1, .inr ⟨m, hpre m g2 ?_, h1⟩⟩
        have hl := less_up hz
        rw [← h1] at hl
        obtain ⟨j, hj⟩ := List.getElem?_of_mem hm
        have hjk : j < k := by
          rcases Nat.lt_trichotomy j k with h | h | h
          · exact h
          · subst h
            rw [hk] at hj
            injection hj with hj
            rw [← hj, (lessF_tot.zero _ _).2 rfl] at hl
            exact absurd hl (by decide)
          · have h4 := less_at hT hk hj h
            have h5 := lessF_tot.neg n.path m.path
            omega
        exact List.mem_of_getElem? (i := j) (by rw [List.getElem?_take, if_pos hjk]; exact hj)
      · rintro ⟨g1, g2⟩
        refine ⟨g1, ?_⟩
        obtain ⟨p, hp, e⟩ := g2.resolve_left hz
        have hpt : p ∈ runL tk t := by
          refine hsub.subset ?_
          rw [runL_take hk]
          exact runS_sub.1.subset hp
        have e2 := nodup_inj hnod p m ((runL_sub tk t).subset hpt) hm (e.trans h1.symm)
        rw [← e2]
        exact hpt
end Go.Proofs.YtdhikkdkjmeiiaaGreatDoor.Abs
