/- Sorting by insertion: plain facts. -/
import Derived.Test.YtgjldbcpohkmkaaDoorRchk
namespace Go.Proofs.YtgjldbcpohkmkaaDoor.Abs
open Go.RowKit Go.MapKept
set_option linter.unusedVariables false
set_option linter.unusedSimpArgs false
set_option maxRecDepth 100000
set_option maxHeartbeats 4000000
def ltN (a b : NodeT) : Prop := lessF a.path b.path < 0
theorem ltN_asym {a b : NodeT} (h : ltN a b) (h2 : ltN b a) : False := by
  have := lessF_tot.neg a.path b.path
  unfold ltN at h h2
  omega
theorem ltN_trans {a b d : NodeT} (h : ltN a b) (h2 : ltN b d) : ltN a d := by
  have h3 := lessF_tot.tr a.path b.path d.path (by unfold ltN at h; omega) (by unfold ltN at h2; omega)
  have h4 : ¬ lessF a.path d.path = 0 := fun e => by
    have e := (lessF_tot.zero _ _).1 e
    have h5 := lessF_tot.neg a.path b.path
    unfold ltN at h h2
    rw [e] at h5 h
    omega
  unfold ltN
  omega
theorem sorted_unique : ∀ (l t : List NodeT), l.Perm t → l.Pairwise ltN → t.Pairwise ltN → l = t
  | [], t, hp, _, _ => (List.nil_perm.1 hp).symm
  | x :: l, [], hp, _, _ => absurd hp.length_eq (by simp)
  | x :: l, y :: t, hp, h1, h2 => by
    rw [List.pairwise_cons] at h1 h2
    by_cases e : x = y
    · subst e
      rw [sorted_unique l t (List.Perm.cons_inv hp) h1.2 h2.2]
    · exfalso
      have hx : x ∈ y :: t := hp.subset (List.mem_cons_self ..)
      have hy : y ∈ x :: l := hp.symm.subset (List.mem_cons_self ..)
      rcases List.mem_cons.1 hx with hx | hx
      · exact e hx
      · rcases List.mem_cons.1 hy with hy | hy
        · exact e hy.symm
        · exact ltN_asym (h1.1 y hy) (h2.1 x hx)
/-- x is on its way down: A lies ahead of it, B behind it; all else is in order. -/
structure InsOk (t A : List NodeT) (x : NodeT) (B C : List NodeT) : Prop where
  perm : (A ++ x :: (B ++ C)).Perm t
  sorted : (A ++ B).Pairwise ltN
  less : ∀ b ∈ B, ltN x b
theorem InsOk.swap {t A : List NodeT} {y x : NodeT} {B C : List NodeT} (h : InsOk t (A ++ [y]) x B C) (hl : ltN x y) : InsOk t A x (y :: B) C := by
  refine ⟨?_, ?_, fun b hb => ?_⟩
  · refine List.Perm.trans ?_ h.perm
    rw [List.append_assoc]
    refine List.Perm.append_left A ?_
    exact List.Perm.swap y x (B ++ C)
  · have := h.sorted
    rw [List.append_assoc] at this
    exact this
  · rcases List.mem_cons.1 hb with rfl | hb
    · exact hl
    · exact h.less b hb
theorem InsOk.top {t : List NodeT} {x : NodeT} {B C : List NodeT} (h : InsOk t [] x B C) : ([] ++ x :: B).Pairwise ltN :=
  List.pairwise_cons.2 ⟨h.less, h.sorted⟩
theorem InsOk.stay {t A : List NodeT} {y x : NodeT} {B C : List NodeT} (h : InsOk t (A ++ [y]) x B C) (hl : ltN y x) : ((A ++ [y]) ++ x :: B).Pairwise ltN := by
  have hs := h.sorted
  rw [List.pairwise_append] at hs ⊢
  obtain ⟨h1, h2, h3⟩ := hs
  refine ⟨h1, List.pairwise_cons.2 ⟨h.less, h2⟩, fun a ha b hb => ?_⟩
  rcases List.mem_cons.1 hb with rfl | hb
  · rcases List.mem_append.1 ha with ha | ha
    · rw [List.pairwise_append] at h1
      have e1 := h1.2.2 a ha y (List.mem_singleton_self y)
      exact ltN_trans e1 hl
    · rw [List.mem_singleton] at ha
      subst ha
      exact hl
  · exact h3 a ha b hb
theorem sorted_nodup {t : List NodeT} (h : t.Pairwise ltN) : (t.map (·.path)).Nodup := by
  rw [List.Nodup, List.pairwise_map]
  exact h.imp fun {a b} hab e => by
    have := (lessF_tot.zero a.path b.path).2 e
    unfold ltN at hab
    omega
theorem ltN_or {t A : List NodeT} {y x : NodeT} {B C : List NodeT} (ht : t.Pairwise ltN) (h : InsOk t (A ++ [y]) x B C) (hn : ¬ ltN x y) : ltN y x := by
  have hnd := ((h.perm.map (·.path)).nodup_iff).2 (sorted_nodup ht)
  have hne : ¬ x.path = y.path := fun e => by
    rw [List.map_append, List.nodup_append] at hnd
    exact hnd.2.2 y.path (List.mem_map.2 ⟨y, by simp, rfl⟩) x.path (List.mem_map.2 ⟨x, List.mem_cons_self .., rfl⟩) e.symm
  have h1 := lessF_tot.neg x.path y.path
  have h2 : ¬ lessF x.path y.path = 0 := fun e => hne ((lessF_tot.zero _ _).1 e)
  unfold ltN at hn ⊢
  omega
end Go.Proofs.YtgjldbcpohkmkaaDoor.Abs
