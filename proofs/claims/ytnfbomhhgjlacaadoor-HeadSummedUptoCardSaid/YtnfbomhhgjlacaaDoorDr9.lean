/- Walks by computing: what a call lays, seen as what is only read. -/
import Derived.Test.YtnfbomhhgjlacaaDoorDr8
namespace Go.Proofs.YtnfbomhhgjlacaaDoor.Abs
open Go.RowKit Go.MapKept
set_option linter.unusedVariables false
set_option linter.unusedSimpArgs false
theorem boxesOk_nil {C : Ctx} {β : BMap} {ok : Nat → Prop} {w : World} : BoxesOk C β [] ok w :=
  ⟨fun i bc h => by simp at h, fun i j b h => by obtain ⟨bc, h1, _⟩ := h; simp at h1, fun i b h => by obtain ⟨bc, h1, _⟩ := h; simp at h1, fun i bc h => by simp at h⟩
theorem AC_of_ACB {C : Ctx} {f : FuncId} {args : List AV} {bout : List BoxC} {i tb sz n : Nat} {els : List (List AV)} (h : ACB C f args [] (.own i sz 0 n) bout) (hb : bout[i]? = some (.row tb sz els)) (hn : els.length = n) (hc : ∀ j, avoidsLL j els = true) : AC C f args (.row sz els) := by
  intro w vs ok hgd hG hr
  refine (h w vs nob ok hgd hG hr boxesOk_nil).mono ?_
  rintro e w' ⟨v, β', rfl, hA⟩
  refine ⟨v, rfl, ⟨⟨hA.os, hA.tape, hA.output, hA.size, fun b hb => hA.block b hb (fun ⟨j, ⟨bc, h1, _⟩, _⟩ => by simp at h1)⟩, hA.drawn⟩, ?_⟩
  have hv := hA.value
  have hbx := hA.rep i _ hb
  rw [AV.rep] at hv
  simp only [BoxC.rep] at hbx
  have hlive : liveIn bout i := ⟨_, hb, rfl⟩
  cases hβ : β' i with
  | none =>
    rw [hβ] at hv hbx
    obtain ⟨h1, _, h3⟩ := hv
    have h2 : els = [] := hbx
    subst h2
    exact ⟨none, 0, h1, Nat.le_refl _, fun h => absurd h (Nat.lt_irrefl _)⟩
  | some b =>
    rw [hβ] at hv hbx
    obtain ⟨cap, e, h1, h2, _, _⟩ := hv
    obtain ⟨cur, tl, g1, g2, cs, g3, g4, g5⟩ := hbx
    have hfr := hA.fresh i b hlive hβ
    have hnew : w.heap.size ≤ b := by
      rcases hfr.1 with h | ⟨j, ⟨bc, h3, _⟩, _⟩
      · exact h
      · simp at h3
    rw [Nat.zero_mul] at h1
    refine ⟨some ⟨b, 0, none⟩, cap, by rw [h1, hn], by omega, fun _ => ⟨b, 0, rfl, .inr hnew, hfr.2, ?_⟩⟩
    refine repRows_of_cells (cs := cs) 0 g2 ?_ fun j v hv => ?_
    · exact AV.repCells_mono (β' := nob) ⟨Nat.le_refl _, fun _ h _ => h.1, fun _ _ _ => rfl, fun _ _ _ _ h => h⟩ _ _ (fun k hk => by rw [avoidsL_flatten, hc k] at hk; cases hk) g5
    · rw [Nat.zero_add, g1.cell, g3]
      rw [List.getElem?_append_left (List.getElem?_eq_some_iff.1 hv).1]
      exact hv
end Go.Proofs.YtnfbomhhgjlacaaDoor.Abs
