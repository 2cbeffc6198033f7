/- Walks by computing: a box that is told no more. -/
import Derived.Test.YtnfbomhhgjlacaaDoorDr16
namespace Go.Proofs.YtnfbomhhgjlacaaDoor.Abs
open Go.RowKit Go.MapKept
set_option linter.unusedVariables false
set_option linter.unusedSimpArgs false
/-- A box that is told no more. -/
theorem Drops.forget {C : Ctx} {E : Env} {st : St} (k : Nat) : Drops C E st ⟨st.slots, st.boxes.set k .none⟩ := fun β a w H => by
  have hget : ∀ (i : Nat) (bc : BoxC), (st.boxes.set k .none)[i]? = some bc → bc = .none ∨ st.boxes[i]? = some bc := by
    intro i bc h
    rw [List.getElem?_set] at h
    split at h
    · split at h
      · injection h with h; exact .inl h.symm
      · cases h
    · exact .inr h
  have hlv : ∀ i, (⟨st.slots, st.boxes.set k .none⟩ : St).liveB i → st.liveB i := by
    rintro i ⟨bc, h1, h2⟩
    rcases hget i bc h1 with rfl | h3
    · cases h2
    · exact ⟨bc, h3, h2⟩
  have hlen : (st.boxes.set k .none).length = st.boxes.length := by simp
  have hE : Ext β (okB E β st) (okB E β ⟨st.slots, st.boxes.set k .none⟩) w w := ⟨Nat.le_refl _, fun b h _ => ⟨h.1, h.2.1, fun i hi => h.2.2 i (hlv i hi)⟩, fun _ _ _ => rfl, fun _ _ _ _ h => h⟩
  refine ⟨β, H.env, H.size, H.defers, H.kept, fun t x hx => AV.rep_mono hE _ _ (fun _ _ => rfl) (H.slots t x hx), fun t x hx i hi => H.lim t x hx i (by rw [hlen] at hi; exact hi), fun i bc hi => ?_, fun i bc hi j hj => ?_, fun i j b h1 h2 => H.inj i j b (hlv i h1) (hlv j h2), fun i b h1 => H.fresh i b (hlv i h1), H.ex, ⟨by rw [hlen]; exact H.pin.1, H.pin.2⟩⟩
  · rcases hget i bc hi with rfl | h3
    · trivial
    · exact BoxC.rep_mono hE bc (fun _ _ => rfl) (fun _ => rfl) (fun _ _ _ => rfl) (H.boxes i bc h3)
  · rcases hget i bc hi with rfl | h3
    · rfl
    · exact H.blim i bc h3 j (by rw [hlen] at hj; exact hj)
end Go.Proofs.YtnfbomhhgjlacaaDoor.Abs
