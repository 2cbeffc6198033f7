/- Walks by computing: a text's bytes as a row of the call's own; a literal's bytes converted to their own type, and written to. -/
import Derived.Test.YtnfbomhhgjlacaaDoorDr18
import Derived.Test.YtnfbomhhgjlacaaDoorDr15
namespace Go.Proofs.YtnfbomhhgjlacaaDoor.Abs
open Go.RowKit Go.MapKept
set_option linter.unusedVariables false
set_option linter.unusedSimpArgs false
section
variable {C : Ctx} {E : Env} {st : St} {o : Oper}
/-- A text's bytes: a row of the call's own. -/
theorem Y_strBytesO {s d e : TypeId} {y : Operand} {t : ByteArray} {n : Nat} (ho : o.op = .convert s d y) (hy : st.look y = .v (.string t)) (hs : C.P.underlying s = some .string) (hd : C.P.underlying d = some (.slice e)) (he : C.P.underlying e = some (.int .u8)) (h63 : t.size ≤ maxLen) : Yields C E st o (.own n 1 0 t.size) (some (n, .row e 1 (bytesA t))) :=
  Y_new fun E' β a w H hF => by
    have hr := run_bytes_of_string (P := C.P) w s d e t hs hd he
    have hge := grownCap_ge w t.size 0 e
    have hcm := grownCap_le_maxLen w t.size 0 e h63
    have hnew : (w.drew.alloc (.cells (bytesRow t (grownCap w t.size 0 e)) e ((bytesRow t (grownCap w t.size 0 e)).size, (bytesRow t (grownCap w t.size 0 e)).size + 1))).heap[w.heap.size]? = _ := heap_alloc_new w.drew _
    have hlt := fresh_lt hF
    have hsz : (bytesRow t (grownCap w t.size 0 e)).size = grownCap w t.size 0 e := by
      simp only [bytesRow, Array.size_append, Array.size_map, Array.size_replicate]
      have : t.data.size = t.size := rfl
      omega
    refine ⟨_, _, by simp only [execOp, ho, look_v H hy, hr, Sem.run_bind]; rfl, (below_drew' w).alloc (Nat.le_refl _) _, by show w.heap.size < (w.drew.alloc _).heap.size; simp, ?_, ?_, fun i hi => by simp [AV.avoids]; omega, fun i hi => by show avoidsLL i (bytesA t) = true; rw [← avoidsL_flatten, bytesA_flat]; exact avoidsL_mem fun x hx => by obtain ⟨u, _, rfl⟩ := List.mem_map.1 hx; rfl⟩
    · rw [AV.rep, upd_eq]
      refine ⟨grownCap w t.size 0 e, e, by simp, hge, hcm, ?_⟩
      rw [shape_of_blk hnew, hsz]
      simp
    · simp only [BoxC.rep, upd_eq]
      refine ⟨_, List.replicate (grownCap w t.size 0 e - t.size) (.int .u8 0), ⟨_, hnew, .inr (Nat.le_refl _)⟩, fun l hl => ?_, strV t, ?_, ?_, ?_⟩
      · unfold bytesA at hl
        obtain ⟨u, _, rfl⟩ := List.mem_map.1 hl
        rfl
      · simp [bytesRow, strV]
      · rw [strV_len, bytesA_len, Nat.mul_one]
      · rw [bytesA_flat]
        exact repCells_v _ (strV_one t)
end
end Go.Proofs.YtnfbomhhgjlacaaDoor.Abs
