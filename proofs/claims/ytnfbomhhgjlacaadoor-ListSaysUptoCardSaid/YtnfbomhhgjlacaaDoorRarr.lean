/- Arrays of numbers: built, and looked into. -/
import Derived.Test.YtnfbomhhgjlacaaDoorRbase
import Derived.Test.YtnfbomhhgjlacaaDoorDr14
namespace Go.Proofs.YtnfbomhhgjlacaaDoor.Abs
open Go.RowKit Go.MapKept
set_option linter.unusedVariables false
set_option linter.unusedSimpArgs false
set_option maxRecDepth 100000
set_option maxHeartbeats 4000000
section
variable {C : Ctx} {E : Env} {st : St} {o : Oper}
theorem Y_arr3 {t : TypeId} {y0 y1 y2 : Operand} {u0 u1 u2 : Value} (ho : o.op = .build t #[(0, y0), (1, y1), (2, y2)]) (h0 : st.look y0 = .v u0) (h1 : st.look y1 = .v u1) (h2 : st.look y2 = .v u2) (hr : ∀ w, (Instr.build t #[(0, u0), (1, u1), (2, u2)]).run C.P w = .ok (.agg #[u0, u1, u2]) w) (ho0 : u0.oneCell' = true) (ho1 : u1.oneCell' = true) (ho2 : u2.oneCell' = true) : Yields C E st o (.agg [.v u0, .v u1, .v u2]) none :=
  Y_of fun E' β a w H => by
    refine ⟨.agg #[u0, u1, u2], ?_, ⟨[u0, u1, u2], rfl, _, _, rfl, ho0, rfl, _, _, rfl, ho1, rfl, _, _, rfl, ho2, rfl, rfl⟩, fun _ _ => rfl⟩
    have e0 := look_v H h0
    have e1 := look_v H h1
    have e2 := look_v H h2
    have he : (#[(0, y0), (1, y1), (2, y2)].map fun (p : Nat × Operand) => (p.1, a.eval p.2)) = #[(0, u0), (1, u1), (2, u2)] := by simp [e0, e1, e2]
    simp only [execOp, ho, he, Sem.run_bind, hr, Sem.run_pure, Result.andThen_ok]
theorem Y_arr2 {t : TypeId} {y0 y1 : Operand} {u0 u1 : Value} (ho : o.op = .build t #[(0, y0), (1, y1)]) (h0 : st.look y0 = .v u0) (h1 : st.look y1 = .v u1) (hr : ∀ w, (Instr.build t #[(0, u0), (1, u1)]).run C.P w = .ok (.agg #[u0, u1]) w) (ho0 : u0.oneCell' = true) (ho1 : u1.oneCell' = true) : Yields C E st o (.agg [.v u0, .v u1]) none :=
  Y_of fun E' β a w H => by
    refine ⟨.agg #[u0, u1], ?_, ⟨[u0, u1], rfl, _, _, rfl, ho0, rfl, _, _, rfl, ho1, rfl, rfl⟩, fun _ _ => rfl⟩
    have e0 := look_v H h0
    have e1 := look_v H h1
    have he : (#[(0, y0), (1, y1)].map fun (p : Nat × Operand) => (p.1, a.eval p.2)) = #[(0, u0), (1, u1)] := by simp [e0, e1]
    simp only [execOp, ho, he, Sem.run_bind, hr, Sem.run_pure, Result.andThen_ok]
theorem agg_rep {β : BMap} {ok : Nat → Prop} {w : World} : ∀ {us : List Value} {cs : List Value}, AV.repCells β ok w (us.map .v) cs → cs = us
  | [], cs, h => h
  | u :: us, cs, h => by
    obtain ⟨v, r, rfl, _, h1, h2⟩ := h
    have h1 : v = u := h1
    rw [h1, agg_rep h2]
theorem Y_arrIdx {t : TypeId} {y z : Operand} {us : List Value} {i : Int} {v : Value} (ho : o.op = .index t y z) (hy : st.look y = .agg (us.map .v)) (hz : st.look z = .v (.int .i64 i)) (hr : ∀ w, (Instr.index t (.agg us.toArray) (.int .i64 i)).run C.P w = .ok v w) : Yields C E st o (.v v) none :=
  Y_of fun E' β a w H => by
    refine ⟨v, ?_, rfl, fun i _ => avoids_v i⟩
    have h := H.look y
    rw [hy] at h
    obtain ⟨cs, h1, h2⟩ := h
    rw [agg_rep h2] at h1
    simp only [execOp, ho, look_v H hz, h1, Sem.run_bind, hr, Sem.run_pure, Result.andThen_ok]
end
theorem arr3_run (a b c : Int) (w : World) : (Instr.build 86 #[(0, .int .i64 a), (1, .int .i64 b), (2, .int .i64 c)]).run CX.P w = .ok (.agg #[.int .i64 a, .int .i64 b, .int .i64 c]) w := by kernel_rfl
theorem arr2_run (a b : Int) (w : World) : (Instr.build 88 #[(0, .int .i64 a), (1, .int .i64 b)]).run CX.P w = .ok (.agg #[.int .i64 a, .int .i64 b]) w := by kernel_rfl
theorem arr3_0 (a b c : Int) (w : World) : (Instr.index 86 (.agg #[.int .i64 a, .int .i64 b, .int .i64 c]) (.int .i64 0)).run CX.P w = .ok (.int .i64 a) w := by kernel_rfl
theorem arr3_1 (a b c : Int) (w : World) : (Instr.index 86 (.agg #[.int .i64 a, .int .i64 b, .int .i64 c]) (.int .i64 1)).run CX.P w = .ok (.int .i64 b) w := by kernel_rfl
theorem arr3_2 (a b c : Int) (w : World) : (Instr.index 86 (.agg #[.int .i64 a, .int .i64 b, .int .i64 c]) (.int .i64 2)).run CX.P w = .ok (.int .i64 c) w := by kernel_rfl
theorem arr2_0 (a b : Int) (w : World) : (Instr.index 88 (.agg #[.int .i64 a, .int .i64 b]) (.int .i64 0)).run CX.P w = .ok (.int .i64 a) w := by kernel_rfl
theorem arr2_1 (a b : Int) (w : World) : (Instr.index 88 (.agg #[.int .i64 a, .int .i64 b]) (.int .i64 1)).run CX.P w = .ok (.int .i64 b) w := by kernel_rfl
end Go.Proofs.YtnfbomhhgjlacaaDoor.Abs
