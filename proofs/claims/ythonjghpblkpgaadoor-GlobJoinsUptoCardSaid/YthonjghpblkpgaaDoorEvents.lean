/- Stores, loads and new blocks as events: the world behind each is a letter, and what is known of it are its blocks. -/
import Derived.Deep.MidRow
import Derived.Test.YthonjghpblkpgaaDoorWWords
import Derived.Test.YthonjghpblkpgaaDoorWMore
import Derived.Test.YthonjghpblkpgaaDoorWLast
import Derived.Test.YthonjghpblkpgaaDoorCalm
namespace Go.Proofs.YthonjghpblkpgaaDoor
open Go.RowKit Go.Proofs.YthonjghpblkpgaaDoorW.PrintWords
/-- Just block g has turned. -/
structure Turn (g : Nat) (w w1 : World) : Prop where
  os : w1.os = w.os
  tape : w1.tape = w.tape
  output : w1.output = w.output
  size : w1.heap.size = w.heap.size
  far : ∀ k, k ≠ g → w1.heap[k]? = w.heap[k]?
theorem Turn.below {g B : Nat} {w w1 w0 : World} (h : Turn g w w1) (hb : Below B w0 w) (hg : B ≤ g) : Below B w0 w1 :=
  ⟨h.os.trans hb.os, h.tape.trans hb.tape, h.output.trans hb.output, by rw [h.size]; exact hb.size, fun i hi => (h.far i (by omega)).trans (hb.block i hi)⟩
theorem Turn.grown {g : Nat} {w w1 : World} (h : Turn g w w1) : w.grownBy w1 (some g) := ⟨h.os, h.tape, h.output, by rw [h.size]; exact Nat.le_refl _, fun k _ hne => h.far k (fun e => hne (by rw [e]))⟩
theorem Turn.blk {g k : Nat} {w w1 : World} {o : Obj} (h : Turn g w w1) (hb : w.heap[k]? = some o) (hne : k ≠ g) : w1.heap[k]? = some o := (h.far k hne).trans hb
theorem turn_setCells {g off : Nat} {w : World} (vs : List Value) : Turn g w (w.setCells g off vs) :=
  ⟨(setCells_same g vs off w).1, (setCells_same g vs off w).2.1, (setCells_same g vs off w).2.2.1, (setCells_same g vs off w).2.2.2, fun k hk => setCells_far vs off k hk⟩
theorem there_of_blk {w : World} {g off : Nat} {cur : Array Value} {t : TypeId} (hb : w.heap[g]? = some (.cells cur t (0, 0))) {n : Nat} (hle : off + n ≤ cur.size) : w.there g off n := fun j hj => by
  refine ⟨?_, blk_frozen hb _⟩
  rw [blk_cell hb]
  simp
  omega
theorem range_of_blk {w : World} {g off : Nat} {cur : Array Value} {t : TypeId} (hb : w.heap[g]? = some (.cells cur t (0, 0))) {cs : List Value} (hc : (cur.toList.drop off).take cs.length = cs) : w.rangeAt g off cs := fun j v hv => by
  rw [blk_cell hb]
  rw [← hc, List.getElem?_take] at hv
  split at hv
  · rw [List.getElem?_drop] at hv
    simpa using hv
  · cases hv
section
variable {P : Program} {ops : Array Oper} {Q : Exit → Act → World → Prop} {rest : List Oper} {o : Oper} {a : Act} {w : World}
theorem gate_store {T : TypeId} {x y : Operand} (_ho : o.op = .store T x y) (h : wpList P ops Q (o :: rest) a w) : wpList P ops Q (o :: rest) a w := h
theorem gate_load {T : TypeId} {x : Operand} (_ho : o.op = .load T x) (h : wpList P ops Q (o :: rest) a w) : wpList P ops Q (o :: rest) a w := h
/-- A struct is stored into a block of one's own. -/
theorem ev_store_agg (hgd : o.guard = none) (hdst : o.dst = none) (ty : TypeId) (x y : Operand) (ho : o.op = .store ty x y) (g off : Nat) (cells cur new : Array Value) (t : TypeId) (hx : a.eval x = .pointer (some ⟨g, off, none⟩)) (hy : a.eval y = .agg cells)
    (hb : w.heap[g]? = some (.cells cur t (0, 0))) (hle : off + cells.size ≤ cur.size) (hi : (P.info? ty).map (·.size) = some cells.size) (h1 : cells.all (·.oneCell') = true) (hnew : cur.toList.take off ++ cells.toList ++ cur.toList.drop (off + cells.toList.length) = new.toList)
    (h : ∀ w1, Turn g w w1 → w1.heap[g]? = some (.cells new t (0, 0)) → wpList P ops Q rest a w1) : wpList P ops Q (o :: rest) a w := by
  refine wpList_store_mid hgd ty x y ho g off cells hx hy (there_of_blk hb hle) hi h1 ?_
  rw [hdst]
  refine h _ (turn_setCells _) ?_
  obtain ⟨cur', h3, h4, h5⟩ := setCells_row cells.toList off w cur hb (by simpa using hle)
  rw [h3]
  rw [hnew] at h5
  rw [Array.toList_inj.1 h5]
/-- A value of one cell is stored into a block of one's own. -/
theorem ev_store_one (hgd : o.guard = none) (hdst : o.dst = none) (ty : TypeId) (x y : Operand) (ho : o.op = .store ty x y) (g off : Nat) (v : Value) (cur new : Array Value) (t : TypeId) (hx : a.eval x = .pointer (some ⟨g, off, none⟩)) (hy : a.eval y = v)
    (hb : w.heap[g]? = some (.cells cur t (0, 0))) (hle : off < cur.size) (hi : (P.info? ty).map (·.size) = some 1) (h1 : v.oneCell' = true) (hnew : cur.setIfInBounds off v = new)
    (h : ∀ w1, Turn g w w1 → w1.heap[g]? = some (.cells new t (0, 0)) → wpList P ops Q rest a w1) : wpList P ops Q (o :: rest) a w := by
  refine wpList_plain hgd fun K hK => ?_
  have hcs : v.cells = #[v] := by cases v <;> first | rfl | cases h1
  have hrun : (storeVar ty ⟨g, off, none⟩ v).run P w = .ok () (w.setCells g off [v]) := by
    have := run_storeCells_cells (P := P) g off [v] 0 w (fun j hj => by
      have : j = 0 := by simpa using hj
      subst this
      rw [blk_cell hb]; simp; omega) (fun j hj => blk_frozen hb _) (fun u hu => by rw [List.mem_singleton.1 hu]; exact h1)
    cases hq : P.info? ty with
    | none => simp [hq] at hi
    | some i =>
      have hs : i.size = 1 := by simpa [hq] using hi
      simp only [Nat.add_zero] at this
      simp [storeVar, sizeOf, typeInfo, hq, hcs, hs, this]
  unfold Oper.wp execOp
  simp only [ho, hx, hy, Instr.storeAt, Instr.sureAddr, Sem.run_bind, Sem.run_pure, Result.andThen_ok, hrun]
  refine hK _ _ ?_
  rw [hdst]
  refine h _ (turn_setCells _) ?_
  rw [← hnew]
  exact blk_set hb off v
/-- A struct is read out of a block. -/
theorem ev_load_agg (hgd : o.guard = none) (ty : TypeId) (x : Operand) (ho : o.op = .load ty x) (g off : Nat) (cur : Array Value) (t : TypeId) (cs : List Value) (d : TypeDesc) (hx : a.eval x = .pointer (some ⟨g, off, none⟩)) (hb : w.heap[g]? = some (.cells cur t (0, 0))) (hc : (cur.toList.drop off).take cs.length = cs)
    (hu : P.underlying ty = some d) (hd : d.isRow = true) (hi : (P.info? ty).map (·.size) = some cs.length) (h : wpList P ops Q rest (a.put o.dst (.agg cs.toArray)) w) : wpList P ops Q (o :: rest) a w :=
  wpList_load_mid hgd ty x ho g off hx cs d (range_of_blk hb hc) hu hd hi h
end
end Go.Proofs.YthonjghpblkpgaaDoor
