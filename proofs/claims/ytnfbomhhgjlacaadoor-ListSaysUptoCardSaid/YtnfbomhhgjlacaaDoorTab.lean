/- What is known of the program's types, for walks by computing. -/
import Derived.Test.YtnfbomhhgjlacaaDoorDr5
import Derived.Test.YtnfbomhhgjlacaaDoorChecked
import Derived.Lib.LaidTab
import Derived.Lib.ItoaNum
namespace Go.Proofs.YtnfbomhhgjlacaaDoor.Abs
open Go.RowKit Go.MapKept
set_option maxRecDepth 100000
set_option linter.unusedVariables false
def TB : Tab where
  fld := [(23, [(0, 1, false), (1, 1, false), (2, 1, false), (3, 1, false)]), (28, [(0, 1, false), (1, 1, false), (2, 1, false), (3, 1, false), (4, 1, false), (5, 1, false), (6, 1, false), (7, 1, false), (8, 1, false), (9, 1, false), (10, 1, false)]), (40, [(0, 1, false), (1, 1, false), (2, 1, false), (3, 1, false), (4, 1, false), (5, 1, false), (6, 1, false)]), (42, [(0, 1, false), (1, 1, false), (2, 1, false), (3, 7, true), (10, 1, false)]), (51, [(0, 1, false), (1, 1, false), (2, 1, false), (3, 1, false), (4, 7, true), (11, 1, false)]), (70, [(0, 1, false), (1, 1, false)]), (81, [(0, 1, false), (1, 1, false)]), (83, [(0, 2, true), (2, 1, false)]), (93, [(0, 1, false), (1, 1, false)]), (123, [(0, 1, false), (1, 12, true)])]
  lod := [(3, 1, false), (4, 1, false), (5, 1, false), (9, 1, false), (23, 4, true), (24, 1, false), (28, 11, true), (30, 1, false), (40, 7, true), (42, 11, true), (47, 1, false), (48, 1, false), (51, 12, true), (58, 1, false), (64, 1, false), (70, 2, true), (78, 1, false), (79, 1, false), (81, 2, true), (83, 3, true), (91, 1, false), (93, 2, true), (100, 1, false), (109, 1, false), (113, 1, false), (117, 1, false), (121, 1, false), (123, 13, true), (134, 1, false), (137, 1, false), (142, 1, false), (153, 1, false), (172, 1, false), (198, 1, false), (202, 1, false)]
  elm := [(30, 1), (47, 4), (48, 12), (58, 13), (64, 2), (100, 1), (134, 1)]
  app := [(30, 5, 1, 1), (47, 23, 4, 40), (48, 51, 12, 144), (58, 123, 13, 152), (64, 70, 2, 32), (100, 9, 1, 16), (134, 64, 1, 24)]
  str := [(23, [(0, 1), (1, 1), (2, 1), (3, 1)], [(.int .i64 0), (.int .i64 0), (.int .i64 0), (.string ⟨#[]⟩)]), (28, [(0, 1), (1, 1), (2, 1), (3, 1), (4, 1), (5, 1), (6, 1), (7, 1), (8, 1), (9, 1), (10, 1)], [(.string ⟨#[]⟩), (.string ⟨#[]⟩), (.string ⟨#[]⟩), (.int .i64 0), (.int .i64 0), (.int .i64 0), (.int .i64 0), (.int .i64 0), (.int .u8 0), (.string ⟨#[]⟩), (.string ⟨#[]⟩)]), (40, [(0, 1), (1, 1), (2, 1), (3, 1), (4, 1), (5, 1), (6, 1)], [(.int .i64 0), (.int .i64 0), (.int .i64 0), (.string ⟨#[]⟩), (.string ⟨#[]⟩), (.int .i64 0), (.int .i64 0)]), (42, [(0, 1), (1, 1), (2, 1), (3, 7), (10, 1)], [(.string ⟨#[]⟩), (.int .i64 0), (.string ⟨#[]⟩), (.int .i64 0), (.int .i64 0), (.int .i64 0), (.string ⟨#[]⟩), (.string ⟨#[]⟩), (.int .i64 0), (.int .i64 0), (.slice none 0 0)]), (51, [(0, 1), (1, 1), (2, 1), (3, 1), (4, 7), (11, 1)], [(.string ⟨#[]⟩), (.int .i64 0), (.int .i64 0), (.string ⟨#[]⟩), (.int .i64 0), (.int .i64 0), (.int .i64 0), (.string ⟨#[]⟩), (.string ⟨#[]⟩), (.int .i64 0), (.int .i64 0), (.slice none 0 0)]), (70, [(0, 1), (1, 1)], [(.string ⟨#[]⟩), (.string ⟨#[]⟩)]), (81, [(0, 1), (1, 1)], [(.pointer none), (.slice none 0 0)]), (83, [(0, 2), (2, 1)], [(.pointer none), (.slice none 0 0), (.int .i64 0)]), (93, [(0, 1), (1, 1)], [(.string ⟨#[]⟩), (.int .i64 0)]), (123, [(0, 1), (1, 12)], [(.int .i64 0), (.string ⟨#[]⟩), (.int .i64 0), (.int .i64 0), (.string ⟨#[]⟩), (.int .i64 0), (.int .i64 0), (.int .i64 0), (.string ⟨#[]⟩), (.string ⟨#[]⟩), (.int .i64 0), (.int .i64 0), (.slice none 0 0)])]
  sls := [(30, 5, 1, [(.int .u8 0)]), (47, 23, 4, [(.int .i64 0), (.int .i64 0), (.int .i64 0), (.string ⟨#[]⟩)]), (48, 51, 12, [(.string ⟨#[]⟩), (.int .i64 0), (.int .i64 0), (.string ⟨#[]⟩), (.int .i64 0), (.int .i64 0), (.int .i64 0), (.string ⟨#[]⟩), (.string ⟨#[]⟩), (.int .i64 0), (.int .i64 0), (.slice none 0 0)]), (58, 123, 13, [(.int .i64 0), (.string ⟨#[]⟩), (.int .i64 0), (.int .i64 0), (.string ⟨#[]⟩), (.int .i64 0), (.int .i64 0), (.int .i64 0), (.string ⟨#[]⟩), (.string ⟨#[]⟩), (.int .i64 0), (.int .i64 0), (.slice none 0 0)]), (64, 70, 2, [(.string ⟨#[]⟩), (.string ⟨#[]⟩)]), (100, 9, 1, [(.string ⟨#[]⟩)]), (134, 64, 1, [(.slice none 0 0)])]
  int := [(3, .i64), (5, .u8), (24, .i64), (137, .u64), (172, .i64), (198, .u64)]
  stg := [(9, ())]
  bol := [(4, ())]
  byt := [(30, 5)]
  slc := [(30, 5), (47, 23), (48, 51), (58, 123), (64, 70), (100, 9), (134, 64)]
  zer := [(3, (.int .i64 0)), (4, (.bool false)), (5, (.int .u8 0)), (9, (.string ⟨#[]⟩)), (23, (.agg #[(.int .i64 0), (.int .i64 0), (.int .i64 0), (.string ⟨#[]⟩)])), (24, (.int .i64 0)), (28, (.agg #[(.string ⟨#[]⟩), (.string ⟨#[]⟩), (.string ⟨#[]⟩), (.int .i64 0), (.int .i64 0), (.int .i64 0), (.int .i64 0), (.int .i64 0), (.int .u8 0), (.string ⟨#[]⟩), (.string ⟨#[]⟩)])), (30, (.slice none 0 0)), (40, (.agg #[(.int .i64 0), (.int .i64 0), (.int .i64 0), (.string ⟨#[]⟩), (.string ⟨#[]⟩), (.int .i64 0), (.int .i64 0)])), (42, (.agg #[(.string ⟨#[]⟩), (.int .i64 0), (.string ⟨#[]⟩), (.int .i64 0), (.int .i64 0), (.int .i64 0), (.string ⟨#[]⟩), (.string ⟨#[]⟩), (.int .i64 0), (.int .i64 0), (.slice none 0 0)])), (47, (.slice none 0 0)), (48, (.slice none 0 0)), (51, (.agg #[(.string ⟨#[]⟩), (.int .i64 0), (.int .i64 0), (.string ⟨#[]⟩), (.int .i64 0), (.int .i64 0), (.int .i64 0), (.string ⟨#[]⟩), (.string ⟨#[]⟩), (.int .i64 0), (.int .i64 0), (.slice none 0 0)])), (58, (.slice none 0 0)), (64, (.slice none 0 0)), (70, (.agg #[(.string ⟨#[]⟩), (.string ⟨#[]⟩)])), (78, (.pointer none)), (79, (.pointer none)), (81, (.agg #[(.pointer none), (.slice none 0 0)])), (83, (.agg #[(.pointer none), (.slice none 0 0), (.int .i64 0)])), (91, (.pointer none)), (93, (.agg #[(.string ⟨#[]⟩), (.int .i64 0)])), (100, (.slice none 0 0)), (109, .nilFunc), (113, .nilFunc), (117, .nilFunc), (121, .nilFunc), (123, (.agg #[(.int .i64 0), (.string ⟨#[]⟩), (.int .i64 0), (.int .i64 0), (.string ⟨#[]⟩), (.int .i64 0), (.int .i64 0), (.int .i64 0), (.string ⟨#[]⟩), (.string ⟨#[]⟩), (.int .i64 0), (.int .i64 0), (.slice none 0 0)])), (134, (.slice none 0 0)), (137, (.int .u64 0)), (142, (.pointer none)), (153, (.map none)), (172, (.int .i64 0)), (198, (.int .u64 0)), (202, (.pointer none))]
  seq := [(23, [.int .i64, .int .i64, .int .i64, .str]), (28, [.str, .str, .str, .int .i64, .int .i64, .int .i64, .int .i64, .int .i64, .int .u8, .str, .str]), (40, [.int .i64, .int .i64, .int .i64, .str, .str, .int .i64, .int .i64]), (70, [.str, .str]), (93, [.str, .int .i64])]
  mpi := [(153, .int .i64, (.agg #[(.string ⟨#[]⟩), (.int .i64 0), (.int .i64 0), (.string ⟨#[]⟩), (.int .i64 0), (.int .i64 0), (.int .i64 0), (.string ⟨#[]⟩), (.string ⟨#[]⟩), (.int .i64 0), (.int .i64 0), (.slice none 0 0)]))]
theorem TB_ok : TabOk Tryd.prog TB where
  fld := by kernel_rfl
  lod := by kernel_rfl
  elm := by kernel_rfl
  app := by kernel_rfl
  str := ⟨by show _ = _; kernel_rfl, by show _ = _; kernel_rfl, by show _ = _; kernel_rfl, by show _ = _; kernel_rfl, by show _ = _; kernel_rfl, by show _ = _; kernel_rfl, by show _ = _; kernel_rfl, by show _ = _; kernel_rfl, by show _ = _; kernel_rfl, by show _ = _; kernel_rfl, trivial⟩
  sls := ⟨by show _ = _; kernel_rfl, by show _ = _; kernel_rfl, by show _ = _; kernel_rfl, by show _ = _; kernel_rfl, by show _ = _; kernel_rfl, by show _ = _; kernel_rfl, by show _ = _; kernel_rfl, trivial⟩
  int := ⟨by show _ = _; kernel_rfl, by show _ = _; kernel_rfl, by show _ = _; kernel_rfl, by show _ = _; kernel_rfl, by show _ = _; kernel_rfl, by show _ = _; kernel_rfl, trivial⟩
  stg := ⟨by show _ = _; kernel_rfl, trivial⟩
  bol := ⟨by show _ = _; kernel_rfl, trivial⟩
  byt := ⟨⟨by kernel_rfl, by kernel_rfl⟩, trivial⟩
  slc := ⟨by show _ = _; kernel_rfl, by show _ = _; kernel_rfl, by show _ = _; kernel_rfl, by show _ = _; kernel_rfl, by show _ = _; kernel_rfl, by show _ = _; kernel_rfl, by show _ = _; kernel_rfl, trivial⟩
  zer := ⟨⟨by kernel_rfl, by kernel_rfl⟩, ⟨by kernel_rfl, by kernel_rfl⟩, ⟨by kernel_rfl, by kernel_rfl⟩, ⟨by kernel_rfl, by kernel_rfl⟩, ⟨by kernel_rfl, by kernel_rfl⟩, ⟨by kernel_rfl, by kernel_rfl⟩, ⟨by kernel_rfl, by kernel_rfl⟩, ⟨by kernel_rfl, by kernel_rfl⟩, ⟨by kernel_rfl, by kernel_rfl⟩, ⟨by kernel_rfl, by kernel_rfl⟩, ⟨by kernel_rfl, by kernel_rfl⟩, ⟨by kernel_rfl, by kernel_rfl⟩, ⟨by kernel_rfl, by kernel_rfl⟩, ⟨by kernel_rfl, by kernel_rfl⟩, ⟨by kernel_rfl, by kernel_rfl⟩, ⟨by kernel_rfl, by kernel_rfl⟩, ⟨by kernel_rfl, by kernel_rfl⟩, ⟨by kernel_rfl, by kernel_rfl⟩, ⟨by kernel_rfl, by kernel_rfl⟩, ⟨by kernel_rfl, by kernel_rfl⟩, ⟨by kernel_rfl, by kernel_rfl⟩, ⟨by kernel_rfl, by kernel_rfl⟩, ⟨by kernel_rfl, by kernel_rfl⟩, ⟨by kernel_rfl, by kernel_rfl⟩, ⟨by kernel_rfl, by kernel_rfl⟩, ⟨by kernel_rfl, by kernel_rfl⟩, ⟨by kernel_rfl, by kernel_rfl⟩, ⟨by kernel_rfl, by kernel_rfl⟩, ⟨by kernel_rfl, by kernel_rfl⟩, ⟨by kernel_rfl, by kernel_rfl⟩, ⟨by kernel_rfl, by kernel_rfl⟩, ⟨by kernel_rfl, by kernel_rfl⟩, ⟨by kernel_rfl, by kernel_rfl⟩, ⟨by kernel_rfl, by kernel_rfl⟩, ⟨by kernel_rfl, by kernel_rfl⟩, trivial⟩
  seq := ⟨⟨_, Tryd.underlying23, by show _ = _; kernel_rfl, by show _ = _; kernel_rfl, ⟨by kernel_rfl, by kernel_rfl, by kernel_rfl, ⟨by kernel_rfl, by kernel_rfl, by kernel_rfl, ⟨by kernel_rfl, by kernel_rfl, by kernel_rfl, ⟨by kernel_rfl, by kernel_rfl, by kernel_rfl, trivial⟩⟩⟩⟩⟩, ⟨_, Tryd.underlying28, by show _ = _; kernel_rfl, by show _ = _; kernel_rfl, ⟨by kernel_rfl, by kernel_rfl, by kernel_rfl, ⟨by kernel_rfl, by kernel_rfl, by kernel_rfl, ⟨by kernel_rfl, by kernel_rfl, by kernel_rfl, ⟨by kernel_rfl, by kernel_rfl, by kernel_rfl, ⟨by kernel_rfl, by kernel_rfl, by kernel_rfl, ⟨by kernel_rfl, by kernel_rfl, by kernel_rfl, ⟨by kernel_rfl, by kernel_rfl, by kernel_rfl, ⟨by kernel_rfl, by kernel_rfl, by kernel_rfl, ⟨by kernel_rfl, by kernel_rfl, by kernel_rfl, ⟨by kernel_rfl, by kernel_rfl, by kernel_rfl, ⟨by kernel_rfl, by kernel_rfl, by kernel_rfl, trivial⟩⟩⟩⟩⟩⟩⟩⟩⟩⟩⟩⟩, ⟨_, Tryd.underlying40, by show _ = _; kernel_rfl, by show _ = _; kernel_rfl, ⟨by kernel_rfl, by kernel_rfl, by kernel_rfl, ⟨by kernel_rfl, by kernel_rfl, by kernel_rfl, ⟨by kernel_rfl, by kernel_rfl, by kernel_rfl, ⟨by kernel_rfl, by kernel_rfl, by kernel_rfl, ⟨by kernel_rfl, by kernel_rfl, by kernel_rfl, ⟨by kernel_rfl, by kernel_rfl, by kernel_rfl, ⟨by kernel_rfl, by kernel_rfl, by kernel_rfl, trivial⟩⟩⟩⟩⟩⟩⟩⟩, ⟨_, Tryd.underlying70, by show _ = _; kernel_rfl, by show _ = _; kernel_rfl, ⟨by kernel_rfl, by kernel_rfl, by kernel_rfl, ⟨by kernel_rfl, by kernel_rfl, by kernel_rfl, trivial⟩⟩⟩, ⟨_, Tryd.underlying93, by show _ = _; kernel_rfl, by show _ = _; kernel_rfl, ⟨by kernel_rfl, by kernel_rfl, by kernel_rfl, ⟨by kernel_rfl, by kernel_rfl, by kernel_rfl, trivial⟩⟩⟩, trivial⟩
  mpi := ⟨⟨by kernel_rfl, by kernel_rfl⟩, trivial⟩
/-- How many blocks hold what is known of the library's variables. -/
def gdN : Nat := 2
theorem gdN_one : 1 ≤ gdN := by decide
def GTab (w : World) : Prop := Lib.TabIs Tryd.prog w "internal/strconv.uint64pow10" .u64 Lib.pow10Tab
theorem gname10 : Tryd.prog.globalNamed "internal/strconv.uint64pow10" = some 1 := by kernel_rfl
theorem GTab_stab (w w' : World) (h : ∀ b, b < gdN → w'.heap[b]? = w.heap[b]?) (hG : GTab w) : GTab w' := by
  unfold GTab Lib.TabIs World.var? at hG ⊢
  rw [gname10] at hG ⊢
  simp only [Option.bind_some] at hG ⊢
  rw [h 1 (by decide)]
  exact hG
theorem GTab_size (w : World) (h0 : 1 ≤ w.heap.size) (hG : GTab w) : gdN ≤ w.heap.size := by
  unfold GTab Lib.TabIs World.var? at hG
  rw [gname10] at hG
  simp only [Option.bind_some] at hG
  rcases Nat.lt_or_ge 1 w.heap.size with h' | h'
  · exact h'
  · rw [Array.getElem?_eq_none h'] at hG; cases hG
end Go.Proofs.YtnfbomhhgjlacaaDoor.Abs
