/- What is known of the program's types, for walks by computing. -/
import Derived.Test.YtghnifboofhcdaaDoorDr5
import Derived.Test.YtghnifboofhcdaaDoorChecked
namespace Go.Proofs.YtghnifboofhcdaaDoor.Abs
open Go.RowKit Go.MapKept
set_option maxRecDepth 100000
def TB : Tab where
  fld := [(32, [(0, 1, false), (1, 1, false), (2, 1, false), (3, 1, false), (4, 1, false), (5, 1, false), (6, 1, false)]), (35, [(0, 1, false), (1, 1, false), (2, 1, false), (3, 1, false), (4, 7, true), (11, 1, false)]), (41, [(0, 1, false), (1, 12, true)]), (70, [(0, 1, false), (1, 1, false), (2, 1, false), (3, 1, false)]), (81, [(0, 1, false)])]
  lod := [(3, 1, false), (4, 1, false), (5, 1, false), (9, 1, false), (22, 1, false), (23, 1, false), (25, 1, false), (26, 1, false), (32, 7, true), (33, 1, false), (35, 12, true), (37, 1, false), (41, 13, true), (43, 1, false), (53, 1, false), (67, 1, false), (70, 4, true), (77, 1, false), (78, 1, false), (79, 1, false), (81, 1, true), (86, 1, false), (91, 1, false), (95, 1, false), (126, 1, false), (141, 1, false), (145, 1, false)]
  elm := [(22, 4), (23, 12), (25, 1), (33, 1), (37, 13), (43, 1)]
  app := [(22, 70, 4, 40), (23, 35, 12, 144), (25, 3, 1, 8), (33, 5, 1, 1), (37, 41, 13, 152), (43, 9, 1, 16)]
  str := [(32, [(0, 1), (1, 1), (2, 1), (3, 1), (4, 1), (5, 1), (6, 1)], [(.int .i64 0), (.int .i64 0), (.int .i64 0), (.string ⟨#[]⟩), (.string ⟨#[]⟩), (.int .i64 0), (.int .i64 0)]), (35, [(0, 1), (1, 1), (2, 1), (3, 1), (4, 7), (11, 1)], [(.string ⟨#[]⟩), (.int .i64 0), (.int .i64 0), (.string ⟨#[]⟩), (.int .i64 0), (.int .i64 0), (.int .i64 0), (.string ⟨#[]⟩), (.string ⟨#[]⟩), (.int .i64 0), (.int .i64 0), (.slice none 0 0)]), (41, [(0, 1), (1, 12)], [(.int .i64 0), (.string ⟨#[]⟩), (.int .i64 0), (.int .i64 0), (.string ⟨#[]⟩), (.int .i64 0), (.int .i64 0), (.int .i64 0), (.string ⟨#[]⟩), (.string ⟨#[]⟩), (.int .i64 0), (.int .i64 0), (.slice none 0 0)]), (70, [(0, 1), (1, 1), (2, 1), (3, 1)], [(.int .i64 0), (.int .i64 0), (.int .i64 0), (.string ⟨#[]⟩)]), (81, [(0, 1)], [(.map none)])]
  sls := [(22, 70, 4, [(.int .i64 0), (.int .i64 0), (.int .i64 0), (.string ⟨#[]⟩)]), (23, 35, 12, [(.string ⟨#[]⟩), (.int .i64 0), (.int .i64 0), (.string ⟨#[]⟩), (.int .i64 0), (.int .i64 0), (.int .i64 0), (.string ⟨#[]⟩), (.string ⟨#[]⟩), (.int .i64 0), (.int .i64 0), (.slice none 0 0)]), (25, 3, 1, [(.int .i64 0)]), (33, 5, 1, [(.int .u8 0)]), (37, 41, 13, [(.int .i64 0), (.string ⟨#[]⟩), (.int .i64 0), (.int .i64 0), (.string ⟨#[]⟩), (.int .i64 0), (.int .i64 0), (.int .i64 0), (.string ⟨#[]⟩), (.string ⟨#[]⟩), (.int .i64 0), (.int .i64 0), (.slice none 0 0)]), (43, 9, 1, [(.string ⟨#[]⟩)])]
  int := [(3, .i64), (5, .u8), (26, .i64), (95, .u64), (126, .i64), (141, .u64)]
  stg := [(9, ())]
  bol := [(4, ())]
  byt := [(33, 5)]
  slc := [(22, 70), (23, 35), (25, 3), (33, 5), (37, 41), (43, 9)]
  zer := [(3, (.int .i64 0)), (4, (.bool false)), (5, (.int .u8 0)), (9, (.string ⟨#[]⟩)), (22, (.slice none 0 0)), (23, (.slice none 0 0)), (25, (.slice none 0 0)), (26, (.int .i64 0)), (32, (.agg #[(.int .i64 0), (.int .i64 0), (.int .i64 0), (.string ⟨#[]⟩), (.string ⟨#[]⟩), (.int .i64 0), (.int .i64 0)])), (33, (.slice none 0 0)), (35, (.agg #[(.string ⟨#[]⟩), (.int .i64 0), (.int .i64 0), (.string ⟨#[]⟩), (.int .i64 0), (.int .i64 0), (.int .i64 0), (.string ⟨#[]⟩), (.string ⟨#[]⟩), (.int .i64 0), (.int .i64 0), (.slice none 0 0)])), (37, (.slice none 0 0)), (41, (.agg #[(.int .i64 0), (.string ⟨#[]⟩), (.int .i64 0), (.int .i64 0), (.string ⟨#[]⟩), (.int .i64 0), (.int .i64 0), (.int .i64 0), (.string ⟨#[]⟩), (.string ⟨#[]⟩), (.int .i64 0), (.int .i64 0), (.slice none 0 0)])), (43, (.slice none 0 0)), (53, .nilFunc), (67, .nilFunc), (70, (.agg #[(.int .i64 0), (.int .i64 0), (.int .i64 0), (.string ⟨#[]⟩)])), (77, .nilFunc), (78, (.pointer none)), (79, (.map none)), (81, (.agg #[(.map none)])), (86, .nilFunc), (91, (.map none)), (95, (.int .u64 0)), (126, (.int .i64 0)), (141, (.int .u64 0)), (145, (.pointer none))]
  seq := [(32, [.int .i64, .int .i64, .int .i64, .str, .str, .int .i64, .int .i64]), (70, [.int .i64, .int .i64, .int .i64, .str])]
  mpi := [(79, .int .i64, (.int .i64 0)), (91, .int .i64, (.agg #[(.string ⟨#[]⟩), (.int .i64 0), (.int .i64 0), (.string ⟨#[]⟩), (.int .i64 0), (.int .i64 0), (.int .i64 0), (.string ⟨#[]⟩), (.string ⟨#[]⟩), (.int .i64 0), (.int .i64 0), (.slice none 0 0)]))]
theorem TB_ok : TabOk Tryd.prog TB where
  fld := by kernel_rfl
  lod := by kernel_rfl
  elm := by kernel_rfl
  app := by kernel_rfl
  str := ⟨by show _ = _; kernel_rfl, by show _ = _; kernel_rfl, by show _ = _; kernel_rfl, by show _ = _; kernel_rfl, by show _ = _; kernel_rfl, trivial⟩
  sls := ⟨by show _ = _; kernel_rfl, by show _ = _; kernel_rfl, by show _ = _; kernel_rfl, by show _ = _; kernel_rfl, by show _ = _; kernel_rfl, by show _ = _; kernel_rfl, trivial⟩
  int := ⟨by show _ = _; kernel_rfl, by show _ = _; kernel_rfl, by show _ = _; kernel_rfl, by show _ = _; kernel_rfl, by show _ = _; kernel_rfl, by show _ = _; kernel_rfl, trivial⟩
  stg := ⟨by show _ = _; kernel_rfl, trivial⟩
  bol := ⟨by show _ = _; kernel_rfl, trivial⟩
  byt := ⟨⟨by kernel_rfl, by kernel_rfl⟩, trivial⟩
  slc := ⟨by show _ = _; kernel_rfl, by show _ = _; kernel_rfl, by show _ = _; kernel_rfl, by show _ = _; kernel_rfl, by show _ = _; kernel_rfl, by show _ = _; kernel_rfl, trivial⟩
  zer := ⟨⟨by kernel_rfl, by kernel_rfl⟩, ⟨by kernel_rfl, by kernel_rfl⟩, ⟨by kernel_rfl, by kernel_rfl⟩, ⟨by kernel_rfl, by kernel_rfl⟩, ⟨by kernel_rfl, by kernel_rfl⟩, ⟨by kernel_rfl, by kernel_rfl⟩, ⟨by kernel_rfl, by kernel_rfl⟩, ⟨by kernel_rfl, by kernel_rfl⟩, ⟨by kernel_rfl, by kernel_rfl⟩, ⟨by kernel_rfl, by kernel_rfl⟩, ⟨by kernel_rfl, by kernel_rfl⟩, ⟨by kernel_rfl, by kernel_rfl⟩, ⟨by kernel_rfl, by kernel_rfl⟩, ⟨by kernel_rfl, by kernel_rfl⟩, ⟨by kernel_rfl, by kernel_rfl⟩, ⟨by kernel_rfl, by kernel_rfl⟩, ⟨by kernel_rfl, by kernel_rfl⟩, ⟨by kernel_rfl, by kernel_rfl⟩, ⟨by kernel_rfl, by kernel_rfl⟩, ⟨by kernel_rfl, by kernel_rfl⟩, ⟨by kernel_rfl, by kernel_rfl⟩, ⟨by kernel_rfl, by kernel_rfl⟩, ⟨by kernel_rfl, by kernel_rfl⟩, ⟨by kernel_rfl, by kernel_rfl⟩, ⟨by kernel_rfl, by kernel_rfl⟩, ⟨by kernel_rfl, by kernel_rfl⟩, ⟨by kernel_rfl, by kernel_rfl⟩, trivial⟩
  seq := ⟨⟨_, Tryd.underlying32, by show _ = _; kernel_rfl, by show _ = _; kernel_rfl, ⟨by kernel_rfl, by kernel_rfl, by kernel_rfl, ⟨by kernel_rfl, by kernel_rfl, by kernel_rfl, ⟨by kernel_rfl, by kernel_rfl, by kernel_rfl, ⟨by kernel_rfl, by kernel_rfl, by kernel_rfl, ⟨by kernel_rfl, by kernel_rfl, by kernel_rfl, ⟨by kernel_rfl, by kernel_rfl, by kernel_rfl, ⟨by kernel_rfl, by kernel_rfl, by kernel_rfl, trivial⟩⟩⟩⟩⟩⟩⟩⟩, ⟨_, Tryd.underlying70, by show _ = _; kernel_rfl, by show _ = _; kernel_rfl, ⟨by kernel_rfl, by kernel_rfl, by kernel_rfl, ⟨by kernel_rfl, by kernel_rfl, by kernel_rfl, ⟨by kernel_rfl, by kernel_rfl, by kernel_rfl, ⟨by kernel_rfl, by kernel_rfl, by kernel_rfl, trivial⟩⟩⟩⟩⟩, trivial⟩
  mpi := ⟨⟨by kernel_rfl, by kernel_rfl⟩, ⟨by kernel_rfl, by kernel_rfl⟩, trivial⟩
end Go.Proofs.YtghnifboofhcdaaDoor.Abs
