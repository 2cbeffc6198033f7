/- What is known of the program's types, for walks by computing. -/
import Derived.Test.YtaogbdfmoeolnaaDoorDr5
import Derived.Test.YtaogbdfmoeolnaaDoorChecked
namespace Go.Proofs.YtaogbdfmoeolnaaDoor.Abs
open Go.RowKit Go.MapKept
set_option maxRecDepth 100000
def TB : Tab where
  fld := [(26, [(0, 1, false), (1, 1, false), (2, 1, false), (3, 1, false), (4, 1, false), (5, 1, false), (6, 1, false)]), (29, [(0, 1, false), (1, 1, false), (2, 1, false), (3, 1, false), (4, 7, true), (11, 1, false)]), (49, [(0, 1, false), (1, 1, false)]), (58, [(0, 1, false), (1, 1, false), (2, 1, false), (3, 1, false)]), (122, [(0, 1, false)])]
  lod := [(3, 1, false), (4, 1, false), (5, 1, false), (9, 1, false), (22, 1, false), (23, 1, false), (26, 7, true), (27, 1, false), (29, 12, true), (31, 1, false), (37, 1, false), (43, 1, false), (49, 2, true), (53, 1, false), (55, 1, false), (58, 4, true), (64, 1, false), (67, 1, false), (74, 1, false), (95, 1, false), (109, 1, false), (119, 1, false), (120, 1, false), (122, 1, true), (132, 1, false), (136, 1, false), (143, 1, false), (144, 1, false)]
  elm := [(22, 4), (23, 12), (27, 1), (37, 1), (43, 2), (53, 1)]
  app := [(22, 58, 4, 40), (23, 29, 12, 144), (27, 5, 1, 1), (37, 3, 1, 8), (43, 49, 2, 24), (53, 9, 1, 16)]
  str := [(26, [(0, 1), (1, 1), (2, 1), (3, 1), (4, 1), (5, 1), (6, 1)], [(.int .i64 0), (.int .i64 0), (.int .i64 0), (.string ⟨#[]⟩), (.string ⟨#[]⟩), (.int .i64 0), (.int .i64 0)]), (29, [(0, 1), (1, 1), (2, 1), (3, 1), (4, 7), (11, 1)], [(.string ⟨#[]⟩), (.int .i64 0), (.int .i64 0), (.string ⟨#[]⟩), (.int .i64 0), (.int .i64 0), (.int .i64 0), (.string ⟨#[]⟩), (.string ⟨#[]⟩), (.int .i64 0), (.int .i64 0), (.slice none 0 0)]), (49, [(0, 1), (1, 1)], [(.bool false), (.string ⟨#[]⟩)]), (58, [(0, 1), (1, 1), (2, 1), (3, 1)], [(.int .i64 0), (.int .i64 0), (.int .i64 0), (.string ⟨#[]⟩)]), (122, [(0, 1)], [(.map none)])]
  sls := [(22, 58, 4, [(.int .i64 0), (.int .i64 0), (.int .i64 0), (.string ⟨#[]⟩)]), (23, 29, 12, [(.string ⟨#[]⟩), (.int .i64 0), (.int .i64 0), (.string ⟨#[]⟩), (.int .i64 0), (.int .i64 0), (.int .i64 0), (.string ⟨#[]⟩), (.string ⟨#[]⟩), (.int .i64 0), (.int .i64 0), (.slice none 0 0)]), (27, 5, 1, [(.int .u8 0)]), (37, 3, 1, [(.int .i64 0)]), (43, 49, 2, [(.bool false), (.string ⟨#[]⟩)]), (53, 9, 1, [(.string ⟨#[]⟩)])]
  int := [(3, .i64), (5, .u8), (31, .i64), (74, .u64), (109, .i64), (132, .u64)]
  stg := [(9, ())]
  bol := [(4, ())]
  byt := [(27, 5)]
  slc := [(22, 58), (23, 29), (27, 5), (37, 3), (43, 49), (53, 9)]
  zer := [(3, (.int .i64 0)), (4, (.bool false)), (5, (.int .u8 0)), (9, (.string ⟨#[]⟩)), (22, (.slice none 0 0)), (23, (.slice none 0 0)), (26, (.agg #[(.int .i64 0), (.int .i64 0), (.int .i64 0), (.string ⟨#[]⟩), (.string ⟨#[]⟩), (.int .i64 0), (.int .i64 0)])), (27, (.slice none 0 0)), (29, (.agg #[(.string ⟨#[]⟩), (.int .i64 0), (.int .i64 0), (.string ⟨#[]⟩), (.int .i64 0), (.int .i64 0), (.int .i64 0), (.string ⟨#[]⟩), (.string ⟨#[]⟩), (.int .i64 0), (.int .i64 0), (.slice none 0 0)])), (31, (.int .i64 0)), (37, (.slice none 0 0)), (43, (.slice none 0 0)), (49, (.agg #[(.bool false), (.string ⟨#[]⟩)])), (53, (.slice none 0 0)), (55, .nilFunc), (58, (.agg #[(.int .i64 0), (.int .i64 0), (.int .i64 0), (.string ⟨#[]⟩)])), (64, .nilFunc), (67, .nilFunc), (74, (.int .u64 0)), (95, (.map none)), (109, (.int .i64 0)), (119, (.pointer none)), (120, (.map none)), (122, (.agg #[(.map none)])), (132, (.int .u64 0)), (136, (.pointer none)), (143, .nilFunc), (144, .nilFunc)]
  seq := [(26, [.int .i64, .int .i64, .int .i64, .str, .str, .int .i64, .int .i64]), (58, [.int .i64, .int .i64, .int .i64, .str])]
  mpi := [(95, .int .i64, (.agg #[(.string ⟨#[]⟩), (.int .i64 0), (.int .i64 0), (.string ⟨#[]⟩), (.int .i64 0), (.int .i64 0), (.int .i64 0), (.string ⟨#[]⟩), (.string ⟨#[]⟩), (.int .i64 0), (.int .i64 0), (.slice none 0 0)])), (120, .int .i64, (.int .i64 0))]
theorem TB_ok : TabOk Tryd.prog TB where
  fld := by kernel_rfl
  lod := by kernel_rfl
  elm := by kernel_rfl
  app := by kernel_rfl
  str := ⟨by show _ = _; kernel_rfl, by show _ = _; kernel_rfl, by show _ = _; kernel_rfl, by show _ = _; kernel_rfl, by show _ = _; kernel_rfl, trivial⟩
  sls := ⟨by show _ = _; kernel_rfl, by show _ = _; kernel_rfl, by show _ = _; kernel_rfl, by show _ = _; kernel_rfl, by show _ = _; kernel_rfl, by show _ = _; kernel_rfl, trivial⟩
  int := ⟨by show _ = _; kernel_rfl, by show _ = _; kernel_rfl, by show _ = _; kernel_rfl, by show _ = _; kernel_rfl, by show _ = _; kernel_rfl, by show _ = _; kernel_rfl, trivial⟩
  stg := ⟨by show _ = _; kernel_rfl, trivial⟩
  bol := ⟨by show _ = _; kernel_rfl, trivial⟩
  byt := ⟨⟨by kernel_rfl, by kernel_rfl⟩, trivial⟩
  slc := ⟨by show _ = _; kernel_rfl, by show _ = _; kernel_rfl, by show _ = _; kernel_rfl, by show _ = _; kernel_rfl, by show _ = _; kernel_rfl, by show _ = _; kernel_rfl, trivial⟩
  zer := ⟨⟨by kernel_rfl, by kernel_rfl⟩, ⟨by kernel_rfl, by kernel_rfl⟩, ⟨by kernel_rfl, by kernel_rfl⟩, ⟨by kernel_rfl, by kernel_rfl⟩, ⟨by kernel_rfl, by kernel_rfl⟩, ⟨by kernel_rfl, by kernel_rfl⟩, ⟨by kernel_rfl, by kernel_rfl⟩, ⟨by kernel_rfl, by kernel_rfl⟩, ⟨by kernel_rfl, by kernel_rfl⟩, ⟨by kernel_rfl, by kernel_rfl⟩, ⟨by kernel_rfl, by kernel_rfl⟩, ⟨by kernel_rfl, by kernel_rfl⟩, ⟨by kernel_rfl, by kernel_rfl⟩, ⟨by kernel_rfl, by kernel_rfl⟩, ⟨by kernel_rfl, by kernel_rfl⟩, ⟨by kernel_rfl, by kernel_rfl⟩, ⟨by kernel_rfl, by kernel_rfl⟩, ⟨by kernel_rfl, by kernel_rfl⟩, ⟨by kernel_rfl, by kernel_rfl⟩, ⟨by kernel_rfl, by kernel_rfl⟩, ⟨by kernel_rfl, by kernel_rfl⟩, ⟨by kernel_rfl, by kernel_rfl⟩, ⟨by kernel_rfl, by kernel_rfl⟩, ⟨by kernel_rfl, by kernel_rfl⟩, ⟨by kernel_rfl, by kernel_rfl⟩, ⟨by kernel_rfl, by kernel_rfl⟩, ⟨by kernel_rfl, by kernel_rfl⟩, ⟨by kernel_rfl, by kernel_rfl⟩, trivial⟩
  seq := ⟨⟨_, Tryd.underlying26, by show _ = _; kernel_rfl, by show _ = _; kernel_rfl, ⟨by kernel_rfl, by kernel_rfl, by kernel_rfl, ⟨by kernel_rfl, by kernel_rfl, by kernel_rfl, ⟨by kernel_rfl, by kernel_rfl, by kernel_rfl, ⟨by kernel_rfl, by kernel_rfl, by kernel_rfl, ⟨by kernel_rfl, by kernel_rfl, by kernel_rfl, ⟨by kernel_rfl, by kernel_rfl, by kernel_rfl, ⟨by kernel_rfl, by kernel_rfl, by kernel_rfl, trivial⟩⟩⟩⟩⟩⟩⟩⟩, ⟨_, Tryd.underlying58, by show _ = _; kernel_rfl, by show _ = _; kernel_rfl, ⟨by kernel_rfl, by kernel_rfl, by kernel_rfl, ⟨by kernel_rfl, by kernel_rfl, by kernel_rfl, ⟨by kernel_rfl, by kernel_rfl, by kernel_rfl, ⟨by kernel_rfl, by kernel_rfl, by kernel_rfl, trivial⟩⟩⟩⟩⟩, trivial⟩
  mpi := ⟨⟨by kernel_rfl, by kernel_rfl⟩, ⟨by kernel_rfl, by kernel_rfl⟩, trivial⟩
end Go.Proofs.YtaogbdfmoeolnaaDoor.Abs
