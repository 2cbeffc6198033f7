/- What is known of the program's types, for walks by computing. -/
import Derived.Test.YtgjldbcpohkmkaaDoorDr5
import Derived.Test.YtgjldbcpohkmkaaDoorChecked
namespace Go.Proofs.YtgjldbcpohkmkaaDoor.Abs
open Go.RowKit Go.MapKept
set_option maxRecDepth 100000
def TB : Tab where
  fld := [(38, [(0, 1, false), (1, 1, false), (2, 1, false), (3, 1, false), (4, 1, false), (5, 1, false), (6, 1, false)]), (40, [(0, 1, false), (1, 1, false), (2, 1, false), (3, 1, false), (4, 7, true), (11, 1, false)]), (54, [(0, 1, false), (1, 1, false), (2, 1, false), (3, 1, false)])]
  lod := [(3, 1, false), (4, 1, false), (5, 1, false), (9, 1, false), (22, 1, false), (24, 1, false), (32, 1, false), (33, 1, false), (34, 1, false), (38, 7, true), (40, 12, true), (47, 1, false), (49, 1, false), (51, 1, false), (54, 4, true), (59, 1, false), (64, 1, false), (72, 1, false), (91, 1, false), (110, 1, false), (127, 1, false), (131, 1, false)]
  elm := [(22, 1), (32, 4), (33, 1), (34, 12), (47, 1), (49, 1)]
  app := [(22, 5, 1, 1), (32, 54, 4, 40), (33, 3, 1, 8), (34, 40, 12, 144), (47, 22, 1, 24), (49, 9, 1, 16)]
  str := [(38, [(0, 1), (1, 1), (2, 1), (3, 1), (4, 1), (5, 1), (6, 1)], [(.int .i64 0), (.int .i64 0), (.int .i64 0), (.string ⟨#[]⟩), (.string ⟨#[]⟩), (.int .i64 0), (.int .i64 0)]), (40, [(0, 1), (1, 1), (2, 1), (3, 1), (4, 7), (11, 1)], [(.string ⟨#[]⟩), (.int .i64 0), (.int .i64 0), (.string ⟨#[]⟩), (.int .i64 0), (.int .i64 0), (.int .i64 0), (.string ⟨#[]⟩), (.string ⟨#[]⟩), (.int .i64 0), (.int .i64 0), (.slice none 0 0)]), (54, [(0, 1), (1, 1), (2, 1), (3, 1)], [(.int .i64 0), (.int .i64 0), (.int .i64 0), (.string ⟨#[]⟩)])]
  sls := [(22, 5, 1, [(.int .u8 0)]), (32, 54, 4, [(.int .i64 0), (.int .i64 0), (.int .i64 0), (.string ⟨#[]⟩)]), (33, 3, 1, [(.int .i64 0)]), (34, 40, 12, [(.string ⟨#[]⟩), (.int .i64 0), (.int .i64 0), (.string ⟨#[]⟩), (.int .i64 0), (.int .i64 0), (.int .i64 0), (.string ⟨#[]⟩), (.string ⟨#[]⟩), (.int .i64 0), (.int .i64 0), (.slice none 0 0)]), (47, 22, 1, [(.slice none 0 0)]), (49, 9, 1, [(.string ⟨#[]⟩)])]
  int := [(3, .i64), (5, .u8), (24, .i64), (72, .u64), (110, .i64), (127, .u64)]
  stg := [(9, ())]
  bol := [(4, ())]
  byt := [(22, 5)]
  slc := [(22, 5), (32, 54), (33, 3), (34, 40), (47, 22), (49, 9)]
  zer := [(3, (.int .i64 0)), (4, (.bool false)), (5, (.int .u8 0)), (9, (.string ⟨#[]⟩)), (22, (.slice none 0 0)), (24, (.int .i64 0)), (32, (.slice none 0 0)), (33, (.slice none 0 0)), (34, (.slice none 0 0)), (38, (.agg #[(.int .i64 0), (.int .i64 0), (.int .i64 0), (.string ⟨#[]⟩), (.string ⟨#[]⟩), (.int .i64 0), (.int .i64 0)])), (40, (.agg #[(.string ⟨#[]⟩), (.int .i64 0), (.int .i64 0), (.string ⟨#[]⟩), (.int .i64 0), (.int .i64 0), (.int .i64 0), (.string ⟨#[]⟩), (.string ⟨#[]⟩), (.int .i64 0), (.int .i64 0), (.slice none 0 0)])), (47, (.slice none 0 0)), (49, (.slice none 0 0)), (51, .nilFunc), (54, (.agg #[(.int .i64 0), (.int .i64 0), (.int .i64 0), (.string ⟨#[]⟩)])), (59, .nilFunc), (64, .nilFunc), (72, (.int .u64 0)), (91, (.map none)), (110, (.int .i64 0)), (127, (.int .u64 0)), (131, (.pointer none))]
  seq := [(38, [.int .i64, .int .i64, .int .i64, .str, .str, .int .i64, .int .i64]), (54, [.int .i64, .int .i64, .int .i64, .str])]
  mpi := [(91, .int .i64, (.agg #[(.string ⟨#[]⟩), (.int .i64 0), (.int .i64 0), (.string ⟨#[]⟩), (.int .i64 0), (.int .i64 0), (.int .i64 0), (.string ⟨#[]⟩), (.string ⟨#[]⟩), (.int .i64 0), (.int .i64 0), (.slice none 0 0)]))]
theorem TB_ok : TabOk Tryd.prog TB where
  fld := by kernel_rfl
  lod := by kernel_rfl
  elm := by kernel_rfl
  app := by kernel_rfl
  str := ⟨by show _ = _; kernel_rfl, by show _ = _; kernel_rfl, by show _ = _; kernel_rfl, trivial⟩
  sls := ⟨by show _ = _; kernel_rfl, by show _ = _; kernel_rfl, by show _ = _; kernel_rfl, by show _ = _; kernel_rfl, by show _ = _; kernel_rfl, by show _ = _; kernel_rfl, trivial⟩
  int := ⟨by show _ = _; kernel_rfl, by show _ = _; kernel_rfl, by show _ = _; kernel_rfl, by show _ = _; kernel_rfl, by show _ = _; kernel_rfl, by show _ = _; kernel_rfl, trivial⟩
  stg := ⟨by show _ = _; kernel_rfl, trivial⟩
  bol := ⟨by show _ = _; kernel_rfl, trivial⟩
  byt := ⟨⟨by kernel_rfl, by kernel_rfl⟩, trivial⟩
  slc := ⟨by show _ = _; kernel_rfl, by show _ = _; kernel_rfl, by show _ = _; kernel_rfl, by show _ = _; kernel_rfl, by show _ = _; kernel_rfl, by show _ = _; kernel_rfl, trivial⟩
  zer := ⟨⟨by kernel_rfl, by kernel_rfl⟩, ⟨by kernel_rfl, by kernel_rfl⟩, ⟨by kernel_rfl, by kernel_rfl⟩, ⟨by kernel_rfl, by kernel_rfl⟩, ⟨by kernel_rfl, by kernel_rfl⟩, ⟨by kernel_rfl, by kernel_rfl⟩, ⟨by kernel_rfl, by kernel_rfl⟩, ⟨by kernel_rfl, by kernel_rfl⟩, ⟨by kernel_rfl, by kernel_rfl⟩, ⟨by kernel_rfl, by kernel_rfl⟩, ⟨by kernel_rfl, by kernel_rfl⟩, ⟨by kernel_rfl, by kernel_rfl⟩, ⟨by kernel_rfl, by kernel_rfl⟩, ⟨by kernel_rfl, by kernel_rfl⟩, ⟨by kernel_rfl, by kernel_rfl⟩, ⟨by kernel_rfl, by kernel_rfl⟩, ⟨by kernel_rfl, by kernel_rfl⟩, ⟨by kernel_rfl, by kernel_rfl⟩, ⟨by kernel_rfl, by kernel_rfl⟩, ⟨by kernel_rfl, by kernel_rfl⟩, ⟨by kernel_rfl, by kernel_rfl⟩, ⟨by kernel_rfl, by kernel_rfl⟩, trivial⟩
  seq := ⟨⟨_, Tryd.underlying38, by show _ = _; kernel_rfl, by show _ = _; kernel_rfl, ⟨by kernel_rfl, by kernel_rfl, by kernel_rfl, ⟨by kernel_rfl, by kernel_rfl, by kernel_rfl, ⟨by kernel_rfl, by kernel_rfl, by kernel_rfl, ⟨by kernel_rfl, by kernel_rfl, by kernel_rfl, ⟨by kernel_rfl, by kernel_rfl, by kernel_rfl, ⟨by kernel_rfl, by kernel_rfl, by kernel_rfl, ⟨by kernel_rfl, by kernel_rfl, by kernel_rfl, trivial⟩⟩⟩⟩⟩⟩⟩⟩, ⟨_, Tryd.underlying54, by show _ = _; kernel_rfl, by show _ = _; kernel_rfl, ⟨by kernel_rfl, by kernel_rfl, by kernel_rfl, ⟨by kernel_rfl, by kernel_rfl, by kernel_rfl, ⟨by kernel_rfl, by kernel_rfl, by kernel_rfl, ⟨by kernel_rfl, by kernel_rfl, by kernel_rfl, trivial⟩⟩⟩⟩⟩, trivial⟩
  mpi := ⟨⟨by kernel_rfl, by kernel_rfl⟩, trivial⟩
end Go.Proofs.YtgjldbcpohkmkaaDoor.Abs
