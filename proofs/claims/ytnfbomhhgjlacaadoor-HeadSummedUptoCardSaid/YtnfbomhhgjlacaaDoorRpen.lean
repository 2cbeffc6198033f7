/- The pen of heads: a strings.Builder inside a struct. -/
import Derived.Test.YtnfbomhhgjlacaaDoorRbld
import Derived.Test.YtnfbomhhgjlacaaDoorRbstr
import Derived.Test.YtnfbomhhgjlacaaDoorDr17
namespace Go.Proofs.YtnfbomhhgjlacaaDoor.Abs
open Go.RowKit Go.MapKept
set_option linter.unusedVariables false
set_option linter.unusedSimpArgs false
set_option maxRecDepth 100000
set_option maxHeartbeats 4000000
/-- A builder that nothing was written to. -/
theorem copyCheck_newP : ACB CX 109 [.ptr 0 0] [.cells 83 [.v (.pointer none), .v (.slice none 0 0), .v (.int .i64 0)]] (.tup []) [.cells 83 [.ptr 0 0, .v (.slice none 0 0), .v (.int .i64 0)]] := by
  obtain ⟨j, hj, hj0⟩ := info_B
  refine ACB_walk ⟨TB, 20, 1, [], []⟩ (fn := Tryd.f109) TB_ok Tryd.func109 rfl rfl rfl rfl (fun i h => by cases h) rfl ?_; intro E hX
  repeat (first | ((with_reducible show W _ _ _ _ _ _); first | refine W_seq ?_ | refine W_block ?_ | refine W_regionB hX 0 rfl ?_ | refine W_cond ?_ | refine W_skip ?_ | refine W_exit ?_ | refine W_ret ?_) | ((fail_if_success (with_reducible show W _ _ _ _ _ _)); show W _ _ _ _ _ _) | refine andA ?_ | refine condT ?_ | refine condF ?_ | refine exB ?_ | refine exL ?_ | refine Exists.intro _ (And.intro rfl ?_) | refine Exists.intro _ (And.intro (get_mapN (by assumption)) ?_) | ((fail_if_success (with_reducible show LoopEnd _ _ _ _ _ _ _)); show LoopEnd _ _ _ _ _ _ _) | ((fail_if_success (with_reducible show JoinEnd _ _ _ _ _)); show JoinEnd _ _ _ _ _) | ((fail_if_success (with_reducible show JoinG _ _ _ _ _)); show JoinG _ _ _ _ _))
  refine W_regionP hX [.n, .n, .n, .n, .y] rfl ?_
  refine goT ?_
  refine ⟨_, fun E => Y_nilIsNil rfl und_ptrB rfl rfl, ?_⟩
  repeat (first | ((with_reducible show W _ _ _ _ _ _); first | refine W_seq ?_ | refine W_block ?_ | refine W_regionB hX 1 rfl ?_ | refine W_cond ?_ | refine W_skip ?_ | refine W_exit ?_ | refine W_ret ?_) | ((fail_if_success (with_reducible show W _ _ _ _ _ _)); show W _ _ _ _ _ _) | refine andA ?_ | refine condT ?_ | refine condF ?_ | refine exB ?_ | refine exL ?_ | refine Exists.intro _ (And.intro rfl ?_) | refine Exists.intro _ (And.intro (get_mapN (by assumption)) ?_) | ((fail_if_success (with_reducible show LoopEnd _ _ _ _ _ _ _)); show LoopEnd _ _ _ _ _ _ _) | ((fail_if_success (with_reducible show JoinEnd _ _ _ _ _)); show JoinEnd _ _ _ _ _) | ((fail_if_success (with_reducible show JoinG _ _ _ _ _)); show JoinG _ _ _ _ _))
  refine W_regionP hX [.n, .n, .y, .y, .y] rfl ?_
  refine goT ?_
  refine ⟨_, fun E => Y_toUnsafe (off := 0) (cs := [.v (.pointer none), .v (.slice none 0 0), .v (.int .i64 0)]) rfl und_ptrB und_unsafe hj hj0 rfl rfl (by decide), ?_⟩
  refine goT ?_
  refine ⟨_, fun E => Y_noEscape rfl Tryd.func137 (by kernel_rfl) (by kernel_rfl) (by kernel_rfl) (by kernel_rfl) rfl, ?_⟩
  refine goT ?_
  refine ⟨_, fun E => Y_fromUnsafe (off := 0) (cs := [.v (.pointer none), .v (.slice none 0 0), .v (.int .i64 0)]) rfl und_unsafe und_ptrB hj rfl rfl (by kernel_rfl), ?_⟩
  refine goT ?_
  exact ⟨[], rfl⟩
/-- One that something was written to. -/
theorem copyCheck_oldP (n : Nat) (els : List (List AV)) (hc : ClosedE els) : ACB CX 109 [.ptr 0 0] [.cells 83 [.ptr 0 0, .own 1 1 0 n, .v (.int .i64 0)], .row 5 1 els] (.tup []) [.cells 83 [.ptr 0 0, .own 1 1 0 n, .v (.int .i64 0)], .row 5 1 els] := by
  obtain ⟨j, hj, hj0⟩ := info_B
  refine ACB_walk ⟨TB, 20, 2, [], []⟩ (fn := Tryd.f109) TB_ok Tryd.func109 rfl rfl rfl rfl (fun i h => by cases h) rfl ?_; intro E hX
  repeat (first | ((with_reducible show W _ _ _ _ _ _); first | refine W_seq ?_ | refine W_block ?_ | refine W_regionB hX 0 rfl ?_ | refine W_cond ?_ | refine W_skip ?_ | refine W_exit ?_ | refine W_ret ?_) | ((fail_if_success (with_reducible show W _ _ _ _ _ _)); show W _ _ _ _ _ _) | refine andA ?_ | refine condT ?_ | refine condF ?_ | refine exB ?_ | refine exL ?_ | refine Exists.intro _ (And.intro rfl ?_) | refine Exists.intro _ (And.intro (get_mapN (by assumption)) ?_) | ((fail_if_success (with_reducible show LoopEnd _ _ _ _ _ _ _)); show LoopEnd _ _ _ _ _ _ _) | ((fail_if_success (with_reducible show JoinEnd _ _ _ _ _)); show JoinEnd _ _ _ _ _) | ((fail_if_success (with_reducible show JoinG _ _ _ _ _)); show JoinG _ _ _ _ _))
  refine W_regionP hX [.n, .n, .n, .n, .y] rfl ?_
  refine goT ?_
  refine ⟨_, fun E => Y_ptrIsNil rfl und_ptrB rfl rfl, ?_⟩
  repeat (first | ((with_reducible show W _ _ _ _ _ _); first | refine W_seq ?_ | refine W_block ?_ | refine W_regionB hX 2 rfl ?_ | refine W_cond ?_ | refine W_skip ?_ | refine W_exit ?_ | refine W_ret ?_) | ((fail_if_success (with_reducible show W _ _ _ _ _ _)); show W _ _ _ _ _ _) | refine andA ?_ | refine condT ?_ | refine condF ?_ | refine exB ?_ | refine exL ?_ | refine Exists.intro _ (And.intro rfl ?_) | refine Exists.intro _ (And.intro (get_mapN (by assumption)) ?_) | ((fail_if_success (with_reducible show LoopEnd _ _ _ _ _ _ _)); show LoopEnd _ _ _ _ _ _ _) | ((fail_if_success (with_reducible show JoinEnd _ _ _ _ _)); show JoinEnd _ _ _ _ _) | ((fail_if_success (with_reducible show JoinG _ _ _ _ _)); show JoinG _ _ _ _ _))
  refine W_regionP hX [.n, .n, .n, .n, .n, .y] rfl ?_
  refine goT ?_
  refine ⟨_, fun E => Y_ptrSelf (off := 0) rfl und_ptrB hj hj0 rfl rfl, ?_⟩
  refine goT ?_
  exact ⟨[], rfl⟩
theorem writeString_newP (s : ByteArray) (hs : s.size ≤ 1000000000) : ACB CX 82 [.ptr 0 0, .v (.string s)] [.cells 83 [.v (.pointer none), .v (.slice none 0 0), .v (.int .i64 0)]] (.tup [.v (.int .i64 s.size), .v .nilIface]) [.cells 83 [.ptr 0 0, .own 1 1 0 s.size, .v (.int .i64 0)], .row 5 1 (bytesA s)] := by
  have hcc := copyCheck_newP
  refine ACB_walk ⟨TB, 19, 1, [], []⟩ (fn := Tryd.f82) TB_ok Tryd.func82 rfl rfl rfl rfl (fun i h => by cases h) rfl ?_; intro E hX
  refine goT ?_
  refine .inr ⟨[0], _, _, _, _, ⟨hcc, by kernel_rfl, rfl, rfl, rfl, by decide, rfl, Nat.le_refl _, rfl, ballc rfl balln, ballc rfl balln, rfl, fun j hj => (by cases hj), fun j hj => (by cases hj)⟩, ?_⟩
  repeat (first | ((with_reducible show W _ _ _ _ _ _); first | refine W_seq ?_ | refine W_block ?_ | refine W_regionB hX 2 rfl ?_ | refine W_cond ?_ | refine W_skip ?_ | refine W_exit ?_ | refine W_ret ?_) | ((fail_if_success (with_reducible show W _ _ _ _ _ _)); show W _ _ _ _ _ _) | refine andA ?_ | refine condT ?_ | refine condF ?_ | refine exB ?_ | refine exL ?_ | refine Exists.intro _ (And.intro rfl ?_) | refine Exists.intro _ (And.intro (get_mapN (by assumption)) ?_) | ((fail_if_success (with_reducible show LoopEnd _ _ _ _ _ _ _)); show LoopEnd _ _ _ _ _ _ _) | ((fail_if_success (with_reducible show JoinEnd _ _ _ _ _)); show JoinEnd _ _ _ _ _) | ((fail_if_success (with_reducible show JoinG _ _ _ _ _)); show JoinG _ _ _ _ _))
  refine W_regionV hX [.n, .n, .n, .n, .n, .n, .nil 12 5] ?_
  refine goT ?_
  refine ⟨5, 1, [], ⟨rfl, by kernel_rfl, by kernel_rfl, rfl, ⟨by omega, by unfold maxLen; omega⟩, rfl, True.intro, fun _ => rfl⟩, bytesA s, s.size, rfl, by omega, ?_⟩
  refine goT ?_
  exact ⟨[], rfl⟩
/-- WriteString to one that something was written to. -/
theorem writeString_oldP (t s : ByteArray) (hs : s.size ≤ 1000000000) (ht : t.size ≤ 1000000000) : ACB CX 82 [.ptr 0 0, .v (.string s)] [.cells 83 [.ptr 0 0, .own 1 1 0 t.size, .v (.int .i64 0)], .row 5 1 (bytesA t)] (.tup [.v (.int .i64 s.size), .v .nilIface]) [.cells 83 [.ptr 0 0, .own 1 1 0 (t ++ s).size, .v (.int .i64 0)], .row 5 1 (bytesA (t ++ s))] := by
  have hcc := copyCheck_oldP t.size (bytesA t) (bytesA_closed t)
  have hsz : t.size + s.size = (t ++ s).size := by rw [ByteArray.size_append]
  have hap : bytesA t ++ bytesA s = bytesA (t ++ s) := by unfold bytesA; rw [ByteArray.data_append, Array.toList_append, List.map_append]
  refine ACB_walk ⟨TB, 19, 2, [1], []⟩ (fn := Tryd.f82) TB_ok Tryd.func82 rfl rfl rfl rfl (fun i h => by simp at h; subst h; exact ⟨_, rfl, rfl⟩) rfl ?_; intro E hX
  refine goT ?_
  refine .inr ⟨[0, 1], _, _, _, _, ⟨hcc, by kernel_rfl, rfl, rfl, rfl, by decide, rfl, Nat.le_refl _, rfl, ballc rfl (ballc (bytesA_closed t) balln), ballc rfl (ballc (bytesA_closed t) balln), rfl, fun j hj => (by have hj : j ∈ [1] := hj; rw [List.mem_singleton] at hj; subst hj; rfl), fun j _ => ⟨.inl (by decide), .inl (by decide), trivial⟩⟩, ?_⟩
  repeat (first | ((with_reducible show W _ _ _ _ _ _); first | refine W_seq ?_ | refine W_block ?_ | refine W_regionB hX 2 rfl ?_ | refine W_cond ?_ | refine W_skip ?_ | refine W_exit ?_ | refine W_ret ?_) | ((fail_if_success (with_reducible show W _ _ _ _ _ _)); show W _ _ _ _ _ _) | refine andA ?_ | refine condT ?_ | refine condF ?_ | refine exB ?_ | refine exL ?_ | refine Exists.intro _ (And.intro rfl ?_) | refine Exists.intro _ (And.intro (get_mapN (by assumption)) ?_) | ((fail_if_success (with_reducible show LoopEnd _ _ _ _ _ _ _)); show LoopEnd _ _ _ _ _ _ _) | ((fail_if_success (with_reducible show JoinEnd _ _ _ _ _)); show JoinEnd _ _ _ _ _) | ((fail_if_success (with_reducible show JoinG _ _ _ _ _)); show JoinG _ _ _ _ _))
  refine W_regionV hX [.n, .n, .n, .n, .n, .n, .str] ?_
  refine goT ?_
  refine ⟨5, 1, bytesA t, ⟨rfl, by kernel_rfl, by kernel_rfl, bytesA_len t, ⟨by omega, by unfold maxLen; omega⟩, rfl, True.intro, bytesA_closed t⟩, bytesA (t ++ s), (t ++ s).size, hap, hsz, ?_⟩
  refine goT ?_
  exact ⟨[], rfl⟩
/-- put: the first text. -/
theorem put_new (s : ByteArray) (hs : s.size ≤ 1000000) : ACB CX 38 [.ptr 0 0, .v (.string s), .v (.int .i64 0)] [.cells 83 [.v (.pointer none), .v (.slice none 0 0), .v (.int .i64 0)]] (.tup []) [.cells 83 [.ptr 0 0, .own 1 1 0 s.size, .v (.int .i64 0)], .row 5 1 (bytesA s)] := by
  have hws := writeString_newP s (by omega)
  refine ACB_walk ⟨TB, 20, 1, [], []⟩ (fn := Tryd.f38) TB_ok Tryd.func38 rfl rfl rfl rfl (fun i h => by cases h) rfl ?_; intro E hX
  refine goT ?_
  refine .inr ⟨[0], _, _, _, _, ⟨hws, by kernel_rfl, rfl, rfl, rfl, by decide, rfl, Nat.le_succ _, rfl, ballc rfl balln, ballc rfl (ballc (bytesA_closed _) balln), rfl, fun j hj => (by cases hj), fun j hj => (by cases hj)⟩, ?_⟩
  refine goT ?_
  exact ⟨[], rfl⟩
/-- put: one behind others. -/
theorem put_old (t s u : ByteArray) (hu : t ++ s = u) (hs : s.size ≤ 1000000) (ht : t.size ≤ 1000000) : ACB CX 38 [.ptr 0 0, .v (.string s), .v (.int .i64 0)] [.cells 83 [.ptr 0 0, .own 1 1 0 t.size, .v (.int .i64 0)], .row 5 1 (bytesA t)] (.tup []) [.cells 83 [.ptr 0 0, .own 1 1 0 u.size, .v (.int .i64 0)], .row 5 1 (bytesA u)] := by
  have hws := writeString_oldP t s (by omega) (by omega)
  rw [hu] at hws
  refine ACB_walk ⟨TB, 20, 2, [1], []⟩ (fn := Tryd.f38) TB_ok Tryd.func38 rfl rfl rfl rfl (fun i h => by simp at h; subst h; exact ⟨_, rfl, rfl⟩) rfl ?_; intro E hX
  refine goT ?_
  refine .inr ⟨[0, 1], _, _, _, _, ⟨hws, by kernel_rfl, rfl, rfl, rfl, by decide, rfl, Nat.le_refl _, rfl, ballc rfl (ballc (bytesA_closed t) balln), ballc rfl (ballc (bytesA_closed u) balln), rfl, fun j hj => (by have hj : j ∈ [1] := hj; rw [List.mem_singleton] at hj; subst hj; rfl), fun j _ => ⟨.inl (by decide), .inl (by decide), trivial⟩⟩, ?_⟩
  refine goT ?_
  exact ⟨[], rfl⟩
end Go.Proofs.YtnfbomhhgjlacaaDoor.Abs
