/- Bytes in whole blocks, walked: pad.*, slices.Grow and slices.Concat of bytes. -/
import Derived.Test.YtgjldbcpohkmkaaDoorRpadp
import Derived.Test.YtgjldbcpohkmkaaDoorDr14
import Derived.Test.YtgjldbcpohkmkaaDoorDr9
namespace Go.Proofs.YtgjldbcpohkmkaaDoor.Abs
open Go.RowKit Go.MapKept
set_option linter.unusedVariables false
set_option linter.unusedSimpArgs false
set_option maxRecDepth 100000
set_option maxHeartbeats 4000000
theorem trim0_ac {dr : Bool} (s : ByteArray) (h : ∀ x ∈ s.data.toList, x = 0) (hs : s.size ≤ 1000000000) : AC (CXw dr) 17 [.v (.string s), .v (.string ⟨#[0]⟩)] (.v (.string ⟨#[]⟩)) := by
  intro w vs ok hgd hG hr
  obtain ⟨v, _, rfl, hv, v2, _, rfl, hv2, rfl⟩ := hr
  obtain rfl : v = .string s := hv
  obtain rfl : v2 = .string ⟨#[0]⟩ := hv2
  refine (Tryd.strings_Trim_one s 0 (by decide) w (by omega)).mono ?_
  rintro e w' ⟨rfl, hw⟩
  have e1 : Lib.trimB s.data.toList 0 = [] := (trim_zero _ _).2 h
  rw [e1]
  refine ⟨_, rfl, ?_, rfl⟩
  rcases hw with rfl | rfl
  · exact BelowD.refl _ _
  · exact below_drew' w
theorem blocks_ac (n : Nat) (h : n ≤ 8589934591) : AC CX 8 [.v (.int .i64 n)] (.tup [.v (.int .i64 (blocksN n : Nat)), .v (.int .i64 0)]) := by
  have hq : ((n : Int) + 512 - 1).tdiv 512 = ((blocksN n : Nat) : Int) := by rw [Int.tdiv_eq_ediv_of_nonneg (by omega)]; unfold blocksN; omega
  have hbn : blocksN n ≤ 20000000 := by unfold blocksN; omega
  refine AC_walk ⟨TB, 14, 0, [], []⟩ (fn := Tryd.f8) TB_ok Tryd.func8 rfl rfl rfl rfl rfl (fun _ => rfl) (fun _ => rfl) ?_; intro E hna hX
  refine goT ?_
  rw [hq]
  refine goT ?_
  rfl
theorem padEnd_ac : AC CX 9 [] (.row 1 (List.replicate 1024 [.v (.int .u8 0)])) := by
  refine AC_walk ⟨TB, 2, 0, [], []⟩ (fn := Tryd.f9) TB_ok Tryd.func9 rfl rfl rfl rfl rfl (fun _ => rfl) (fun _ => rfl) ?_; intro E hna hX
  refine goT ?_
  refine .inr ⟨1024, rfl, rfl, ⟨by omega, by decide⟩, ?_⟩
  repeat (first | ((with_reducible show W _ _ _ _ _ _); first | refine W_seq ?_ | refine W_block ?_ | refine W_region hX ?_ | refine W_cond ?_ | refine W_skip ?_ | refine W_exit ?_) | ((fail_if_success (with_reducible show W _ _ _ _ _ _)); show W _ _ _ _ _ _) | refine andA ?_ | refine condT ?_ | refine condF ?_ | refine exB ?_ | refine exL ?_ | refine Exists.intro _ (And.intro rfl ?_) | refine Exists.intro _ (And.intro (get_mapN (by assumption)) ?_) | ((fail_if_success (with_reducible show LoopEnd _ _ _ _ _ _ _)); show LoopEnd _ _ _ _ _ _ _) | ((fail_if_success (with_reducible show JoinEnd _ _ _ _ _)); show JoinEnd _ _ _ _ _) | ((fail_if_success (with_reducible show JoinG _ _ _ _ _)); show JoinG _ _ _ _ _))
  refine W_freeze hna 0 [0] rfl (fun t ht => by simp at ht; subst ht; rfl) (List.length_replicate ..) (fun j => by rw [← avoidsL_flatten]; exact avoidsL_mem fun x hx => by obtain ⟨l, hl, hx⟩ := List.mem_flatten.1 hx; rw [List.eq_of_mem_replicate hl] at hx; rw [List.mem_singleton] at hx; subst hx; rfl) True.intro rfl ?_
  refine goT ?_
  rfl
theorem cB (s : ByteArray) : ClosedE (bytesA s) := fun j => by
  rw [← avoidsL_flatten]
  exact avoidsL_mem fun x hx => by
    obtain ⟨l, hl, hx⟩ := List.mem_flatten.1 hx
    obtain ⟨u, _, rfl⟩ := List.mem_map.1 hl
    rw [List.mem_singleton] at hx
    subst hx
    rfl
theorem fill_ac (b : ByteArray) (hb : b.size ≤ 2000000) : AC CX 5 [.row 1 (bytesA b)] (.row 1 (bytesA (padF b))) := by
  have hlen := bytesA_len b
  have hl2 : lackN b.size < 512 := by unfold lackN; omega
  have hm1 : (b.size : Int).tmod 512 = ((b.size % 512 : Nat) : Int) := by rw [Int.tmod_eq_emod_of_nonneg (by omega)]; omega
  have hm2 : ((512 : Int) - ((b.size % 512 : Nat) : Int)).tmod 512 = ((lackN b.size : Nat) : Int) := by rw [Int.tmod_eq_emod_of_nonneg (by omega)]; unfold lackN; omega
  refine AC_walk ⟨TB, 13, 0, [], []⟩ (fn := Tryd.f5) TB_ok Tryd.func5 rfl rfl rfl rfl rfl (fun _ => rfl) (fun _ => rfl) ?_; intro E hna hX
  repeat (first | ((with_reducible show W _ _ _ _ _ _); first | refine W_seq ?_ | refine W_block ?_ | refine W_regionB hX 2 rfl ?_ | refine W_cond ?_ | refine W_skip ?_ | refine W_exit ?_ | refine W_ret ?_) | ((fail_if_success (with_reducible show W _ _ _ _ _ _)); show W _ _ _ _ _ _) | refine andA ?_ | refine condT ?_ | refine condF ?_ | refine exB ?_ | refine exL ?_ | refine Exists.intro _ (And.intro rfl ?_) | refine Exists.intro _ (And.intro (get_mapN (by assumption)) ?_) | ((fail_if_success (with_reducible show LoopEnd _ _ _ _ _ _ _)); show LoopEnd _ _ _ _ _ _ _) | ((fail_if_success (with_reducible show JoinEnd _ _ _ _ _)); show JoinEnd _ _ _ _ _) | ((fail_if_success (with_reducible show JoinG _ _ _ _ _)); show JoinG _ _ _ _ _))
  rw [hm1, hm2]
  refine W_regionQ hX hna [.n, .own, .n, .zer] ?_
  refine goT ?_
  refine ⟨5, 1, lackN b.size, .i64, .int .u8 0, bytesA b, ⟨rfl, by kernel_rfl, Tryd.underlying3, by kernel_rfl, rfl, rfl, hlen, ⟨by omega, by unfold maxLen; omega⟩, rfl, True.intro, cB b, fun _ => rfl⟩, bytesA (padF b), (bytesA_padF b).symm, ?_⟩
  repeat (first | ((with_reducible show W _ _ _ _ _ _); first | refine W_seq ?_ | refine W_block ?_ | refine W_region hX ?_ | refine W_cond ?_ | refine W_skip ?_ | refine W_exit ?_) | ((fail_if_success (with_reducible show W _ _ _ _ _ _)); show W _ _ _ _ _ _) | refine andA ?_ | refine condT ?_ | refine condF ?_ | refine exB ?_ | refine exL ?_ | refine Exists.intro _ (And.intro rfl ?_) | refine Exists.intro _ (And.intro (get_mapN (by assumption)) ?_) | ((fail_if_success (with_reducible show LoopEnd _ _ _ _ _ _ _)); show LoopEnd _ _ _ _ _ _ _) | ((fail_if_success (with_reducible show JoinEnd _ _ _ _ _)); show JoinEnd _ _ _ _ _) | ((fail_if_success (with_reducible show JoinG _ _ _ _ _)); show JoinG _ _ _ _ _))
  refine W_freeze hna 0 [2] rfl (fun t ht => by simp at ht; subst ht; rfl) (by rw [bytesA_len, padF_size]; exact (lack_eq _).symm) (cB _) True.intro rfl ?_
  refine goT ?_
  rfl
theorem cut_ac (s b m : ByteArray) (n : Nat) (hs : s.size ≤ 4000000) (hk : blocksN n * 512 ≤ s.size) (hnk : n ≤ blocksN n * 512) (h1 : cutS s 0 n = b) (h2 : ∀ x ∈ (cutS s n (blocksN n * 512)).data.toList, x = 0) (h3 : cutS s (blocksN n * 512) s.size = m) : AC CX 6 [.row 1 (bytesA s), .v (.int .i64 n)] (.tup [.row 1 (bytesA b), .row 1 (bytesA m), .v (.int .i64 0)]) := by
  have hbl := blocks_ac n (by omega)
  have hlen := bytesA_len s
  have hcs := cut_size s n (blocksN n * 512) hk
  have htr : AC CX 17 [.v (.string (cutS s n (blocksN n * 512))), .v (.string ⟨#[0]⟩)] (.v (.string ⟨#[]⟩)) := trim0_ac _ h2 (by omega)
  have e1 := bytesA_cut s 0 n
  rw [h1] at e1
  have e2 := bytesA_cut s n (blocksN n * 512)
  have e3 := bytesA_cut s (blocksN n * 512) s.size
  rw [h3] at e3
  have hbs : b.size = n := by rw [← h1, cut_size s 0 n (by omega)]; omega
  have hms : m.size = s.size - blocksN n * 512 := by rw [← h3]; exact cut_size s _ _ (Nat.le_refl _)
  have hbl2 := bytesA_len b
  have hml2 := bytesA_len m
  have hkk : ((blocksN n * 512 : Nat) : Int) = (blocksN n : Nat) * 512 := by omega
  generalize blocksN n = k at *
  refine AC_walk ⟨TB, 39, 0, [], []⟩ (fn := Tryd.f6) TB_ok Tryd.func6 rfl rfl rfl rfl rfl (fun _ => rfl) (fun _ => rfl) ?_; intro E hna hX
  refine goT ?_
  refine ⟨_, hbl, by kernel_rfl, fun _ => rfl, ?_⟩
  refine goT ?_
  refine ⟨_, ⟨e2⟩, ?_⟩
  refine goT ?_
  refine ⟨_, htr, by kernel_rfl, fun _ => rfl, ?_⟩
  refine goT ?_
  refine W_draw hX (n := 10) (follows_mixed Tryd.checked) (ws := [[], [], [(0, 30), (1, 31)], [(2, 32)], [], [], [(5, 35)], [(4, 34), (6, 36)], [(3, 33), (7, 37)], [(0, 30), (1, 31), (2, 32), (3, 33), (8, 38)]]) (ds := [30, 31, 32, 33, 34, 35, 36, 37, 38, 4]) (bi := []) (wa := [(0, 30), (1, 31), (2, 32), (3, 33), (4, 34), (5, 35), (6, 36), (7, 37), (8, 38), (9, 4)]) ⟨by kernel_rfl, by kernel_rfl, by kernel_rfl, by kernel_rfl, by decide, by kernel_rfl, by kernel_rfl, rfl, by decide, rfl⟩ ?_
  refine goT ?_
  refine ⟨_, ⟨e1⟩, ?_⟩
  refine goT ?_
  refine ⟨bytesA m, ⟨by rw [bytesA_len]; exact e3⟩, ?_⟩
  refine goT ?_
  rfl
/-- slices.Grow of nothing: room for n bytes. -/
theorem grow_acb (n : Nat) (hn : n ≤ 5000000) : ACB CX 18 [.v (.slice none 0 0), .v (.int .i64 n)] [] (.own 0 1 0 0) [.row 5 1 (List.replicate n [.v (.int .u8 0)])] := by
  have hcl : ∀ k : Nat, ClosedE (List.replicate k [AV.v (.int .u8 0)]) := fun k j => by
    rw [← avoidsL_flatten]
    exact avoidsL_mem fun x hx => by
      obtain ⟨l, hl, hx⟩ := List.mem_flatten.1 hx
      rw [List.eq_of_mem_replicate hl, List.mem_singleton] at hx
      subst hx
      rfl
  refine ACB_walk ⟨TB, 27, 0, [], []⟩ (fn := Tryd.f18) TB_ok Tryd.func18 rfl rfl rfl rfl (fun i h => by cases h) rfl ?_; intro E hX
  repeat (first | ((with_reducible show W _ _ _ _ _ _); first | refine W_seq ?_ | refine W_block ?_ | refine W_regionB hX 3 rfl ?_ | refine W_cond ?_ | refine W_skip ?_ | refine W_exit ?_ | refine W_ret ?_) | ((fail_if_success (with_reducible show W _ _ _ _ _ _)); show W _ _ _ _ _ _) | refine andA ?_ | refine condT ?_ | refine condF ?_ | refine exB ?_ | refine exL ?_ | refine Exists.intro _ (And.intro rfl ?_) | refine Exists.intro _ (And.intro (get_mapN (by assumption)) ?_) | ((fail_if_success (with_reducible show LoopEnd _ _ _ _ _ _ _)); show LoopEnd _ _ _ _ _ _ _) | ((fail_if_success (with_reducible show JoinEnd _ _ _ _ _)); show JoinEnd _ _ _ _ _) | ((fail_if_success (with_reducible show JoinG _ _ _ _ _)); show JoinG _ _ _ _ _))
  refine W_regionP hX [.n, .n, .y] rfl ?_
  refine goT ?_
  refine ⟨_, fun E => Y_capNil rfl Tryd.underlying22 rfl, ?_⟩
  refine goT ?_
  refine condB_intro (fun h1 => ?_) (fun h1 => ?_)
  · repeat (first | ((with_reducible show W _ _ _ _ _ _); first | refine W_seq ?_ | refine W_block ?_ | refine W_regionB hX 5 rfl ?_ | refine W_cond ?_ | refine W_skip ?_ | refine W_exit ?_ | refine W_ret ?_) | ((fail_if_success (with_reducible show W _ _ _ _ _ _)); show W _ _ _ _ _ _) | refine andA ?_ | refine condT ?_ | refine condF ?_ | refine exB ?_ | refine exL ?_ | refine Exists.intro _ (And.intro rfl ?_) | refine Exists.intro _ (And.intro (get_mapN (by assumption)) ?_) | ((fail_if_success (with_reducible show LoopEnd _ _ _ _ _ _ _)); show LoopEnd _ _ _ _ _ _ _) | ((fail_if_success (with_reducible show JoinEnd _ _ _ _ _)); show JoinEnd _ _ _ _ _) | ((fail_if_success (with_reducible show JoinG _ _ _ _ _)); show JoinG _ _ _ _ _))
    refine W_regionP hX [.n, .n, .y, .y, .n, .nil 20 5 1] rfl ?_
    refine goT ?_
    refine ⟨_, fun E => Y_capNil rfl Tryd.underlying22 rfl, ?_⟩
    refine goT ?_
    refine ⟨_, fun E => Y_sliceNil (sz := 1) rfl rfl (by kernel_rfl) (.inl ⟨rfl, rfl⟩) (.inr ⟨_, _, rfl, rfl⟩), ?_⟩
    refine goT ?_
    refine ⟨5, 1, n, .i64, .int .u8 0, [], ⟨rfl, by kernel_rfl, Tryd.underlying3, by kernel_rfl, rfl, by omega, rfl, ⟨by omega, by unfold maxLen; omega⟩, rfl, True.intro, fun _ => rfl, fun _ => rfl⟩, List.replicate n [.v (.int .u8 0)], List.nil_append _, ?_⟩
    refine goT ?_
    refine ⟨⟨Nat.le_refl _, Nat.zero_le _, .inl rfl⟩, ?_⟩
    refine goT ?_
    exact ⟨[], rfl⟩
  · have hz : n = 0 := by have := of_decide_eq_false h1; omega
    subst hz
    repeat (first | ((with_reducible show W _ _ _ _ _ _); first | refine W_seq ?_ | refine W_block ?_ | refine W_region hX ?_ | refine W_cond ?_ | refine W_skip ?_ | refine W_exit ?_) | ((fail_if_success (with_reducible show W _ _ _ _ _ _)); show W _ _ _ _ _ _) | refine andA ?_ | refine condT ?_ | refine condF ?_ | refine exB ?_ | refine exL ?_ | refine Exists.intro _ (And.intro rfl ?_) | refine Exists.intro _ (And.intro (get_mapN (by assumption)) ?_) | ((fail_if_success (with_reducible show LoopEnd _ _ _ _ _ _ _)); show LoopEnd _ _ _ _ _ _ _) | ((fail_if_success (with_reducible show JoinEnd _ _ _ _ _)); show JoinEnd _ _ _ _ _) | ((fail_if_success (with_reducible show JoinG _ _ _ _ _)); show JoinG _ _ _ _ _))
    refine W_nilOwn hX 4 5 1 rfl rfl ?_
    refine goT ?_
    exact ⟨[], rfl⟩
def ccS (a b : ByteArray) : Nat → Int
  | 0 => 0
  | 1 => 0 + (a.size : Int)
  | _ => 0 + (a.size : Int) + (b.size : Int)
def ccN (a b : ByteArray) : Nat → Nat
  | 0 => 0
  | 1 => a.size
  | _ => a.size + b.size
def ccB (a b : ByteArray) : Nat → List (List AV)
  | 0 => []
  | 1 => bytesA a
  | _ => bytesA (a ++ b)
theorem cCC (a b : ByteArray) : ∀ k, ClosedE (ccB a b k)
  | 0 => fun _ => rfl
  | 1 => cB a
  | _ + 2 => cB (a ++ b)
theorem concat_ac (a b : ByteArray) (ha : a.size ≤ 2000000) (hb : b.size ≤ 2000000) : AC CX 7 [.row 1 [[.row 1 (bytesA a)], [.row 1 (bytesA b)]]] (.row 1 (bytesA (a ++ b))) := by
  have hal := bytesA_len a
  have hbl := bytesA_len b
  have hgr := grow_acb (a.size + b.size) (by omega)
  have hsum : (0 : Int) + (a.size : Int) + (b.size : Int) = ((a.size + b.size : Nat) : Int) := by omega
  have hcl : ClosedE (List.replicate (a.size + b.size) [AV.v (.int .u8 0)]) := fun j => by
    rw [← avoidsL_flatten]
    exact avoidsL_mem fun x hx => by
      obtain ⟨l, hl, hx⟩ := List.mem_flatten.1 hx
      rw [List.eq_of_mem_replicate hl, List.mem_singleton] at hx
      subst hx
      rfl
  refine AC_walk ⟨TB, 36, 0, [], []⟩ (fn := Tryd.f7) TB_ok Tryd.func7 rfl rfl rfl rfl rfl (fun _ => rfl) (fun _ => rfl) ?_; intro E hna hX
  refine goT ?_
  refine W_loop (fun k : Nat => k ≤ 2) (fun k => 2 - k) (fun k => ⟨[(0, .row 1 [[.row 1 (bytesA a)], [.row 1 (bytesA b)]]), (3, .v (.int .i64 (ccS a b k))), (9, .row 1 [[.row 1 (bytesA a)], [.row 1 (bytesA b)]]), (10, .v (.int .i64 2)), (11, .v (.int .i64 k))], []⟩) 0 (Nat.zero_le _) (Drops.to [0, 3, 9, 10, 11] rfl) ?_
  intro k hk
  obtain rfl | rfl | rfl : k = 0 ∨ k = 1 ∨ k = 2 := by omega
  · have e0 : ccS a b 0 = 0 := rfl
    refine goT ?_
    exact LoopEnd_fin 1 [0, 3, 9, 10, 11] 0 hX (by decide) (by decide) rfl rfl rfl rfl trivial
  · have e0 : ccS a b 1 = 0 + (a.size : Int) := rfl
    refine goT ?_
    exact LoopEnd_fin 2 [0, 3, 9, 10, 11] 0 hX (by decide) (by decide) rfl rfl rfl rfl trivial
  · have e0 : ccS a b 2 = ((a.size + b.size : Nat) : Int) := hsum
    rw [e0]
    repeat (first | ((with_reducible show W _ _ _ _ _ _); first | refine W_seq ?_ | refine W_block ?_ | refine W_regionB hX 9 rfl ?_ | refine W_cond ?_ | refine W_skip ?_ | refine W_exit ?_ | refine W_ret ?_) | ((fail_if_success (with_reducible show W _ _ _ _ _ _)); show W _ _ _ _ _ _) | refine andA ?_ | refine condT ?_ | refine condF ?_ | refine exB ?_ | refine exL ?_ | refine Exists.intro _ (And.intro rfl ?_) | refine Exists.intro _ (And.intro (get_mapN (by assumption)) ?_) | ((fail_if_success (with_reducible show LoopEnd _ _ _ _ _ _ _)); show LoopEnd _ _ _ _ _ _ _) | ((fail_if_success (with_reducible show JoinEnd _ _ _ _ _)); show JoinEnd _ _ _ _ _) | ((fail_if_success (with_reducible show JoinG _ _ _ _ _)); show JoinG _ _ _ _ _))
    refine W_regionN hX 1 ?_
    refine goT ?_
    refine ⟨[], _, _, _, _, ⟨hgr, by kernel_rfl, rfl, rfl, rfl, by decide, rfl, Nat.zero_le _, rfl, balln, ballc hcl balln, rfl, fun j hj => (by cases hj), fun j hj => (by cases hj)⟩, ?_⟩
    repeat (first | ((with_reducible show W _ _ _ _ _ _); first | refine W_seq ?_ | refine W_block ?_ | refine W_regionB hX 10 rfl ?_ | refine W_cond ?_ | refine W_skip ?_ | refine W_exit ?_ | refine W_ret ?_) | ((fail_if_success (with_reducible show W _ _ _ _ _ _)); show W _ _ _ _ _ _) | refine andA ?_ | refine condT ?_ | refine condF ?_ | refine exB ?_ | refine exL ?_ | refine Exists.intro _ (And.intro rfl ?_) | refine Exists.intro _ (And.intro (get_mapN (by assumption)) ?_) | ((fail_if_success (with_reducible show LoopEnd _ _ _ _ _ _ _)); show LoopEnd _ _ _ _ _ _ _) | ((fail_if_success (with_reducible show JoinEnd _ _ _ _ _)); show JoinEnd _ _ _ _ _) | ((fail_if_success (with_reducible show JoinG _ _ _ _ _)); show JoinG _ _ _ _ _))
    refine W_short 0 0 rfl ?_
    refine goT ?_
    refine W_loop (fun k : Nat => k ≤ 2) (fun k => 2 - k) (fun k => ⟨[(6, .own 0 1 0 (ccN a b k)), (25, .row 1 [[.row 1 (bytesA a)], [.row 1 (bytesA b)]]), (26, .v (.int .i64 2)), (27, .v (.int .i64 k))], [.row 5 1 (ccB a b k)]⟩) 0 (Nat.zero_le _) (Drops.to [6, 25, 26, 27] rfl) ?_
    intro k hk
    obtain rfl | rfl | rfl : k = 0 ∨ k = 1 ∨ k = 2 := by omega
    · have c0 : ccN a b 0 = 0 := rfl
      refine goT ?_
      refine ⟨a.size, bytesA a, by omega, List.nil_append _, ?_⟩
      refine goT ?_
      exact LoopEnd_fin 1 [6, 25, 26, 27] 1 hX (by decide) (by decide) rfl rfl rfl rfl ⟨cB a, trivial⟩
    · have c0 : ccN a b 1 = a.size := rfl
      refine goT ?_
      refine ⟨a.size + b.size, bytesA (a ++ b), by omega, (bytesA_app a b).symm, ?_⟩
      refine goT ?_
      exact LoopEnd_fin 2 [6, 25, 26, 27] 1 hX (by decide) (by decide) rfl rfl rfl rfl ⟨cB _, trivial⟩
    · repeat (first | ((with_reducible show W _ _ _ _ _ _); first | refine W_seq ?_ | refine W_block ?_ | refine W_region hX ?_ | refine W_cond ?_ | refine W_skip ?_ | refine W_exit ?_) | ((fail_if_success (with_reducible show W _ _ _ _ _ _)); show W _ _ _ _ _ _) | refine andA ?_ | refine condT ?_ | refine condF ?_ | refine exB ?_ | refine exL ?_ | refine Exists.intro _ (And.intro rfl ?_) | refine Exists.intro _ (And.intro (get_mapN (by assumption)) ?_) | ((fail_if_success (with_reducible show LoopEnd _ _ _ _ _ _ _)); show LoopEnd _ _ _ _ _ _ _) | ((fail_if_success (with_reducible show JoinEnd _ _ _ _ _)); show JoinEnd _ _ _ _ _) | ((fail_if_success (with_reducible show JoinG _ _ _ _ _)); show JoinG _ _ _ _ _))
      refine W_freeze hna 0 [2] rfl (fun t ht => by simp at ht; subst ht; rfl) (by show (bytesA (a ++ b)).length = a.size + b.size; rw [bytesA_len, ByteArray.size_append]) (cB _) True.intro rfl ?_
      refine goT ?_
      rfl
end Go.Proofs.YtgjldbcpohkmkaaDoor.Abs
