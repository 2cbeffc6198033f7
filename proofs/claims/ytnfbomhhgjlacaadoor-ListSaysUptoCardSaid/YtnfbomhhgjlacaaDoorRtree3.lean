/- Growing a tree: the small functions. -/
import Derived.Test.YtnfbomhhgjlacaaDoorRtree2
namespace Go.Proofs.YtnfbomhhgjlacaaDoor.Abs
open Go.RowKit Go.MapKept
set_option linter.unusedVariables false
set_option linter.unusedSimpArgs false
set_option maxRecDepth 100000
set_option maxHeartbeats 4000000
structure RawT where
  a : Int
  b : Int
  c : Int
  s : ByteArray
def encRaw (x : RawT) : List AV := [.v (.int .i64 x.a), .v (.int .i64 x.b), .v (.int .i64 x.c), .v (.string x.s)]
def isI (n : Int) : Prop := -9223372036854775808 ≤ n ∧ n ≤ 9223372036854775807
structure RawGood (r : RawT) : Prop where
  a : isI r.a
  b : isI r.b
  c : isI r.c
  s : r.s.size ≤ 1048576
def pickF (n m : Int) : Int := (if n < 0 then 0 - (n + 1) else n).tmod m
theorem pick_lt {n m : Int} (hm : 0 < m) : 0 ≤ pickF n m ∧ pickF n m < m := by
  unfold pickF
  split <;> exact ⟨Int.tmod_nonneg _ (by omega), Int.tmod_lt_of_pos _ hm⟩
theorem picked_ac (n m : Int) (hn : isI n) (hm : 0 < m) : AC CX 13 [.v (.int .i64 n), .v (.int .i64 m)] (.v (.int .i64 (pickF n m))) := by
  obtain ⟨n1, n2⟩ := hn
  refine AC_walk ⟨TB, 13, 0, [], []⟩ (fn := Tryd.f13) TB_ok Tryd.func13 rfl rfl rfl rfl rfl (fun _ => rfl) (fun _ => rfl) ?_; intro E hna hX
  refine goT ?_
  refine condB_intro (fun h1 => ?_) (fun h1 => ?_)
  · have e1 := of_decide_eq_true h1
    refine goT ?_
    unfold pickF
    rw [if_pos e1]
    rfl
  · have e1 := of_decide_eq_false h1
    refine goT ?_
    unfold pickF
    rw [if_neg e1]
    rfl
def cleanF (s : ByteArray) (m : Int) : ByteArray := (mkS (noz s.data.toList)).extract 0 (min s.size m.toNat)
theorem noz_size (s : ByteArray) : (mkS (noz s.data.toList)).size = s.size := by
  rw [mkS_size, noz, List.length_map, size_list]
theorem clean_size (s : ByteArray) (m : Int) : (cleanF s m).size = min s.size m.toNat := by
  unfold cleanF
  rw [ByteArray.size_extract, noz_size]
  omega
theorem clean_ac (s : ByteArray) (m : Int) (hs : s.size ≤ 1000000000) (hm : 0 ≤ m) : AC CX 43 [.v (.string s), .v (.int .i64 m)] (.v (.string (cleanF s m))) := by
  have hz := noz_size s
  refine AC_walk ⟨TB, 13, 0, [], []⟩ (fn := Tryd.f43) TB_ok Tryd.func43 rfl rfl rfl rfl rfl (fun _ => rfl) (fun _ => rfl) ?_; intro E hna hX
  refine goT ?_
  refine ⟨_, replace0_ac s hs, by kernel_rfl, fun _ => rfl, ?_⟩
  refine goT ?_
  refine ⟨min s.size m.toNat, by split <;> omega, by omega, ?_⟩
  refine goT ?_
  rfl
def namesF : List ByteArray := [⟨#[97]⟩, ⟨#[98]⟩, ⟨#[97, 98]⟩, ⟨#[66]⟩, ⟨#[120, 32, 121]⟩, ⟨#[195, 169]⟩, ⟨#[99, 46, 116, 120, 116]⟩, mkS (Lib.repeatL [110] 60), mkS (Lib.repeatL [109] 130), ⟨#[97, 33]⟩, ⟨#[45]⟩]
theorem names_ac : AC CX 51 [] (.row 1 (namesF.map encS)) := by
  refine AC_walk ⟨TB, 4, 0, [], []⟩ (fn := Tryd.f51) TB_ok Tryd.func51 rfl rfl rfl rfl rfl (fun _ => rfl) (fun _ => rfl) ?_; intro E hna hX
  refine goT ?_
  refine ⟨_, repeat_ac ⟨#[110]⟩ 60 (by decide) (by decide) (by decide), by kernel_rfl, fun _ => rfl, ?_⟩
  refine goT ?_
  refine ⟨_, repeat_ac ⟨#[109]⟩ 130 (by decide) (by decide) (by decide), by kernel_rfl, fun _ => rfl, ?_⟩
  refine goT ?_
  rfl
def metaF (r : RawT) : MetaT :=
  let m : MetaT := ⟨pickF r.b 4096, pickF r.c 3000, pickF r.b 3000, cleanF r.s 40, ⟨#[115, 116, 97, 102, 102]⟩, pickF r.c 17179869184, 0⟩
  if pickF r.a 9 = 0 then { m with nano := pickF r.b 1000000000 }
  else if pickF r.a 9 = 1 then { m with second := -m.second - 1 }
  else if pickF r.a 9 = 2 then { m with uid := pickF r.c 1125899906842625 }
  else if pickF r.a 9 = 3 then { m with gid := pickF r.b 1125899906842625 }
  else if pickF r.a 9 = 4 then { m with group := mkS (Lib.repeatL [103] (pickF r.b 61).toNat) }
  else m
theorem meta_ac (r : RawT) (h : RawGood r) : AC CX 52 [.agg (encRaw r)] (.agg (encMeta (metaF r))) := by
  obtain ⟨h1, h2, h3, h4⟩ := h
  have c1 := pick_lt (n := r.c) (m := 17179869184) (by decide)
  refine AC_walk ⟨TB, 56, 0, [], []⟩ (fn := Tryd.f52) TB_ok Tryd.func52 rfl rfl rfl rfl rfl (fun _ => rfl) (fun _ => rfl) ?_; intro E hna hX
  refine goT ?_
  refine W_draw hX (n := 17) (follows_mixed Tryd.checked) (ws := [[], [(0, 4)], [(1, 5)], [], [(3, 7)], [(2, 6), (4, 8)], [], [(6, 10)], [(5, 9), (7, 11)], [], [(9, 13)], [(8, 12), (10, 14)], [], [(12, 16)], [(11, 15), (13, 17)], [(2, 6), (5, 9), (8, 12), (11, 15), (14, 18)], []]) (ds := [4, 5, 6, 7, 8, 9, 10, 11, 12, 13, 14, 15, 16, 17, 18, 19, 3]) (bi := [16]) (wa := [(0, 4), (1, 5), (2, 6), (3, 7), (4, 8), (5, 9), (6, 10), (7, 11), (8, 12), (9, 13), (10, 14), (11, 15), (12, 16), (13, 17), (14, 18), (15, 19), (16, 3)]) ⟨by kernel_rfl, by kernel_rfl, by kernel_rfl, by kernel_rfl, by decide, by kernel_rfl, by kernel_rfl, rfl, by decide, rfl⟩ ?_
  refine ⟨_, picked_ac _ 4096 h2 (by decide), by kernel_rfl, fun _ => rfl, ?_⟩
  refine goT ?_
  refine ⟨_, picked_ac _ 3000 h3 (by decide), by kernel_rfl, fun _ => rfl, ?_⟩
  refine goT ?_
  refine ⟨_, picked_ac _ 3000 h2 (by decide), by kernel_rfl, fun _ => rfl, ?_⟩
  refine goT ?_
  refine ⟨_, clean_ac _ 40 (by omega) (by decide), by kernel_rfl, fun _ => rfl, ?_⟩
  refine goT ?_
  refine ⟨_, picked_ac _ 17179869184 h3 (by decide), by kernel_rfl, fun _ => rfl, ?_⟩
  refine goT ?_
  refine ⟨_, picked_ac _ 9 h1 (by decide), by kernel_rfl, fun _ => rfl, ?_⟩
  refine goT ?_
  refine condB_intro (fun q1 => ?_) (fun q1 => ?_)
  · have e1 := of_decide_eq_true q1
    refine goT ?_
    refine ⟨_, picked_ac _ 1000000000 h2 (by decide), by kernel_rfl, fun _ => rfl, ?_⟩
    refine goT ?_
    unfold metaF
    rw [if_pos e1]
    rfl
  have e1 := of_decide_eq_false q1
  refine goT ?_
  refine condB_intro (fun q2 => ?_) (fun q2 => ?_)
  · have e2 := of_decide_eq_true q2
    refine goT ?_
    unfold metaF
    rw [if_neg e1, if_pos e2, show -pickF r.c 17179869184 - 1 = 0 - pickF r.c 17179869184 - 1 by omega]
    rfl
  have e2 := of_decide_eq_false q2
  refine goT ?_
  refine condB_intro (fun q3 => ?_) (fun q3 => ?_)
  · have e3 := of_decide_eq_true q3
    refine goT ?_
    refine ⟨_, picked_ac _ 1125899906842625 h3 (by decide), by kernel_rfl, fun _ => rfl, ?_⟩
    refine goT ?_
    unfold metaF
    rw [if_neg e1, if_neg e2, if_pos e3]
    rfl
  have e3 := of_decide_eq_false q3
  refine goT ?_
  refine condB_intro (fun q4 => ?_) (fun q4 => ?_)
  · have e4 := of_decide_eq_true q4
    refine goT ?_
    refine ⟨_, picked_ac _ 1125899906842625 h2 (by decide), by kernel_rfl, fun _ => rfl, ?_⟩
    refine goT ?_
    unfold metaF
    rw [if_neg e1, if_neg e2, if_neg e3, if_pos e4]
    rfl
  have e4 := of_decide_eq_false q4
  refine goT ?_
  refine condB_intro (fun q5 => ?_) (fun q5 => ?_)
  · have e5 := of_decide_eq_true q5
    refine goT ?_
    have c2 := pick_lt (n := r.b) (m := 61) (by decide)
    refine ⟨_, picked_ac _ 61 h2 (by decide), by kernel_rfl, fun _ => rfl, ?_⟩
    refine goT ?_
    refine ⟨_, repeat_ac ⟨#[103]⟩ (pickF r.b 61) c2.1 (by show 1 * _ ≤ _; omega) (by omega), by kernel_rfl, fun _ => rfl, ?_⟩
    refine goT ?_
    unfold metaF
    rw [if_neg e1, if_neg e2, if_neg e3, if_neg e4, if_pos e5]
    rfl
  · have e5 := of_decide_eq_false q5
    refine goT ?_
    unfold metaF
    rw [if_neg e1, if_neg e2, if_neg e3, if_neg e4, if_neg e5]
    rfl
def lessF (a b : ByteArray) : Int := lexC cmpS (partsS a) (partsS b)
theorem less_ac {dr : Bool} (a b : ByteArray) (ha : a.size ≤ 999999999) (hb : b.size ≤ 999999999) : AC (CXw dr) 65 [.v (.string a), .v (.string b)] (.v (.int .i64 (lessF a b))) := by
  have h1 := partsS_len a
  have h2 := partsS_len b
  refine AC_walk ⟨TB, 10, 0, [], []⟩ (fn := Tryd.f65) TB_ok Tryd.func65 rfl rfl rfl rfl rfl (fun _ => rfl) (fun _ => rfl) ?_; intro E hna hX
  refine goT ?_
  refine ⟨_, split_ac a (by omega), by kernel_rfl, fun _ => rfl, ?_⟩
  refine goT ?_
  refine ⟨_, split_ac b (by omega), by kernel_rfl, fun _ => rfl, ?_⟩
  refine goT ?_
  refine ⟨_, sCompare_ac _ _ (by omega) (by omega), by kernel_rfl, fun _ => rfl, ?_⟩
  refine goT ?_
  rfl
/-- A node's cells, its bytes any slice. -/
def encNV (x : NodeT) (A : Option Addr) (n c : Nat) : List AV := [.v (.string x.path), .v (.int .i64 x.kind), .v (.int .i64 x.same), .v (.string x.target), .v (.int .i64 x.mt.mode), .v (.int .i64 x.mt.uid), .v (.int .i64 x.mt.gid), .v (.string x.mt.user), .v (.string x.mt.group), .v (.int .i64 x.mt.second), .v (.int .i64 x.mt.nano), .v (.slice A n c)]
theorem tree2_ac {dr : Bool} (x y : NodeT) (A A' : Option Addr) (n n' c c' : Nat) (hx : x.path.size ≤ 1000000) (hy : y.path.size ≤ 1000000) : AC (CXw dr) 64 [.agg (encNV x A n c), .agg (encNV y A' n' c')] (.v (.int .i64 (lessF x.path y.path))) := by
  refine AC_walk ⟨TB, 10, 0, [], []⟩ (fn := Tryd.f64) TB_ok Tryd.func64 rfl rfl rfl rfl rfl (fun _ => rfl) (fun _ => rfl) ?_; intro E hna hX
  refine goT ?_
  refine ⟨_, less_ac x.path y.path (by omega) (by omega), by kernel_rfl, fun _ => rfl, ?_⟩
  refine goT ?_
  rfl
theorem tree11_ac (x : NodeT) (s : ByteArray) : AC CX 62 [.agg (encNode x), .eptr [.v (.string s)]] (.v (.bool (decide (x.path = s)))) := by
  refine AC_walk ⟨TB, 8, 0, [], []⟩ (fn := Tryd.f62) TB_ok Tryd.func62 rfl rfl rfl rfl rfl (fun _ => rfl) (fun _ => rfl) ?_; intro E hna hX
  refine goT ?_
  rfl
theorem clone_ac (s : ByteArray) (hs : s.size ≤ 1000000000) : AC CX 50 [.row 1 (bytesA s)] (.row 1 (bytesA s)) := by
  refine AC_walk ⟨TB, 8, 0, [], [5]⟩ (fn := Tryd.f50) TB_ok Tryd.func50 rfl rfl rfl rfl rfl (fun _ => rfl) (fun _ => rfl) ?_; intro E hna hX
  refine goT ?_
  refine fun b hb => ?_
  refine goT ?_
  refine condB_intro (fun h1 => ?_) (fun h1 => ?_)
  · have e1 : bytesA s = [] := by
      by_cases h : bytesA s = []
      · exact h
      · have := hb h; rw [this] at h1; cases h1
    repeat (first | ((with_reducible show W _ _ _ _ _ _); first | refine W_seq ?_ | refine W_block ?_ | refine W_region hX ?_ | refine W_cond ?_ | refine W_skip ?_ | refine W_exit ?_) | ((fail_if_success (with_reducible show W _ _ _ _ _ _)); show W _ _ _ _ _ _) | refine andA ?_ | refine condT ?_ | refine condF ?_ | refine exB ?_ | refine exL ?_ | refine Exists.intro _ (And.intro rfl ?_) | refine Exists.intro _ (And.intro (get_mapN (by assumption)) ?_) | ((fail_if_success (with_reducible show LoopEnd _ _ _ _ _ _ _)); show LoopEnd _ _ _ _ _ _ _) | ((fail_if_success (with_reducible show JoinEnd _ _ _ _ _)); show JoinEnd _ _ _ _ _) | ((fail_if_success (with_reducible show JoinG _ _ _ _ _)); show JoinG _ _ _ _ _))
    refine W_nilRow hX 2 1 rfl ?_
    refine goT ?_
    rw [e1]
    rfl
  · refine goT ?_
    refine ⟨s.size, bytesA s, by rw [bytesA_len]; omega, rfl, ?_⟩
    repeat (first | ((with_reducible show W _ _ _ _ _ _); first | refine W_seq ?_ | refine W_block ?_ | refine W_region hX ?_ | refine W_cond ?_ | refine W_skip ?_ | refine W_exit ?_) | ((fail_if_success (with_reducible show W _ _ _ _ _ _)); show W _ _ _ _ _ _) | refine andA ?_ | refine condT ?_ | refine condF ?_ | refine exB ?_ | refine exL ?_ | refine Exists.intro _ (And.intro rfl ?_) | refine Exists.intro _ (And.intro (get_mapN (by assumption)) ?_) | ((fail_if_success (with_reducible show LoopEnd _ _ _ _ _ _ _)); show LoopEnd _ _ _ _ _ _ _) | ((fail_if_success (with_reducible show JoinEnd _ _ _ _ _)); show JoinEnd _ _ _ _ _) | ((fail_if_success (with_reducible show JoinG _ _ _ _ _)); show JoinG _ _ _ _ _))
    refine W_freeze hna 0 [2] rfl (fun t ht => by simp at ht; subst ht; rfl) (bytesA_len s) (fun i => by unfold bytesA; exact avoidsLL_map (fun _ => rfl) _) True.intro rfl ?_
    refine goT ?_
    rfl
theorem tree1_ac (xs : List NodeT) (s : ByteArray) (hl : xs.length ≤ 1000000000) : ACB CX 60 [.v (.string s), .ptr 0 0] [.cells 48 [.own 1 12 0 xs.length], .row 51 12 (xs.map encNode)] (.v (.int .i64 (findN xs s))) [.cells 48 [.own 1 12 0 xs.length], .row 51 12 (xs.map encNode)] := by
  refine ACB_walk ⟨TB, 7, 2, [], []⟩ (fn := Tryd.f60) TB_ok Tryd.func60 rfl rfl rfl rfl (fun i h => by cases h) rfl ?_; intro E hX
  refine goT ?_
  refine .inl ⟨_, indexFunc_ac xs 62 s (fun x => decide (x.path = s)) hl (by kernel_rfl) (fun x _ => tree11_ac x s), by kernel_rfl, ⟨⟨⟨List.length_map _, ClosedE_map (fun _ _ => rfl) _⟩, ⟨⟨True.intro, True.intro⟩, True.intro⟩⟩, True.intro⟩, ?_⟩
  refine goT ?_
  exact ⟨[.cells 9 [.v (.string s)]], rfl⟩
end Go.Proofs.YtnfbomhhgjlacaaDoor.Abs
