/- The first of each group of links. -/
import Derived.Test.YtdhikkdkjmeiiaaGreatDoorRtree3
namespace Go.Proofs.YtdhikkdkjmeiiaaGreatDoor.Abs
open Go.RowKit Go.MapKept
set_option linter.unusedVariables false
set_option linter.unusedSimpArgs false
set_option maxRecDepth 100000
set_option maxHeartbeats 4000000
def kvI (p : Int × Int) : Value × AV := (.int .i64 p.1, .v (.int .i64 p.2))
def encI (n : Int) : List AV := [.v (.int .i64 n)]
theorem kvI_at {i : Int} : ∀ {m : List (Int × Int)}, kvFind (.int .i64 i) (m.map kvI) = (m.lookup i).map fun x => .v (.int .i64 x)
  | [] => rfl
  | (j, x) :: m => by
    have ih := kvI_at (i := i) (m := m)
    rw [List.map_cons, kvI, kvFind, List.lookup]
    simp only [keyEq, decide_true, Bool.true_and]
    cases hq : i == j with
    | true => rfl
    | false => simpa using ih
def meetR (same at_ : Int) (m : List (Int × Int)) : Int × List (Int × Int) := if same = 0 then (at_, m) else match m.lookup same with
  | some j => (j, m)
  | none => (at_, m ++ [(same, at_)])
theorem meet_zero {same at_ : Int} {m : List (Int × Int)} (h : same = 0) : meetR same at_ m = (at_, m) := if_pos h
theorem meet_some {same at_ j : Int} {m : List (Int × Int)} (h : ¬ same = 0) (h2 : m.lookup same = some j) : meetR same at_ m = (j, m) := by unfold meetR; rw [if_neg h, h2]
theorem meet_none {same at_ : Int} {m : List (Int × Int)} (h : ¬ same = 0) (h2 : m.lookup same = none) : meetR same at_ m = (at_, m ++ [(same, at_)]) := by unfold meetR; rw [if_neg h, h2]
theorem cKI (m : List (Int × Int)) : ClosedK (m.map kvI) := fun j => avoids_kv (fun _ => rfl) m
theorem meet_ac (x : NodeT) (k : Int) (m : List (Int × Int)) : ACB CX 50 [.ptr 0 0, .agg (encNode x), .v (.int .i64 k)] [.cells 93 [.mp 1], .map (.int .i64) (m.map kvI)] (.v (.int .i64 (meetR x.same k m).1)) [.cells 93 [.mp 1], .map (.int .i64) ((meetR x.same k m).2.map kvI)] := by
  refine ACB_walk ⟨TB, 33, 2, [], []⟩ (fn := Tryz.f50) TB_ok Tryz.func50 rfl rfl rfl rfl (fun i h => by cases h) rfl ?_; intro E hX
  refine goT ?_
  refine condB_intro (fun h1 => ?_) (fun h1 => ?_)
  · have e1 := of_decide_eq_true h1
    rw [meet_zero e1]
    refine goT ?_
    exact ⟨_, rfl⟩
  have e1 := of_decide_eq_false h1
  cases hlk : m.lookup x.same with
  | some j =>
    rw [meet_some e1 hlk]
    refine goT ?_
    refine W_draw hX (n := 11) (follows_mixed Tryz.checked) (ws := [[], [(0, 14)], [(1, 15)], [(2, 16)], [], [(4, 18)], [(3, 17), (5, 19)], [(6, 20)], [(7, 13)], [(7, 13)], [(0, 14), (1, 15), (2, 16), (3, 17), (4, 18), (5, 19), (6, 20), (7, 13), (8, 21)]]) (ds := [14, 15, 16, 17, 18, 19, 20, 13, 21, 22, 7]) (bi := []) (wa := [(0, 14), (1, 15), (2, 16), (3, 17), (4, 18), (5, 19), (6, 20), (7, 13), (8, 21), (9, 22), (10, 7)]) ⟨by kernel_rfl, by kernel_rfl, by kernel_rfl, by kernel_rfl, by decide, by kernel_rfl, by kernel_rfl, rfl, by decide, rfl⟩ ?_
    refine goT ?_
    refine ⟨.v (.int .i64 j), true, by rw [kvI_at, hlk]; rfl, by rw [kvI_at, hlk]; rfl, ?_⟩
    refine goT ?_
    exact ⟨_, rfl⟩
  | none =>
    rw [meet_none e1 hlk]
    refine goT ?_
    refine W_draw hX (n := 11) (follows_mixed Tryz.checked) (ws := [[], [(0, 14)], [(1, 15)], [(2, 16)], [], [(4, 18)], [(3, 17), (5, 19)], [(6, 20)], [(7, 13)], [(7, 13)], [(0, 14), (1, 15), (2, 16), (3, 17), (4, 18), (5, 19), (6, 20), (7, 13), (8, 21)]]) (ds := [14, 15, 16, 17, 18, 19, 20, 13, 21, 22, 7]) (bi := []) (wa := [(0, 14), (1, 15), (2, 16), (3, 17), (4, 18), (5, 19), (6, 20), (7, 13), (8, 21), (9, 22), (10, 7)]) ⟨by kernel_rfl, by kernel_rfl, by kernel_rfl, by kernel_rfl, by decide, by kernel_rfl, by kernel_rfl, rfl, by decide, rfl⟩ ?_
    refine goT ?_
    refine ⟨_, false, rfl, by simp [kvI_at, hlk], ?_⟩
    rw [kvI_at, hlk]
    refine goT ?_
    refine W_draw hX (n := 7) (follows_mixed Tryz.checked) (ws := [[], [(0, 25)], [(1, 26)], [(2, 27)], [], [(4, 29)], []]) (ds := [25, 26, 27, 28, 29, 30, 31]) (bi := []) (wa := [(0, 25), (1, 26), (2, 27), (3, 28), (4, 29), (5, 30), (6, 31)]) ⟨by kernel_rfl, by kernel_rfl, by kernel_rfl, by kernel_rfl, by decide, by kernel_rfl, by kernel_rfl, rfl, by decide, rfl⟩ ?_
    refine goT ?_
    refine ⟨(m ++ [(x.same, k)]).map kvI, ⟨by rw [kvSet_none (by rw [kvI_at, hlk]; rfl), List.map_append]; rfl⟩, ?_⟩
    refine goT ?_
    exact ⟨_, rfl⟩
def firstsL : List NodeT → Nat → List (Int × Int) → List Int × List (Int × Int)
  | [], _, m => ([], m)
  | n :: r, k, m => ((meetR n.same k m).1 :: (firstsL r (k + 1) (meetR n.same k m).2).1, (firstsL r (k + 1) (meetR n.same k m).2).2)
theorem firsts_ac (xs : List NodeT) (hg : ∀ n ∈ xs, NodeGood n) (hl : xs.length ≤ 1000000) (hc : chkF xs = 0) : AC CX 18 [.row 12 (xs.map encNode)] (.tup [.row 1 ((firstsL xs 0 []).1.map encI), .v (.int .i64 0)]) := by
  refine AC_walk ⟨TB, 33, 0, [], []⟩ (fn := Tryz.f18) TB_ok Tryz.func18 rfl rfl rfl rfl rfl (fun _ => rfl) (fun _ => rfl) ?_; intro E hna hX
  refine goT ?_
  refine ⟨_, check_ac xs hg hl, by kernel_rfl, fun _ => rfl, ?_⟩
  rw [hc]
  repeat (first | ((with_reducible show W _ _ _ _ _ _); first | refine W_seq ?_ | refine W_region hX ?_ | refine W_cond ?_ | refine W_skip ?_ | refine W_exit ?_ | refine W_ret ?_) | ((fail_if_success (with_reducible show W _ _ _ _ _ _)); show W _ _ _ _ _ _) | refine andA ?_ | refine condT ?_ | refine condF ?_ | refine exB ?_ | refine exL ?_ | refine Exists.intro _ (And.intro rfl ?_) | refine Exists.intro _ (And.intro (get_mapN (by assumption)) ?_) | ((fail_if_success (with_reducible show LoopEnd _ _ _ _ _ _ _)); show LoopEnd _ _ _ _ _ _ _) | ((fail_if_success (with_reducible show JoinEnd _ _ _ _ _)); show JoinEnd _ _ _ _ _) | ((fail_if_success (with_reducible show JoinG _ _ _ _ _)); show JoinG _ _ _ _ _))
  refine W_nilOwn hX 6 3 1 rfl rfl ?_
  have cO : ∀ o : List Int, ClosedE (o.map encI) := fun o => ClosedE_map (fun _ _ => rfl) o
  refine goT ?_
  refine W_loop (γ := Nat × List Int × List (Int × Int)) (fun g => g.1 ≤ xs.length ∧ g.2.1.length = g.1 ∧ (firstsL xs 0 []).1 = g.2.1 ++ (firstsL (xs.drop g.1) g.1 g.2.2).1) (fun g => xs.length - g.1) (fun g => ⟨[(5, .ptr 1 0), (6, .own 2 1 0 g.2.1.length), (17, .row 12 (xs.map encNode)), (18, .v (.int .i64 xs.length)), (19, .v (.int .i64 g.1))], [.map (.int .i64) (g.2.2.map kvI), .cells 93 [.mp 0], .row 3 1 (g.2.1.map encI)]⟩) (0, [], []) ⟨Nat.zero_le _, rfl, rfl⟩ (Drops.to [5, 6, 17, 18, 19] rfl) ?_
  rintro ⟨k, o, m⟩ ⟨hk, ho, he⟩
  dsimp only at hk ho he ⊢
  refine goT ?_
  refine condB_intro (fun h1 => ?_) (fun h1 => ?_)
  · have e1 : (k : Int) < (xs.length : Int) := of_decide_eq_true h1
    obtain ⟨x, hx⟩ := get_lt (l := xs) (k := k) (by omega)
    rw [drop_at hx, firstsL] at he
    refine goT ?_
    refine .inr ⟨[1, 0], _, _, _, _, ⟨meet_ac x k m, by kernel_rfl, rfl, rfl, rfl, by decide, rfl, Nat.le_refl _, rfl, ballc rfl (ballc (cKI m) balln), ballc rfl (ballc (cKI _) balln), rfl, fun j hj => (by cases hj), fun j hj => (by cases hj)⟩, ?_⟩
    refine goT ?_
    refine ⟨⟨cKI _, True.intro⟩, fun _ => rfl, cO _, o.length + 1, (o ++ [(meetR x.same k m).1]).map encI, rfl, by rw [List.map_append]; rfl, ?_⟩
    refine goT ?_
    exact LoopEnd_fin (k + 1, o ++ [(meetR x.same k m).1], (meetR x.same k m).2) [5, 6, 17, 18, 19] 3 hX ⟨by show k + 1 ≤ xs.length; omega, by show (o ++ [_]).length = k + 1; rw [List.length_append, ho]; rfl, by rw [he]; simp⟩ (by show xs.length - (k + 1) < xs.length - k; omega) rfl (by simp only [List.length_append, List.length_singleton]; rfl) rfl rfl ⟨cKI _, rfl, cO _, trivial⟩
  · have e1 : ¬ (k : Int) < (xs.length : Int) := of_decide_eq_false h1
    obtain rfl : k = xs.length := by omega
    rw [List.drop_length, firstsL, List.append_nil] at he
    repeat (first | ((with_reducible show W _ _ _ _ _ _); first | refine W_seq ?_ | refine W_block ?_ | refine W_region hX ?_ | refine W_cond ?_ | refine W_skip ?_ | refine W_exit ?_) | ((fail_if_success (with_reducible show W _ _ _ _ _ _)); show W _ _ _ _ _ _) | refine andA ?_ | refine condT ?_ | refine condF ?_ | refine exB ?_ | refine exL ?_ | refine Exists.intro _ (And.intro rfl ?_) | refine Exists.intro _ (And.intro (get_mapN (by assumption)) ?_) | ((fail_if_success (with_reducible show LoopEnd _ _ _ _ _ _ _)); show LoopEnd _ _ _ _ _ _ _) | ((fail_if_success (with_reducible show JoinEnd _ _ _ _ _)); show JoinEnd _ _ _ _ _) | ((fail_if_success (with_reducible show JoinG _ _ _ _ _)); show JoinG _ _ _ _ _))
    refine W_freeze hna 2 [2] rfl (fun t ht => by simp at ht; subst ht; rfl) (by rw [List.length_map]) (cO _) ⟨cKI _, True.intro⟩ rfl ?_
    refine goT ?_
    rw [he]
    rfl
def eqI : List Int → List Int → Bool
  | [], [] => true
  | a :: l, b :: m => decide (a = b) && eqI l m
  | _, _ => false
def smallM : MetaT := ⟨0, 0, 0, ⟨#[]⟩, ⟨#[]⟩, 0, 0⟩
def smallT : List NodeT := [⟨⟨#[97]⟩, 2, 0, ⟨#[]⟩, smallM, ⟨#[]⟩⟩, ⟨⟨#[97, 47, 98]⟩, 1, 0, ⟨#[]⟩, smallM, ⟨#[120]⟩⟩, ⟨⟨#[99]⟩, 3, 0, ⟨#[97, 47, 98]⟩, smallM, ⟨#[]⟩⟩]
def ImpL : List AV → List AV → Prop
  | [], [] => True
  | x :: l, y :: m => Imp x y ∧ ImpL l m
  | _, _ => False
def ImpLL : List (List AV) → List (List AV) → Prop
  | [], [] => True
  | x :: l, y :: m => ImpL x y ∧ ImpLL l m
  | _, _ => False
theorem ImpL.len : ∀ {l m : List AV}, ImpL l m → l.length = m.length
  | [], [], _ => rfl
  | _ :: l, _ :: m, h => by rw [List.length_cons, List.length_cons, ImpL.len h.2]
theorem ImpLL.len : ∀ {l m : List (List AV)}, ImpLL l m → l.length = m.length
  | [], [], _ => rfl
  | _ :: l, _ :: m, h => by rw [List.length_cons, List.length_cons, ImpLL.len h.2]
theorem repAt_imp {ok : Nat → Prop} {w : World} {b : Nat} : ∀ {l m : List AV} {off : Nat}, ImpL l m → AV.repAt nob ok w b off l → AV.repAt nob ok w b off m
  | [], [], _, _, _ => trivial
  | x :: l, y :: m, off, h, hr => by
    obtain ⟨⟨v, h1, h2, h3⟩, h4⟩ := hr
    exact ⟨⟨v, h1, h2, h.1 _ _ _ _ h3⟩, repAt_imp h.2 h4⟩
theorem repRows_imp {ok : Nat → Prop} {w : World} {b sz : Nat} : ∀ {l m : List (List AV)} {off : Nat}, ImpLL l m → AV.repRows nob ok w sz b off l → AV.repRows nob ok w sz b off m
  | [], [], _, _, _ => trivial
  | x :: l, y :: m, off, h, hr => ⟨(ImpL.len h.1).symm.trans hr.1, repAt_imp h.1 hr.2.1, repRows_imp h.2 hr.2.2⟩
theorem Imp.row {sz : Nat} {l m : List (List AV)} (h : ImpLL l m) : Imp (.row sz l) (.row sz m) := fun β ok w u hr => by
  obtain ⟨A, c, h1, h2, h3⟩ := hr
  have hl := ImpLL.len h
  refine ⟨A, c, by rw [← hl]; exact h1, by rw [← hl]; exact h2, fun hn => ?_⟩
  obtain ⟨b, off, h4, h5, h6, h7⟩ := h3 (by rw [hl]; exact hn)
  exact ⟨b, off, h4, h5, h6, repRows_imp h h7⟩
theorem ImpL.refl : ∀ l : List AV, ImpL l l
  | [] => trivial
  | x :: l => ⟨Imp.refl x, ImpL.refl l⟩
/-- A node's cells where its bytes are nil. -/
def encNil (x : NodeT) : List AV := [.v (.string x.path), .v (.int .i64 x.kind), .v (.int .i64 x.same), .v (.string x.target), .v (.int .i64 x.mt.mode), .v (.int .i64 x.mt.uid), .v (.int .i64 x.mt.gid), .v (.string x.mt.user), .v (.string x.mt.group), .v (.int .i64 x.mt.second), .v (.int .i64 x.mt.nano), .v (.slice none 0 0)]
theorem encNil_imp {x : NodeT} (h : bytesA x.data = []) : ImpL (encNil x) (encNode x) := by
  unfold encNil encNode
  rw [h]
  exact ⟨Imp.refl _, Imp.refl _, Imp.refl _, Imp.refl _, Imp.refl _, Imp.refl _, Imp.refl _, Imp.refl _, Imp.refl _, Imp.refl _, Imp.refl _, Imp.nil 1, trivial⟩
def smallA : NodeT := ⟨⟨#[97]⟩, 2, 0, ⟨#[]⟩, smallM, ⟨#[]⟩⟩
def smallB : NodeT := ⟨⟨#[97, 47, 98]⟩, 1, 0, ⟨#[]⟩, smallM, ⟨#[120]⟩⟩
def smallC : NodeT := ⟨⟨#[99]⟩, 3, 0, ⟨#[97, 47, 98]⟩, smallM, ⟨#[]⟩⟩
theorem small_ac : AC CX 12 [] (.row 12 (smallT.map encNode)) := by
  suffices h : AC CX 12 [] (.row 12 [encNil smallA, encNode smallB, encNil smallC]) from AC_imp h (Imp.row ⟨encNil_imp rfl, ImpL.refl _, encNil_imp rfl, trivial⟩)
  refine AC_walk ⟨TB, 7, 0, [], []⟩ (fn := Tryz.f12) TB_ok Tryz.func12 rfl rfl rfl rfl rfl (fun _ => rfl) (fun _ => rfl) ?_; intro E hna hX
  refine W_seq ?_
  refine W_region hX ?_
  show W _ _ _ _ _ _
  refine W_seq ?_
  refine ⟨AW_region ?_⟩
  refine AL_first hX ?_
  refine AL_lit2R hX [[.v (.int .u8 120)]] rfl rfl rfl rfl rfl rfl (by decide) rfl rfl rfl rfl rfl rfl rfl (by simp) rfl (fun _ => rfl) ?_
  refine AL_run hX ?_
  refine goT ?_
  rfl
end Go.Proofs.YtdhikkdkjmeiiaaGreatDoor.Abs
