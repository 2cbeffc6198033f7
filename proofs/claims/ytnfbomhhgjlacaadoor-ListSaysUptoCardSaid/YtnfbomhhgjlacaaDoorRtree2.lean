/- Trees: finding, and the check. -/
import Derived.Test.YtnfbomhhgjlacaaDoorRtree
namespace Go.Proofs.YtnfbomhhgjlacaaDoor.Abs
open Go.RowKit Go.MapKept
set_option linter.unusedVariables false
set_option linter.unusedSimpArgs false
set_option maxRecDepth 100000
set_option maxHeartbeats 4000000
def alikeF (a b : NodeT) : Bool := decide (a.mt = b.mt) && decide (a.data = b.data)
theorem metaEq {a b : MetaT} : (decide (a.mode = b.mode) && (decide (a.uid = b.uid) && (decide (a.gid = b.gid) && (decide (a.user = b.user) && (decide (a.group = b.group) && (decide (a.second = b.second) && (decide (a.nano = b.nano) && true))))))) = decide (a = b) := by
  rw [Bool.eq_iff_iff]
  cases a; cases b
  simp
theorem alike_ac (a b : NodeT) : AC CX 105 [.agg (encNode a), .agg (encNode b)] (.v (.bool (alikeF a b))) := by
  refine AC_walk ⟨TB, 19, 0, [], []⟩ (fn := Tryd.f105) TB_ok Tryd.func105 rfl rfl rfl rfl rfl (fun _ => rfl) (fun _ => rfl) ?_; intro E hna hX
  refine goT ?_
  refine condB_intro (fun h1 => ?_) (fun h1 => ?_)
  · have e1 := metaEq.symm.trans h1
    refine goT ?_
    unfold alikeF
    rw [e1, Bool.true_and]
    rfl
  · have e1 := metaEq.symm.trans h1
    refine goT ?_
    unfold alikeF
    rw [e1, Bool.false_and]
    rfl
theorem find1_ac (x : NodeT) (s : ByteArray) : AC CX 107 [.agg (encNode x), .eptr [.v (.string s)]] (.v (.bool (decide (x.path = s)))) := by
  refine AC_walk ⟨TB, 8, 0, [], []⟩ (fn := Tryd.f107) TB_ok Tryd.func107 rfl rfl rfl rfl rfl (fun _ => rfl) (fun _ => rfl) ?_; intro E hna hX
  refine goT ?_
  rfl
/-- The place of the first that p holds of; -1: of none. -/
def findF {α : Type} (p : α → Bool) : List α → Nat → Int
  | [], _ => -1
  | x :: l, k => if p x = true then (k : Int) else findF p l (k + 1)
theorem drop_at {α : Type} {l : List α} {k : Nat} {x : α} (hx : l[k]? = some x) : l.drop k = x :: l.drop (k + 1) := by
  obtain ⟨h, rfl⟩ := List.getElem?_eq_some_iff.1 hx
  exact List.drop_eq_getElem_cons h
theorem get_lt {α : Type} {l : List α} {k : Nat} (h : k < l.length) : ∃ x, l[k]? = some x := ⟨l[k], List.getElem?_eq_getElem h⟩
theorem indexFunc_ac (xs : List NodeT) (f : Nat) (s : ByteArray) (p : NodeT → Bool) (hl : xs.length ≤ 1000000000) (hf : FnOk CX.P f = true) (h : ∀ x ∈ xs, AC CX f [.agg (encNode x), .eptr [.v (.string s)]] (.v (.bool (p x)))) : AC CX 61 [.row 12 (xs.map encNode), .fn (.func f) [.eptr [.v (.string s)]]] (.v (.int .i64 (findF p xs 0))) := by
  refine AC_walk ⟨TB, 19, 0, [], []⟩ (fn := Tryd.f61) TB_ok Tryd.func61 rfl rfl rfl rfl rfl (fun _ => rfl) (fun _ => rfl) ?_; intro E hna hX
  refine goT ?_
  refine W_loop (fun k : Nat => k ≤ xs.length ∧ findF p xs 0 = findF p (xs.drop k) k) (fun k => xs.length - k) (fun k => ⟨[(0, .row 12 (xs.map encNode)), (1, .fn (.func f) [.eptr [.v (.string s)]]), (7, .v (.int .i64 xs.length)), (8, .v (.int .i64 k))], []⟩) 0 ⟨Nat.zero_le _, rfl⟩ (Drops.to [0, 1, 7, 8] rfl) ?_
  rintro k ⟨hk, he⟩
  refine goT ?_
  refine condB_intro (fun h1 => ?_) (fun h1 => ?_)
  · have e1 := of_decide_eq_true h1
    obtain ⟨x, hx⟩ := get_lt (l := xs) (k := k) (by omega)
    refine goT ?_
    refine ⟨_, h x (List.mem_of_getElem? hx), hf, fun _ => rfl, ?_⟩
    refine goT ?_
    refine condB_intro (fun h2 => ?_) (fun h2 => ?_)
    · refine goT ?_
      rw [he, drop_at hx, findF, if_pos h2]
      rfl
    · refine goT ?_
      exact LoopEnd_fin (k + 1) [0, 1, 7, 8] 0 hX ⟨by omega, by rw [he, drop_at hx, findF, if_neg (by rw [h2]; decide)]⟩ (by omega) rfl rfl rfl rfl trivial
  · have e1 := of_decide_eq_false h1
    obtain rfl : k = xs.length := by omega
    refine goT ?_
    rw [he, List.drop_length]
    rfl
theorem findF_lt {α : Type} {p : α → Bool} : ∀ (l : List α) (k : Nat), (findF p l k = -1 ∨ (k : Int) ≤ findF p l k) ∧ findF p l k < ((k + l.length : Nat) : Int)
  | [], k => by simp [findF]; omega
  | x :: l, k => by
    have := findF_lt (p := p) l (k + 1)
    rw [findF]
    split
    · simp; omega
    · simp at this ⊢; omega
def findN (xs : List NodeT) (s : ByteArray) : Int := findF (fun x => decide (x.path = s)) xs 0
theorem find_ac (xs : List NodeT) (s : ByteArray) (hl : xs.length ≤ 1000000000) : AC CX 70 [.row 12 (xs.map encNode), .v (.string s)] (.tup [.v (.int .i64 (if findN xs s < 0 then 0 else findN xs s)), .v (.int .i64 (if findN xs s < 0 then 5 else 0))]) := by
  refine AC_walk ⟨TB, 13, 0, [], []⟩ (fn := Tryd.f70) TB_ok Tryd.func70 rfl rfl rfl rfl rfl (fun _ => rfl) (fun _ => rfl) ?_; intro E hna hX
  refine goT ?_
  refine .inl ⟨_, indexFunc_ac xs 107 s (fun x => decide (x.path = s)) hl (by kernel_rfl) (fun x _ => find1_ac x s), by kernel_rfl, ⟨⟨True.intro, ⟨True.intro, True.intro⟩, True.intro⟩, True.intro⟩, ?_⟩
  refine goT ?_
  refine condB_intro (fun h1 => ?_) (fun h1 => ?_)
  · have e1 : findN xs s < 0 := of_decide_eq_true h1
    refine goT ?_
    show AV.tup [_, _] = _
    rw [if_pos e1, if_pos e1]
  · have e1 : ¬ findN xs s < 0 := of_decide_eq_false h1
    refine goT ?_
    show AV.tup [_, _] = _
    rw [if_neg e1, if_neg e1]
    rfl
theorem findF_none {α : Type} {p : α → Bool} : ∀ {l : List α} {k : Nat}, findF p l k < 0 → l.find? p = none
  | [], _, _ => rfl
  | x :: l, k, h => by
    rw [findF] at h
    split at h
    · omega
    · rename_i hp
      rw [List.find?_cons_of_neg hp]
      exact findF_none h
theorem findF_some {α : Type} {p : α → Bool} : ∀ {l : List α} {k : Nat}, ¬ findF p l k < 0 → ∃ (j : Nat) (x : α), findF p l k = ((k + j : Nat) : Int) ∧ l[j]? = some x ∧ l.find? p = some x ∧ p x = true
  | [], k, h => absurd (show (-1 : Int) < 0 by decide) h
  | x :: l, k, h => by
    rw [findF] at h ⊢
    by_cases hp : p x = true
    · rw [if_pos hp]
      exact ⟨0, x, rfl, rfl, List.find?_cons_of_pos hp, hp⟩
    · rw [if_neg hp] at h ⊢
      obtain ⟨j, y, h1, h2, h3, h4⟩ := findF_some h
      exact ⟨j + 1, y, by rw [h1]; omega, by simpa using h2, by rw [List.find?_cons_of_neg hp]; exact h3, h4⟩
def prevBad (pre : List NodeT) (n : NodeT) : Bool := match pre.getLast? with
  | some p => decide (compareF p.path n.path ≥ 0)
  | none => false
def upBad (pre : List NodeT) (n : NodeT) : Bool := !decide (upF n.path = ⟨#[]⟩) && match pre.find? (fun x => decide (x.path = upF n.path)) with
  | some d => !decide (d.kind = 2)
  | none => true
def chkL (pre : List NodeT) : List NodeT → List (Int × NodeT) → Int
  | [], _ => 0
  | n :: rest, m => if prevBad pre n = true then 6 else if upBad pre n = true then 10 else if n.same = 0 then chkL (pre ++ [n]) rest m else match m.lookup n.same with
    | some f => if alikeF f n = true then chkL (pre ++ [n]) rest m else 11
    | none => chkL (pre ++ [n]) rest (m ++ [(n.same, n)])
/-- tree.Check, where each node may be by itself. -/
def chkF (t : List NodeT) : Int := if t.length > 40 then 1 else chkL [] t []
def kvN (p : Int × NodeT) : Value × AV := (.int .i64 p.1, .agg (encNode p.2))
theorem avoids_kv {α : Type} {f : α → Value × AV} {j : Nat} (h : ∀ x, (f x).2.avoids j = true) : ∀ m : List α, avoidsKV j (m.map f) = true
  | [] => rfl
  | p :: m => by
    show (AV.avoids j (f p).2 && avoidsKV j (m.map f)) = true
    rw [avoids_kv h m, h p]
    rfl
theorem kvN_at {i : Int} : ∀ {m : List (Int × NodeT)}, kvFind (.int .i64 i) (m.map kvN) = (m.lookup i).map fun x => .agg (encNode x)
  | [] => rfl
  | (j, x) :: m => by
    have ih := kvN_at (i := i) (m := m)
    rw [List.map_cons, kvN, kvFind, List.lookup]
    simp only [keyEq, decide_true, Bool.true_and]
    cases hq : i == j with
    | true => rfl
    | false => simpa using ih
theorem kvSet_none {i : Int} {x : AV} : ∀ {kvs : List (Value × AV)}, kvFind (.int .i64 i) kvs = none → kvSet (.int .i64 i) x kvs = kvs ++ [(.int .i64 i, x)]
  | [], _ => rfl
  | (k, y) :: l, h => by
    rw [kvFind] at h
    rw [kvSet]
    split at h
    · cases h
    · rename_i hq
      rw [if_neg hq, kvSet_none h]
      rfl
theorem last_take {α : Type} {xs : List α} {k : Nat} (h : k ≤ xs.length) (h0 : 0 < k) : (xs.take k).getLast? = xs[k - 1]? := by
  obtain ⟨k, rfl⟩ : ∃ j, k = j + 1 := ⟨k - 1, by omega⟩
  obtain ⟨x, hx⟩ := get_lt (l := xs) (k := k) (by omega)
  rw [take_snoc hx, List.getLast?_append, Nat.add_sub_cancel, hx]
  rfl
theorem check_ac (xs : List NodeT) (hg : ∀ n ∈ xs, NodeGood n) (hl : xs.length ≤ 1000000) : AC CX 66 [.row 12 (xs.map encNode)] (.v (.int .i64 (chkF xs))) := by
  refine AC_walk ⟨TB, 89, 0, [], []⟩ (fn := Tryd.f66) TB_ok Tryd.func66 rfl rfl rfl rfl rfl (fun _ => rfl) (fun _ => rfl) ?_; intro E hna hX
  refine goT ?_
  refine condB_intro (fun h1 => ?_) (fun h1 => ?_)
  · have e1 := of_decide_eq_true h1
    refine goT ?_
    unfold chkF
    rw [if_pos (by omega)]
    rfl
  have e1 := of_decide_eq_false h1
  refine goT ?_
  refine W_loop (γ := Nat × List (Int × NodeT)) (fun g => g.1 ≤ xs.length ∧ chkF xs = chkL (xs.take g.1) (xs.drop g.1) g.2) (fun g => xs.length - g.1) (fun g => ⟨[(0, .row 12 (xs.map encNode)), (3, .mp 0), (16, .row 12 (xs.map encNode)), (17, .v (.int .i64 xs.length)), (18, .v (.int .i64 g.1))], [.map (.int .i64) (g.2.map kvN)]⟩) (0, []) ⟨Nat.zero_le _, by unfold chkF; rw [if_neg (by omega)]; rfl⟩ (Drops.to [0, 3, 16, 17, 18] rfl) ?_
  rintro ⟨k, m⟩ ⟨hk, he⟩
  dsimp only at hk he ⊢
  have limM : ∀ m : List (Int × NodeT), ClosedK (m.map kvN) := fun m j => avoids_kv (fun _ => rfl) m
  refine goT ?_
  refine condB_intro (fun h2 => ?_) (fun h2 => ?_)
  · have e2 : (k : Int) < (xs.length : Int) := of_decide_eq_true h2
    obtain ⟨x, hx⟩ := get_lt (l := xs) (k := k) (by omega)
    have hgx := hg x (List.mem_of_getElem? hx)
    have hpx := pathChk_size hgx.path
    rw [drop_at hx, chkL] at he
    refine goT ?_
    refine ⟨_, right_ac x hgx, by kernel_rfl, fun _ => rfl, ?_⟩
    refine goT ?_
    refine W_join True ⟨[(0, .row 12 (xs.map encNode)), (3, .mp 0), (4, .v (.int .i64 k)), (5, .ptr 1 0), (16, .row 12 (xs.map encNode)), (17, .v (.int .i64 xs.length)), (18, .v (.int .i64 k)), (41, .v (.bool (prevBad (xs.take k) x)))], [.map (.int .i64) (m.map kvN), .cells 51 (encNode x)]⟩ ?_ fun _ => ?_
    · refine W_draw hX (n := 14) (follows_mixed Tryd.checked) (ws := [[], [(0, 28)], [(1, 29)], [(2, 30)], [(2, 30)], [(2, 30), (4, 32)], [(2, 30), (3, 31), (5, 33)], [(2, 30), (6, 34)], [(2, 30), (7, 35)], [(2, 30)], [(2, 30), (9, 37)], [(2, 30), (8, 36), (10, 38)], [(2, 30), (11, 39)], [(2, 30), (12, 40)]]) (ds := [28, 29, 30, 31, 32, 33, 34, 35, 36, 37, 38, 39, 40, 41]) (bi := []) (wa := [(0, 28), (1, 29), (2, 30), (3, 31), (4, 32), (5, 33), (6, 34), (7, 35), (8, 36), (9, 37), (10, 38), (11, 39), (12, 40), (13, 41)]) ⟨by kernel_rfl, by kernel_rfl, by kernel_rfl, by kernel_rfl, by decide, by kernel_rfl, by kernel_rfl, rfl, by decide, rfl⟩ ?_
      refine goT ?_
      refine condB_intro (fun h3 => ?_) (fun h3 => ?_)
      · have e3 : (k : Int) > 0 := of_decide_eq_true h3
        obtain ⟨y, hy⟩ := get_lt (l := xs) (k := k - 1) (by omega)
        have hgy := hg y (List.mem_of_getElem? hy)
        have hpy := pathChk_size hgy.path
        have hpb : prevBad (xs.take k) x = decide (compareF y.path x.path ≥ 0) := by
          unfold prevBad
          rw [last_take hk (by omega), hy]
        refine goT ?_
        refine ⟨k - 1, by omega, _, get_mapN hy, ?_⟩
        refine goT ?_
        refine ⟨_, compare_ac y.path x.path (by omega) (by omega), by kernel_rfl, fun _ => rfl, ?_⟩
        refine goT ?_
        exact ⟨trivial, Drops.to [0, 3, 4, 5, 16, 17, 18, 41] (by rw [hpb]; rfl)⟩
      · have hpb : prevBad (xs.take k) x = false := by
          have : k = 0 := by have := of_decide_eq_false h3; omega
          subst this
          rfl
        refine goT ?_
        exact ⟨trivial, Drops.to [0, 3, 4, 5, 16, 17, 18, 41] (by rw [hpb]; rfl)⟩
    refine goT ?_
    refine condB_intro (fun h4 => ?_) (fun h4 => ?_)
    · refine goT ?_
      rw [he, if_pos h4]
      rfl
    rw [if_neg (by rw [h4]; decide)] at he
    refine goT ?_
    refine ⟨_, up_ac x.path (by omega), by kernel_rfl, fun _ => rfl, ?_⟩
    refine goT ?_
    refine cnd_join (upBad (xs.take k) x = false) ⟨[(0, .row 12 (xs.map encNode)), (3, .mp 0), (5, .ptr 1 0), (16, .row 12 (xs.map encNode)), (17, .v (.int .i64 xs.length)), (18, .v (.int .i64 k))], [.map (.int .i64) (m.map kvN), .cells 51 (encNode x)]⟩ ?_ fun hub => ?_
    · refine condB_intro (fun h5 => ?_) (fun h5 => ?_)
      · refine goT ?_
        refine ⟨(xs.take k).map encNode, ⟨by rw [List.drop_zero, List.map_take]⟩, ?_⟩
        refine goT ?_
        refine ⟨_, find_ac (xs.take k) (upF x.path) (by rw [List.length_take]; omega), by kernel_rfl, fun _ => rfl, ?_⟩
        refine goT ?_
        have e5 : ¬ upF x.path = ⟨#[]⟩ := by simpa using h5
        refine condB_intro (fun h6 => ?_) (fun h6 => ?_)
        · have e6 : findN (xs.take k) (upF x.path) < 0 := by
            by_cases h : findN (xs.take k) (upF x.path) < 0
            · exact h
            · rw [if_neg h] at h6; cases h6
          refine goT ?_
          rw [he, if_pos (by unfold upBad; rw [findF_none e6, decide_eq_false e5]; rfl)]
          rfl
        · have e6 : ¬ findN (xs.take k) (upF x.path) < 0 := by
            intro h
            rw [if_pos h] at h6; cases h6
          obtain ⟨j, d, f1, f2, f3, f4⟩ := findF_some e6
          have f1 : findN (xs.take k) (upF x.path) = (j : Int) := by rw [findN, f1]; omega
          have hjk : j < k := by have := (List.getElem?_eq_some_iff.1 f2).1; rw [List.length_take] at this; omega
          have f5 : xs[j]? = some d := by rw [List.getElem?_take, if_pos hjk] at f2; exact f2
          refine goT ?_
          rw [if_neg e6, f1]
          refine ⟨j, rfl, _, get_mapN f5, ?_⟩
          refine goT ?_
          refine condB_intro (fun h7 => ?_) (fun h7 => ?_)
          · refine goT ?_
            rw [he, if_pos (by unfold upBad; rw [f3, decide_eq_false e5]; exact h7)]
            rfl
          · refine goT ?_
            exact ⟨by unfold upBad; rw [f3, decide_eq_false e5]; exact h7, Drops.to [0, 3, 5, 16, 17, 18] rfl⟩
      · refine goT ?_
        exact ⟨by unfold upBad; rw [show (!decide (upF x.path = ⟨#[]⟩)) = false from h5]; rfl, Drops.to [0, 3, 5, 16, 17, 18] rfl⟩
    rw [if_neg (by rw [hub]; decide)] at he
    refine goT ?_
    refine condB_intro (fun h7 => ?_) (fun h7 => ?_)
    · have e7 := of_decide_eq_true h7
      rw [if_pos e7] at he
      refine goT ?_
      exact LoopEnd_fin (k + 1, m) [0, 3, 16, 17, 18] 1 hX ⟨by show k + 1 ≤ _; omega, by show _ = chkL (xs.take (k + 1)) (xs.drop (k + 1)) m; rw [take_snoc hx]; exact he⟩ (by show xs.length - (k + 1) < xs.length - k; omega) rfl rfl rfl rfl ⟨limM m, trivial⟩
    have e7 := of_decide_eq_false h7
    rw [if_neg e7] at he
    cases hlk : m.lookup x.same with
    | some f =>
      rw [hlk] at he
      dsimp only at he
      refine goT ?_
      refine ⟨.agg (encNode f), true, by rw [kvN_at, hlk]; rfl, by rw [kvN_at, hlk]; rfl, ?_⟩
      refine goT ?_
      refine ⟨_, alike_ac f x, by kernel_rfl, fun _ => rfl, ?_⟩
      refine goT ?_
      refine condB_intro (fun h8 => ?_) (fun h8 => ?_)
      · refine goT ?_
        rw [if_neg (fun h => by rw [h] at h8; cases h8)] at he
        rw [he]
        rfl
      · refine goT ?_
        exact LoopEnd_fin (k + 1, m) [0, 3, 16, 17, 18] 1 hX ⟨by show k + 1 ≤ _; omega, by show _ = chkL (xs.take (k + 1)) (xs.drop (k + 1)) m; rw [take_snoc hx, he, if_pos (by simpa using h8)]⟩ (by show xs.length - (k + 1) < xs.length - k; omega) rfl rfl rfl rfl ⟨limM m, trivial⟩
    | none =>
      rw [hlk] at he
      dsimp only at he
      refine goT ?_
      refine ⟨_, false, rfl, by simp [kvN_at, hlk], ?_⟩
      rw [kvN_at, hlk]
      refine goT ?_
      refine ⟨(m ++ [(x.same, x)]).map kvN, ⟨by rw [kvSet_none (by rw [kvN_at, hlk]; rfl), List.map_append]; rfl⟩, ?_⟩
      refine goT ?_
      exact LoopEnd_fin (k + 1, m ++ [(x.same, x)]) [0, 3, 16, 17, 18] 1 hX ⟨by show k + 1 ≤ _; omega, by show _ = chkL (xs.take (k + 1)) (xs.drop (k + 1)) (m ++ [(x.same, x)]); rw [take_snoc hx, he]⟩ (by show xs.length - (k + 1) < xs.length - k; omega) rfl rfl rfl rfl ⟨limM _, trivial⟩
  · have e2 : ¬ (k : Int) < (xs.length : Int) := of_decide_eq_false h2
    obtain rfl : k = xs.length := by omega
    refine goT ?_
    rw [he, List.drop_length]
    rfl
end Go.Proofs.YtnfbomhhgjlacaaDoor.Abs
