/- Faults: what cannot be read. fault.Check, fault.First, creelkeep.faultsOf, walked. -/
import Derived.Test.YtdhikkdkjmeiiaaGreatDoorRplanx
namespace Go.Proofs.YtdhikkdkjmeiiaaGreatDoor.Abs
open Go.RowKit Go.MapKept
set_option linter.unusedVariables false
set_option linter.unusedSimpArgs false
set_option maxRecDepth 100000
set_option maxHeartbeats 4000000
/-! ### Faults: what can't be read. fault.Check and fault.First, walked. -/
structure FaultT where
  path : ByteArray
  code : Int
deriving DecidableEq
def encF (x : FaultT) : List AV := [.v (.string x.path), .v (.int .i64 x.code)]
theorem cF (l : List FaultT) : ClosedE (l.map encF) := ClosedE_map (fun _ _ => rfl) l
def pathIs (s : ByteArray) (z : FaultT) : Bool := decide (z.path = s)
theorem findF_any {α : Type} {p : α → Bool} {l : List α} : decide (findF p l 0 ≥ 0) = l.any p := by
  rw [Bool.eq_iff_iff, decide_eq_true_eq, List.any_eq_true]
  constructor
  · intro h
    obtain ⟨j, x, h1, h2, h3, h4⟩ := findF_some (p := p) (l := l) (k := 0) (by omega)
    exact ⟨x, List.mem_of_getElem? h2, h4⟩
  · rintro ⟨x, hx, hp⟩
    by_cases h : findF p l 0 < 0
    · have := findF_none h
      rw [List.find?_eq_none] at this
      exact absurd hp (this x hx)
    · omega
theorem indexFuncF_ac (xs : List FaultT) (f : Nat) (c : List AV) (p : FaultT → Bool) (hl : xs.length ≤ 1000000000) (hf : FnOk CX.P f = true) (h : ∀ x ∈ xs, AC CX f [.agg (encF x), .eptr c] (.v (.bool (p x)))) : AC CX 55 [.row 2 (xs.map encF), .fn (.func f) [.eptr c]] (.v (.int .i64 (findF p xs 0))) := by
  refine AC_walk ⟨TB, 19, 0, [], []⟩ (fn := Tryz.f55) TB_ok Tryz.func55 rfl rfl rfl rfl rfl (fun _ => rfl) (fun _ => rfl) ?_; intro E hna hX
  refine goT ?_
  refine W_loop (fun k : Nat => k ≤ xs.length ∧ findF p xs 0 = findF p (xs.drop k) k) (fun k => xs.length - k) (fun k => ⟨[(0, .row 2 (xs.map encF)), (1, .fn (.func f) [.eptr c]), (7, .v (.int .i64 xs.length)), (8, .v (.int .i64 k))], []⟩) 0 ⟨Nat.zero_le _, rfl⟩ (Drops.to [0, 1, 7, 8] rfl) ?_
  rintro k ⟨hk, he⟩
  refine goT ?_
  refine condB_intro (fun h1 => ?_) (fun h1 => ?_)
  · have e1 := of_decide_eq_true h1
    obtain ⟨x, hx⟩ := get_lt (l := xs) (k := k) (by omega)
    refine goT ?_
    refine ⟨_, h x (List.mem_of_getElem? hx), hf, fun _ => rfl, ?_⟩
    refine goT ?_
    refine condB_intro (fun h2 => ?_) (fun h2 => ?_)
    · refine goT ?_
      rw [he, drop_at hx, findF, if_pos h2]
      rfl
    · refine goT ?_
      exact LoopEnd_fin (k + 1) [0, 1, 7, 8] 0 hX ⟨by omega, by rw [he, drop_at hx, findF, if_neg (by rw [h2]; decide)]⟩ (by omega) rfl rfl rfl rfl trivial
  · have e1 := of_decide_eq_false h1
    obtain rfl : k = xs.length := by omega
    refine goT ?_
    rw [he, List.drop_length]
    rfl
theorem indexFuncE_ac (xs : List EntT) (f : Nat) (c : List AV) (p : EntT → Bool) (hl : xs.length ≤ 1000000000) (hf : FnOk CX.P f = true) (h : ∀ x ∈ xs, AC CX f [.agg (encE x), .eptr c] (.v (.bool (p x)))) : AC CX 56 [.row 11 (xs.map encE), .fn (.func f) [.eptr c]] (.v (.int .i64 (findF p xs 0))) := by
  refine AC_walk ⟨TB, 19, 0, [], []⟩ (fn := Tryz.f56) TB_ok Tryz.func56 rfl rfl rfl rfl rfl (fun _ => rfl) (fun _ => rfl) ?_; intro E hna hX
  refine goT ?_
  refine W_loop (fun k : Nat => k ≤ xs.length ∧ findF p xs 0 = findF p (xs.drop k) k) (fun k => xs.length - k) (fun k => ⟨[(0, .row 11 (xs.map encE)), (1, .fn (.func f) [.eptr c]), (7, .v (.int .i64 xs.length)), (8, .v (.int .i64 k))], []⟩) 0 ⟨Nat.zero_le _, rfl⟩ (Drops.to [0, 1, 7, 8] rfl) ?_
  rintro k ⟨hk, he⟩
  refine goT ?_
  refine condB_intro (fun h1 => ?_) (fun h1 => ?_)
  · have e1 := of_decide_eq_true h1
    obtain ⟨x, hx⟩ := get_lt (l := xs) (k := k) (by omega)
    refine goT ?_
    refine ⟨_, h x (List.mem_of_getElem? hx), hf, fun _ => rfl, ?_⟩
    refine goT ?_
    refine condB_intro (fun h2 => ?_) (fun h2 => ?_)
    · refine goT ?_
      rw [he, drop_at hx, findF, if_pos h2]
      rfl
    · refine goT ?_
      exact LoopEnd_fin (k + 1) [0, 1, 7, 8] 0 hX ⟨by omega, by rw [he, drop_at hx, findF, if_neg (by rw [h2]; decide)]⟩ (by omega) rfl rfl rfl rfl trivial
  · have e1 := of_decide_eq_false h1
    obtain rfl : k = xs.length := by omega
    refine goT ?_
    rw [he, List.drop_length]
    rfl
theorem containsF_ac (xs : List FaultT) (f : Nat) (c : List AV) (p : FaultT → Bool) (hl : xs.length ≤ 1000000000) (hf : FnOk CX.P f = true) (h : ∀ x ∈ xs, AC CX f [.agg (encF x), .eptr c] (.v (.bool (p x)))) : AC CX 26 [.row 2 (xs.map encF), .fn (.func f) [.eptr c]] (.v (.bool (xs.any p))) := by
  have hi := indexFuncF_ac xs f c p hl hf h
  rw [← findF_any]
  refine AC_walk ⟨TB, 9, 0, [], []⟩ (fn := Tryz.f26) TB_ok Tryz.func26 rfl rfl rfl rfl rfl (fun _ => rfl) (fun _ => rfl) ?_; intro E hna hX
  refine goT ?_
  refine ⟨_, hi, by kernel_rfl, fun _ => rfl, ?_⟩
  refine goT ?_
  rfl
theorem containsE_ac (xs : List EntT) (f : Nat) (c : List AV) (p : EntT → Bool) (hl : xs.length ≤ 1000000000) (hf : FnOk CX.P f = true) (h : ∀ x ∈ xs, AC CX f [.agg (encE x), .eptr c] (.v (.bool (p x)))) : AC CX 28 [.row 11 (xs.map encE), .fn (.func f) [.eptr c]] (.v (.bool (xs.any p))) := by
  have hi := indexFuncE_ac xs f c p hl hf h
  rw [← findF_any]
  refine AC_walk ⟨TB, 9, 0, [], []⟩ (fn := Tryz.f28) TB_ok Tryz.func28 rfl rfl rfl rfl rfl (fun _ => rfl) (fun _ => rfl) ?_; intro E hna hX
  refine goT ?_
  refine ⟨_, hi, by kernel_rfl, fun _ => rfl, ?_⟩
  refine goT ?_
  rfl
theorem findex1_ac (x : FaultT) (s : ByteArray) : AC CX 75 [.agg (encF x), .eptr [.v (.string s)]] (.v (.bool (pathIs s x))) := by
  refine AC_walk ⟨TB, 8, 0, [], []⟩ (fn := Tryz.f75) TB_ok Tryz.func75 rfl rfl rfl rfl rfl (fun _ => rfl) (fun _ => rfl) ?_; intro E hna hX
  refine goT ?_
  rfl
theorem findex_ac (fs : List FaultT) (s : ByteArray) (hl : fs.length ≤ 1000000000) : AC CX 54 [.row 2 (fs.map encF), .v (.string s)] (.v (.int .i64 (findF (pathIs s) fs 0))) := by
  have hi := indexFuncF_ac fs 75 [.v (.string s)] (pathIs s) hl (by kernel_rfl) (fun x _ => findex1_ac x s)
  refine AC_walk ⟨TB, 8, 0, [], []⟩ (fn := Tryz.f54) TB_ok Tryz.func54 rfl rfl rfl rfl rfl (fun _ => rfl) (fun _ => rfl) ?_; intro E hna hX
  refine goT ?_
  refine .inl ⟨_, hi, by kernel_rfl, ⟨⟨True.intro, ⟨True.intro, True.intro⟩, True.intro⟩, True.intro⟩, ?_⟩
  refine goT ?_
  rfl
/-- Faults that may be. -/
structure FaultsOk (l : List FaultT) : Prop where
  good : ∀ x ∈ l, pathChk x.path = 0 ∧ 1 ≤ x.code
  new : (l.map (·.path)).Nodup
  len : l.length ≤ 12
theorem find_fresh {l : List FaultT} (hn : (l.map (·.path)).Nodup) {k : Nat} {x : FaultT} (hk : l[k]? = some x) : findF (pathIs x.path) (l.take k) 0 < 0 := by
  by_cases h : findF (pathIs x.path) (l.take k) 0 < 0
  · exact h
  · obtain ⟨j, y, _, h2, _, h4⟩ := findF_some h
    have h4 : y.path = x.path := of_decide_eq_true h4
    rw [List.getElem?_take] at h2
    split at h2
    · rename_i hjk
      have e1 : (l.map (·.path))[j]? = some y.path := by rw [List.getElem?_map, h2]; rfl
      have e2 : (l.map (·.path))[k]? = some y.path := by rw [List.getElem?_map, hk, h4]; rfl
      obtain ⟨q1, q2⟩ := List.getElem?_eq_some_iff.1 e1
      obtain ⟨q3, q4⟩ := List.getElem?_eq_some_iff.1 e2
      have := (List.getElem_inj hn).1 (q2.trans q4.symm)
      omega
    · cases h2
theorem fcheckF_ac {fs : List FaultT} (hF : FaultsOk fs) : AC CX 53 [.row 2 (fs.map encF)] (.v (.int .i64 0)) := by
  obtain ⟨hg, hn, hl⟩ := hF
  refine AC_walk ⟨TB, 33, 0, [], []⟩ (fn := Tryz.f53) TB_ok Tryz.func53 rfl rfl rfl rfl rfl (fun _ => rfl) (fun _ => rfl) ?_; intro E hna hX
  refine goT ?_
  refine W_loop (fun k : Nat => k ≤ fs.length) (fun k => fs.length - k) (fun k => ⟨[(0, .row 2 (fs.map encF)), (9, .row 2 (fs.map encF)), (10, .v (.int .i64 fs.length)), (11, .v (.int .i64 k))], []⟩) 0 (Nat.zero_le _) (Drops.to [0, 9, 10, 11] rfl) ?_
  intro k hk
  refine goT ?_
  refine condB_intro (fun h1 => ?_) (fun h1 => ?_)
  · have e1 : (k : Int) < (fs.length : Int) := of_decide_eq_true h1
    obtain ⟨x, hx⟩ := get_lt (l := fs) (k := k) (by omega)
    obtain ⟨g1, g2⟩ := hg x (List.mem_of_getElem? hx)
    have hpx := pathChk_size g1
    have hck := pathCheck_ac x.path (by omega)
    rw [g1] at hck
    have hfi := findex_ac (fs.take k) x.path (by rw [List.length_take]; omega)
    have hff := find_fresh hn hx
    generalize findF (pathIs x.path) (fs.take k) 0 = z at hfi hff
    refine goT ?_
    refine ⟨_, hck, by kernel_rfl, fun _ => rfl, ?_⟩
    refine goT ?_
    refine W_draw hX (n := 7) (follows_mixed Tryz.checked) (ws := [[], [], [(0, 25), (1, 26)], [], [(3, 28)], [(2, 27), (4, 29)], [(5, 30)]]) (ds := [25, 26, 27, 28, 29, 30, 31]) (bi := []) (wa := [(0, 25), (1, 26), (2, 27), (3, 28), (4, 29), (5, 30), (6, 31)]) ⟨by kernel_rfl, by kernel_rfl, by kernel_rfl, by kernel_rfl, by decide, by kernel_rfl, by kernel_rfl, rfl, by decide, rfl⟩ ?_
    refine goT ?_
    refine ⟨(fs.take k).map encF, ⟨by rw [List.drop_zero, List.map_take]⟩, ?_⟩
    refine goT ?_
    refine ⟨_, hfi, by kernel_rfl, fun _ => rfl, ?_⟩
    refine goT ?_
    exact LoopEnd_fin (k + 1) [0, 9, 10, 11] 0 hX (by omega) (by omega) rfl rfl rfl rfl trivial
  · refine goT ?_
    rfl
/-! ### The first one met -/
def hasF (fs : List FaultT) (x : EntT) : Bool := decide (x.kind = 1) && fs.any (pathIs x.path)
def noF : FaultT := ⟨⟨#[]⟩, 0⟩
def firstG (fs : List FaultT) : Nat → List EntT → FaultT × Int × Int
  | _, [] => (noF, 0, 5)
  | i, x :: l => if hasF fs x = true then ((fs.find? (pathIs x.path)).getD noF, (i : Int), 0) else firstG fs (i + 1) l
theorem firstG_says {fs : List FaultT} : ∀ (l : List EntT) (i : Nat), ((firstG fs i l).2.2 = 5 ∧ l.any (hasF fs) = false) ∨ ∃ (j : Nat) (x : EntT), l[j]? = some x ∧ (firstG fs i l).2.1 = ((i + j : Nat) : Int) ∧ (firstG fs i l).2.2 = 0 ∧ (firstG fs i l).1.path = x.path ∧ hasF fs x = true ∧ (l.take j).any (hasF fs) = false
  | [], i => .inl ⟨rfl, rfl⟩
  | x :: l, i => by
    rw [firstG]
    by_cases h : hasF fs x = true
    · rw [if_pos h]
      refine .inr ⟨0, x, rfl, rfl, rfl, ?_, h, rfl⟩
      unfold hasF at h
      rw [Bool.and_eq_true] at h
      obtain ⟨z, hz, hp⟩ := List.any_eq_true.1 h.2
      cases hf : fs.find? (pathIs x.path) with
      | none => exact absurd hp (List.find?_eq_none.1 hf z hz)
      | some y =>
        have := List.find?_some hf
        exact of_decide_eq_true this
    · rw [if_neg h]
      rcases firstG_says l (i + 1) with ⟨h1, h2⟩ | ⟨j, y, h1, h2, h3, h4, h5, h6⟩
      · refine .inl ⟨h1, ?_⟩
        rw [List.any_cons, h2, Bool.eq_false_iff.2 h]; rfl
      · refine .inr ⟨j + 1, y, by simpa using h1, by rw [h2]; congr 1; omega, h3, h4, h5, ?_⟩
        rw [List.take_succ_cons, List.any_cons, h6, Bool.eq_false_iff.2 h]; rfl
theorem ffirst_ac (es : List EntT) {fs : List FaultT} (hF : FaultsOk fs) (hel : es.length ≤ 1000000) (hch : AC CX 19 [.row 11 (es.map encE)] (.v (.int .i64 0))) : AC CX 24 [.row 11 (es.map encE), .row 2 (fs.map encF)] (.tup [.agg (encF (firstG fs 0 es).1), .v (.int .i64 (firstG fs 0 es).2.1), .v (.int .i64 (firstG fs 0 es).2.2)]) := by
  have hcf := fcheckF_ac hF
  have hfl := hF.len
  clear hF
  refine AC_walk ⟨TB, 49, 0, [], []⟩ (fn := Tryz.f24) TB_ok Tryz.func24 rfl rfl rfl rfl rfl (fun _ => rfl) (fun _ => rfl) ?_; intro E hna hX
  refine goT ?_
  refine ⟨_, hch, by kernel_rfl, fun _ => rfl, ?_⟩
  refine goT ?_
  refine ⟨_, hcf, by kernel_rfl, fun _ => rfl, ?_⟩
  refine goT ?_
  refine W_loop (fun k : Nat => k ≤ es.length ∧ firstG fs 0 es = firstG fs k (es.drop k)) (fun k => es.length - k) (fun k => ⟨[(1, .row 2 (fs.map encF)), (4, .ptr 0 0), (24, .row 11 (es.map encE)), (25, .v (.int .i64 es.length)), (26, .v (.int .i64 k))], [.cells 60 (encF noF)]⟩) 0 ⟨Nat.zero_le _, rfl⟩ (Drops.to [1, 4, 24, 25, 26] rfl) ?_
  rintro k ⟨hk, he⟩
  refine goT ?_
  refine condB_intro (fun h1 => ?_) (fun h1 => ?_)
  · have e1 : (k : Int) < (es.length : Int) := of_decide_eq_true h1
    obtain ⟨x, hx⟩ := get_lt (l := es) (k := k) (by omega)
    rw [drop_at hx, firstG] at he
    have hfi := findex_ac fs x.path (by omega)
    have hany : decide (findF (pathIs x.path) fs 0 ≥ 0) = fs.any (pathIs x.path) := findF_any
    by_cases h2 : findF (pathIs x.path) fs 0 < 0
    · have hh : hasF fs x = false := by
        unfold hasF
        rw [← hany, decide_eq_false (show ¬ findF (pathIs x.path) fs 0 ≥ 0 by omega), Bool.and_false]
      rw [if_neg (by rw [hh]; decide)] at he
      generalize findF (pathIs x.path) fs 0 = z at hfi h2
      clear hany hh
      refine goT ?_
      refine ⟨_, hfi, by kernel_rfl, fun _ => rfl, ?_⟩
      refine goT ?_
      exact LoopEnd_fin (k + 1) [1, 4, 24, 25, 26] 1 hX ⟨by omega, he⟩ (by omega) rfl rfl rfl rfl ⟨rfl, trivial⟩
    · obtain ⟨j, y, f1, f2, f3, f4⟩ := findF_some h2
      have f1 : findF (pathIs x.path) fs 0 = (j : Int) := by rw [f1]; omega
      rw [f1] at hfi
      by_cases h3 : x.kind = 1
      · have hh : hasF fs x = true := by
          unfold hasF
          rw [← hany, decide_eq_true h3, decide_eq_true (by omega)]; rfl
        rw [if_pos hh, f3] at he
        clear hany hh f1 h2
        refine goT ?_
        refine ⟨_, hfi, by kernel_rfl, fun _ => rfl, ?_⟩
        refine goT ?_
        rw [he]
        rfl
      · have hh : hasF fs x = false := by
          unfold hasF
          rw [decide_eq_false h3, Bool.false_and]
        rw [if_neg (by rw [hh]; decide)] at he
        clear hany hh f1 h2
        refine goT ?_
        refine ⟨_, hfi, by kernel_rfl, fun _ => rfl, ?_⟩
        refine goT ?_
        exact LoopEnd_fin (k + 1) [1, 4, 24, 25, 26] 1 hX ⟨by omega, he⟩ (by omega) rfl rfl rfl rfl ⟨rfl, trivial⟩
  · have e1 : ¬ (k : Int) < (es.length : Int) := of_decide_eq_false h1
    obtain rfl : k = es.length := by omega
    refine goT ?_
    rw [he, List.drop_length]
    rfl
/-! ### creelkeep.faultsOf, walked: faults of a tree's paths. -/
def pickP (a : List NodeT) (n : Int) : ByteArray := ((a[(pickF n a.length).toNat]?).map (·.path)).getD ⟨#[]⟩
def faultsG (a : List NodeT) : Nat → List Int → List FaultT → List FaultT
  | _, [], out => out
  | i, n :: l, out => if a.length = 0 ∨ 5 ≤ i then out else faultsG a (i + 1) l (if out.any (pathIs (pickP a n)) = true then out else out ++ [⟨pickP a n, 1 + i⟩])
theorem pick_at {a : List NodeT} (h : a.length ≠ 0) (n : Int) : ∃ x, a[(pickF n a.length).toNat]? = some x ∧ pickP a n = x.path ∧ 0 ≤ pickF n a.length ∧ pickF n a.length < a.length := by
  have hp := pick_lt (n := n) (m := a.length) (by omega)
  obtain ⟨x, hx⟩ := get_lt (l := a) (k := (pickF n a.length).toNat) (by omega)
  exact ⟨x, hx, by unfold pickP; rw [hx]; rfl, hp.1, hp.2⟩
structure FInv (a : List NodeT) (i : Nat) (out : List FaultT) : Prop where
  good : ∀ x ∈ out, pathChk x.path = 0 ∧ 1 ≤ x.code
  new : (out.map (·.path)).Nodup
  len : out.length ≤ i ∧ out.length ≤ 5
theorem FInv.ok {a : List NodeT} {i : Nat} {out : List FaultT} (h : FInv a i out) : FaultsOk out := ⟨h.good, h.new, by have := h.len; omega⟩
theorem FInv.step {a : List NodeT} (hT : TreeOk a) {i : Nat} {out : List FaultT} (h : FInv a i out) (hi : i < 5) {x : NodeT} (hx : x ∈ a) : FInv a (i + 1) (if out.any (pathIs x.path) = true then out else out ++ [⟨x.path, 1 + i⟩]) := by
  by_cases hp : out.any (pathIs x.path) = true
  · rw [if_pos hp]
    exact ⟨h.good, h.new, by have := h.len; omega⟩
  · rw [if_neg hp]
    refine ⟨fun y hy => ?_, ?_, by have := h.len; rw [List.length_append]; show out.length + 1 ≤ i + 1 ∧ out.length + 1 ≤ 5; omega⟩
    · rcases List.mem_append.1 hy with hy | hy
      · exact h.good y hy
      · rw [List.mem_singleton] at hy
        subst hy
        exact ⟨(hT.node x hx).path, by show (1 : Int) ≤ 1 + i; omega⟩
    · rw [List.map_append, List.nodup_append]
      refine ⟨h.new, by simp, fun b hb c hc e => hp ?_⟩
      rw [List.map_singleton, List.mem_singleton] at hc
      subst hc
      obtain ⟨y, hy, rfl⟩ := List.mem_map.1 hb
      exact List.any_eq_true.2 ⟨y, hy, decide_eq_true e⟩
theorem faultsG_ok {a : List NodeT} (hT : TreeOk a) : ∀ (l : List Int) (i : Nat) (out : List FaultT), FInv a i out → FaultsOk (faultsG a i l out)
  | [], i, out, h => h.ok
  | n :: l, i, out, h => by
    rw [faultsG]
    by_cases hc : a.length = 0 ∨ 5 ≤ i
    · rw [if_pos hc]; exact h.ok
    · rw [if_neg hc]
      obtain ⟨x, h1, h2, _, _⟩ := pick_at (a := a) (by omega) n
      rw [h2]
      exact faultsG_ok hT l (i + 1) _ (h.step hT (by omega) (List.mem_of_getElem? h1))
theorem finv_nil (a : List NodeT) : FInv a 0 [] := ⟨fun x hx => (by cases hx), List.nodup_nil, by simp⟩
theorem faultsOf1_ac (x : FaultT) (s : ByteArray) : AC CX 52 [.agg (encF x), .eptr [.v (.string s)]] (.v (.bool (pathIs s x))) := by
  refine AC_walk ⟨TB, 8, 0, [], []⟩ (fn := Tryz.f52) TB_ok Tryz.func52 rfl rfl rfl rfl rfl (fun _ => rfl) (fun _ => rfl) ?_; intro E hna hX
  refine goT ?_
  rfl
theorem faultsOf_ac {a : List NodeT} (hT : TreeOk a) (ha : a.length ≤ 40) (m : List Int) (hm : m.length ≤ 100000000) (hgm : ∀ x ∈ m, isI x) : AC CX 23 [.row 12 (a.map encNode), .row 1 (m.map encI)] (.row 2 ((faultsG a 0 m []).map encF)) := by
  refine AC_walk ⟨TB, 44, 0, [], []⟩ (fn := Tryz.f23) TB_ok Tryz.func23 rfl rfl rfl rfl rfl (fun _ => rfl) (fun _ => rfl) ?_; intro E hna hX
  repeat (first | ((with_reducible show W _ _ _ _ _ _); first | refine W_seq ?_ | refine W_region hX ?_ | refine W_cond ?_ | refine W_skip ?_ | refine W_exit ?_ | refine W_ret ?_) | ((fail_if_success (with_reducible show W _ _ _ _ _ _)); show W _ _ _ _ _ _) | refine andA ?_ | refine condT ?_ | refine condF ?_ | refine exB ?_ | refine exL ?_ | refine Exists.intro _ (And.intro rfl ?_) | refine Exists.intro _ (And.intro (get_mapN (by assumption)) ?_) | ((fail_if_success (with_reducible show LoopEnd _ _ _ _ _ _ _)); show LoopEnd _ _ _ _ _ _ _) | ((fail_if_success (with_reducible show JoinEnd _ _ _ _ _)); show JoinEnd _ _ _ _ _) | ((fail_if_success (with_reducible show JoinG _ _ _ _ _)); show JoinG _ _ _ _ _))
  refine W_nilOwn hX 5 60 2 rfl rfl ?_
  refine goT ?_
  refine W_loop (γ := Nat × List FaultT) (fun g => g.1 ≤ m.length ∧ FInv a g.1 g.2 ∧ faultsG a 0 m [] = faultsG a g.1 (m.drop g.1) g.2) (fun g => m.length - g.1) (fun g => ⟨[(0, .row 12 (a.map encNode)), (5, .own 0 2 0 g.2.length), (9, .row 1 (m.map encI)), (10, .v (.int .i64 m.length)), (11, .v (.int .i64 g.1))], [.row 60 2 (g.2.map encF)]⟩) (0, []) ⟨Nat.zero_le _, finv_nil a, rfl⟩ (Drops.to [0, 5, 9, 10, 11] rfl) ?_
  rintro ⟨k, out⟩ ⟨hk, hI, he⟩
  dsimp only at hk hI he ⊢
  have hlen := hI.len
  refine goT ?_
  refine condB_intro (fun h1 => ?_) (fun h1 => ?_)
  · have e1 : (k : Int) < (m.length : Int) := of_decide_eq_true h1
    obtain ⟨n, hn⟩ := get_lt (l := m) (k := k) (by omega)
    rw [drop_at hn, faultsG] at he
    by_cases h2 : a.length = 0
    · rw [if_pos (.inl h2)] at he
      repeat (first | ((with_reducible show W _ _ _ _ _ _); first | refine W_seq ?_ | refine W_block ?_ | refine W_regionB hX 10 rfl ?_ | refine W_cond ?_ | refine W_skip ?_ | refine W_exit ?_ | refine W_ret ?_) | ((fail_if_success (with_reducible show W _ _ _ _ _ _)); show W _ _ _ _ _ _) | refine andA ?_ | refine condT ?_ | refine condF ?_ | refine exB ?_ | refine exL ?_ | refine Exists.intro _ (And.intro rfl ?_) | refine Exists.intro _ (And.intro (get_mapN (by assumption)) ?_) | ((fail_if_success (with_reducible show LoopEnd _ _ _ _ _ _ _)); show LoopEnd _ _ _ _ _ _ _) | ((fail_if_success (with_reducible show JoinEnd _ _ _ _ _)); show JoinEnd _ _ _ _ _) | ((fail_if_success (with_reducible show JoinG _ _ _ _ _)); show JoinG _ _ _ _ _))
      refine W_freeze hna 0 [5] rfl (fun t ht => by simp at ht; subst ht; rfl) (List.length_map _) (cF _) True.intro rfl ?_
      refine goT ?_
      rw [he]
      rfl
    by_cases h3 : 5 ≤ k
    · rw [if_pos (.inr h3)] at he
      repeat (first | ((with_reducible show W _ _ _ _ _ _); first | refine W_seq ?_ | refine W_block ?_ | refine W_regionB hX 10 rfl ?_ | refine W_cond ?_ | refine W_skip ?_ | refine W_exit ?_ | refine W_ret ?_) | ((fail_if_success (with_reducible show W _ _ _ _ _ _)); show W _ _ _ _ _ _) | refine andA ?_ | refine condT ?_ | refine condF ?_ | refine exB ?_ | refine exL ?_ | refine Exists.intro _ (And.intro rfl ?_) | refine Exists.intro _ (And.intro (get_mapN (by assumption)) ?_) | ((fail_if_success (with_reducible show LoopEnd _ _ _ _ _ _ _)); show LoopEnd _ _ _ _ _ _ _) | ((fail_if_success (with_reducible show JoinEnd _ _ _ _ _)); show JoinEnd _ _ _ _ _) | ((fail_if_success (with_reducible show JoinG _ _ _ _ _)); show JoinG _ _ _ _ _))
      refine W_freeze hna 0 [5] rfl (fun t ht => by simp at ht; subst ht; rfl) (List.length_map _) (cF _) True.intro rfl ?_
      refine goT ?_
      rw [he]
      rfl
    rw [if_neg (by omega)] at he
    obtain ⟨x, g1, g2, g3, g4⟩ := pick_at (a := a) h2 n
    rw [g2] at he
    have hst := hI.step hT (by omega) (List.mem_of_getElem? g1)
    have hpk := picked_ac n a.length (hgm n (List.mem_of_getElem? hn)) (by omega)
    obtain ⟨j, hj⟩ : ∃ j : Nat, pickF n a.length = (j : Int) := ⟨_, (Int.toNat_of_nonneg g3).symm⟩
    rw [hj] at hpk g4
    rw [hj, Int.toNat_natCast] at g1
    have hcn := containsF_ac out 52 [.v (.string x.path)] (pathIs x.path) (by omega) (by kernel_rfl) (fun z _ => faultsOf1_ac z x.path)
    by_cases h4 : out.any (pathIs x.path) = true
    · rw [if_pos h4] at he hst
      rw [h4] at hcn
      refine goT ?_
      refine ⟨_, hpk, by kernel_rfl, fun _ => rfl, ?_⟩
      refine goT ?_
      refine .inl ⟨_, hcn, by kernel_rfl, ⟨⟨⟨List.length_map _, cF _⟩, ⟨True.intro, True.intro⟩, True.intro⟩, True.intro⟩, ?_⟩
      refine goT ?_
      exact LoopEnd_fin (k + 1, out) [0, 5, 9, 10, 11] 1 hX ⟨by show k + 1 ≤ _; omega, hst, he⟩ (by show m.length - (k + 1) < m.length - k; omega) rfl rfl rfl rfl ⟨cF _, trivial⟩
    · rw [if_neg h4] at he hst
      rw [Bool.eq_false_iff.2 h4] at hcn
      refine goT ?_
      refine ⟨_, hpk, by kernel_rfl, fun _ => rfl, ?_⟩
      refine goT ?_
      refine .inl ⟨_, hcn, by kernel_rfl, ⟨⟨⟨List.length_map _, cF _⟩, ⟨True.intro, True.intro⟩, True.intro⟩, True.intro⟩, ?_⟩
      refine goT ?_
      refine ⟨out.length + 1, (out ++ [(⟨x.path, 1 + k⟩ : FaultT)]).map encF, rfl, by rw [List.map_append]; rfl, ?_⟩
      refine goT ?_
      exact LoopEnd_fin (k + 1, out ++ [⟨x.path, 1 + k⟩]) [0, 5, 9, 10, 11] 1 hX ⟨by show k + 1 ≤ _; omega, hst, he⟩ (by show m.length - (k + 1) < m.length - k; omega) rfl (by simp only [List.length_append, List.length_singleton]; rfl) rfl rfl ⟨cF _, trivial⟩
  · have e1 : ¬ (k : Int) < (m.length : Int) := of_decide_eq_false h1
    obtain rfl : k = m.length := by omega
    rw [List.drop_length, faultsG] at he
    repeat (first | ((with_reducible show W _ _ _ _ _ _); first | refine W_seq ?_ | refine W_block ?_ | refine W_regionB hX 10 rfl ?_ | refine W_cond ?_ | refine W_skip ?_ | refine W_exit ?_ | refine W_ret ?_) | ((fail_if_success (with_reducible show W _ _ _ _ _ _)); show W _ _ _ _ _ _) | refine andA ?_ | refine condT ?_ | refine condF ?_ | refine exB ?_ | refine exL ?_ | refine Exists.intro _ (And.intro rfl ?_) | refine Exists.intro _ (And.intro (get_mapN (by assumption)) ?_) | ((fail_if_success (with_reducible show LoopEnd _ _ _ _ _ _ _)); show LoopEnd _ _ _ _ _ _ _) | ((fail_if_success (with_reducible show JoinEnd _ _ _ _ _)); show JoinEnd _ _ _ _ _) | ((fail_if_success (with_reducible show JoinG _ _ _ _ _)); show JoinG _ _ _ _ _))
    refine W_freeze hna 0 [5] rfl (fun t ht => by simp at ht; subst ht; rfl) (List.length_map _) (cF _) True.intro rfl ?_
    refine goT ?_
    rw [he]
    rfl
/-! ### The members of a tree, and who of them has a fault -/
theorem entriesOf_ac (l : List RawT) (hl : l.length ≤ 100000000) (hg : ∀ r ∈ l, RawGood r) : AC CX 22 [.row 4 (l.map encRaw), .v (.int .i64 20)] (.tup [.row 11 ((entsL (treeF l 20)).map encE), .v (.bool true)]) := by
  obtain ⟨hT, hn⟩ := tree_ok (most := 20) hg (by decide)
  have hta := tree_ac l 20 hl hg
  generalize treeF l 20 = a at hT hn hta
  have hmk := make0_ac hT (by omega)
  generalize entsL a = es at hmk
  obtain ⟨sm, u, hul, hsm, hsr⟩ := psmall_ex
  refine AC_walk ⟨TB, 34, 0, [], []⟩ (fn := Tryz.f22) TB_ok Tryz.func22 rfl rfl rfl rfl rfl (fun _ => rfl) (fun _ => rfl) ?_; intro E hna hX
  refine goT ?_
  refine ⟨_, hta, by kernel_rfl, fun _ => rfl, ?_⟩
  refine goT ?_
  refine ⟨_, hmk, by kernel_rfl, fun _ => rfl, ?_⟩
  refine goT ?_
  refine ⟨_, hsm, by kernel_rfl, fun _ => rfl, ?_⟩
  refine goT ?_
  refine ⟨_, hsr, by kernel_rfl, fun _ => rfl, ?_⟩
  refine goT ?_
  have hd : decide ((u.length : Int) = 3) = true := decide_eq_true (by omega)
  rw [hd]
  rfl
theorem has1_ac (z : FaultT) (x : EntT) : AC CX 27 [.agg (encF z), .eptr (encE x)] (.v (.bool (pathIs x.path z))) := by
  refine AC_walk ⟨TB, 9, 0, [], []⟩ (fn := Tryz.f27) TB_ok Tryz.func27 rfl rfl rfl rfl rfl (fun _ => rfl) (fun _ => rfl) ?_; intro E hna hX
  refine goT ?_
  rfl
theorem has_ac {fs : List FaultT} (hl : fs.length ≤ 1000000) (x : EntT) : AC CX 25 [.agg (encE x), .eptr [.row 2 (fs.map encF)]] (.v (.bool (hasF fs x))) := by
  have hcn := containsF_ac fs 27 (encE x) (pathIs x.path) (by omega) (by kernel_rfl) (fun z _ => has1_ac z x)
  have hh : hasF fs x = (decide (x.kind = 1) && fs.any (pathIs x.path)) := rfl
  generalize hasF fs x = q at hh
  generalize fs.any (pathIs x.path) = b at hh hcn
  by_cases h1 : x.kind = 1
  · rw [decide_eq_true h1, Bool.true_and] at hh
    rw [hh]
    clear hh
    refine AC_walk ⟨TB, 12, 0, [], []⟩ (fn := Tryz.f25) TB_ok Tryz.func25 rfl rfl rfl rfl rfl (fun _ => rfl) (fun _ => rfl) ?_; intro E hna hX
    refine goT ?_
    refine .inl ⟨_, hcn, by kernel_rfl, ⟨⟨True.intro, ⟨True.intro, True.intro⟩, True.intro⟩, True.intro⟩, ?_⟩
    refine goT ?_
    rfl
  · rw [decide_eq_false h1, Bool.false_and] at hh
    rw [hh]
    clear hh
    refine AC_walk ⟨TB, 12, 0, [], []⟩ (fn := Tryz.f25) TB_ok Tryz.func25 rfl rfl rfl rfl rfl (fun _ => rfl) (fun _ => rfl) ?_; intro E hna hX
    refine goT ?_
    rfl
end Go.Proofs.YtdhikkdkjmeiiaaGreatDoor.Abs
