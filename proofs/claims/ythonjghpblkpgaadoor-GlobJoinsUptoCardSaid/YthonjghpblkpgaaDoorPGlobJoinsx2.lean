-- Written by a program of this session for this claim (wip/myprint.py over the kit's print).
import Derived.Test.YthonjghpblkpgaaDoorPGlobJoinsx0
import Derived.Test.YthonjghpblkpgaaDoorPGlobJoinsx1
namespace Go.Proofs.YthonjghpblkpgaaDoor.PGlobJoins
open Go.RowKit Go.Proofs.YthonjghpblkpgaaDoorW.PrintWords Go.Proofs.YthonjghpblkpgaaDoorW.PrintLast Go.Proofs.YthonjghpblkpgaaDoorW.PrintMore
attribute [local go_sem] max2_int min2_int max_two min_two max_three min_three max_four min_four   -- for this text's walks alone
set_option linter.unusedVariables false
set_option linter.unusedSimpArgs false

/-! ### creelkeep_Tree: function 68 -/
-- info 9
theorem cmp1_spec (a b : ByteArray) : cmp_Compare_string.f a b = some (lexC cU a.data.toList b.data.toList) := by
  unfold cmp_Compare_string.f cmp_isNaN_string.f
  simp only [Option.bind_some, bne_self_eq_false, Bool.false_eq_true, if_false, less_lex, ByteArray.toList_eq, decide_eq_true_eq]
  have T := lex_tot cU_tot
  have h1 := T.neg a.data.toList b.data.toList
  have h2 := T.rng a.data.toList b.data.toList
  generalize lexC cU a.data.toList b.data.toList = x at h1 h2 ⊢
  rw [h1]
  rcases h2 with h2 | h2 | h2 <;> subst h2 <;> decide
theorem cmps1_loop (a b : List ByteArray) (ha : a.length ≤ 9223372036854775806) : ∀ (k i : Nat), i ≤ a.length → i ≤ b.length → a.length - i < k →
    slices_Compare_string_string.l0 k a b a (a.length : Int) (i : Int) = some (lexC (lexC cU) ((a.map (·.data.toList)).drop i) ((b.map (·.data.toList)).drop i))
  | 0, i, _, _, h => absurd h (by omega)
  | k + 1, i, h1, h2, h3 => by
    rw [slices_Compare_string_string.l0]
    by_cases c : i < a.length
    · rw [if_pos (by omega), if_pos (by omega), if_pos (by omega)]
      have da : (a.map (·.data.toList)).drop i = (a.getD i ByteArray.empty).data.toList :: (a.map (·.data.toList)).drop (i + 1) := by
        rw [List.drop_eq_getElem_cons (by simpa using c)]
        simp [List.getD_eq_getElem?_getD, c]
      by_cases d : i < b.length
      · have db : (b.map (·.data.toList)).drop i = (b.getD i ByteArray.empty).data.toList :: (b.map (·.data.toList)).drop (i + 1) := by
          rw [List.drop_eq_getElem_cons (by simpa using d)]
          simp [List.getD_eq_getElem?_getD, d]
        rw [if_neg (by omega), if_pos (by omega), cmp1_spec, Option.bind_some, da, db, lexC]
        have e1 : rdOf ByteArray.empty a (i : Int) = a.getD i ByteArray.empty := by simp [rdOf]
        have e2 : rdOf ByteArray.empty b (i : Int) = b.getD i ByteArray.empty := by simp [rdOf]
        rw [e1, e2]
        by_cases z : lexC cU (a.getD i ByteArray.empty).data.toList (b.getD i ByteArray.empty).data.toList = 0
        · rw [if_pos z, if_pos z, w64 (by omega) (by omega)]
          exact cmps1_loop a b ha k (i + 1) (by omega) (by omega) (by omega)
        · rw [if_neg z, if_neg z]
      · rw [if_pos (by omega), da, List.drop_eq_nil_of_le («as» := b.map (·.data.toList)) (by simp; omega)]; rfl
    · rw [if_neg (by omega)]
      have i1 : i = a.length := by omega
      rw [List.drop_eq_nil_of_le («as» := a.map (·.data.toList)) (by simp; omega)]
      by_cases d : a.length < b.length
      · rw [if_pos (by omega), List.drop_eq_getElem_cons (l := b.map (·.data.toList)) (by simp; omega)]; rfl
      · rw [if_neg (by omega), List.drop_eq_nil_of_le («as» := b.map (·.data.toList)) (by simp; omega)]; rfl
/-- The order of paths by their parts. -/
def lessV (a b : ByteArray) : Int := lexC (lexC cU) (cutL 47 a.data.toList) (cutL 47 b.data.toList)
theorem lessV_tot : Tot lessV := by
  have T := lex_tot (lex_tot cU_tot)
  refine ⟨fun a b => T.neg _ _, fun a b => ?_, fun a b d => T.tr _ _ _, fun a b => T.rng _ _⟩
  unfold lessV
  rw [T.zero]
  constructor
  · intro h
    rw [is_mk a, is_mk b, cutL_inj 47 h]
  · intro h; rw [h]
theorem C_lit_strs (W : World) (e : Nat) (l : List ByteArray) (h : l.length ≤ 9223372036854775807) : Kd.C Kd.string (W.alloc (.cells (l.map Value.string).toArray e)) (some ⟨W.heap.size, 0, none⟩) l.length l := by
  have ho := own_lit_of (enc := Value.string) W W.heap.size e l (Nat.le_refl _) h
  exact (Kd.R_reads' (Kd.R_of_own (h1 := fun _ => rfl) (ok := fun _ => True) ho (fun _ _ => trivial))).2.2
set_option maxRecDepth 100000 in
open Go.Sort in
/-- 'less' as the sort asks it: draws, and blocks of its own. -/
theorem less_calls (a b : ByteArray) (ha : a.size < 4294967281) (hb : b.size < 4294967281) (W : World) (hG : G_ W) :
    Calls Tryd.prog 101 #[.string a, .string b] W fun e w' => e = .returned (.int .i64 (lessV a b)) ∧ ∃ q os', w' = grow (W.drewN q) os' := by
  obtain ⟨m, hm⟩ := hG.1
  have hlen : ∀ s : ByteArray, (Lib.splitB ⟨#[47]⟩ 0 (Lib.countB s ⟨#[47]⟩) s).length = Lib.countB s ⟨#[47]⟩ + 1 := fun s => Lib.splitB_all _ (by decide) 0 _ s rfl
  have hle : ∀ s : ByteArray, s.size < 4294967281 → Lib.countB s ⟨#[47]⟩ + 1 ≤ 4294967282 := fun s hs => by have := Lib.countB_le ⟨#[47]⟩ (by decide) s.size s (Nat.le_refl _); omega
  have h1 := Tryd.strings_Split a ⟨#[47]⟩ m W ha hm (by decide)
  have h2 := Tryd.strings_Split b ⟨#[47]⟩ m (W.alloc (.cells ((Lib.splitB ⟨#[47]⟩ 0 (Lib.countB a ⟨#[47]⟩) a).map Value.string).toArray 9)) hb (pw_cell_below (below_alloc (Below.refl _ _) _) hm) (by decide)
  have va : (Lib.splitB ⟨#[47]⟩ 0 (Lib.countB a ⟨#[47]⟩) a).map (·.data.toList) = cutL 47 a.data.toList := splitB_cut 47 a
  have vb : (Lib.splitB ⟨#[47]⟩ 0 (Lib.countB b ⟨#[47]⟩) b).map (·.data.toList) = cutL 47 b.data.toList := splitB_cut 47 b
  have la := hlen a
  have lb := hlen b
  have lla := hle a ha
  have llb := hle b hb
  generalize Lib.splitB ⟨#[47]⟩ 0 (Lib.countB a ⟨#[47]⟩) a = A at h1 h2 va la
  generalize Lib.splitB ⟨#[47]⟩ 0 (Lib.countB b ⟨#[47]⟩) b = B at h2 vb lb
  rw [← la] at h1 lla
  rw [← lb] at h2 llb
  have hr : slices_Compare_string_string.f (A.length + 1) A B = some (lessV a b) := by
    unfold slices_Compare_string_string.f lessV
    have := cmps1_loop A B (by omega) (A.length + 1) 0 (by omega) (by omega) (by omega)
    rw [show ((0 : Nat) : Int) = 0 from rfl] at this
    rw [this, ← va, ← vb]
    rfl
  have h3 := slices_Compare_string_string.calls (A.length + 1) (some ⟨W.heap.size, 0, none⟩) A.length A (some ⟨(W.alloc (.cells (A.map Value.string).toArray 9)).heap.size, 0, none⟩) B.length B (lessV a b)
    ((W.alloc (.cells (A.map Value.string).toArray 9)).alloc (.cells (B.map Value.string).toArray 9)) (Kd.C_alloc (C_lit_strs W 9 A (by omega)) _) (Nat.le_refl _) (C_lit_strs _ 9 B (by omega)) (Nat.le_refl _) hr
  have es : (W.alloc (.cells (A.map Value.string).toArray 9)).heap.size = W.heap.size + 1 := by simp
  rw [es] at h2 h3
  clear es
  have H1 := Aside0.mk h1
  have H2 := Aside0.mk h2
  have H3 := Aside0.mk h3
  clear h1 h2 h3 va vb la lb lla llb hr hlen hle hm hG ha hb
  generalize lessV a b = r at H3 ⊢
  go_enter Tryd.func101, Tryd.ntmps101
  go_wp2_with fail
  refine H1.out.mono ?_
  rintro e w' ⟨rfl, rfl⟩
  go_wp2_with fail
  refine H2.out.mono ?_
  rintro e w' ⟨rfl, rfl⟩
  go_wp2_with fail
  refine H3.out.mono ?_
  rintro e w' ⟨rfl, ⟨n, rfl⟩⟩
  go_wp2
  go_ret
  exact ⟨rfl, n, _, by rw [alloc_eq_grow, alloc_eq_grow, grow_grow]; rfl⟩
/-- A node in a row, with the slice that its bytes are, its path not too long. -/
structure SN where
  n : S116
  A : Option Addr
  len : Nat
  cap : Nat
  hs : n.f0.size ≤ 400
instance sn_inh : Inhabited SN := ⟨⟨z116, none, 0, 0, by decide⟩⟩
def encN (x : SN) : List Value := [.string x.n.f0, .int .i64 x.n.f1, .int .i64 x.n.f2, .string x.n.f3, .int .i64 x.n.f4.f0, .int .i64 x.n.f4.f1, .int .i64 x.n.f4.f2, .string x.n.f4.f3, .string x.n.f4.f4, .int .i64 x.n.f4.f5, .int .i64 x.n.f4.f6, .slice x.A x.len x.cap]
open Go.Sort in
set_option maxRecDepth 100000 in
theorem tree2_calls (x y : SN) (W : World) (hG : G_ W) :
    Calls Tryd.prog 100 #[.agg (encN x).toArray, .agg (encN y).toArray] W fun e w' => e = .returned (.int .i64 (lessV x.n.f0 y.n.f0)) ∧ ∃ q os', w' = grow (W.drewN q) os' := by
  have h1 := less_calls x.n.f0 y.n.f0 (by have := x.hs; omega) (by have := y.hs; omega) ((W.alloc (.cells (encN x).toArray 116)).alloc (.cells (encN y).toArray 116)) (G_below hG (below_alloc (below_alloc (Below.refl _ _) _) _))
  unfold encN at h1 ⊢
  have H1 := Aside0.mk h1
  clear h1
  generalize lessV x.n.f0 y.n.f0 = r at H1 ⊢
  go_enter Tryd.func100, Tryd.ntmps100
  go_wp2_with fail
  refine H1.out.mono ?_
  rintro e w' ⟨rfl, q, os, rfl⟩
  go_wp2
  go_ret
  exact ⟨rfl, q, _, by rw [alloc_eq_grow, alloc_eq_grow, grow_grow]; show grow ((grow W _).drewN q) os = _; rw [show (grow W _).drewN q = grow (W.drewN q) _ from rfl, grow_grow]⟩
open Go.Sort in
theorem tree2_lays (blk off size : Nat) (w : World) (hG : ∀ m os dk, G_ (sortWorldK encN 12 w blk off m dk os)) : CmpLays Tryd.prog 100 #[] encN 12 (fun x y => lessV x.n.f0 y.n.f0) blk off size w :=
  fun m os dk _ x y => tree2_calls x y _ (hG m os dk)
theorem flat_enc (d : List SN) : (Go.Sort.flatK encN 12 d.toArray).toList = (d.map encN).flatten := by
  have hl : ∀ l : List SN, (l.map encN).flatten.length = l.length * 12 := by
    intro l
    induction l with
    | nil => rfl
    | cons x l ih => simp only [List.map_cons, List.flatten_cons, List.length_append, ih]; show 12 + _ = (l.length + 1) * 12; omega
  have hget : ∀ (l : List SN) (t : Nat), t < l.length * 12 → (l.map encN).flatten[t]! = (encN l.toArray[t / 12]!)[t % 12]! := by
    intro l
    induction l with
    | nil => intro t ht; simp at ht
    | cons x l ih =>
      intro t ht
      simp only [List.map_cons, List.flatten_cons]
      have h12 : (encN x).length = 12 := rfl
      by_cases h : t < 12
      · rw [show t / 12 = 0 by omega, show t % 12 = t by omega]
        simp only [List.getElem!_eq_getElem?_getD, List.getElem?_append_left (show t < (encN x).length by omega)]
        rfl
      · have h1 : t / 12 = (t - 12) / 12 + 1 := by omega
        have h2 : t % 12 = (t - 12) % 12 := by omega
        have := ih (t - 12) (by simp at ht; omega)
        rw [h1, h2]
        simp only [List.getElem!_eq_getElem?_getD, List.getElem?_append_right (show (encN x).length ≤ t by omega), h12] at this ⊢
        rw [this]
        have e : l.toArray[(t - 12) / 12]! = (x :: l).toArray[(t - 12) / 12 + 1]! := by
          simp [List.getElem!_eq_getElem?_getD]
        rw [e]
  apply List.ext_getElem
  · rw [Array.length_toList, Go.Sort.size_flatK, hl]; simp
  · intro t h1 h2
    have h3 : t < d.toArray.size * 12 := by rw [Array.length_toList, Go.Sort.size_flatK] at h1; exact h1
    have e1 := Go.Sort.get_flatK encN 12 d.toArray t h3
    have e2 := hget d t (by simpa using h3)
    rw [getElem!_pos _ t (by rw [Go.Sort.size_flatK]; exact h3)] at e1
    rw [getElem!_pos _ t h2] at e2
    rw [e2, ← e1]
    rfl
open Go.Sort in
theorem sort_world {W : World} {g : Nat} {cur : Array Value} (hb : W.heap[g]? = some (.cells cur 116 (0, 0))) (d : List SN) (hsz : d.length * 12 ≤ cur.size) (n : Nat) (os : Array Obj) :
    (∃ cur', (sortWorldK encN 12 W g 0 n d.toArray os).heap[g]? = some (.cells cur' 116 (0, 0)) ∧ cur'.size = cur.size ∧ cur'.toList.take (d.length * 12) = (d.map encN).flatten) ∧ W.grownBy (sortWorldK encN 12 W g 0 n d.toArray os) (some g) := by
  have hg : g < W.heap.size := (Array.getElem?_eq_some_iff.1 hb).1
  unfold sortWorldK putRowK putRow mapBlock grow
  refine ⟨⟨putCells id 0 (flatK encN 12 d.toArray) cur, ?_, by simp [putCells], ?_⟩, ⟨rfl, rfl, rfl, by simp [ahead], fun k hk hne => ?_⟩⟩
  · show ((W.heap.modify g _) ++ os)[g]? = _
    rw [Array.getElem?_append_left (by simpa using hg), Array.getElem?_modify, if_pos rfl, hb]
    rfl
  · have hfl : (flatK encN 12 d.toArray).size = d.length * 12 := by rw [size_flatK]; simp
    rw [← flat_enc d]
    apply List.ext_getElem
    · simp [putCells, hfl]; omega
    · intro t h1 h2
      have h3 : t < d.length * 12 := by rw [Array.length_toList, hfl] at h2; exact h2
      have h4 : t < (flatK encN 12 d.toArray).size := by omega
      have h5 : (flatK encN 12 d.toArray)[t]! = (flatK encN 12 d.toArray)[t] := getElem!_pos _ t h4
      simp [putCells, h3, hfl, h5]
  · have hne' : g ≠ k := fun e => hne (by rw [e])
    show ((W.heap.modify g _) ++ os)[k]? = _
    rw [Array.getElem?_append_left (by simpa using hk), Array.getElem?_modify, if_neg hne']
open Go.Sort in
theorem ltN (x y : SN) : ltOf (fun x y : SN => lessV x.n.f0 y.n.f0) x y = decide (lessV x.n.f0 y.n.f0 < 0) := rfl
open Go.Sort in
theorem lessN_swo : SWO (ltOf fun x y : SN => lessV x.n.f0 y.n.f0) := by
  have T := lessV_tot
  refine ⟨fun x => ?_, fun x y z h1 h2 => ?_, fun x y z h1 h2 => ?_⟩
  · rw [ltN, (T.zero _ _).2 rfl]; rfl
  · rw [ltN] at *
    have h1 := of_decide_eq_true h1
    have h2 := of_decide_eq_true h2
    have h3 := T.tr _ _ _ (by omega : lessV x.n.f0 y.n.f0 ≤ 0) (by omega : lessV y.n.f0 z.n.f0 ≤ 0)
    refine decide_eq_true ?_
    by_cases e : lessV x.n.f0 z.n.f0 = 0
    · have := (T.zero _ _).1 e
      rw [this] at h1
      have := T.neg y.n.f0 z.n.f0
      omega
    · omega
  · rw [ltN] at *
    have h1 := of_decide_eq_false h1
    have h2 := of_decide_eq_false h2
    have n1 := T.neg x.n.f0 y.n.f0
    have n2 := T.neg y.n.f0 z.n.f0
    have n3 := T.neg x.n.f0 z.n.f0
    have h3 := T.tr z.n.f0 y.n.f0 x.n.f0 (by omega) (by omega)
    refine decide_eq_false ?_
    omega
/-- The closure that asks for a path. -/
theorem tree11_pred (s : ByteArray) (B : Nat) (w : World) (hB : B < w.heap.size) (hcell : w.cell? ⟨B, 0, none⟩ = some (.string s)) :
    PredBelow Tryd.prog 98 #[.pointer (some ⟨B, 0, none⟩)] (fun x : SN => .agg (encN x).toArray) (fun x => x.n.f0.toList == s.toList) w := fun W x hb => by
  have hc : W.cell? ⟨B, 0, none⟩ = some (.string s) := (hb.cell (p := ⟨B, 0, none⟩) hB).trans hcell
  have hBW : B < W.heap.size := Nat.lt_of_lt_of_le hB hb.size
  have hne : B ≠ W.heap.size := by omega
  have hb2 : Below w.heap.size w (W.alloc (.cells (encN x).toArray 116)) := hb.alloc hb.size _
  have HB2 := Aside0.mk hb2
  clear hb2 hb hcell hB
  unfold encN at *
  show Calls Tryd.prog 98 #[.agg #[.string x.n.f0, .int .i64 x.n.f1, .int .i64 x.n.f2, .string x.n.f3, .int .i64 x.n.f4.f0, .int .i64 x.n.f4.f1, .int .i64 x.n.f4.f2, .string x.n.f4.f3, .string x.n.f4.f4, .int .i64 x.n.f4.f5, .int .i64 x.n.f4.f6, .slice x.A x.len x.cap], .pointer (some ⟨B, 0, none⟩)] W _
  go_enter Tryd.func98, Tryd.ntmps98
  go_wp2
  go_ret
  exact ⟨rfl, HB2.out⟩
theorem index_none (fv : Value) (W : World) : Calls Tryd.prog 97 #[.slice none 0 0, fv] W fun e w' => e = .returned (.int .i64 (-1)) ∧ W = w' := by
  go_enter Tryd.func97, Tryd.ntmps97
  go_wp2
  go_loop [5, 8] (fun _ i => i = .int .i64 0) (fun _ _ => 0)
  case atStart => rfl
  case round =>
    obtain rfl := hrel
    go_wp2
    go_ret
    exact ⟨rfl, rfl⟩
theorem add_block (a : Addr) (n : Nat) : (a.add n).block = a.block := by unfold Addr.add; split <;> rfl
theorem cell_same {w w1 : World} {a : Addr} (h : w1.heap[a.block]? = w.heap[a.block]?) : w1.cell? a = w.cell? a := by
  unfold World.cell?; rw [h]
/-- What the bytes of a node are: read out of a block of bytes, however that is marked. -/
structure NodeOk (w : World) (base : Nat) (x : SN) : Prop where
  len : x.len = x.n.f5.length
  le : x.len ≤ x.cap
  rd : (Kd.int .u8).C w x.A x.len x.n.f5
  blk : ∀ p, x.A = some p → base ≤ p.block ∧ ∃ cur fr, w.heap[p.block]? = some (.cells cur 5 fr)
def NR (w : World) (base : Nat) (v : Value) (d : List SN) : Prop := w.ownsRow base 116 12 v d.length (d.map encN).flatten ∧ ∀ x ∈ d, NodeOk w base x
theorem C_same {w w1 : World} {A : Option Addr} {n : Nat} {xs : List Int} (h : (Kd.int .u8).C w A n xs) (hm : ∀ p, A = some p → w1.heap[p.block]? = w.heap[p.block]?) : (Kd.int .u8).C w1 A n xs := by
  obtain ⟨h1, h2, h3⟩ := h
  refine ⟨h1, h2, fun hn => ?_⟩
  obtain ⟨ad, rfl, h4⟩ := h3 hn
  refine ⟨ad, rfl, fun j p hp => ?_⟩
  obtain ⟨c, a1, a2, a3⟩ := h4 j p hp
  exact ⟨c, a1, a2, fun i u hu => (cell_same (by rw [add_block]; exact hm ad rfl)).trans (a3 i u hu)⟩
theorem NodeOk.step {w w1 : World} {base : Nat} {x : SN} (h : NodeOk w base x) (hm : ∀ k cur fr, base ≤ k → w.heap[k]? = some (.cells cur 5 fr) → w1.heap[k]? = w.heap[k]?) : NodeOk w1 base x := by
  have hb : ∀ p, x.A = some p → w1.heap[p.block]? = w.heap[p.block]? := fun p hp => by
    obtain ⟨h1, cur, fr, h2⟩ := h.blk p hp
    exact hm _ cur fr h1 h2
  exact ⟨h.len, h.le, C_same h.rd hb, fun p hp => by
    obtain ⟨h1, cur, fr, h2⟩ := h.blk p hp
    exact ⟨h1, cur, fr, (hb p hp).trans h2⟩⟩
theorem NR.step {w w1 : World} {base : Nat} {v : Value} {d : List SN} (h : NR w base v d) (hm : ∀ k cur t fr, base ≤ k → w.heap[k]? = some (.cells cur t fr) → (t = 116 ∨ t = 5) → w1.heap[k]? = w.heap[k]?) : NR w1 base v d := by
  obtain ⟨h1, h2⟩ := h
  refine ⟨?_, fun x hx => (h2 x hx).step fun k cur fr hk hb => hm k cur 5 fr hk hb (.inr rfl)⟩
  obtain ⟨a1, a2⟩ := h1
  refine ⟨a1, ?_⟩
  rcases a2 with a2 | ⟨g, cap, cur, e1, e2, e3, e4⟩
  · exact .inl a2
  · exact .inr ⟨g, cap, cur, e1, e2, (hm g cur 116 (0, 0) e2 e3 (.inl rfl)).trans e3, e4⟩
theorem NR.below {w w1 : World} {base : Nat} {v : Value} {d : List SN} (h : NR w base v d) (hb : Below w.heap.size w w1) : NR w1 base v d :=
  h.step fun k cur t fr _ hk _ => hb.block k (Array.getElem?_eq_some_iff.1 hk).1
/-- A block of another type turns. -/
theorem NR.turn {w w1 : World} {base : Nat} {v : Value} {d : List SN} (h : NR w base v d) {g : Nat} (ht : Turn g w w1) {cells : Array Value} {t : TypeId} {fz : Nat × Nat} (hb : w.heap[g]? = some (.cells cells t fz)) (h1 : t ≠ 116) (h2 : t ≠ 5) : NR w1 base v d :=
  h.step fun k cur t' fr _ hk ht' => ht.far k (fun e => by
    subst e
    rw [hb] at hk
    injection hk with hk
    injection hk with _ hk
    rcases ht' with e | e
    · exact h1 (hk.trans e)
    · exact h2 (hk.trans e))
theorem NR.lower {w : World} {base base' : Nat} {v : Value} {d : List SN} (h : NR w base v d) (hb : base' ≤ base) : NR w base' v d :=
  ⟨own_less h.1 hb, fun x hx => ⟨(h.2 x hx).len, (h.2 x hx).le, (h.2 x hx).rd, fun p hp => ⟨Nat.le_trans hb ((h.2 x hx).blk p hp).1, ((h.2 x hx).blk p hp).2⟩⟩⟩
theorem NR.nil (w : World) (base : Nat) : NR w base (.slice none 0 0) [] := ⟨⟨rfl, .inl ⟨rfl, rfl⟩⟩, fun x hx => by cases hx⟩
theorem NR.slice {w : World} {base : Nat} {v : Value} {d : List SN} (h : NR w base v d) : ∃ A c, v = .slice A d.length c ∧ d.length ≤ c ∧ (∀ p, A = some p → p = ⟨p.block, 0, none⟩ ∧ base ≤ p.block ∧ p.block < w.heap.size ∧ ∃ cur, w.heap[p.block]? = some (.cells cur 116 (0, 0))) := by
  rcases h.1.2 with ⟨rfl, h2⟩ | ⟨g, cap, cur, rfl, e2, e3, e4, e5, e6⟩
  · exact ⟨none, 0, by rw [h2], by omega, fun p hp => by cases hp⟩
  · exact ⟨_, _, rfl, e4, fun p hp => by
      injection hp with hp
      subst hp
      exact ⟨rfl, e2, (Array.getElem?_eq_some_iff.1 e3).1, cur, e3⟩⟩
theorem NodeOk.K {w : World} {base : Nat} {x : SN} (h : NodeOk w base x) : k116.K w x.n (encN x) := by
  have h1 := h.rd
  have h2 := h.le
  unfold encN
  rw [h.len] at h1 h2 ⊢
  exact k116_mk w x.n h2 h1
theorem flat_at : ∀ (d : List SN) (j : Nat) (x : SN), d[j]? = some x → ((d.map encN).flatten.drop (j * 12)).take 12 = encN x
  | [], j, x, h => by simp at h
  | y :: d, 0, x, h => by
    have : y = x := by simpa using h
    subst this
    have h12 : (encN y).length = 12 := rfl
    rw [Nat.zero_mul, List.drop_zero, List.map_cons, List.flatten_cons, ← h12, List.take_left]
  | y :: d, j + 1, x, h => by
    have h12 : (encN y).length = 12 := rfl
    rw [List.map_cons, List.flatten_cons, show (j + 1) * 12 = (encN y).length + j * 12 by rw [h12]; omega, ← List.drop_drop, List.drop_left]
    exact flat_at d j x (by simpa using h)
theorem flat_len : ∀ d : List SN, (d.map encN).flatten.length = d.length * 12
  | [] => rfl
  | y :: d => by
    have h12 : (encN y).length = 12 := rfl
    rw [List.map_cons, List.flatten_cons, List.length_append, flat_len d, h12, List.length_cons]; omega
/-- The cells of the element at j, out of the row's block. -/
theorem NR.at_ {w : World} {base g cap : Nat} {d : List SN} (h : NR w base (.slice (some ⟨g, 0, none⟩) d.length cap) d) : ∃ cur, w.heap[g]? = some (.cells cur 116 (0, 0)) ∧ base ≤ g ∧ d.length ≤ cap ∧ cap ≤ maxLen ∧ cur.size = cap * 12 ∧ cur.toList.take (d.length * 12) = (d.map encN).flatten ∧ ∀ j x, d[j]? = some x → (cur.toList.drop (j * 12)).take (encN x).length = encN x := by
  rcases h.1.2 with ⟨h2, _⟩ | ⟨g', cap', cur, e1, e2, e3, e4, e5, e6, e7⟩
  · cases h2
  · injection e1 with e1 _ e1'
    injection e1 with e1
    injection e1 with e1
    subst e1; subst e1'
    refine ⟨cur, e3, e2, e4, e5, e6, e7, fun j x hx => ?_⟩
    have hj : j < d.length := (List.getElem?_eq_some_iff.1 hx).1
    have := flat_at d j x hx
    rw [← e7] at this
    rw [List.drop_take, List.take_take] at this
    rw [show (encN x).length = 12 from rfl]
    rw [← this]
    congr 1
    omega
theorem NR.C {w : World} {base c : Nat} {A : Option Addr} {d : List SN} (h : NR w base (.slice A d.length c) d) : Kd.C k116 w A d.length (d.map (·.n)) := by
  have hmx : d.length ≤ 9223372036854775807 := by
    rcases h.1.2 with ⟨_, h2⟩ | ⟨g, cap, cur, e1, e2, e3, e4, e5, e6, e7⟩
    · omega
    · have : maxLen = 9223372036854775807 := rfl
      omega
  refine ⟨by simp, hmx, fun hn => ?_⟩
  rcases h.1.2 with ⟨_, h2⟩ | ⟨g, cap, cur, e1, e2, e3, e4, e5, e6, e7⟩
  · omega
  · injection e1 with e1 _ e1'
    subst e1; subst e1'
    obtain ⟨cur', a1, a2, a3, a4, a5, a6, a7⟩ := NR.at_ h
    refine ⟨_, rfl, fun j p hp => ?_⟩
    rw [List.getElem?_map] at hp
    obtain ⟨x, hx, rfl⟩ := Option.map_eq_some_iff.1 hp
    refine ⟨encN x, rfl, (h.2 x (List.mem_of_getElem? hx)).K, fun i u hu => ?_⟩
    have := a7 j x hx
    have hi : i < (encN x).length := (List.getElem?_eq_some_iff.1 hu).1
    rw [show (Addr.add ⟨g, 0, none⟩ (j * k116.sz + i)) = ⟨g, j * 12 + i, none⟩ from by show Addr.add ⟨g, 0, none⟩ (j * 12 + i) = _; unfold Addr.add; split <;> rename_i h0 <;> simp_all]
    rw [blk_cell a1]
    have h9 : ((cur'.toList.drop (j * 12)).take (encN x).length)[i]? = some u := by rw [this]; exact hu
    rw [List.getElem?_take, if_pos hi, List.getElem?_drop, Array.getElem?_toList] at h9
    exact h9

open Go.Sort in
set_option maxHeartbeats 1000000 in
theorem sort2 {w0 W : World} {base g cap : Nat} {d : List SN} (h : NR W base (.slice (some ⟨g, 0, none⟩) d.length cap) d) (hn : d.length < 4611686018427387904) (hG : G_ w0) (hB : Below w0.heap.size w0 W) (hg : w0.heap.size ≤ g) :
    Calls Tryd.prog 99 #[.slice (some ⟨g, 0, none⟩) d.length cap, .func (.func 100) #[] #[]] W fun e w' => e = .returned (.tuple #[]) ∧ ∃ ys : List SN, ys.Perm d ∧ ys.Pairwise (fun a b => lessV a.n.f0 b.n.f0 ≤ 0) ∧ NR w' base (.slice (some ⟨g, 0, none⟩) d.length cap) ys ∧ W.grownBy w' (some g) := by
  obtain ⟨cur, hh, hb, hc1, hc2, hc3, hc4, _⟩ := h.at_
  have hle : d.length * 12 ≤ cur.size := by rw [hc3]; exact Nat.mul_le_mul_right _ hc1
  have hH : HoldsK encN 12 W g 0 d.toArray := by
    intro j hj
    have hj' : j < d.length * 12 := by rw [size_flatK] at hj; simpa using hj
    refine ⟨?_, by rw [Nat.zero_add]; exact blk_frozen hh j⟩
    rw [Nat.zero_add, blk_cell hh]
    have h5 : (flatK encN 12 d.toArray).toList = cur.toList.take (d.length * 12) := by rw [flat_enc, hc4]
    rw [getElem!_pos _ j hj]
    have h6 : (flatK encN 12 d.toArray).toList[j]? = cur.toList[j]? := by rw [h5, List.getElem?_take, if_pos hj']
    rw [Array.getElem?_toList, Array.getElem?_toList, Array.getElem?_eq_getElem hj] at h6
    rw [← h6]
    rfl
  have hG' : ∀ m os dk, dk.size = d.length → G_ (sortWorldK encN 12 W g 0 m dk os) := fun m os dk hd => by
    have := (sort_world hh dk.toList (by rw [Array.length_toList, hd]; exact hle) m os).2
    exact G_below hG (pw_below_grown hB (some g) hB.size this (fun k e => by injection e with e; omega))
  have hcmp : CmpLays Tryd.prog 100 #[] encN 12 (fun x y => lessV x.n.f0 y.n.f0) g 0 d.toArray.size W := fun m os dk hd x y => tree2_calls x y _ (hG' m os dk (by simpa using hd))
  have eg : ∀ args w, (callFunc 100 args).run Tryd.prog w = .ok (.enter 100 args) w := enters_of Tryd.func100 (by kernel_rfl) rfl
  have hcon := AnyQ.slices_SortFunc Tryd.sortNode 12 Tryd.isAgg116 Tryd.sizeOf116 encN (fun _ => rfl) (fun x v hv => by simp [encN] at hv; rcases hv with rfl | rfl | rfl | rfl | rfl | rfl | rfl | rfl | rfl | rfl | rfl | rfl <;> rfl) (fun x y => lessV x.n.f0 y.n.f0) lessN_swo 100 #[] g 0 cap d.toArray W eg hcmp hH (Array.getElem?_eq_some_iff.1 hh).1 (by simpa using hn)
  rw [show (d.toArray.size : Nat) = d.length from by simp] at hcon
  refine hcon.mono ?_
  rintro e w' ⟨he, d', n, os, ⟨hp1, hp2, hp3⟩, hso, rfl⟩
  have hsz : d'.toList.length = d.length := by rw [Array.length_toList, hp1]; simp
  have hperm : d'.toList.Perm d := by
    have h7 : (d'.extract 0 d.length).toList = d'.toList := by rw [Array.toList_extract, ← hsz, List.extract_eq_take_drop, List.drop_zero, Nat.sub_zero, List.take_length]
    have h8 : (d.toArray.extract 0 d.length).toList = d := by rw [Array.toList_extract]; simp
    rw [h7, h8] at hp3
    exact hp3
  obtain ⟨⟨cur', w1, w2, w3⟩, w4⟩ := sort_world hh d'.toList (by rw [hsz]; exact hle) n os
  refine ⟨he, d'.toList, hperm, ?_, ⟨⟨by rw [flat_len], .inr ⟨g, cap, cur', by rw [hsz], hb, w1, by rw [hsz]; exact hc1, hc2, by rw [w2, hc3], w3⟩⟩, fun x hx => ?_⟩, w4⟩
  · rw [List.pairwise_iff_getElem]
    intro i j hi hj hij
    have := hso i j (Nat.zero_le _) hij (by rw [← hsz]; exact hj)
    rw [ltN] at this
    have := of_decide_eq_false this
    rw [getElem!_pos d' j (by simpa using hj), getElem!_pos d' i (by simpa using hi)] at this
    have h9 := lessV_tot.neg (d'[i]'(by simpa using hi)).n.f0 (d'[j]'(by simpa using hj)).n.f0
    simp only [Array.getElem_toList]
    omega
  · exact (h.2 x (hperm.mem_iff.1 hx)).step fun k cur2 fr hk hkb => w4.block k (Array.getElem?_eq_some_iff.1 hkb).1 (fun e => by
      injection e with e
      subst e
      rw [hh] at hkb
      injection hkb with hkb
      injection hkb with _ hkb
      exact absurd hkb (by decide))
set_option maxRecDepth 100000 in
theorem at2 {W : World} {B base : Nat} {v : Value} {d : List SN} (s : ByteArray) (hR : NR W base v d) (hBv : W.heap[B]? = some (.cells #[v] 113 (0, 0))) :
    Calls Tryd.prog 96 #[.string s, .pointer (some ⟨B, 0, none⟩)] W fun e w' => (∃ i : Int, e = .returned (.int .i64 i) ∧ decide (0 ≤ i) = d.any (fun x => x.n.f0.toList == s.toList)) ∧ Below W.heap.size W w' := by
  have key : ∃ i : Int, decide (0 ≤ i) = d.any (fun x => x.n.f0.toList == s.toList) ∧ Calls Tryd.prog 97 #[v, .func (.func 98) #[] #[.pointer (some ⟨W.heap.size, 0, none⟩)]] (W.alloc (.cells #[.string s] 9)) fun e w' => e = .returned (.int .i64 i) ∧ Below (W.alloc (.cells #[.string s] 9)).heap.size (W.alloc (.cells #[.string s] 9)) w' := by
    rcases hR.1.2 with ⟨rfl, h2⟩ | ⟨g, cap, _, rfl, _⟩
    · have : d = [] := List.length_eq_zero_iff.1 h2
      subst this
      exact ⟨-1, rfl, (index_none _ _).mono fun e w' ⟨he, hw⟩ => ⟨he, hw ▸ Below.refl _ _⟩⟩
    · obtain ⟨cur, hh, hb, hc1, hc2, hc3, hc4, _⟩ := hR.at_
      have hmx : d.length ≤ 9223372036854775807 := Nat.le_trans hc1 hc2
      have hg := (Array.getElem?_eq_some_iff.1 hh).1
      have eg : ∀ args w, (callFunc 98 args).run Tryd.prog w = .ok (.enter 98 args) w := enters_of Tryd.func98 (by kernel_rfl) rfl
      have hcon := AnyQ.slices_IndexFunc Tryd.indexNode 12 Tryd.isAgg116 Tryd.sizeOf116 encN (fun _ => rfl) (fun x => x.n.f0.toList == s.toList) 98 #[.pointer (some ⟨W.heap.size, 0, none⟩)] eg g 0 d.length cap d (W.alloc (.cells #[.string s] 9))
        (tree11_pred s W.heap.size _ (by simp) (by simp)) (by omega) hmx (by simp; omega) (fun j hj i u hi => by
          refine Lib.cell?_alloc_some _ ?_
          rw [Nat.zero_add, blk_cell hh]
          have hj12 : i < 12 := by
            have := (List.getElem?_eq_some_iff.1 hi).1
            exact this
          have h3 : (Go.Sort.flatK encN 12 d.toArray)[j * 12 + i]! = u := by
            have := Go.Sort.get_flatK encN 12 d.toArray (j * 12 + i) (by simp; omega)
            rw [this, show (j * 12 + i) / 12 = j by omega, show (j * 12 + i) % 12 = i by omega]
            have h4 : d.toArray[j]! = d[j]! := by simp
            rw [h4, List.getElem!_eq_getElem?_getD, hi]
            rfl
          have h5 : (Go.Sort.flatK encN 12 d.toArray).toList = cur.toList.take (d.length * 12) := by rw [flat_enc, hc4]
          have h6 : j * 12 + i < (Go.Sort.flatK encN 12 d.toArray).size := by rw [Go.Sort.size_flatK]; simp; omega
          have h7 : (Go.Sort.flatK encN 12 d.toArray).toList[j * 12 + i]? = cur.toList[j * 12 + i]? := by rw [h5, List.getElem?_take, if_pos (by omega)]
          have h8 : (Go.Sort.flatK encN 12 d.toArray)[j * 12 + i]? = some u := by
            rw [getElem!_pos (Go.Sort.flatK encN 12 d.toArray) (j * 12 + i) h6] at h3
            rw [← h3]
            exact Array.getElem?_eq_getElem (xs := Go.Sort.flatK encN 12 d.toArray) h6
          rw [Array.getElem?_toList, Array.getElem?_toList, h8] at h7
          exact h7.symm)
      refine ⟨_, ?_, hcon⟩
      rw [List.take_length, Lib.idxBy_nonneg_iff]
  obtain ⟨i, hi, hcall⟩ := key
  have hcell : W.cell? ⟨B, 0, none⟩ = some v := (blk_cell hBv 0).trans rfl
  have hBW : B < W.heap.size := (Array.getElem?_eq_some_iff.1 hBv).1
  have hne : B ≠ W.heap.size := by omega
  obtain ⟨A, c, hv, _⟩ := hR.slice
  rw [hv] at hcell hcall
  have HC := Aside0.mk hcall
  have HI := Aside0.mk hi
  clear hcall hi hR hBv hv
  go_enter Tryd.func96, Tryd.ntmps96
  go_wp2_with fail
  refine HC.out.mono ?_
  rintro e w' ⟨rfl, hb⟩
  go_wp2
  go_ret
  exact ⟨⟨i, rfl, HI.out⟩, below_step (below_alloc (Below.refl _ _) _) hb⟩
theorem info116 : (Tryd.prog.info? 116).map (fun i => (i.zero, i.size, i.bytes)) = some (some (.agg #[.string ⟨#[]⟩, .int .i64 0, .int .i64 0, .string ⟨#[]⟩, .int .i64 0, .int .i64 0, .int .i64 0, .string ⟨#[]⟩, .string ⟨#[]⟩, .int .i64 0, .int .i64 0, .slice none 0 0]), 12, 144) := by kernel_rfl
theorem map_flat_add (d : List SN) (x : SN) : ((d ++ [x]).map encN).flatten = (d.map encN).flatten ++ encN x := by simp
/-- One node more. -/
theorem ev_append_node {ops : Array Oper} {Q : Exit → Act → World → Prop} {rest : List Oper} {o : Oper} {a : Act} {w : World} (hgd : o.guard = none) (s y : Operand) (ho : o.op = .call { callee := .builtin .append, args := #[s, y], argTypes := #[113, 113] }) {base : Nat} {v : Value} {d : List SN} (x : SN) (B c : Nat)
    (hs : a.eval s = v) (hN : NR w base v d) (hy : a.eval y = .slice (some ⟨B, 0, none⟩) 1 c) (hB : w.heap[B]? = some (.cells (encN x).toArray 116 (0, 0))) (hx : NodeOk w base x) (hlen : d.length < 1000000000) (hbase : base ≤ w.heap.size)
    (h : ∀ v' w', NR w' base v' (d ++ [x]) → w.grownBy w' v.ownBlock → wpList Tryd.prog ops Q rest (a.put o.dst v') w') : wpList Tryd.prog ops Q (o :: rest) a w := by
  obtain ⟨i, hi, hm⟩ := Option.map_eq_some_iff.1 info116
  injection hm with hz hm
  injection hm with hsz hby
  refine wpList_append_lies w hgd s y 113 ho base 116 i _ 12 144 Tryd.underlying113 hi hz hsz hby rfl (by decide) v d.length _ hs hN.1 ⟨B, 0, none⟩ 1 c (encN x) hy rfl (by have := World.news_of_block hB; simpa using this) (fun u hu => by simp [encN] at hu; rcases hu with rfl | rfl | rfl | rfl | rfl | rfl | rfl | rfl | rfl | rfl | rfl | rfl <;> rfl) (by decide) (by have : maxLen = 9223372036854775807 := rfl; omega) (by omega) hbase _ rfl ?_
  intro g cap w' h1 h2 h3 h4
  have hty : ∀ k cur fr, w.heap[k]? = some (.cells cur 5 fr) → some k ≠ v.ownBlock := fun k cur fr hk e => by
    obtain ⟨cells, hc⟩ := own_typed hN.1 k e.symm
    rw [hk] at hc
    injection hc with hc
    injection hc with _ hc
    exact absurd hc (by decide)
  have hst : ∀ x, NodeOk w base x → NodeOk w' base x := fun x hx => hx.step fun k cur fr _ hk => h2.block k (Array.getElem?_eq_some_iff.1 hk).1 (hty k cur fr hk)
  refine h _ w' ⟨by rw [List.length_append, List.length_singleton, map_flat_add]; exact h1, fun y hy => ?_⟩ h2
  rcases List.mem_append.1 hy with hy | hy
  · exact hst y (hN.2 y hy)
  · rw [List.mem_singleton.1 hy]; exact hst x hx
def SN.set2 (x : SN) (y : Int) : SN := ⟨{ x.n with f2 := y }, x.A, x.len, x.cap, x.hs⟩
/-- The number of a node is another one. -/
theorem NR.set2 {w w1 : World} {base g cap : Nat} {d : List SN} (h : NR w base (.slice (some ⟨g, 0, none⟩) d.length cap) d) {j : Nat} {x : SN} (hx : d[j]? = some x) (y : Int) (ht : Turn g w w1) {cur : Array Value} (hb : w.heap[g]? = some (.cells cur 116 (0, 0))) (hb1 : w1.heap[g]? = some (.cells (cur.setIfInBounds (j * 12 + 2) (.int .i64 y)) 116 (0, 0))) : NR w1 base (.slice (some ⟨g, 0, none⟩) d.length cap) (d.set j (x.set2 y)) := by
  obtain ⟨cur', a1, a2, a3, a4, a5, a6, a7⟩ := h.at_
  rw [hb] at a1
  injection a1 with a1
  injection a1 with a1
  subst a1
  have hj : j < d.length := (List.getElem?_eq_some_iff.1 hx).1
  have hd : d = d.take j ++ x :: d.drop (j + 1) := by
    rw [List.getElem?_eq_some_iff] at hx
    obtain ⟨h1, rfl⟩ := hx
    simp
  have hfl : ((d.set j (x.set2 y)).map encN).flatten = ((d.map encN).flatten).set (j * 12 + 2) (.int .i64 y) := by
    have h1 : d.set j (x.set2 y) = d.take j ++ x.set2 y :: d.drop (j + 1) := by
      rw [List.set_eq_take_append_cons_drop, if_pos hj]
    rw [h1]
    conv => rhs; rw [hd]
    have hl : ((d.take j).map encN).flatten.length = j * 12 := by rw [flat_len, List.length_take]; congr 1; omega
    simp only [List.map_append, List.map_cons, List.flatten_append, List.flatten_cons]
    rw [List.set_append_right _ _ (by omega), hl, show j * 12 + 2 - j * 12 = 2 by omega, List.set_append_left _ _ (show 2 < (encN x).length from by show 2 < 12; decide)]
    rfl
  refine ⟨⟨by rw [flat_len], .inr ⟨g, cap, _, by rw [List.length_set], a2, hb1, by rw [List.length_set]; exact a3, a4, by simpa using a5, ?_⟩⟩, fun z hz => ?_⟩
  · rw [hfl, List.length_set, Array.toList_setIfInBounds, ← a6, List.take_set]
  · have hst : ∀ x, NodeOk w base x → NodeOk w1 base x := fun x hx => hx.step fun k cur2 fr _ hk => ht.far k (fun e => by
      subst e
      rw [hb] at hk
      injection hk with hk
      injection hk with _ hk
      exact absurd hk (by decide))
    have hxm := hst x (h.2 x (List.mem_of_getElem? hx))
    rcases List.mem_or_eq_of_mem_set hz with hz | rfl
    · exact hst z (h.2 z hz)
    · exact ⟨hxm.len, hxm.le, hxm.rd, hxm.blk⟩
def treeNode (r : S23) (p : ByteArray) : Option S116 :=
  (creelkeep_Meta.f r.f0 r.f1 r.f2 r.f3).bind fun m => (creelkeep_clean.f r.f3 40).bind fun c => (creelkeep_picked.f r.f2 30).bind fun q => (strings_Repeat.f c q).bind fun s => some ⟨p, 1, 0, ⟨#[]⟩, ⟨m.1, m.2.1, m.2.2.1, m.2.2.2.1, m.2.2.2.2.1, m.2.2.2.2.2.1, m.2.2.2.2.2.2⟩, bytesOf s⟩
def treePath (r : S23) (dirs : List ByteArray) : Option ByteArray :=
  (creelkeep_picked.f r.f2 (dirs.length : Int)).bind fun i => if 0 ≤ i ∧ i < (dirs.length : Int) then
  creelkeep_names.f.bind fun ns => (creelkeep_picked.f r.f1 (ns.length : Int)).bind fun j => if 0 ≤ j ∧ j < (ns.length : Int) then
  (if (rdOf ByteArray.empty dirs i).toList = [] then some (rdOf ByteArray.empty ns j) else some (rdOf ByteArray.empty dirs i ++ ⟨#[47]⟩ ++ rdOf ByteArray.empty ns j)) else none else none
def treeStep (r : S23) (t : List S116) (dirs : List ByteArray) : Option (List S116 × List ByteArray) :=
  (treePath r dirs).bind fun p =>
  if 400 < p.size ∨ t.any (fun x => x.f0.toList == p.toList) = true then some (t, dirs)
  else (treeNode r p).bind fun n => (creelkeep_picked.f r.f0 7).bind fun kd =>
   if kd = 0 ∨ kd = 1 then some (t ++ [{ n with f1 := 2, f5 := [] }], dirs ++ [p])
   else if kd = 2 then (creelkeep_clean.f r.f3 10).bind fun c => (creelkeep_picked.f r.f1 20).bind fun q => (strings_Repeat.f c q).bind fun s => if s.size ≤ 1000000000 then some (t ++ [{ n with f1 := 3, f5 := [], f3 := (⟨#[116]⟩ : ByteArray) ++ s }], dirs) else none
   else if kd = 3 ∨ kd = 4 then (creelkeep_picked.f r.f1 ((t.length : Int) + 1)).bind fun k => if 0 ≤ k then
      (match t[k.toNat]? with
      | some u => if u.f1 = 1 then
          (slices_Clone_byte_byte.f u.f5).bind fun b => some (t.set k.toNat { u with f2 := if u.f2 = 0 then k + 1 else u.f2 } ++ [{ u with f0 := p, f2 := if u.f2 = 0 then k + 1 else u.f2, f5 := b }], dirs)
        else some (t ++ [n], dirs)
      | none => some (t ++ [n], dirs)) else none
   else some (t ++ [n], dirs)
def treeGo (most : Int) : List S23 → List S116 → List ByteArray → Option (List S116)
  | [], t, _ => some t
  | r :: l, t, dirs => if (t.length : Int) ≥ most then some t else (treeStep r t dirs).bind fun x => treeGo most l x.1 x.2
theorem sort3 {w0 W : World} {base : Nat} {v : Value} {d : List SN} (h : NR W base v d) (hn : d.length < 4611686018427387904) (hG : G_ w0) (hB : Below w0.heap.size w0 W) (hg : w0.heap.size ≤ base) :
    Calls Tryd.prog 99 #[v, .func (.func 100) #[] #[]] W fun e w' => e = .returned (.tuple #[]) ∧ ∃ ys : List SN, ys.Perm d ∧ ys.Pairwise (fun a b => lessV a.n.f0 b.n.f0 ≤ 0) ∧ NR w' base v ys ∧ W.grownBy w' v.ownBlock := by
  rcases h.1.2 with ⟨rfl, h2⟩ | ⟨g, cap, cur, rfl, h3, h4⟩
  · have : d = [] := List.length_eq_zero_iff.1 h2
    subst this
    refine (AnyF.slices_SortFunc_none Tryd.sortNode none 0 (.func (.func 100) #[] #[]) W).mono ?_
    rintro e w' ⟨rfl, rfl⟩
    exact ⟨rfl, [], List.Perm.refl _, List.Pairwise.nil, h, ⟨rfl, rfl, rfl, Nat.le_refl _, fun _ _ _ => rfl⟩⟩
  · exact sort2 h hn hG hB (Nat.le_trans hg h3)
theorem rd23 (l : List S23) (i : Nat) (x : S23) (h : l[i]? = some x) : rd_T23 l (i : Int) = x := by
  unfold rd_T23; simp [h]
/-- It leaves a row of strings to be read. -/
def rowv (ns : List ByteArray) : CalmVal := ⟨fun x w => ∃ A c, x = .slice A ns.length c ∧ ns.length ≤ c ∧ Kd.C Kd.string w A ns.length ns, fun _v _w _w' hb ⟨A, c, h1, h2, h3⟩ => ⟨A, c, h1, h2, Kd.C_below h3 hb⟩⟩
/-- It leaves the place of a string. -/
def cellv (u : Value) : CalmVal := ⟨fun x w => ∃ ad : Addr, x = .pointer (some ad) ∧ ad.block < w.heap.size ∧ w.cell? ad = some u, fun _v _w _w' hb ⟨ad, h1, h2, h3⟩ => ⟨ad, h1, Nat.lt_of_lt_of_le h2 hb.size, (hb.cell h2).trans h3⟩⟩
theorem cell_lt {w : World} {ad : Addr} {u : Value} (h : w.cell? ad = some u) : ad.block < w.heap.size := by
  unfold World.cell? at h
  cases hb : w.heap[ad.block]? with
  | none => rw [hb] at h; simp at h
  | some o => exact (Array.getElem?_eq_some_iff.1 hb).1
theorem NodeOk.below {w w1 : World} {base : Nat} {x : SN} (h : NodeOk w base x) (hb : Below w.heap.size w w1) : NodeOk w1 base x := h.step fun k cur fr _ hk => hb.block k (Array.getElem?_eq_some_iff.1 hk).1
/-- It leaves a row of bytes of its own, however that is marked. -/
def bytev (base : Nat) (s : ByteArray) : CalmVal := ⟨fun x w => ∃ g c, x = .slice (some ⟨g, 0, none⟩) s.size c ∧ base ≤ g ∧ s.size ≤ c ∧ Kd.C (Kd.int .u8) w (some ⟨g, 0, none⟩) s.size (bytesOf s) ∧ ∃ cur fr, w.heap[g]? = some (.cells cur 5 fr), fun _v _w _w' hb ⟨g, c, h1, h2, h3, h4, cur, fr, h5⟩ => ⟨g, c, h1, h2, h3, Kd.C_below h4 hb, cur, fr, (hb.block g (Array.getElem?_eq_some_iff.1 h5).1).trans h5⟩⟩
/-- It leaves a node. -/
def nodev (base : Nat) (n : S116) : CalmVal := ⟨fun x w => ∃ y : SN, y.n = n ∧ x = .agg (encN y).toArray ∧ NodeOk w base y, fun _v _w _w' hb ⟨y, h1, h2, h3⟩ => ⟨y, h1, h2, h3.below hb⟩⟩
theorem ownB_of {w : World} {base : Nat} {v : Value} {d : List SN} (h : NR w base v d) : ∀ k, v.ownBlock = some k → ∃ cells, w.heap[k]? = some (.cells cells 116 (0, 0)) := own_typed h.1
/-- Another block turns, and that is none of bytes. -/
theorem NR.far {w w1 : World} {base : Nat} {v : Value} {d : List SN} (h : NR w base v d) {g : Nat} (ht : Turn g w w1) {cells : Array Value} {t : TypeId} {fz : Nat × Nat} (hb : w.heap[g]? = some (.cells cells t fz)) (h1 : v.ownBlock ≠ some g) (h2 : t ≠ 5) : NR w1 base v d := by
  refine ⟨own_move h.1 (fun k hk => ht.far k (fun e => h1 (by rw [hk, e]))), fun x hx => (h.2 x hx).step fun k cur fr _ hk => ht.far k (fun e => ?_)⟩
  subst e
  rw [hb] at hk
  injection hk with hk
  injection hk with _ hk
  exact h2 hk
theorem NodeOk.far {w w1 : World} {base : Nat} {x : SN} (h : NodeOk w base x) {g : Nat} (ht : Turn g w w1) {cells : Array Value} {t : TypeId} {fz : Nat × Nat} (hb : w.heap[g]? = some (.cells cells t fz)) (h2 : t ≠ 5) : NodeOk w1 base x := h.step fun k cur fr _ hk => ht.far k (fun e => by
  subst e
  rw [hb] at hk
  injection hk with hk
  injection hk with _ hk
  exact h2 hk)
/-- What is kept through the round, while the node's block g11 turns. -/
structure TS (w0 w : World) (g9 g11 : Nat) (v6 v5 : Value) (dirs : List ByteArray) (d : List SN) (X : Array Value) : Prop where
  hb : Below w0.heap.size w0 w
  ho : Kd.string.R 9 w w0.heap.size (fun _ => True) v6 dirs
  hv : w.heap[w0.heap.size]? = some (.cells #[v5] 113 (0, 0))
  hn : NR w w0.heap.size v5 d
  hx : w.heap[g9]? = some (.cells X 23 (0, 0))
  far : v5.ownBlock ≠ some g11
  ge : w0.heap.size ≤ g11
theorem TS.below {w0 w w1 : World} {g9 g11 : Nat} {v6 v5 : Value} {dirs : List ByteArray} {d : List SN} {X : Array Value} (h : TS w0 w g9 g11 v6 v5 dirs d X) (hb : Below w.heap.size w w1) : TS w0 w1 g9 g11 v6 v5 dirs d X :=
  ⟨below_step h.hb hb, Kd.R_below h.ho hb, blk_below h.hv hb, h.hn.below hb, blk_below h.hx hb, h.far, h.ge⟩
theorem TS.turn {w0 w w1 : World} {g9 g11 : Nat} {v6 v5 : Value} {dirs : List ByteArray} {d : List SN} {X : Array Value} (h : TS w0 w g9 g11 v6 v5 dirs d X) (ht : Turn g11 w w1) {cells : Array Value} (hb : w.heap[g11]? = some (.cells cells 116 (0, 0))) : TS w0 w1 g9 g11 v6 v5 dirs d X := by
  refine ⟨ht.below h.hb h.ge, Kd.R_mono (Kd.R_move (Kd.R_types h.ho hb (by decide)) (fun k hk => ht.far k hk.2)) (fun _ _ => trivial), ht.blk h.hv (fun e => ?_), h.hn.far ht hb h.far (by decide), ht.blk h.hx (fun e => ?_), h.far, h.ge⟩
  · have := h.hv
    rw [e, hb] at this
    injection this with this
    injection this with _ this
    exact absurd this (by decide)
  · have := h.hx
    rw [e, hb] at this
    injection this with this
    injection this with _ this
    exact absurd this (by decide)
/-- A directory. -/
def SN.dir (y : SN) : SN := ⟨{ y.n with f1 := 2, f5 := [] }, none, 0, 0, y.hs⟩
def SN.sym (y : SN) (s : ByteArray) : SN := ⟨{ y.n with f1 := 3, f5 := [], f3 := s }, none, 0, 0, y.hs⟩
theorem nil_ok (w : World) (base : Nat) (n : S116) (h : n.f0.size ≤ 400) (h5 : n.f5 = []) : NodeOk w base ⟨n, none, 0, 0, h⟩ :=
  ⟨by rw [h5]; rfl, Nat.le_refl _, by show (Kd.int .u8).C w none 0 n.f5; rw [h5]; exact ⟨rfl, by decide, fun h => absurd h (by decide)⟩, fun p hp => by cases hp⟩
theorem grown_blk {w w1 : World} {base : Nat} {ok : Nat → Prop} {v : Value} {dirs : List ByteArray} (ho : Kd.string.R 9 w base ok v dirs) (hg : w.grownBy w1 v.ownBlock) {k : Nat} {cur : Array Value} {t : TypeId} {fz : Nat × Nat} (hk : w.heap[k]? = some (.cells cur t fz)) (ht : t ≠ 9) : w1.heap[k]? = w.heap[k]? :=
  hg.block k (Array.getElem?_eq_some_iff.1 hk).1 (fun e => by
    obtain ⟨inner, hown, _⟩ := ho.2
    obtain ⟨cells, hc⟩ := own_typed hown k e.symm
    rw [hk] at hc
    injection hc with hc
    injection hc with _ hc
    exact ht hc)
theorem TS.grown {w0 w w1 : World} {g9 g11 : Nat} {v6 v6' v5 : Value} {dirs dirs' : List ByteArray} {d : List SN} {X : Array Value} (h : TS w0 w g9 g11 v6 v5 dirs d X) (hg : w.grownBy w1 v6.ownBlock) (ho : Kd.string.R 9 w1 w0.heap.size (fun _ => True) v6' dirs') (hb : Below w0.heap.size w0 w1) : TS w0 w1 g9 g11 v6' v5 dirs' d X :=
  ⟨hb, ho, (grown_blk h.ho hg h.hv (by decide)).trans h.hv, h.hn.step (fun k cur t fr _ hk ht => grown_blk h.ho hg hk (by rcases ht with rfl | rfl <;> decide)), (grown_blk h.ho hg h.hx (by decide)).trans h.hx, h.far, h.ge⟩
/-- Just block g turns, cell by cell into T's; and blocks come. -/
def Into (g : Nat) (T : Array Value) (w w' : World) : Prop := w'.os = w.os ∧ w'.tape = w.tape ∧ w'.output = w.output ∧ w.heap.size ≤ w'.heap.size ∧ (∀ k, k < w.heap.size → k ≠ g → w'.heap[k]? = w.heap[k]?) ∧ (∀ c, w.heap[g]? = some (.cells c 116 (0, 0)) → ∃ c' : Array Value, w'.heap[g]? = some (.cells c' 116 (0, 0)) ∧ c'.size = c.size ∧ ∀ i : Nat, c'[i]? = c[i]? ∨ c'[i]? = T[i]?)
theorem calmly_into (g : Nat) (T : Array Value) : Calmly (Into g T) := by
  refine ⟨fun w => ⟨rfl, rfl, rfl, Nat.le_refl _, fun _ _ _ => rfl, fun c hc => ⟨c, hc, rfl, fun i => .inl rfl⟩⟩, fun a b c h1 h2 => ?_, fun w => ⟨rfl, rfl, rfl, Nat.le_refl _, fun _ _ _ => rfl, fun c hc => ⟨c, hc, rfl, fun i => .inl rfl⟩⟩⟩
  obtain ⟨a1, a2, a3, a4, a5, a6⟩ := h1
  obtain ⟨b1, b2, b3, b4, b5, b6⟩ := h2
  refine ⟨b1.trans a1, b2.trans a2, b3.trans a3, Nat.le_trans a4 b4, fun k hk hne => (b5 k (by omega) hne).trans (a5 k hk hne), fun x hx => ?_⟩
  obtain ⟨y, y1, y2, y3⟩ := a6 x hx
  obtain ⟨z, z1, z2, z3⟩ := b6 y y1
  refine ⟨z, z1, z2.trans y2, fun i => ?_⟩
  rcases z3 i with h | h
  · rcases y3 i with h' | h'
    · exact .inl (h.trans h')
    · exact .inr (h.trans h')
  · exact .inr h
theorem into_below {g : Nat} {T : Array Value} {w w' : World} (h : Below w.heap.size w w') : Into g T w w' :=
  ⟨h.os, h.tape, h.output, h.size, fun k hk _ => h.block k hk, fun c hc => ⟨c, (h.block g (Array.getElem?_eq_some_iff.1 hc).1).trans hc, rfl, fun _ => .inl rfl⟩⟩
theorem into_turn {g : Nat} {T : Array Value} {w w' : World} (h : Turn g w w') {c : Array Value} {i : Nat} {v : Value} (hc : w.heap[g]? = some (.cells c 116 (0, 0))) (hc' : w'.heap[g]? = some (.cells (c.setIfInBounds i v) 116 (0, 0))) (hT : T[i]? = some v) (hi : i < c.size) : Into g T w w' := by
  refine ⟨h.os, h.tape, h.output, by rw [h.size]; exact Nat.le_refl _, fun k _ hne => h.far k hne, fun c2 hc2 => ?_⟩
  rw [hc] at hc2
  injection hc2 with hc2
  injection hc2 with hc2
  subst hc2
  refine ⟨_, hc', by simp, fun k => ?_⟩
  by_cases e : i = k
  · subst e
    exact .inr (by rw [hT]; simp [hi])
  · exact .inl (by rw [Array.getElem?_setIfInBounds_ne e])
/-- Cell i has come into T's. -/
def storev (g : Nat) (T : Array Value) (i : Nat) : CalmVal2 (Into g T) := ⟨fun _ w => ∃ c : Array Value, w.heap[g]? = some (.cells c 116 (0, 0)) ∧ c.size = 12 ∧ c[i]? = T[i]?, fun _ w w' h ⟨c, h1, h2, h3⟩ => by
  obtain ⟨c', a1, a2, a3⟩ := h.2.2.2.2.2 c h1
  refine ⟨c', a1, a2.trans h2, ?_⟩
  rcases a3 i with h | h
  · exact h.trans h3
  · exact h⟩
theorem into_end {g : Nat} {T c0 : Array Value} {w w' : World} (h : Into g T w w') (hc : w.heap[g]? = some (.cells c0 116 (0, 0))) (h0 : c0.size = 12) (hT : T.size = 12) (hs : ∀ i, i ≠ 1 → i ≠ 3 → i ≠ 11 → c0[i]? = T[i]?)
    (h1 : ∃ c : Array Value, w'.heap[g]? = some (.cells c 116 (0, 0)) ∧ c.size = 12 ∧ c[1]? = T[1]?) (h3 : ∃ c : Array Value, w'.heap[g]? = some (.cells c 116 (0, 0)) ∧ c.size = 12 ∧ c[3]? = T[3]?) (h11 : ∃ c : Array Value, w'.heap[g]? = some (.cells c 116 (0, 0)) ∧ c.size = 12 ∧ c[11]? = T[11]?) : w'.heap[g]? = some (.cells T 116 (0, 0)) := by
  obtain ⟨c, a1, a2, a3⟩ := h.2.2.2.2.2 c0 hc
  obtain ⟨x, x1, _, x2⟩ := h1
  obtain ⟨y, y1, _, y2⟩ := h3
  obtain ⟨z, z1, _, z2⟩ := h11
  rw [a1] at x1 y1 z1
  injection x1 with x1; injection x1 with x1; subst x1
  injection y1 with y1; injection y1 with y1; subst y1
  injection z1 with z1; injection z1 with z1; subst z1
  have : c = T := by
    refine Array.ext_getElem? (fun i => ?_)
    by_cases e1 : i = 1
    · rw [e1]; exact x2
    by_cases e3 : i = 3
    · rw [e3]; exact y2
    by_cases e11 : i = 11
    · rw [e11]; exact z2
    rcases a3 i with h | h
    · exact h.trans (hs i e1 e3 e11)
    · exact h
  rw [a1, this]
/-- All but the node's own block is as it was. -/
theorem TS.into {w0 w w1 : World} {g9 g11 : Nat} {v6 v5 : Value} {dirs : List ByteArray} {d : List SN} {X T : Array Value} (h : TS w0 w g9 g11 v6 v5 dirs d X) (ht : Into g11 T w w1) {cells : Array Value} (hb : w.heap[g11]? = some (.cells cells 116 (0, 0))) : TS w0 w1 g9 g11 v6 v5 dirs d X := by
  obtain ⟨a1, a2, a3, a4, a5, a6⟩ := ht
  have hh : ∀ {k : Nat} {o : Obj}, w.heap[k]? = some o → k ≠ g11 → w1.heap[k]? = w.heap[k]? := fun hk hne => a5 _ (Array.getElem?_eq_some_iff.1 hk).1 hne
  have hne : ∀ {k : Nat} {cur : Array Value} {t : TypeId} {fz : Nat × Nat}, w.heap[k]? = some (.cells cur t fz) → t ≠ 116 → k ≠ g11 := fun hk ht e => by
    rw [e, hb] at hk
    injection hk with hk
    injection hk with _ hk
    exact ht hk.symm
  have hbw := h.hb
  refine ⟨⟨a1.trans hbw.os, a2.trans hbw.tape, a3.trans hbw.output, Nat.le_trans hbw.size a4, fun k hk => (a5 k (Nat.lt_of_lt_of_le hk hbw.size) (fun e => by have := h.ge; omega)).trans (hbw.block k hk)⟩, Kd.R_mono (Kd.R_step (Kd.R_types h.ho hb (by decide)) (fun k hk hlt => a5 k hlt hk.2)) (fun _ _ => trivial), (hh h.hv (hne h.hv (by decide))).trans h.hv, ?_, (hh h.hx (hne h.hx (by decide))).trans h.hx, h.far, h.ge⟩
  refine ⟨own_move h.hn.1 (fun k hk => a5 k (own_lt h.hn.1 k hk) (fun e => h.far (by rw [hk, e]))), fun x hx => (h.hn.2 x hx).step fun k cur fr _ hk => hh hk (hne hk (by decide))⟩
theorem NodeOk.ofR {w : World} {base n c : Nat} {ok : Nat → Prop} {A : Option Addr} {b : List Int} (h : Kd.R (Kd.int .u8) 5 w base ok (.slice A n c) b) (m : S116) (hm : m.f5 = b) (hs : m.f0.size ≤ 400) : NodeOk w base ⟨m, A, n, c, hs⟩ := by
  obtain ⟨h1, h2, h3⟩ := Kd.R_reads' h
  refine ⟨by rw [hm]; exact h1, h2, by (rw [hm]; show (Kd.int .u8).C w A n b; rw [h1]; exact h3), fun p hp => ?_⟩
  have hp' : A = some p := hp
  subst hp'
  obtain ⟨inner, hown, _⟩ := h.2
  obtain ⟨cells, hc⟩ := own_typed hown p.block rfl
  exact ⟨own_base hown p.block rfl, cells, (0, 0), hc⟩
theorem TS.set2 {w0 w w1 : World} {g9 g11 g5 c5 : Nat} {v6 : Value} {dirs : List ByteArray} {d : List SN} {X : Array Value} (h : TS w0 w g9 g11 v6 (.slice (some ⟨g5, 0, none⟩) d.length c5) dirs d X) {j : Nat} {x : SN} (hx : d[j]? = some x) (y : Int) (ht : Turn g5 w w1) {cur : Array Value} (hb : w.heap[g5]? = some (.cells cur 116 (0, 0))) (hb1 : w1.heap[g5]? = some (.cells (cur.setIfInBounds (j * 12 + 2) (.int .i64 y)) 116 (0, 0))) : TS w0 w1 g9 g11 v6 (.slice (some ⟨g5, 0, none⟩) d.length c5) dirs (d.set j (x.set2 y)) X := by
  have hg5 : w0.heap.size ≤ g5 := own_base h.hn.1 g5 rfl
  have hne : ∀ {k : Nat} {cur : Array Value} {t : TypeId} {fz : Nat × Nat}, w.heap[k]? = some (.cells cur t fz) → t ≠ 116 → k ≠ g5 := fun hk ht e => by
    rw [e, hb] at hk
    injection hk with hk
    injection hk with _ hk
    exact ht hk.symm
  exact ⟨ht.below h.hb hg5, Kd.R_mono (Kd.R_move (Kd.R_types h.ho hb (by decide)) (fun k hk => ht.far k hk.2)) (fun _ _ => trivial), ht.blk h.hv (hne h.hv (by decide)), h.hn.set2 hx y ht hb hb1, ht.blk h.hx (hne h.hx (by decide)), h.far, h.ge⟩
theorem NR.row {w : World} {base g n cap : Nat} {d : List SN} (h : NR w base (.slice (some ⟨g, 0, none⟩) n cap) d) {j : Nat} {x : SN} (hx : d[j]? = some x) : ∃ cur, w.heap[g]? = some (.cells cur 116 (0, 0)) ∧ j * 12 + 12 ≤ cur.size ∧ (cur.toList.drop (j * 12)).take (encN x).length = encN x := by
  have hn : n = d.length := by
    rcases h.1.2 with ⟨h2, _⟩ | ⟨g', cap', cur, e1, _⟩
    · cases h2
    · injection e1
  subst hn
  obtain ⟨cur, a1, a2, a3, a4, a5, a6, a7⟩ := h.at_
  have hj : j < d.length := (List.getElem?_eq_some_iff.1 hx).1
  exact ⟨cur, a1, by rw [a5]; omega, a7 j x hx⟩
theorem row_cell {w : World} {g j : Nat} {cur : Array Value} {x : SN} (hcur : w.heap[g]? = some (.cells cur 116 (0, 0))) (hcu : (cur.toList.drop (j * 12)).take (encN x).length = encN x) (i : Nat) (v : Value) (hv : (encN x)[i]? = some v) : w.cell? ⟨g, j * 12 + i, none⟩ = some v := by
  rw [blk_cell hcur, ← Array.getElem?_toList, ← List.getElem?_drop]
  have hi : i < (encN x).length := (List.getElem?_eq_some_iff.1 hv).1
  rw [← hcu, List.getElem?_take, if_pos hi] at hv
  exact hv
theorem enc_copy (x : SN) (p : ByteArray) (hp : p.size ≤ 400) (b : List Int) (A : Option Addr) (c : Nat) : ((encN x).toArray.setIfInBounds 0 (.string p)).setIfInBounds 11 (.slice A b.length c) = (encN ⟨{ x.n with f0 := p, f5 := b }, A, b.length, c, hp⟩).toArray := by
  obtain ⟨⟨f0, f1, f2, f3, ⟨m0, m1, m2, m3, m4, m5, m6⟩, f5⟩, xA, xl, xc, xh⟩ := x
  simp [encN]
theorem enc_cell11 {w : World} {g : Nat} (x : SN) (p : ByteArray) (h : w.heap[g]? = some (.cells ((encN x).toArray.setIfInBounds 0 (.string p)) 116 (0, 0))) : w.cell? ⟨g, 11, none⟩ = some (.slice x.A x.len x.cap) := by
  rw [blk_cell h]
  simp [encN]
theorem repeat_size {a : ByteArray} {n : Int} {r : ByteArray} (h : strings_Repeat.f a n = some r) : r.size ≤ 140737488355328 ∧ r.size = n.toNat * a.size := by
  unfold strings_Repeat.f at h
  split at h
  · split at h
    · split at h
      · rename_i h1 h2 h3
        injection h with h
        have : r.size = n.toNat * a.size := by
          rw [← h]
          show (List.toArray _).size = _
          rw [List.size_toArray, Lib.repeatL_length]
          congr 1
        exact ⟨by rw [this, Nat.mul_comm]; exact h3, this⟩
      · cases h
    · cases h
  · cases h
theorem names_fact {ns : List ByteArray} (h : creelkeep_names.f = some ns) : ns.length = 11 ∧ ∀ s ∈ ns, s.size ≤ 130 := by
  unfold creelkeep_names.f at h
  rw [Option.bind_eq_some_iff] at h
  obtain ⟨a, h1, h⟩ := h
  rw [Option.bind_eq_some_iff] at h
  obtain ⟨b, h2, h⟩ := h
  injection h with h
  subst h
  refine ⟨rfl, fun s hs => ?_⟩
  have e1 : a.size = 60 := (repeat_size h1).2
  have e2 : b.size = 130 := (repeat_size h2).2
  simp only [List.mem_cons, List.not_mem_nil, or_false] at hs
  rcases hs with rfl | rfl | rfl | rfl | rfl | rfl | rfl | rfl | rfl | rfl | rfl
  all_goals first | decide | omega
theorem R_grown116 {w w1 : World} {base base' : Nat} {v v5 : Value} {dirs : List ByteArray} {d : List SN} (h : Kd.string.R 9 w base (fun _ => True) v dirs) (hn : NR w base' v5 d) (hg : w.grownBy w1 v5.ownBlock) : Kd.string.R 9 w1 base (fun _ => True) v dirs := by
  refine Kd.R_mono (Kd.R_step (Kd.R_bound h) (fun k hk hlt => hg.block k hlt (fun e => ?_))) (fun _ _ => trivial)
  obtain ⟨_, _, _, q, hq, cells, hc⟩ := hk
  obtain ⟨cells', hc'⟩ := own_typed hn.1 k e.symm
  rw [hc] at hc'
  injection hc' with hc'
  injection hc' with _ hc'
  subst hc'
  revert hq
  decide
theorem blk_grown116 {w w1 : World} {base' : Nat} {v5 : Value} {d : List SN} {k : Nat} {cur : Array Value} {t : TypeId} {fz : Nat × Nat} (hb : w.heap[k]? = some (.cells cur t fz)) (ht : t ≠ 116) (hn : NR w base' v5 d) (hg : w.grownBy w1 v5.ownBlock) : w1.heap[k]? = some (.cells cur t fz) := by
  refine (hg.block k (Array.getElem?_eq_some_iff.1 hb).1 (fun e => ?_)).trans hb
  obtain ⟨cells', hc'⟩ := own_typed hn.1 k e.symm
  rw [hb] at hc'
  injection hc' with hc'
  injection hc' with _ hc'
  exact ht hc'
theorem R_turn113 {w w1 : World} {base g : Nat} {v : Value} {dirs : List ByteArray} (h : Kd.string.R 9 w base (fun _ => True) v dirs) (ht : Turn g w w1) {cells : Array Value} (hb : w.heap[g]? = some (.cells cells 113 (0, 0))) : Kd.string.R 9 w1 base (fun _ => True) v dirs :=
  Kd.R_mono (Kd.R_move (Kd.R_types h hb (by decide)) (fun k hk => ht.far k hk.2)) (fun _ _ => trivial)
theorem below_grown116 {w0 w w1 : World} {v5 : Value} {d : List SN} (h : Below w0.heap.size w0 w) (hn : NR w w0.heap.size v5 d) (hg : w.grownBy w1 v5.ownBlock) : Below w0.heap.size w0 w1 := pw_below_grown h v5.ownBlock h.size hg (fun k e => own_base hn.1 k (by rw [e]))
theorem enc_one (y : SN) : (encN y).toArray.all (·.oneCell') = true := by simp [encN, Value.oneCell']
theorem enc_new (y : SN) (cur : Array Value) (h : cur.size = 12) : cur.toList.take 0 ++ (encN y).toArray.toList ++ cur.toList.drop (0 + (encN y).toArray.toList.length) = (encN y).toArray.toList := by
  rw [List.drop_eq_nil_of_le (by show _ ≤ 0 + 12; rw [Array.length_toList]; omega)]; simp
set_option maxHeartbeats 4000000 in
set_option maxRecDepth 100000 in
theorem tree_calls (A0 : Option Addr) (c0 : Nat) (l0 : List S23) (a1 : Int) (r : List S116) (w : World) (hr0 : Kd.C k23 w A0 l0.length l0) (hc0 : l0.length ≤ c0) (hG : G_ w) (hln : l0.length < 100000000) (h : treeGo a1 l0 [] [⟨#[]⟩] = some r) :
    Calls Tryd.prog 68 #[.slice A0 l0.length c0, .int .i64 a1] w fun e w' => ∃ A c d, e = .returned (.slice A d.length c) ∧ NR w' w.heap.size (.slice A d.length c) d ∧ (d.map (·.n)).Perm r ∧ d.Pairwise (fun a b => lessV a.n.f0 b.n.f0 ≤ 0) ∧ Below w.heap.size w w' := by
  have hG_ := Aside0.mk hG
  have HR0 := Aside0.mk hr0
  have HC0 := Aside0.mk hc0
  have HL := Aside0.mk hln
  have H := Aside0.mk h
  clear hr0 hc0 h hG hln
  go_enter Tryd.func68, Tryd.ntmps68
  go_wp2_with fail
  go_loopg [6, 17] l0.length (fun kq v6 v17 w' => ∃ (dirs : List ByteArray) (d : List SN) (v5 : Value), v17 = .int .i64 (((l0.length - kq : Nat) : Int)) ∧ Aside0 (treeGo a1 (l0.drop (l0.length - kq)) (d.map (·.n)) dirs = some r) ∧ Aside0 (kq ≤ l0.length) ∧ Aside0 (d.length ≤ l0.length - kq) ∧ Aside0 (dirs.length ≤ l0.length - kq + 1) ∧ Aside0 (∀ s ∈ dirs, s.size ≤ 400) ∧ Aside0 (Kd.R Kd.string 9 w' w.heap.size (fun _ => True) v6 dirs) ∧ Aside0 (w'.heap[w.heap.size]? = some (.cells #[v5] 113 (0, 0))) ∧ Aside0 (NR w' w.heap.size v5 d) ∧ Aside0 (Below w.heap.size w w'))
  case atStart =>
    refine ⟨[⟨#[]⟩], [], .slice none 0 0, by simp, ⟨by rw [Nat.sub_self]; exact H.out⟩, ⟨Nat.le_refl _⟩, ⟨Nat.zero_le _⟩, ⟨by simp⟩, ⟨fun s hs => by rw [List.mem_singleton.1 hs]; decide⟩, ⟨?_⟩, ⟨?_⟩, ⟨NR.nil _ _⟩, ⟨below_alloc (below_alloc (Below.refl _ _) _) _⟩⟩
    · have ho := own_lit_of (enc := Value.string) (w.alloc (.cells #[.slice none 0 0] 113)) w.heap.size 9 [⟨#[]⟩] (by simp) (by decide)
      have e : (w.alloc (.cells #[.slice none 0 0] 113)).heap.size = w.heap.size + 1 := by simp
      rw [e] at ho
      exact Kd.R_of_own (h1 := fun _ => rfl) (ok := fun _ => True) ho (fun _ _ => trivial)
    · exact (Below.heap_alloc _ _ _ (by simp)).trans (heap_alloc_new _ _)
  case round =>
    obtain ⟨dirs, d, v5, rfl, HA, HK, HD, HS, HP, HO, HV, HN, HB⟩ := hrel
    cases gk with
    | zero =>
      have HT : Aside0 (d.map (·.n) = r) := ⟨by
        have := HA.out
        rw [Nat.sub_zero, List.drop_length, treeGo] at this
        injection this⟩
      obtain ⟨A5, c5, rfl, hd5, hA5⟩ := HN.out.slice
      clear HA H hA5
      have cV : wr.cell? ⟨w.heap.size, 0, none⟩ = some (.slice A5 d.length c5) := (blk_cell HV.out 0).trans rfl
      rw [Nat.sub_zero]
      go_wp2_with ((go_at_call 99; refine (sort3 HN.out (by have := HD.out; have := HL.out; omega) hG_.out HB.out (Nat.le_refl _)).mono ?_; rintro e w2 ⟨rfl, ys, hp2, hp3, hp4, hp5⟩; have HP2 := Aside0.mk hp2; have HP3 := Aside0.mk hp3; have HP4 := Aside0.mk hp4; have cV2 : w2.cell? ⟨w.heap.size, 0, none⟩ = some (.slice A5 d.length c5) := (blk_cell (blk_grown116 HV.out (by decide) HN.out hp5) 0).trans rfl; have HB2 := Aside0.mk (below_grown116 HB.out HN.out hp5); clear hp2 hp3 hp4 hp5))
      go_ret
      exact ⟨A5, c5, ys, by rw [HP2.out.length_eq]; rfl, by rw [HP2.out.length_eq]; exact HP4.out, by rw [← HT.out]; exact HP2.out.map _, HP3.out, HB2.out⟩
    | succ k1 =>
      obtain ⟨i, hi⟩ : ∃ i, i = l0.length - (k1 + 1) := ⟨_, rfl⟩
      rw [← hi] at HA HD HS
      rw [← hi]
      have hik : i + (k1 + 1) = l0.length := by have := HK.out; omega
      clear hi HK
      have hlt : i < l0.length := by omega
      obtain ⟨x, hx⟩ : ∃ x, l0[i]? = some x := ⟨_, List.getElem?_eq_getElem hlt⟩
      have hdrop : l0.drop i = x :: l0.drop (i + 1) := by
        rw [List.drop_eq_getElem_cons hlt]
        rw [List.getElem?_eq_getElem hlt] at hx
        injection hx with hx
        rw [hx]
      have HT := HA.out
      rw [hdrop, treeGo] at HT
      obtain ⟨ad, eA, hc0, hc1, hc2, hc3⟩ := at_T23 (Kd.C_below HR0.out HB.out) (i : Int) (by omega) (by omega)
      rw [rd23 l0 i x hx] at hc0 hc1 hc2 hc3
      simp only [Int.toNat_natCast] at hc0 hc1 hc2 hc3
      subst eA
      obtain ⟨A5, c5, rfl, hd5, hA5⟩ := HN.out.slice
      have HA5 := Aside0.mk hA5
      have HIK := Aside0.mk hik
      clear hA5 hik HA H hx hdrop
      have q1 : (i : Int) < (l0.length : Int) := by omega
      have q0 : (0 : Int) ≤ (i : Int) := by omega
      have cV : wr.cell? ⟨w.heap.size, 0, none⟩ = some (.slice A5 d.length c5) := (blk_cell HV.out 0).trans rfl
      have hBW : w.heap.size < wr.heap.size := (Array.getElem?_eq_some_iff.1 HV.out).1
      have hne : w.heap.size ≠ wr.heap.size := by omega
      obtain ⟨f0, f1, f2, f3⟩ := x
      by_cases hge : (d.length : Int) ≥ a1
      · rw [if_pos (by rw [List.length_map]; exact hge)] at HT
        injection HT with HT
        replace HT := Aside0.mk HT
        have HBx := Aside0.mk (below_alloc (Below.refl wr.heap.size wr) (.cells #[.int .i64 f0, .int .i64 f1, .int .i64 f2, .string f3] 23))
        go_wp2_with ((go_at_call 99; refine (sort3 (HN.out.below HBx.out) (by have := HD.out; have := HL.out; omega) hG_.out (below_step HB.out HBx.out) (Nat.le_refl _)).mono ?_; rintro e w2 ⟨rfl, ys, hp2, hp3, hp4, hp5⟩; have HP2 := Aside0.mk hp2; have HP3 := Aside0.mk hp3; have HP4 := Aside0.mk hp4; have cV2 : w2.cell? ⟨w.heap.size, 0, none⟩ = some (.slice A5 d.length c5) := (blk_cell (blk_grown116 (blk_below HV.out HBx.out) (by decide) (HN.out.below HBx.out) hp5) 0).trans rfl; have HB2 := Aside0.mk (below_grown116 (below_step HB.out HBx.out) (HN.out.below HBx.out) hp5); clear hp2 hp3 hp4 hp5))
        go_ret
        exact ⟨A5, c5, ys, by rw [HP2.out.length_eq]; rfl, by rw [HP2.out.length_eq]; exact HP4.out, by rw [← HT.out]; exact HP2.out.map _, HP3.out, HB2.out⟩
      · rw [if_neg (by simpa using hge)] at HT
        rw [Option.bind_eq_some_iff] at HT
        obtain ⟨⟨t', dirs'⟩, HST, HT⟩ := HT
        have HT' := Aside0.mk HT
        unfold treeStep at HST
        rw [Option.bind_eq_some_iff] at HST
        obtain ⟨p, HP1, HST⟩ := HST
        have HST' := Aside0.mk HST
        unfold treePath at HP1
        rw [Option.bind_eq_some_iff] at HP1
        obtain ⟨i1, B1, HP1⟩ := HP1
        split at HP1
        case isFalse => cases HP1
        rename_i hi1
        rw [Option.bind_eq_some_iff] at HP1
        obtain ⟨ns, B2, HP1⟩ := HP1
        rw [Option.bind_eq_some_iff] at HP1
        obtain ⟨j1, B3, HP1⟩ := HP1
        split at HP1
        case isFalse => cases HP1
        rename_i hj1
        replace B1 := Aside0.mk B1
        replace B2 := Aside0.mk B2
        replace B3 := Aside0.mk B3
        replace HP1 := Aside0.mk HP1
        obtain ⟨i0, i2⟩ := hi1
        obtain ⟨j0, j2⟩ := hj1
        have HJ2 := Aside0.mk j2
        have HJ0 := Aside0.mk j0
        clear HT HST j0 j2
        obtain ⟨g6, c6, rfl, hb6, hlt6, _⟩ := Kd.R_form HO.out (by omega)
        have hne6 : g6 ≠ wr.heap.size := by omega
        have cD := (Kd.R_cell ByteArray.empty HO.out i1 i0 i2).1
        obtain ⟨p0, hp0⟩ : ∃ p0, p0 = rdOf ByteArray.empty dirs i1 := ⟨_, rfl⟩
        have hm0 : p0 ∈ dirs := by
          rw [hp0]; unfold rdOf; rw [List.getD_eq_getElem?_getD, List.getElem?_eq_getElem (by omega)]
          exact List.getElem_mem _
        have hs0 : p0.size ≤ 400 := HP.out p0 hm0
        have hs1 : p0.size + 1 ≤ 9223372036854775807 := by omega
        rw [← hp0] at cD
        have HP1 := Aside0.mk (hp0 ▸ HP1.out)
        clear hp0 hm0
        go_upto_if 34 with (first | (go_at_call 24; refine (creelkeep_picked.calls _ _ _ _ B1.out).mono ?_; rintro e w' ⟨rfl, ⟨nd, rfl⟩⟩))
        go_cut [10] from 35 to 36 (fun v10 wx => ∃ p1 : ByteArray, v10 = .string p1 ∧ Aside0 (p1 = if p0.toList = [] then p0 else p0 ++ ⟨#[47]⟩) ∧ Aside0 (Below wr.heap.size wr wx) ∧ Aside0 (wx.heap[wr.heap.size]? = some (.cells #[.int .i64 f0, .int .i64 f1, .int .i64 f2, .string f3] 23 (0, 0))))
        case first =>
          go_wp2_with fail
          · rename_i hz
            go_meet
            case rel =>
              refine ⟨p0 ++ ⟨#[47]⟩, rfl, ⟨by rw [if_neg (by intro h; rw [h] at hz; cases hz)]⟩, ⟨pw_below_drewN (below_alloc (Below.refl _ _) _) _⟩, ⟨?_⟩⟩
              exact heap_alloc_new _ _
          · rename_i hz
            go_meet
            case rel =>
              refine ⟨p0, rfl, ⟨by rw [if_pos (by cases h : p0.toList with | nil => rfl | cons _ _ => rw [h] at hz; cases hz)]⟩, ⟨pw_below_drewN (below_alloc (Below.refl _ _) _) _⟩, ⟨?_⟩⟩
              exact heap_alloc_new _ _
        case rest =>
          obtain ⟨p1, rfl, HQ1, HBc, HXc⟩ := hcut
          have HBW := Aside0.mk (below_step HB.out HBc.out)
          have HOc := Aside0.mk (Kd.R_below HO.out HBc.out)
          have HVc := Aside0.mk (blk_below HV.out HBc.out)
          have HNc := Aside0.mk (HN.out.below HBc.out)
          have hs2 : p1.size ≤ 401 := by
            rw [HQ1.out]; split
            · omega
            · rw [ByteArray.size_append]; show p0.size + 1 ≤ 401; omega
          have hlen11 : ns.length = 11 ∧ ∀ s ∈ ns, s.size ≤ 130 := by
            exact names_fact B2.out
          obtain ⟨hl11, hsz11⟩ := hlen11
          have hz9 : wr.heap.size < wc.heap.size := (Array.getElem?_eq_some_iff.1 HXc.out).1
          clear HO HV HN HBc HB cD cV hc0 hc1 hc2 hc3 hne hne6 hs1 hs0 hb6 hlt6
          obtain ⟨g9, hg9⟩ : ∃ g9, g9 = wr.heap.size := ⟨_, rfl⟩
          rw [← hg9] at HXc hz9
          rw [← hg9]
          clear hg9 hBW
          go_upto_region 11 with (fail)
          obtain ⟨nm, hnm⟩ : ∃ nm, nm = rdOf ByteArray.empty ns j1 := ⟨_, rfl⟩
          have hsn : nm.size ≤ 130 := by
            rw [hnm]; unfold rdOf; rw [List.getD_eq_getElem?_getD, List.getElem?_eq_getElem (by have := HJ2.out; have := HJ0.out; omega)]
            exact hsz11 _ (List.getElem_mem _)
          have HNM := Aside0.mk hnm
          have HL11 := Aside0.mk hl11
          clear hnm hl11
          have hpq : p1.size + nm.size ≤ 9223372036854775807 := by omega
          have hS : ∀ w', Below wc.heap.size wc w' → w'.cell? ⟨g9, 1, none⟩ = some (.int .i64 f1) := fun w' hb => (blk_cell (blk_below HXc.out hb) 1).trans rfl
          refine region_calm 10 [eqv (.string p1), rowv ns, eqv (.pointer (some ⟨g9, 1, none⟩)), eqv (.int .i64 f1), rowv ns, eqv (.int .i64 (ns.length : Int)), eqv (.int .i64 j1), cellv (.string nm), eqv (.string nm), eqv (.string (p1 ++ nm))] (by kernel_rfl) rfl (by kernel_rfl) ?_ (fun vals => ?_) ?_ ?_
          rotate_left
          · simp only [List.take_succ_cons, List.take_zero, putsFrom, Act.put, List.setIfInBounds_toArray, List.set_cons_zero, List.set_cons_succ]
            rfl
          · show calmAll _ _ _ _ _ _ [_, _, _, _, _, _, _, _, _, _] 0
            refine ⟨?_, ?_, ?_, ?_, ?_, ?_, ?_, ?_, ?_, ?_, trivial⟩
            · intro vals w' hb hv
              clear hv
              go_wp2
              exact ⟨Below.refl _ _, rfl, rfl⟩
            · intro vals w' hb hv
              clear hv
              go_wp2_with fail
              refine (creelkeep_names.calls ns _ B2.out).mono ?_
              rintro e w1 ⟨v, rfl, ho, hb1⟩
              obtain ⟨A, c, rfl⟩ := Kd.R_slice ho
              go_wp2
              exact ⟨hb1, rfl, A, c, rfl, (Kd.R_reads' ho).2.1, (Kd.R_reads' ho).2.2⟩
            · intro vals w' hb hv
              clear hv
              go_wp2
              exact ⟨Below.refl _ _, rfl, rfl⟩
            · intro vals w' hb hv
              have e0 : vals 2 = .pointer (some ⟨g9, 1, none⟩) := hv 2 (by decide) (by kernel_rfl)
              have s1 := hS w' hb
              clear hv
              go_wp2
              exact ⟨Below.refl _ _, rfl, rfl⟩
            · intro vals w' hb hv
              clear hv
              go_wp2_with fail
              refine (creelkeep_names.calls ns _ B2.out).mono ?_
              rintro e w1 ⟨v, rfl, ho, hb1⟩
              obtain ⟨A, c, rfl⟩ := Kd.R_slice ho
              go_wp2
              exact ⟨hb1, rfl, A, c, rfl, (Kd.R_reads' ho).2.1, (Kd.R_reads' ho).2.2⟩
            · intro vals w' hb hv
              obtain ⟨A, c, e0, _⟩ := hv 4 (by decide) (by kernel_rfl)
              clear hv
              go_wp2
              exact ⟨Below.refl _ _, rfl, rfl⟩
            · intro vals w' hb hv
              have e0 : vals 3 = .int .i64 f1 := hv 3 (by decide) (by kernel_rfl)
              have e1 : vals 5 = .int .i64 (ns.length : Int) := hv 5 (by decide) (by kernel_rfl)
              clear hv
              go_wp2_with fail
              refine (creelkeep_picked.calls _ _ j1 _ B3.out).mono ?_
              rintro e w1 ⟨rfl, hb1⟩
              go_wp2
              exact ⟨hb1.below, rfl, rfl⟩
            · intro vals w' hb hv
              obtain ⟨A, c, e0, hc, hr⟩ := hv 1 (by decide) (by kernel_rfl)
              have e1 : vals 6 = .int .i64 j1 := hv 6 (by decide) (by kernel_rfl)
              clear hv
              have k0 := HJ0.out
              have k1' := HJ2.out
              obtain ⟨ad7, rfl, hcell⟩ := Kd.at_string hr j1 k0 k1'
              rw [← HNM.out] at hcell
              go_wp2
              exact ⟨Below.refl _ _, rfl, _, rfl, cell_lt hcell, hcell⟩
            · intro vals w' hb hv
              obtain ⟨ad7, e0, hlt7, hcell⟩ := hv 7 (by decide) (by kernel_rfl)
              clear hv
              go_wp2
              exact ⟨Below.refl _ _, rfl, rfl⟩
            · intro vals w' hb hv
              have e0 : vals 0 = .string p1 := hv 0 (by decide) (by kernel_rfl)
              have e1 : vals 8 = .string nm := hv 8 (by decide) (by kernel_rfl)
              clear hv
              go_wp2
              exact ⟨Below.refl _ _, rfl, rfl⟩
          intro vals w1 hb1 hend
          have e9 : vals 9 = .string (p1 ++ nm) := hend.2.2.2.2.2.2.2.2.2.1
          clear hend hS
          have hpe : p1 ++ nm = p := by
            have h1 := HP1.out
            rw [← HNM.out] at h1
            have h2 := HQ1.out
            split at h1
            · rename_i hz
              rw [if_pos hz] at h2
              injection h1 with h1
              rw [h2, ← h1]
              have : p0 = ⟨#[]⟩ := by rw [is_mk p0, ← ByteArray.toList_eq, hz]
              rw [this]
              exact ByteArray.empty_append
            · rename_i hz
              rw [if_neg hz] at h2
              injection h1 with h1
              rw [h2, h1]
          rw [hpe] at e9
          have hp5 : p.size ≤ 531 := by rw [← hpe, ByteArray.size_append]; omega
          have HBd := Aside0.mk (below_step HBW.out hb1)
          have HOd := Aside0.mk (Kd.R_below HOc.out hb1)
          have HVd := Aside0.mk (blk_below HVc.out hb1)
          have HNd := Aside0.mk (HNc.out.below hb1)
          have HXd := Aside0.mk (blk_below HXc.out hb1)
          have hz9' : g9 < w1.heap.size := (Array.getElem?_eq_some_iff.1 HXd.out).1
          clear hpe hpq HP1 HNM HQ1 HXc HBW HOc HVc HNc hb1 hz9 hs2 hsn hsz11 HL11 HJ0 HJ2
          by_cases hbig : (400 : Int) < (p.size : Int)
          · have hst : t' = d.map (·.n) ∧ dirs' = dirs := by
              have := HST'.out
              rw [if_pos (.inl (by omega))] at this
              simp only [Option.some.injEq, Prod.mk.injEq] at this
              exact ⟨this.1.symm, this.2.symm⟩
            obtain ⟨rfl, rfl⟩ := hst
            go_wp2_with fail
            go_roundg k1
            case measure => omega
            case rel => exact ⟨dirs', d, _, by (have := HIK.out; have := HL.out; rw [w64 (by omega) (by omega)]; congr 1; omega), ⟨by (have := HIK.out; rw [show l0.length - k1 = i + 1 by omega]; exact HT'.out)⟩, ⟨by (have := HIK.out; omega)⟩, ⟨by (have := HIK.out; have := HD.out; skip; omega)⟩, ⟨by (have := HIK.out; have := HS.out; skip; omega)⟩, ⟨HP.out⟩, ⟨HOd.out⟩, ⟨HVd.out⟩, ⟨HNd.out⟩, ⟨HBd.out⟩⟩
          · have hbig2 : ¬ 400 < p.size := by omega
            have hp4 : p.size ≤ 400 := by omega
            go_upto_if 55 with (first | (go_at_call 96; refine (at2 p HNd.out HVd.out).mono ?_; rintro e w2 ⟨⟨m, rfl, hm0⟩, hb2⟩; have hm := Aside0.mk hm0; clear hm0))
            have HBe := Aside0.mk (below_step HBd.out hb2)
            have HOe := Aside0.mk (Kd.R_below HOd.out hb2)
            have HVe := Aside0.mk (blk_below HVd.out hb2)
            have HNe := Aside0.mk (HNd.out.below hb2)
            have HXe := Aside0.mk (blk_below HXd.out hb2)
            have hz9e : g9 < w2.heap.size := (Array.getElem?_eq_some_iff.1 HXe.out).1
            clear HBd HOd HVd HNd HXd hz9' hb2
            by_cases hany : d.any (fun x => x.n.f0.toList == p.toList) = true
            · have hst : t' = d.map (·.n) ∧ dirs' = dirs := by
                have := HST'.out
                rw [if_pos (.inr (by rw [List.any_map]; exact hany))] at this
                simp only [Option.some.injEq, Prod.mk.injEq] at this
                exact ⟨this.1.symm, this.2.symm⟩
              obtain ⟨rfl, rfl⟩ := hst
              have hm2 : 0 ≤ m := of_decide_eq_true (hm.out.trans hany)
              clear hany
              go_wp2_with fail
              go_roundg k1
              case measure => omega
              case rel => exact ⟨dirs', d, _, by (have := HIK.out; have := HL.out; rw [w64 (by omega) (by omega)]; congr 1; omega), ⟨by (have := HIK.out; rw [show l0.length - k1 = i + 1 by omega]; exact HT'.out)⟩, ⟨by (have := HIK.out; omega)⟩, ⟨by (have := HIK.out; have := HD.out; skip; omega)⟩, ⟨by (have := HIK.out; have := HS.out; skip; omega)⟩, ⟨HP.out⟩, ⟨HOe.out⟩, ⟨HVe.out⟩, ⟨HNe.out⟩, ⟨HBe.out⟩⟩
            · have hst : ¬ (400 < p.size ∨ (d.map (·.n)).any (fun x => x.f0.toList == p.toList) = true) := by
                rintro (h | h)
                · exact hbig2 h
                · rw [List.any_map] at h; exact hany h
              have hm2 : ¬ 0 ≤ m := by
                have h1 := hm.out
                intro h2
                rw [decide_eq_true h2] at h1
                exact hany h1.symm
              have HST2 := HST'.out
              rw [if_neg hst] at HST2
              clear hany hst HST' hm
              go_upto_region 13 with fail
              rw [Option.bind_eq_some_iff] at HST2
              obtain ⟨n, HN1, HST2⟩ := HST2
              have HST3 := Aside0.mk HST2
              clear HST2
              unfold treeNode at HN1
              rw [Option.bind_eq_some_iff] at HN1
              obtain ⟨⟨m1, m2, m3, m4, m5, m6, m7⟩, C1, HN1⟩ := HN1
              rw [Option.bind_eq_some_iff] at HN1
              obtain ⟨c, C2, HN1⟩ := HN1
              rw [Option.bind_eq_some_iff] at HN1
              obtain ⟨q, C3, HN1⟩ := HN1
              rw [Option.bind_eq_some_iff] at HN1
              obtain ⟨s, C4, HN1⟩ := HN1
              injection HN1 with HN1
              replace C1 := Aside0.mk C1
              replace C2 := Aside0.mk C2
              replace C3 := Aside0.mk C3
              replace C4 := Aside0.mk C4
              replace HN1 := Aside0.mk HN1
              have hssz : s.size ≤ 140737488355328 := (repeat_size C4.out).1
              have hS : ∀ w', Below w2.heap.size w2 w' → w'.cell? ⟨g9, 0, none⟩ = some (.int .i64 f0) ∧ w'.cell? ⟨g9, 1, none⟩ = some (.int .i64 f1) ∧ w'.cell? ⟨g9, 2, none⟩ = some (.int .i64 f2) ∧ w'.cell? ⟨g9, 3, none⟩ = some (.string f3) := fun w' hb => ⟨(blk_cell (blk_below HXe.out hb) 0).trans rfl, (blk_cell (blk_below HXe.out hb) 1).trans rfl, (blk_cell (blk_below HXe.out hb) 2).trans rfl, (blk_cell (blk_below HXe.out hb) 3).trans rfl⟩
              refine region_calm 13 [eqv (.string p), eqv (.agg #[.int .i64 f0, .int .i64 f1, .int .i64 f2, .string f3]), eqv (.agg #[.int .i64 m1, .int .i64 m2, .int .i64 m3, .string m4, .string m5, .int .i64 m6, .int .i64 m7]), eqv (.pointer (some ⟨g9, 3, none⟩)), eqv (.string f3), eqv (.string c), eqv (.pointer (some ⟨g9, 2, none⟩)), eqv (.int .i64 f2), eqv (.int .i64 q), eqv (.string s), bytev w.heap.size s, nodev w.heap.size n, newv w2.heap.size #[.string ⟨#[]⟩, .int .i64 0, .int .i64 0, .string ⟨#[]⟩, .int .i64 0, .int .i64 0, .int .i64 0, .string ⟨#[]⟩, .string ⟨#[]⟩, .int .i64 0, .int .i64 0, .slice none 0 0] 116] (by kernel_rfl) rfl (by kernel_rfl) ?_ (fun vals => ?_) ?_ ?_
              rotate_left
              · simp only [List.take_succ_cons, List.take_zero, putsFrom, Act.put, List.setIfInBounds_toArray, List.set_cons_zero, List.set_cons_succ]
                rfl
              · show calmAll _ _ _ _ _ _ [_, _, _, _, _, _, _, _, _, _, _, _, _] 0
                refine ⟨?_, ?_, ?_, ?_, ?_, ?_, ?_, ?_, ?_, ?_, ?_, ?_, ?_, trivial⟩
                · intro vals w' hb hv
                  clear hv
                  go_wp2
                  exact ⟨Below.refl _ _, rfl, rfl⟩
                · intro vals w' hb hv
                  obtain ⟨s0, s1, s2, s3⟩ := hS w' hb
                  clear hv
                  go_wp2
                  exact ⟨Below.refl _ _, rfl, rfl⟩
                · intro vals w' hb hv
                  have e0 : vals 1 = .agg #[.int .i64 f0, .int .i64 f1, .int .i64 f2, .string f3] := hv 1 (by decide) (by kernel_rfl)
                  clear hv
                  go_wp2_with fail
                  refine (creelkeep_Meta.calls _ _ _ _ m1 m2 m3 m4 m5 m6 m7 _ (G_below hG_.out (HBe.out.trans ⟨hb.os, hb.tape, hb.output, hb.size, fun i hi => hb.block i (Nat.lt_of_lt_of_le hi HBe.out.size)⟩)) C1.out).mono ?_
                  rintro e w3 ⟨rfl, hb1⟩
                  go_wp2
                  exact ⟨hb1, rfl, rfl⟩
                · intro vals w' hb hv
                  clear hv
                  go_wp2
                  exact ⟨Below.refl _ _, rfl, rfl⟩
                · intro vals w' hb hv
                  obtain ⟨s0, s1, s2, s3⟩ := hS w' hb
                  have e0 : vals 3 = .pointer (some ⟨g9, 3, none⟩) := hv 3 (by decide) (by kernel_rfl)
                  clear hv
                  go_wp2
                  exact ⟨Below.refl _ _, rfl, rfl⟩
                · intro vals w' hb hv
                  have e0 : vals 4 = .string f3 := hv 4 (by decide) (by kernel_rfl)
                  clear hv
                  go_wp2_with fail
                  refine (creelkeep_clean.calls _ _ _ _ (G_below hG_.out (HBe.out.trans ⟨hb.os, hb.tape, hb.output, hb.size, fun i hi => hb.block i (Nat.lt_of_lt_of_le hi HBe.out.size)⟩)) C2.out).mono ?_
                  rintro e w3 ⟨rfl, hb1⟩
                  go_wp2
                  exact ⟨hb1, rfl, rfl⟩
                · intro vals w' hb hv
                  clear hv
                  go_wp2
                  exact ⟨Below.refl _ _, rfl, rfl⟩
                · intro vals w' hb hv
                  obtain ⟨s0, s1, s2, s3⟩ := hS w' hb
                  have e0 : vals 6 = .pointer (some ⟨g9, 2, none⟩) := hv 6 (by decide) (by kernel_rfl)
                  clear hv
                  go_wp2
                  exact ⟨Below.refl _ _, rfl, rfl⟩
                · intro vals w' hb hv
                  have e0 : vals 7 = .int .i64 f2 := hv 7 (by decide) (by kernel_rfl)
                  clear hv
                  go_wp2_with fail
                  refine (creelkeep_picked.calls _ _ _ _ C3.out).mono ?_
                  rintro e w3 ⟨rfl, hb1⟩
                  go_wp2
                  exact ⟨hb1.below, rfl, rfl⟩
                · intro vals w' hb hv
                  have e0 : vals 5 = .string c := hv 5 (by decide) (by kernel_rfl)
                  have e1 : vals 8 = .int .i64 q := hv 8 (by decide) (by kernel_rfl)
                  clear hv
                  go_wp2_with fail
                  refine (strings_Repeat.calls _ _ _ _ C4.out).mono ?_
                  rintro e w3 ⟨rfl, hb1⟩
                  go_wp2
                  exact ⟨hb1, rfl, rfl⟩
                · intro vals w' hb hv
                  have e0 : vals 9 = .string s := hv 9 (by decide) (by kernel_rfl)
                  have kb := fun W => print_bytes (P := Tryd.prog) 9 41 5 Tryd.underlying9 Tryd.underlying41 Tryd.underlying5 s W
                  have hwz : w.heap.size ≤ w'.heap.size := Nat.le_trans HBe.out.size hb.size
                  clear hv
                  go_wp2
                  exact ⟨bytes_below (Below.refl _ _) (Nat.le_refl _) _ _, rfl, _, _, rfl, hwz, grownCap_ge _ _ _ _, Kd.C_of_reads (enc := Value.int .u8) (d := (0 : Int)) (h1 := fun _ => rfl) (bytes_reads w' 5 s (by omega)), _, _, Lib.bytesWorld_at_new _ _ _⟩
                · intro vals w' hb hv
                  have e0 : vals 0 = .string p := hv 0 (by decide) (by kernel_rfl)
                  have e1 : vals 2 = .agg #[.int .i64 m1, .int .i64 m2, .int .i64 m3, .string m4, .string m5, .int .i64 m6, .int .i64 m7] := hv 2 (by decide) (by kernel_rfl)
                  obtain ⟨g, cb, e2, hg1, hg2, hg3, cur, fr, hg4⟩ := hv 10 (by decide) (by kernel_rfl)
                  clear hv
                  go_wp2
                  have e3 := HN1.out
                  subst e3
                  exact ⟨Below.refl _ _, rfl, ⟨⟨p, 1, 0, ⟨#[]⟩, ⟨m1, m2, m3, m4, m5, m6, m7⟩, bytesOf s⟩, some ⟨g, 0, none⟩, s.size, cb, hp4⟩, rfl, rfl, (bytesOf_length s).symm, hg2, hg3, fun ad ha => by injection ha with ha; subst ha; exact ⟨hg1, cur, fr, hg4⟩⟩
                · intro vals w' hb hv
                  clear hv
                  go_wp2
                  exact ⟨below_alloc (Below.refl _ _) _, rfl, w'.heap.size, rfl, hb.size, heap_alloc_new _ _⟩
              intro vals2 w3 hb3 hend
              obtain ⟨y, hyn, e11, hyok⟩ := hend.2.2.2.2.2.2.2.2.2.2.2.1
              obtain ⟨g11, e12, hg11, b11⟩ := hend.2.2.2.2.2.2.2.2.2.2.2.2.1
              replace e11 : vals2 11 = .agg (encN y).toArray := e11
              replace e12 : vals2 12 = .pointer (some ⟨g11, 0, none⟩) := e12
              have hlt11 : g11 < w3.heap.size := (Array.getElem?_eq_some_iff.1 b11).1
              have HYN := Aside0.mk hyn
              have BY := Aside0.mk b11
              have HYO := Aside0.mk hyok
              have hw11 : w.heap.size ≤ g11 := Nat.le_trans HBe.out.size hg11
              have h9_11 : g9 ≠ g11 := by omega
              have h0_11 : w.heap.size ≠ g11 := by have := (Array.getElem?_eq_some_iff.1 HVe.out).1; omega
              clear hend hS hyn HN1 C1 C2 C3 C4 b11 hyok hssz
              have HST4 := HST3.out
              rw [Option.bind_eq_some_iff] at HST4
              obtain ⟨kd, E1, HST4⟩ := HST4
              replace E1 := Aside0.mk E1
              replace HST4 := Aside0.mk HST4
              clear HST3
              rw [show vals2 (0 + 1 + 1 + 1 + 1 + 1 + 1 + 1 + 1 + 1 + 1 + 1 + 1) = _ from e12, show vals2 (0 + 1 + 1 + 1 + 1 + 1 + 1 + 1 + 1 + 1 + 1 + 1) = _ from e11]
              clear e11 e12
              simp only [List.drop_succ_cons, List.drop_zero]
              refine ev_store_agg rfl rfl 116 (.tmp 11) (.tmp 67) rfl g11 0 (encN y).toArray #[.string ⟨#[]⟩, .int .i64 0, .int .i64 0, .string ⟨#[]⟩, .int .i64 0, .int .i64 0, .int .i64 0, .string ⟨#[]⟩, .string ⟨#[]⟩, .int .i64 0, .int .i64 0, .slice none 0 0] (encN y).toArray 116 rfl rfl BY.out (by show 0 + 12 ≤ 12; decide) (by kernel_rfl) (enc_one y) (enc_new y _ rfl) (fun w4 ht4 b4 => ?_)
              have hb24 := ht4.below hb3 hg11
              have HYg := Aside0.mk (HYO.out.far ht4 BY.out (by decide))
              have HT0 := Aside0.mk (show TS w w4 g9 g11 _ _ dirs d #[.int .i64 f0, .int .i64 f1, .int .i64 f2, .string f3] from ⟨below_step HBe.out hb24, Kd.R_below HOe.out hb24, blk_below HVe.out hb24, HNe.out.below hb24, blk_below HXe.out hb24, fun e => by
                have := own_lt HNe.out.1 g11 e
                omega, hw11⟩)
              have BN := Aside0.mk b4
              have s0 : w4.cell? ⟨g9, 0, none⟩ = some (.int .i64 f0) := (blk_cell HT0.out.hx 0).trans rfl
              clear hb3 hg11 HBe HOe HVe HNe HXe hz9e BY HYO ht4 b4 hlt11 hb24
              go_upto_block 2 with (go_at_call 24; refine (creelkeep_picked.calls _ _ _ _ E1.out).mono ?_; rintro e w5 ⟨rfl, ⟨nd5, rfl⟩⟩)
              obtain ⟨w5, hw5⟩ : ∃ w5, w5 = w4.drewN nd5 := ⟨_, rfl⟩
              rw [← hw5]
              have hb45 : Below w4.heap.size w4 w5 := by rw [hw5]; exact pw_below_drewN (Below.refl _ _) _
              have HT5 := Aside0.mk (HT0.out.below hb45)
              have BN5 := Aside0.mk (blk_below BN.out hb45)
              have HY5 := Aside0.mk (HYg.out.below hb45)
              clear hw5 hb45 HT0 BN HYg s0 h9_11 h0_11 hw11
              have hz11 : g11 < w5.heap.size := (Array.getElem?_eq_some_iff.1 BN5.out).1
              have hz9 : g9 < w5.heap.size := (Array.getElem?_eq_some_iff.1 HT5.out.hx).1
              go_cut [6, 12] from 71 to 135 (fun v6 v12 wx => ∃ (dirs2 : List ByteArray) (d2 : List SN) (y2 : SN), Aside0 (TS w wx g9 g11 v6 (.slice A5 d.length c5) dirs2 d2 #[.int .i64 f0, .int .i64 f1, .int .i64 f2, .string f3]) ∧ Aside0 (wx.heap[g11]? = some (.cells (encN y2).toArray 116 (0, 0))) ∧ Aside0 (NodeOk wx w.heap.size y2) ∧ Aside0 (t' = (d2 ++ [y2]).map (·.n)) ∧ Aside0 (dirs' = dirs2) ∧ Aside0 (d2.length = d.length) ∧ Aside0 (dirs2.length ≤ dirs.length + 1) ∧ Aside0 (∀ s ∈ dirs2, s.size ≤ 400))
              case first =>
                by_cases k0 : kd = 0 ∨ kd = 1
                · have HF := HST4.out
                  rw [if_pos k0] at HF
                  simp only [Option.some.injEq, Prod.mk.injEq] at HF
                  obtain ⟨HF1, HF2⟩ := HF
                  replace HF1 := Aside0.mk HF1
                  replace HF2 := Aside0.mk HF2
                  rcases k0 with k0 | k0
                  · have d0 : (kd == 0) = true := beq_iff_eq.mpr k0
                    clear k0
                    go_wp2_with (first | ((with_reducible refine gate_store (x := .tmp 74) (y := .const (.int .i64 2)) rfl ?_); refine ev_store_one rfl rfl 3 (.tmp 74) (.const (.int .i64 2)) rfl g11 1 (.int .i64 2) (encN y).toArray ((encN y).toArray.setIfInBounds 1 (.int .i64 2)) 116 rfl rfl BN5.out (by show 1 < 12; decide) (by kernel_rfl) rfl rfl (fun w6 ht6 b6 => ?_); have HT6 := Aside0.mk (HT5.out.turn ht6 BN5.out); have HY6 := Aside0.mk (HY5.out.far ht6 BN5.out (by decide)); have BN6 := Aside0.mk b6; clear ht6 b6) | ((with_reducible refine gate_store (x := .tmp 75) (y := .const (.slice none 0 0)) rfl ?_); refine ev_store_one rfl rfl 41 (.tmp 75) (.const (.slice none 0 0)) rfl g11 11 (.slice none 0 0) ((encN y).toArray.setIfInBounds 1 (.int .i64 2)) (encN y.dir).toArray 116 rfl rfl BN6.out (by show 11 < 12; decide) (by kernel_rfl) rfl rfl (fun w7 ht7 b7 => ?_); have HT7 := Aside0.mk (HT6.out.turn ht7 BN6.out); have BN7 := Aside0.mk b7; clear ht7 b7) | ((with_reducible refine gate_builtin (b := .append) (xs := #[.tmp 76, .tmp 78]) rfl ?_); at_builtin; refine Kd.R_append Kd.string (w0 := w) (W := w7) w.heap.size rfl (.tmp 76) (.tmp 78) 58 9 (.string ⟨#[]⟩) 16 rfl Tryd.underlying58 info9 rfl (by decide) (by omega) _ dirs p [.string p] (fun _ => True) (fun _ => False) rfl rfl rfl (fun _ hk => hk.elim) (fun _ _ => trivial) HT7.out.ho HT7.out.hb HT7.out.hb.size (by have := HS.out; have := HL.out; omega) (fun v8 w8 ho8 hb8 hg8 hat8 => ?_)))
                    go_meet
                    case rel =>
                      exact ⟨dirs ++ [p], d, y.dir, ⟨HT7.out.grown hg8 ho8 hb8⟩, ⟨(grown_blk HT7.out.ho hg8 BN7.out (by decide)).trans BN7.out⟩, ⟨nil_ok _ _ _ y.dir.hs rfl⟩, ⟨by rw [← HF1.out, ← HYN.out]; simp [SN.dir]⟩, ⟨HF2.out.symm⟩, ⟨rfl⟩, ⟨by simp⟩, ⟨fun s hs => by
                        rcases List.mem_append.1 hs with hs | hs
                        · exact HP.out s hs
                        · rw [List.mem_singleton.1 hs]; exact hp4⟩⟩
                  · have d0 : (kd == 0) = false := by rw [k0]; rfl
                    have d1 : (kd == 1) = true := beq_iff_eq.mpr k0
                    clear k0
                    go_wp2_with (first | ((with_reducible refine gate_store (x := .tmp 74) (y := .const (.int .i64 2)) rfl ?_); refine ev_store_one rfl rfl 3 (.tmp 74) (.const (.int .i64 2)) rfl g11 1 (.int .i64 2) (encN y).toArray ((encN y).toArray.setIfInBounds 1 (.int .i64 2)) 116 rfl rfl BN5.out (by show 1 < 12; decide) (by kernel_rfl) rfl rfl (fun w6 ht6 b6 => ?_); have HT6 := Aside0.mk (HT5.out.turn ht6 BN5.out); have HY6 := Aside0.mk (HY5.out.far ht6 BN5.out (by decide)); have BN6 := Aside0.mk b6; clear ht6 b6) | ((with_reducible refine gate_store (x := .tmp 75) (y := .const (.slice none 0 0)) rfl ?_); refine ev_store_one rfl rfl 41 (.tmp 75) (.const (.slice none 0 0)) rfl g11 11 (.slice none 0 0) ((encN y).toArray.setIfInBounds 1 (.int .i64 2)) (encN y.dir).toArray 116 rfl rfl BN6.out (by show 11 < 12; decide) (by kernel_rfl) rfl rfl (fun w7 ht7 b7 => ?_); have HT7 := Aside0.mk (HT6.out.turn ht7 BN6.out); have BN7 := Aside0.mk b7; clear ht7 b7) | ((with_reducible refine gate_builtin (b := .append) (xs := #[.tmp 76, .tmp 78]) rfl ?_); at_builtin; refine Kd.R_append Kd.string (w0 := w) (W := w7) w.heap.size rfl (.tmp 76) (.tmp 78) 58 9 (.string ⟨#[]⟩) 16 rfl Tryd.underlying58 info9 rfl (by decide) (by omega) _ dirs p [.string p] (fun _ => True) (fun _ => False) rfl rfl rfl (fun _ hk => hk.elim) (fun _ _ => trivial) HT7.out.ho HT7.out.hb HT7.out.hb.size (by have := HS.out; have := HL.out; omega) (fun v8 w8 ho8 hb8 hg8 hat8 => ?_)))
                    go_meet
                    case rel =>
                      exact ⟨dirs ++ [p], d, y.dir, ⟨HT7.out.grown hg8 ho8 hb8⟩, ⟨(grown_blk HT7.out.ho hg8 BN7.out (by decide)).trans BN7.out⟩, ⟨nil_ok _ _ _ y.dir.hs rfl⟩, ⟨by rw [← HF1.out, ← HYN.out]; simp [SN.dir]⟩, ⟨HF2.out.symm⟩, ⟨rfl⟩, ⟨by simp⟩, ⟨fun s hs => by
                        rcases List.mem_append.1 hs with hs | hs
                        · exact HP.out s hs
                        · rw [List.mem_singleton.1 hs]; exact hp4⟩⟩
                · have k2 : kd ≠ 0 := fun e => k0 (.inl e)
                  have k3 : kd ≠ 1 := fun e => k0 (.inr e)
                  have d0 : (kd == 0) = false := beq_eq_false_iff_ne.mpr k2
                  have d1 : (kd == 1) = false := beq_eq_false_iff_ne.mpr k3
                  have HF := HST4.out
                  rw [if_neg k0] at HF
                  clear k0 k2 k3 HST4
                  by_cases k0 : kd = 2
                  · rw [if_pos k0] at HF
                    have d2 : (kd == 2) = true := beq_iff_eq.mpr k0
                    clear k0
                    rw [Option.bind_eq_some_iff] at HF
                    obtain ⟨c2, F1, HF⟩ := HF
                    rw [Option.bind_eq_some_iff] at HF
                    obtain ⟨q2, F2, HF⟩ := HF
                    rw [Option.bind_eq_some_iff] at HF
                    obtain ⟨s2, F3, HF⟩ := HF
                    split at HF
                    case isFalse => cases HF
                    rename_i hs2
                    simp only [Option.some.injEq, Prod.mk.injEq] at HF
                    obtain ⟨HF1, HF2⟩ := HF
                    replace HF1 := Aside0.mk HF1
                    replace HF2 := Aside0.mk HF2
                    replace F1 := Aside0.mk F1
                    replace F2 := Aside0.mk F2
                    replace F3 := Aside0.mk F3
                    go_upto_region 20 with (fail)
                    obtain ⟨T, hT⟩ : ∃ T, T = (encN (y.sym ((⟨#[116]⟩ : ByteArray) ++ s2))).toArray := ⟨_, rfl⟩
                    have hTT := Aside0.mk hT
                    have T1 : T[1]? = some (.int .i64 3) := by rw [hT]; rfl
                    have T3 : T[3]? = some (.string ((⟨#[116]⟩ : ByteArray) ++ s2)) := by rw [hT]; rfl
                    have T11 : T[11]? = some (.slice none 0 0) := by rw [hT]; rfl
                    have h12 : ∀ w', Into g11 T w5 w' → ∃ c' : Array Value, w'.heap[g11]? = some (.cells c' 116 (0, 0)) ∧ c'.size = 12 := fun w' h => by
                      obtain ⟨c', a1, a2, _⟩ := h.2.2.2.2.2 _ BN5.out
                      exact ⟨c', a1, a2⟩
                    have hS : ∀ w', Into g11 T w5 w' → w'.cell? ⟨g9, 1, none⟩ = some (.int .i64 f1) ∧ w'.cell? ⟨g9, 3, none⟩ = some (.string f3) := fun w' h => by
                      have := (HT5.out.into h BN5.out).hx
                      exact ⟨(blk_cell this 1).trans rfl, (blk_cell this 3).trans rfl⟩
                    have hsz2 : 1 + s2.size ≤ 9223372036854775807 := by omega
                    clear hT
                    refine region_calm2 (ρ := Into g11 T) 14 [eqv2 (.pointer (some ⟨g9, 3, none⟩)), eqv2 (.string f3), eqv2 (.string c2), eqv2 (.pointer (some ⟨g9, 1, none⟩)), eqv2 (.int .i64 f1), eqv2 (.int .i64 q2), eqv2 (.string s2), eqv2 (.string ((⟨#[116]⟩ : ByteArray) ++ s2)), eqv2 (.pointer (some ⟨g11, 1, none⟩)), storev g11 T 1, eqv2 (.pointer (some ⟨g11, 11, none⟩)), storev g11 T 11, eqv2 (.pointer (some ⟨g11, 3, none⟩)), storev g11 T 3] (calmly_into _ _) (by kernel_rfl) rfl (by kernel_rfl) ?_ (fun vals => ?_) ?_ ?_
                    rotate_left
                    · simp only [List.take_succ_cons, List.take_zero, putsFrom, Act.put, List.setIfInBounds_toArray, List.set_cons_zero, List.set_cons_succ]
                      rfl
                    · show calmAll2 _ _ _ _ _ _ [_, _, _, _, _, _, _, _, _, _, _, _, _, _] 0
                      refine ⟨?_, ?_, ?_, ?_, ?_, ?_, ?_, ?_, ?_, ?_, ?_, ?_, ?_, ?_, trivial⟩
                      · intro vals w' hb hv
                        clear hv
                        go_wp2
                        exact ⟨(calmly_into _ _).refl _, rfl, rfl⟩
                      · intro vals w' hb hv
                        have e0 : vals 0 = .pointer (some ⟨g9, 3, none⟩) := hv 0 (by decide) (by kernel_rfl)
                        obtain ⟨s1, s3⟩ := hS w' hb
                        clear hv
                        go_wp2
                        exact ⟨(calmly_into _ _).refl _, rfl, rfl⟩
                      · intro vals w' hb hv
                        have e0 : vals 1 = .string f3 := hv 1 (by decide) (by kernel_rfl)
                        clear hv
                        go_wp2_with fail
                        refine (creelkeep_clean.calls _ _ _ _ (G_below hG_.out (HT5.out.into hb BN5.out).hb) F1.out).mono ?_
                        rintro e w3 ⟨rfl, hb1⟩
                        go_wp2
                        exact ⟨into_below hb1, rfl, rfl⟩
                      · intro vals w' hb hv
                        clear hv
                        go_wp2
                        exact ⟨(calmly_into _ _).refl _, rfl, rfl⟩
                      · intro vals w' hb hv
                        have e0 : vals 3 = .pointer (some ⟨g9, 1, none⟩) := hv 3 (by decide) (by kernel_rfl)
                        obtain ⟨s1, s3⟩ := hS w' hb
                        clear hv
                        go_wp2
                        exact ⟨(calmly_into _ _).refl _, rfl, rfl⟩
                      · intro vals w' hb hv
                        have e0 : vals 4 = .int .i64 f1 := hv 4 (by decide) (by kernel_rfl)
                        clear hv
                        go_wp2_with fail
                        refine (creelkeep_picked.calls _ _ _ _ F2.out).mono ?_
                        rintro e w3 ⟨rfl, hb1⟩
                        go_wp2
                        exact ⟨into_below hb1.below, rfl, rfl⟩
                      · intro vals w' hb hv
                        have e0 : vals 2 = .string c2 := hv 2 (by decide) (by kernel_rfl)
                        have e1 : vals 5 = .int .i64 q2 := hv 5 (by decide) (by kernel_rfl)
                        clear hv
                        go_wp2_with fail
                        refine (strings_Repeat.calls _ _ _ _ F3.out).mono ?_
                        rintro e w3 ⟨rfl, hb1⟩
                        go_wp2
                        exact ⟨into_below hb1, rfl, rfl⟩
                      · intro vals w' hb hv
                        have e0 : vals 6 = .string s2 := hv 6 (by decide) (by kernel_rfl)
                        clear hv
                        go_wp2
                        exact ⟨(calmly_into _ _).refl _, rfl, rfl⟩
                      · intro vals w' hb hv
                        clear hv
                        go_wp2
                        exact ⟨(calmly_into _ _).refl _, rfl, rfl⟩
                      · intro vals w' hb hv
                        have e0 : vals 8 = .pointer (some ⟨g11, 1, none⟩) := hv 8 (by decide) (by kernel_rfl)
                        obtain ⟨c', hc1, hc2⟩ := h12 w' hb
                        clear hv
                        refine ev_store_one rfl rfl 3 (.tmp 90) (.const (.int .i64 3)) rfl g11 1 (.int .i64 3) c' _ 116 e0 rfl hc1 (by omega) (by kernel_rfl) rfl rfl (fun w6 ht6 b6 => ?_)
                        exact ⟨into_turn ht6 hc1 b6 T1 (by omega), rfl, _, b6, by simp [hc2], by rw [T1]; simp [hc2]⟩
                      · intro vals w' hb hv
                        clear hv
                        go_wp2
                        exact ⟨(calmly_into _ _).refl _, rfl, rfl⟩
                      · intro vals w' hb hv
                        have e0 : vals 10 = .pointer (some ⟨g11, 11, none⟩) := hv 10 (by decide) (by kernel_rfl)
                        obtain ⟨c', hc1, hc2⟩ := h12 w' hb
                        clear hv
                        refine ev_store_one rfl rfl 41 (.tmp 91) (.const (.slice none 0 0)) rfl g11 11 (.slice none 0 0) c' _ 116 e0 rfl hc1 (by omega) (by kernel_rfl) rfl rfl (fun w6 ht6 b6 => ?_)
                        exact ⟨into_turn ht6 hc1 b6 T11 (by omega), rfl, _, b6, by simp [hc2], by rw [T11]; simp [hc2]⟩
                      · intro vals w' hb hv
                        clear hv
                        go_wp2
                        exact ⟨(calmly_into _ _).refl _, rfl, rfl⟩
                      · intro vals w' hb hv
                        have e0 : vals 12 = .pointer (some ⟨g11, 3, none⟩) := hv 12 (by decide) (by kernel_rfl)
                        have e1 : vals 7 = .string ((⟨#[116]⟩ : ByteArray) ++ s2) := hv 7 (by decide) (by kernel_rfl)
                        obtain ⟨c', hc1, hc2⟩ := h12 w' hb
                        clear hv
                        refine ev_store_one rfl rfl 9 (.tmp 92) (.tmp 89) rfl g11 3 (.string ((⟨#[116]⟩ : ByteArray) ++ s2)) c' _ 116 e0 e1 hc1 (by omega) (by kernel_rfl) rfl rfl (fun w6 ht6 b6 => ?_)
                        exact ⟨into_turn ht6 hc1 b6 T3 (by omega), rfl, _, b6, by simp [hc2], by rw [T3]; simp [hc2]⟩
                    intro vals3 w6 hi6 hend
                    have hb6 := into_end hi6 BN5.out rfl (by rw [hTT.out]; rfl) (fun i e1 e3 e11 => by
                      rw [hTT.out]
                      match i, e1, e3, e11 with
                      | 0, _, _, _ => rfl
                      | 1, e, _, _ => exact absurd rfl e
                      | 2, _, _, _ => rfl
                      | 3, _, e, _ => exact absurd rfl e
                      | 4, _, _, _ => rfl
                      | 5, _, _, _ => rfl
                      | 6, _, _, _ => rfl
                      | 7, _, _, _ => rfl
                      | 8, _, _, _ => rfl
                      | 9, _, _, _ => rfl
                      | 10, _, _, _ => rfl
                      | 11, _, _, e => exact absurd rfl e
                      | n + 12, _, _, _ => rfl) hend.2.2.2.2.2.2.2.2.2.1 hend.2.2.2.2.2.2.2.2.2.2.2.2.2.1 hend.2.2.2.2.2.2.2.2.2.2.2.1
                    have HT6 := HT5.out.into hi6 BN5.out
                    rw [hTT.out] at hb6
                    clear hend hS h12
                    go_wp2_with fail
                    go_meet
                    case rel =>
                      exact ⟨dirs, d, y.sym ((⟨#[116]⟩ : ByteArray) ++ s2), ⟨HT6⟩, ⟨hb6⟩, ⟨nil_ok _ _ _ (y.sym _).hs rfl⟩, ⟨by rw [← HF1.out, ← HYN.out]; simp [SN.sym]⟩, ⟨HF2.out.symm⟩, ⟨rfl⟩, ⟨by omega⟩, ⟨HP.out⟩⟩
                  · rw [if_neg k0] at HF
                    have d2 : (kd == 2) = false := beq_eq_false_iff_ne.mpr k0
                    clear k0
                    by_cases k0 : kd = 3 ∨ kd = 4
                    · rw [if_pos k0] at HF
                      rw [Option.bind_eq_some_iff] at HF
                      obtain ⟨k, E2, HF⟩ := HF
                      rw [List.length_map] at E2
                      split at HF
                      case isFalse => cases HF
                      rename_i hk0
                      obtain ⟨kn, rfl⟩ := Int.eq_ofNat_of_zero_le hk0
                      clear hk0
                      replace E2 := Aside0.mk E2
                      rw [Int.toNat_natCast] at HF
                      have HF0 := Aside0.mk HF
                      clear HF
                      have c1 : w5.cell? ⟨g9, 1, none⟩ = some (.int .i64 f1) := (blk_cell HT5.out.hx 1).trans rfl
                      have cV : w5.cell? ⟨w.heap.size, 0, none⟩ = some (.slice A5 d.length c5) := (blk_cell HT5.out.hv 0).trans rfl
                      rcases k0 with k0 | k0
                      · have d3 : (kd == 3) = true := beq_iff_eq.mpr k0
                        clear k0
                        have HT6 := HT5.out
                        have hd6 : ¬ (kn : Int) < (d.length : Int) ∨ ∃ u, d[kn]? = some u := by
                          by_cases h : kn < d.length
                          · exact .inr ⟨_, List.getElem?_eq_getElem h⟩
                          · exact .inl (by omega)
                        clear HT6
                        rcases hd6 with hk6 | ⟨u, hu⟩
                        · go_wp2_with (go_at_call 24; refine (creelkeep_picked.calls _ _ (kn : Int) _ (by first | exact E2.out | (rw [w64 (by have := HD.out; have := HL.out; omega) (by have := HD.out; have := HL.out; omega)]; exact E2.out))).mono ?_; rintro e w6 ⟨rfl, ⟨nd6, rfl⟩⟩)
                          go_meet
                          case rel =>
                            have hkn : (d.map (·.n))[kn]? = none := List.getElem?_eq_none (by rw [List.length_map]; omega)
                            have h := HF0.out
                            rw [hkn] at h
                            simp only [Option.some.injEq, Prod.mk.injEq] at h
                            exact ⟨dirs, d, y, ⟨HT5.out.below (pw_below_drewN (Below.refl _ _) _)⟩, ⟨BN5.out⟩, ⟨HY5.out.below (pw_below_drewN (Below.refl _ _) _)⟩, ⟨by rw [← h.1, ← HYN.out]; simp⟩, ⟨h.2.symm⟩, ⟨rfl⟩, ⟨by omega⟩, ⟨HP.out⟩⟩
                        · obtain ⟨un, uA, ul, uc, uh⟩ := u
                          have hlu : ul = un.f5.length := (HT5.out.hn.2 _ (List.mem_of_getElem? hu)).len
                          subst hlu
                          have hkd : kn < d.length := (List.getElem?_eq_some_iff.1 hu).1
                          have hk1 : (kn : Int) < (d.length : Int) := by omega
                          obtain ⟨g5, rfl⟩ : ∃ g5, A5 = some ⟨g5, 0, none⟩ := by
                            rcases HT5.out.hn.1.2 with ⟨h1, h2⟩ | ⟨g, cap, cur, e1, _⟩
                            · omega
                            · injection e1 with e1; exact ⟨g, e1⟩
                          obtain ⟨cur, hcur, _, hc1, hc2, hc3, hc4, hc5⟩ := HT5.out.hn.at_
                          have hcu := hc5 kn _ hu
                          have hcs : kn * 12 + 12 ≤ cur.size := by rw [hc3]; omega
                          have hcell : ∀ i v, (encN ⟨un, uA, un.f5.length, uc, uh⟩)[i]? = some v → w5.cell? ⟨g5, kn * 12 + i, none⟩ = some v := fun i v hv => by
                            rw [blk_cell hcur, ← Array.getElem?_toList, ← List.getElem?_drop]
                            have hi : i < (encN ⟨un, uA, un.f5.length, uc, uh⟩).length := (List.getElem?_eq_some_iff.1 hv).1
                            rw [← hcu, List.getElem?_take, if_pos hi] at hv
                            exact hv
                          have cK := hcell 1 _ rfl
                          have cS := hcell 2 _ rfl
                          have CB5 := Aside0.mk hcur
                          have CH5 := Aside0.mk hcu
                          have CS5 := Aside0.mk hcs
                          have HUX := Aside0.mk hu
                          have hg511 : g5 ≠ g11 := fun e => HT5.out.far (by rw [e]; rfl)
                          have hz5 : g5 < w5.heap.size := (Array.getElem?_eq_some_iff.1 hcur).1
                          clear hcell hcu hcur hc1 hc2 hc3 hc4 hc5 hcs hu
                          have h := HF0.out
                          rw [List.getElem?_map, HUX.out] at h
                          simp only [Option.map_some] at h
                          replace HF0 := Aside0.mk h
                          clear h
                          by_cases hf1 : un.f1 = 1
                          · have h := HF0.out
                            rw [if_pos hf1] at h
                            rw [Option.bind_eq_some_iff] at h
                            obtain ⟨b9, E3, h⟩ := h
                            simp only [Option.some.injEq, Prod.mk.injEq] at h
                            obtain ⟨HF1, HF2⟩ := h
                            replace HF1 := Aside0.mk HF1
                            replace HF2 := Aside0.mk HF2
                            replace E3 := Aside0.mk E3
                            have hb1 : (un.f1 == 1) = true := beq_iff_eq.mpr hf1
                            clear hf1
                            by_cases hf2 : un.f2 = 0
                            · have hb2 : (un.f2 == 0) = true := beq_iff_eq.mpr hf2
                              have HF2Z := Aside0.mk hf2
                              clear hf2
                              go_upto_region 26 with (go_at_call 24; refine (creelkeep_picked.calls _ _ (kn : Int) _ (by first | exact E2.out | (rw [w64 (by have := HD.out; have := HL.out; omega) (by have := HD.out; have := HL.out; omega)]; exact E2.out))).mono ?_; rintro e w6 ⟨rfl, ⟨nd6, rfl⟩⟩)
                              obtain ⟨w6a, hw6⟩ : ∃ w6a, w6a = w5.drewN nd6 := ⟨_, rfl⟩
                              rw [← hw6]
                              obtain ⟨kv, hkv⟩ : ∃ kv, kv = wrap64 ((kn : Int) + 1) := ⟨_, rfl⟩
                              have HKV := Aside0.mk hkv
                              clear hkv
                              have hb56 : Below w5.heap.size w5 w6a := by rw [hw6]; exact pw_below_drewN (Below.refl _ _) _
                              have HT6a := Aside0.mk (HT5.out.below hb56)
                              have BN6a := Aside0.mk (blk_below BN5.out hb56)
                              have CB6a := Aside0.mk (blk_below CB5.out hb56)
                              have cV6a : w6a.cell? ⟨w.heap.size, 0, none⟩ = some (.slice (some ⟨g5, 0, none⟩) d.length c5) := (blk_cell HT6a.out.hv 0).trans rfl
                              clear hw6 hb56
                              go_upto_region 27 with ((with_reducible refine gate_store (x := .tmp 125) (y := .tmp 123) rfl ?_); refine ev_store_one rfl rfl 3 (.tmp 125) (.tmp 123) rfl g5 (kn * 12 + 2) (.int .i64 kv) cur _ 116 (by first | rfl | (simp; done)) (by rw [HKV.out]; rfl) CB6a.out (by have := CS5.out; omega) (by kernel_rfl) rfl rfl (fun w6 ht6 b6 => ?_); have HT6 := Aside0.mk (HT6a.out.set2 HUX.out kv ht6 CB6a.out b6); have BN6 := Aside0.mk (ht6.blk BN6a.out (fun e => hg511 e.symm)); clear ht6 b6)
                              clear cV6a
                              have HU6 := Aside0.mk (show (d.set kn ((⟨un, uA, un.f5.length, uc, uh⟩ : SN).set2 kv))[kn]? = some ((⟨un, uA, un.f5.length, uc, uh⟩ : SN).set2 kv) from by rw [List.getElem?_set_self hkd])
                              obtain ⟨cur6, hcur6, _, hcu6⟩ := HT6.out.hn.row HU6.out
                              have CB6 := Aside0.mk hcur6
                              have CH6 := Aside0.mk hcu6
                              clear hcur6 hcu6
                              have cV6 : w6.cell? ⟨w.heap.size, 0, none⟩ = some (.slice (some ⟨g5, 0, none⟩) d.length c5) := (blk_cell HT6.out.hv 0).trans rfl
                              have hz6 : g5 < w6.heap.size := (Array.getElem?_eq_some_iff.1 CB6.out).1
                              have hz6b : g11 < w6.heap.size := (Array.getElem?_eq_some_iff.1 BN6.out).1
                              go_wp2_with (first | ((with_reducible refine gate_load (T := 116) (x := .tmp 128) rfl ?_); refine ev_load_agg rfl 116 (.tmp 128) rfl g5 (kn * 12) _ 116 (encN ((⟨un, uA, un.f5.length, uc, uh⟩ : SN).set2 kv)) _ (by first | rfl | (simp; done)) CB6.out CH6.out Tryd.underlying116 rfl (by kernel_rfl) ?_) | ((with_reducible refine gate_store (x := .tmp 11) (y := .tmp 129) rfl ?_); refine ev_store_agg rfl rfl 116 (.tmp 11) (.tmp 129) rfl g11 0 (encN ((⟨un, uA, un.f5.length, uc, uh⟩ : SN).set2 kv)).toArray (encN y).toArray (encN ((⟨un, uA, un.f5.length, uc, uh⟩ : SN).set2 kv)).toArray 116 rfl rfl BN6.out (by show 0 + 12 ≤ 12; decide) (by kernel_rfl) (enc_one _) (enc_new _ _ rfl) (fun w7 ht7 b7 => ?_); have HT7 := Aside0.mk (HT6.out.turn ht7 BN6.out); have BN7 := Aside0.mk b7; clear ht7 b7) | ((with_reducible refine gate_store (x := .tmp 131) (y := .tmp 130) rfl ?_); refine ev_store_one rfl rfl 9 (.tmp 131) (.tmp 130) rfl g11 0 (.string p) (encN ((⟨un, uA, un.f5.length, uc, uh⟩ : SN).set2 kv)).toArray ((encN ((⟨un, uA, un.f5.length, uc, uh⟩ : SN).set2 kv)).toArray.setIfInBounds 0 (.string p)) 116 rfl rfl BN7.out (by show 0 < 12; decide) (by kernel_rfl) rfl rfl (fun w8 ht8 b8 => ?_); have HT8 := Aside0.mk (HT7.out.turn ht8 BN7.out); have cD : w8.cell? ⟨g11, 11, none⟩ = some (.slice uA un.f5.length uc) := enc_cell11 _ p b8; have BN8 := Aside0.mk b8; clear ht8 b8) | (go_at_call 57; refine (slices_Clone_byte_byte.calls uA uc un.f5 b9 _ (HT8.out.hn.2 _ (List.mem_of_getElem? HU6.out)).rd (HT8.out.hn.2 _ (List.mem_of_getElem? HU6.out)).le E3.out).mono ?_; rintro e w9 ⟨v9, rfl, ho9, hb9⟩; obtain ⟨A9, c9, rfl⟩ := Kd.R_slice ho9; have HO9 := Aside0.mk (Kd.R_lower ho9 HT8.out.hb.size); have HT9 := Aside0.mk (HT8.out.below hb9); have BN9 := Aside0.mk (blk_below BN8.out hb9); clear cD ho9 hb9) | ((with_reducible refine gate_store (x := .tmp 135) (y := .tmp 134) rfl ?_); refine ev_store_one rfl rfl 41 (.tmp 135) (.tmp 134) rfl g11 11 (.slice A9 b9.length c9) ((encN ((⟨un, uA, un.f5.length, uc, uh⟩ : SN).set2 kv)).toArray.setIfInBounds 0 (.string p)) (encN ⟨{ (SN.n ((⟨un, uA, un.f5.length, uc, uh⟩ : SN).set2 kv)) with f0 := p, f5 := b9 }, A9, b9.length, c9, hp4⟩).toArray 116 rfl rfl BN9.out (by show 11 < 12; decide) (by kernel_rfl) rfl (enc_copy _ p hp4 b9 A9 c9) (fun w10 ht10 b10 => ?_); have HT10 := Aside0.mk (HT9.out.turn ht10 BN9.out); have HY10 := Aside0.mk ((NodeOk.ofR HO9.out { (SN.n ((⟨un, uA, un.f5.length, uc, uh⟩ : SN).set2 kv)) with f0 := p, f5 := b9 } rfl hp4).far ht10 BN9.out (by decide)); have BN10 := Aside0.mk b10; clear ht10 b10))
                              go_meet
                              case rel =>
                                have hw : wrap64 ((kn : Int) + 1) = (kn : Int) + 1 := w64 (by have := HD.out; have := HL.out; omega) (by have := HD.out; have := HL.out; omega)
                                refine ⟨dirs, _, ⟨{ (SN.n ((⟨un, uA, un.f5.length, uc, uh⟩ : SN).set2 kv)) with f0 := p, f5 := b9 }, A9, b9.length, c9, hp4⟩, ⟨HT10.out⟩, ⟨BN10.out⟩, ⟨HY10.out⟩, ⟨?_⟩, ⟨HF2.out.symm⟩, ⟨List.length_set⟩, ⟨by omega⟩, ⟨HP.out⟩⟩
                                rw [← HF1.out, if_pos HF2Z.out, List.map_append, List.map_set, ← hw, ← HKV.out]
                                simp only [SN.set2, List.map_cons, List.map_nil]
                            · have hb2 : (un.f2 == 0) = false := beq_eq_false_iff_ne.mpr hf2
                              have HF2Z := Aside0.mk hf2
                              clear hf2
                              go_upto_region 27 with (go_at_call 24; refine (creelkeep_picked.calls _ _ (kn : Int) _ (by first | exact E2.out | (rw [w64 (by have := HD.out; have := HL.out; omega) (by have := HD.out; have := HL.out; omega)]; exact E2.out))).mono ?_; rintro e w6 ⟨rfl, ⟨nd6, rfl⟩⟩)
                              obtain ⟨w6, hw6⟩ : ∃ w6, w6 = w5.drewN nd6 := ⟨_, rfl⟩
                              rw [← hw6]
                              have hb56 : Below w5.heap.size w5 w6 := by rw [hw6]; exact pw_below_drewN (Below.refl _ _) _
                              have HT6 := Aside0.mk (HT5.out.below hb56)
                              have BN6 := Aside0.mk (blk_below BN5.out hb56)
                              have CB6 := Aside0.mk (blk_below CB5.out hb56)
                              have CH6 := CH5
                              have HU6 := HUX
                              have cV6 : w6.cell? ⟨w.heap.size, 0, none⟩ = some (.slice (some ⟨g5, 0, none⟩) d.length c5) := (blk_cell HT6.out.hv 0).trans rfl
                              clear hw6 hb56
                              have hz6 : g5 < w6.heap.size := (Array.getElem?_eq_some_iff.1 CB6.out).1
                              have hz6b : g11 < w6.heap.size := (Array.getElem?_eq_some_iff.1 BN6.out).1
                              go_wp2_with (first | ((with_reducible refine gate_load (T := 116) (x := .tmp 128) rfl ?_); refine ev_load_agg rfl 116 (.tmp 128) rfl g5 (kn * 12) _ 116 (encN (⟨un, uA, un.f5.length, uc, uh⟩ : SN)) _ (by first | rfl | (simp; done)) CB6.out CH6.out Tryd.underlying116 rfl (by kernel_rfl) ?_) | ((with_reducible refine gate_store (x := .tmp 11) (y := .tmp 129) rfl ?_); refine ev_store_agg rfl rfl 116 (.tmp 11) (.tmp 129) rfl g11 0 (encN (⟨un, uA, un.f5.length, uc, uh⟩ : SN)).toArray (encN y).toArray (encN (⟨un, uA, un.f5.length, uc, uh⟩ : SN)).toArray 116 rfl rfl BN6.out (by show 0 + 12 ≤ 12; decide) (by kernel_rfl) (enc_one _) (enc_new _ _ rfl) (fun w7 ht7 b7 => ?_); have HT7 := Aside0.mk (HT6.out.turn ht7 BN6.out); have BN7 := Aside0.mk b7; clear ht7 b7) | ((with_reducible refine gate_store (x := .tmp 131) (y := .tmp 130) rfl ?_); refine ev_store_one rfl rfl 9 (.tmp 131) (.tmp 130) rfl g11 0 (.string p) (encN (⟨un, uA, un.f5.length, uc, uh⟩ : SN)).toArray ((encN (⟨un, uA, un.f5.length, uc, uh⟩ : SN)).toArray.setIfInBounds 0 (.string p)) 116 rfl rfl BN7.out (by show 0 < 12; decide) (by kernel_rfl) rfl rfl (fun w8 ht8 b8 => ?_); have HT8 := Aside0.mk (HT7.out.turn ht8 BN7.out); have cD : w8.cell? ⟨g11, 11, none⟩ = some (.slice uA un.f5.length uc) := enc_cell11 _ p b8; have BN8 := Aside0.mk b8; clear ht8 b8) | (go_at_call 57; refine (slices_Clone_byte_byte.calls uA uc un.f5 b9 _ (HT8.out.hn.2 _ (List.mem_of_getElem? HU6.out)).rd (HT8.out.hn.2 _ (List.mem_of_getElem? HU6.out)).le E3.out).mono ?_; rintro e w9 ⟨v9, rfl, ho9, hb9⟩; obtain ⟨A9, c9, rfl⟩ := Kd.R_slice ho9; have HO9 := Aside0.mk (Kd.R_lower ho9 HT8.out.hb.size); have HT9 := Aside0.mk (HT8.out.below hb9); have BN9 := Aside0.mk (blk_below BN8.out hb9); clear cD ho9 hb9) | ((with_reducible refine gate_store (x := .tmp 135) (y := .tmp 134) rfl ?_); refine ev_store_one rfl rfl 41 (.tmp 135) (.tmp 134) rfl g11 11 (.slice A9 b9.length c9) ((encN (⟨un, uA, un.f5.length, uc, uh⟩ : SN)).toArray.setIfInBounds 0 (.string p)) (encN ⟨{ (SN.n (⟨un, uA, un.f5.length, uc, uh⟩ : SN)) with f0 := p, f5 := b9 }, A9, b9.length, c9, hp4⟩).toArray 116 rfl rfl BN9.out (by show 11 < 12; decide) (by kernel_rfl) rfl (enc_copy _ p hp4 b9 A9 c9) (fun w10 ht10 b10 => ?_); have HT10 := Aside0.mk (HT9.out.turn ht10 BN9.out); have HY10 := Aside0.mk ((NodeOk.ofR HO9.out { (SN.n (⟨un, uA, un.f5.length, uc, uh⟩ : SN)) with f0 := p, f5 := b9 } rfl hp4).far ht10 BN9.out (by decide)); have BN10 := Aside0.mk b10; clear ht10 b10))
                              go_meet
                              case rel =>
                                refine ⟨dirs, d, ⟨{ (SN.n (⟨un, uA, un.f5.length, uc, uh⟩ : SN)) with f0 := p, f5 := b9 }, A9, b9.length, c9, hp4⟩, ⟨HT10.out⟩, ⟨BN10.out⟩, ⟨HY10.out⟩, ⟨?_⟩, ⟨HF2.out.symm⟩, ⟨rfl⟩, ⟨by omega⟩, ⟨HP.out⟩⟩
                                rw [← HF1.out, if_neg HF2Z.out, List.map_append]
                                congr 1
                                refine List.ext_getElem? (fun q => ?_)
                                by_cases e : kn = q
                                · subst e
                                  rw [List.getElem?_set_self (by rw [List.length_map]; exact hkd), List.getElem?_map, HUX.out]
                                  rfl
                                · rw [List.getElem?_set_ne e]
                          · have h := HF0.out
                            rw [if_neg hf1] at h
                            simp only [Option.some.injEq, Prod.mk.injEq] at h
                            obtain ⟨HF1, HF2⟩ := h
                            replace HF1 := Aside0.mk HF1
                            replace HF2 := Aside0.mk HF2
                            have hb1 : (un.f1 == 1) = false := beq_eq_false_iff_ne.mpr hf1
                            clear hf1
                            go_wp2_with (go_at_call 24; refine (creelkeep_picked.calls _ _ (kn : Int) _ (by first | exact E2.out | (rw [w64 (by have := HD.out; have := HL.out; omega) (by have := HD.out; have := HL.out; omega)]; exact E2.out))).mono ?_; rintro e w6 ⟨rfl, ⟨nd6, rfl⟩⟩)
                            go_meet
                            case rel =>
                              exact ⟨dirs, d, y, ⟨HT5.out.below (pw_below_drewN (Below.refl _ _) _)⟩, ⟨BN5.out⟩, ⟨HY5.out.below (pw_below_drewN (Below.refl _ _) _)⟩, ⟨by rw [← HF1.out, ← HYN.out]; simp⟩, ⟨HF2.out.symm⟩, ⟨rfl⟩, ⟨by omega⟩, ⟨HP.out⟩⟩
                      · have d3 : (kd == 3) = false := by rw [k0]; rfl
                        have d4 : (kd == 4) = true := beq_iff_eq.mpr k0
                        clear k0
                        have HT6 := HT5.out
                        have hd6 : ¬ (kn : Int) < (d.length : Int) ∨ ∃ u, d[kn]? = some u := by
                          by_cases h : kn < d.length
                          · exact .inr ⟨_, List.getElem?_eq_getElem h⟩
                          · exact .inl (by omega)
                        clear HT6
                        rcases hd6 with hk6 | ⟨u, hu⟩
                        · go_wp2_with (go_at_call 24; refine (creelkeep_picked.calls _ _ (kn : Int) _ (by first | exact E2.out | (rw [w64 (by have := HD.out; have := HL.out; omega) (by have := HD.out; have := HL.out; omega)]; exact E2.out))).mono ?_; rintro e w6 ⟨rfl, ⟨nd6, rfl⟩⟩)
                          go_meet
                          case rel =>
                            have hkn : (d.map (·.n))[kn]? = none := List.getElem?_eq_none (by rw [List.length_map]; omega)
                            have h := HF0.out
                            rw [hkn] at h
                            simp only [Option.some.injEq, Prod.mk.injEq] at h
                            exact ⟨dirs, d, y, ⟨HT5.out.below (pw_below_drewN (Below.refl _ _) _)⟩, ⟨BN5.out⟩, ⟨HY5.out.below (pw_below_drewN (Below.refl _ _) _)⟩, ⟨by rw [← h.1, ← HYN.out]; simp⟩, ⟨h.2.symm⟩, ⟨rfl⟩, ⟨by omega⟩, ⟨HP.out⟩⟩
                        · obtain ⟨un, uA, ul, uc, uh⟩ := u
                          have hlu : ul = un.f5.length := (HT5.out.hn.2 _ (List.mem_of_getElem? hu)).len
                          subst hlu
                          have hkd : kn < d.length := (List.getElem?_eq_some_iff.1 hu).1
                          have hk1 : (kn : Int) < (d.length : Int) := by omega
                          obtain ⟨g5, rfl⟩ : ∃ g5, A5 = some ⟨g5, 0, none⟩ := by
                            rcases HT5.out.hn.1.2 with ⟨h1, h2⟩ | ⟨g, cap, cur, e1, _⟩
                            · omega
                            · injection e1 with e1; exact ⟨g, e1⟩
                          obtain ⟨cur, hcur, _, hc1, hc2, hc3, hc4, hc5⟩ := HT5.out.hn.at_
                          have hcu := hc5 kn _ hu
                          have hcs : kn * 12 + 12 ≤ cur.size := by rw [hc3]; omega
                          have hcell : ∀ i v, (encN ⟨un, uA, un.f5.length, uc, uh⟩)[i]? = some v → w5.cell? ⟨g5, kn * 12 + i, none⟩ = some v := fun i v hv => by
                            rw [blk_cell hcur, ← Array.getElem?_toList, ← List.getElem?_drop]
                            have hi : i < (encN ⟨un, uA, un.f5.length, uc, uh⟩).length := (List.getElem?_eq_some_iff.1 hv).1
                            rw [← hcu, List.getElem?_take, if_pos hi] at hv
                            exact hv
                          have cK := hcell 1 _ rfl
                          have cS := hcell 2 _ rfl
                          have CB5 := Aside0.mk hcur
                          have CH5 := Aside0.mk hcu
                          have CS5 := Aside0.mk hcs
                          have HUX := Aside0.mk hu
                          have hg511 : g5 ≠ g11 := fun e => HT5.out.far (by rw [e]; rfl)
                          have hz5 : g5 < w5.heap.size := (Array.getElem?_eq_some_iff.1 hcur).1
                          clear hcell hcu hcur hc1 hc2 hc3 hc4 hc5 hcs hu
                          have h := HF0.out
                          rw [List.getElem?_map, HUX.out] at h
                          simp only [Option.map_some] at h
                          replace HF0 := Aside0.mk h
                          clear h
                          by_cases hf1 : un.f1 = 1
                          · have h := HF0.out
                            rw [if_pos hf1] at h
                            rw [Option.bind_eq_some_iff] at h
                            obtain ⟨b9, E3, h⟩ := h
                            simp only [Option.some.injEq, Prod.mk.injEq] at h
                            obtain ⟨HF1, HF2⟩ := h
                            replace HF1 := Aside0.mk HF1
                            replace HF2 := Aside0.mk HF2
                            replace E3 := Aside0.mk E3
                            have hb1 : (un.f1 == 1) = true := beq_iff_eq.mpr hf1
                            clear hf1
                            by_cases hf2 : un.f2 = 0
                            · have hb2 : (un.f2 == 0) = true := beq_iff_eq.mpr hf2
                              have HF2Z := Aside0.mk hf2
                              clear hf2
                              go_upto_region 26 with (go_at_call 24; refine (creelkeep_picked.calls _ _ (kn : Int) _ (by first | exact E2.out | (rw [w64 (by have := HD.out; have := HL.out; omega) (by have := HD.out; have := HL.out; omega)]; exact E2.out))).mono ?_; rintro e w6 ⟨rfl, ⟨nd6, rfl⟩⟩)
                              obtain ⟨w6a, hw6⟩ : ∃ w6a, w6a = w5.drewN nd6 := ⟨_, rfl⟩
                              rw [← hw6]
                              obtain ⟨kv, hkv⟩ : ∃ kv, kv = wrap64 ((kn : Int) + 1) := ⟨_, rfl⟩
                              have HKV := Aside0.mk hkv
                              clear hkv
                              have hb56 : Below w5.heap.size w5 w6a := by rw [hw6]; exact pw_below_drewN (Below.refl _ _) _
                              have HT6a := Aside0.mk (HT5.out.below hb56)
                              have BN6a := Aside0.mk (blk_below BN5.out hb56)
                              have CB6a := Aside0.mk (blk_below CB5.out hb56)
                              have cV6a : w6a.cell? ⟨w.heap.size, 0, none⟩ = some (.slice (some ⟨g5, 0, none⟩) d.length c5) := (blk_cell HT6a.out.hv 0).trans rfl
                              clear hw6 hb56
                              go_upto_region 27 with ((with_reducible refine gate_store (x := .tmp 125) (y := .tmp 123) rfl ?_); refine ev_store_one rfl rfl 3 (.tmp 125) (.tmp 123) rfl g5 (kn * 12 + 2) (.int .i64 kv) cur _ 116 (by first | rfl | (simp; done)) (by rw [HKV.out]; rfl) CB6a.out (by have := CS5.out; omega) (by kernel_rfl) rfl rfl (fun w6 ht6 b6 => ?_); have HT6 := Aside0.mk (HT6a.out.set2 HUX.out kv ht6 CB6a.out b6); have BN6 := Aside0.mk (ht6.blk BN6a.out (fun e => hg511 e.symm)); clear ht6 b6)
                              clear cV6a
                              have HU6 := Aside0.mk (show (d.set kn ((⟨un, uA, un.f5.length, uc, uh⟩ : SN).set2 kv))[kn]? = some ((⟨un, uA, un.f5.length, uc, uh⟩ : SN).set2 kv) from by rw [List.getElem?_set_self hkd])
                              obtain ⟨cur6, hcur6, _, hcu6⟩ := HT6.out.hn.row HU6.out
                              have CB6 := Aside0.mk hcur6
                              have CH6 := Aside0.mk hcu6
                              clear hcur6 hcu6
                              have cV6 : w6.cell? ⟨w.heap.size, 0, none⟩ = some (.slice (some ⟨g5, 0, none⟩) d.length c5) := (blk_cell HT6.out.hv 0).trans rfl
                              have hz6 : g5 < w6.heap.size := (Array.getElem?_eq_some_iff.1 CB6.out).1
                              have hz6b : g11 < w6.heap.size := (Array.getElem?_eq_some_iff.1 BN6.out).1
                              go_wp2_with (first | ((with_reducible refine gate_load (T := 116) (x := .tmp 128) rfl ?_); refine ev_load_agg rfl 116 (.tmp 128) rfl g5 (kn * 12) _ 116 (encN ((⟨un, uA, un.f5.length, uc, uh⟩ : SN).set2 kv)) _ (by first | rfl | (simp; done)) CB6.out CH6.out Tryd.underlying116 rfl (by kernel_rfl) ?_) | ((with_reducible refine gate_store (x := .tmp 11) (y := .tmp 129) rfl ?_); refine ev_store_agg rfl rfl 116 (.tmp 11) (.tmp 129) rfl g11 0 (encN ((⟨un, uA, un.f5.length, uc, uh⟩ : SN).set2 kv)).toArray (encN y).toArray (encN ((⟨un, uA, un.f5.length, uc, uh⟩ : SN).set2 kv)).toArray 116 rfl rfl BN6.out (by show 0 + 12 ≤ 12; decide) (by kernel_rfl) (enc_one _) (enc_new _ _ rfl) (fun w7 ht7 b7 => ?_); have HT7 := Aside0.mk (HT6.out.turn ht7 BN6.out); have BN7 := Aside0.mk b7; clear ht7 b7) | ((with_reducible refine gate_store (x := .tmp 131) (y := .tmp 130) rfl ?_); refine ev_store_one rfl rfl 9 (.tmp 131) (.tmp 130) rfl g11 0 (.string p) (encN ((⟨un, uA, un.f5.length, uc, uh⟩ : SN).set2 kv)).toArray ((encN ((⟨un, uA, un.f5.length, uc, uh⟩ : SN).set2 kv)).toArray.setIfInBounds 0 (.string p)) 116 rfl rfl BN7.out (by show 0 < 12; decide) (by kernel_rfl) rfl rfl (fun w8 ht8 b8 => ?_); have HT8 := Aside0.mk (HT7.out.turn ht8 BN7.out); have cD : w8.cell? ⟨g11, 11, none⟩ = some (.slice uA un.f5.length uc) := enc_cell11 _ p b8; have BN8 := Aside0.mk b8; clear ht8 b8) | (go_at_call 57; refine (slices_Clone_byte_byte.calls uA uc un.f5 b9 _ (HT8.out.hn.2 _ (List.mem_of_getElem? HU6.out)).rd (HT8.out.hn.2 _ (List.mem_of_getElem? HU6.out)).le E3.out).mono ?_; rintro e w9 ⟨v9, rfl, ho9, hb9⟩; obtain ⟨A9, c9, rfl⟩ := Kd.R_slice ho9; have HO9 := Aside0.mk (Kd.R_lower ho9 HT8.out.hb.size); have HT9 := Aside0.mk (HT8.out.below hb9); have BN9 := Aside0.mk (blk_below BN8.out hb9); clear cD ho9 hb9) | ((with_reducible refine gate_store (x := .tmp 135) (y := .tmp 134) rfl ?_); refine ev_store_one rfl rfl 41 (.tmp 135) (.tmp 134) rfl g11 11 (.slice A9 b9.length c9) ((encN ((⟨un, uA, un.f5.length, uc, uh⟩ : SN).set2 kv)).toArray.setIfInBounds 0 (.string p)) (encN ⟨{ (SN.n ((⟨un, uA, un.f5.length, uc, uh⟩ : SN).set2 kv)) with f0 := p, f5 := b9 }, A9, b9.length, c9, hp4⟩).toArray 116 rfl rfl BN9.out (by show 11 < 12; decide) (by kernel_rfl) rfl (enc_copy _ p hp4 b9 A9 c9) (fun w10 ht10 b10 => ?_); have HT10 := Aside0.mk (HT9.out.turn ht10 BN9.out); have HY10 := Aside0.mk ((NodeOk.ofR HO9.out { (SN.n ((⟨un, uA, un.f5.length, uc, uh⟩ : SN).set2 kv)) with f0 := p, f5 := b9 } rfl hp4).far ht10 BN9.out (by decide)); have BN10 := Aside0.mk b10; clear ht10 b10))
                              go_meet
                              case rel =>
                                have hw : wrap64 ((kn : Int) + 1) = (kn : Int) + 1 := w64 (by have := HD.out; have := HL.out; omega) (by have := HD.out; have := HL.out; omega)
                                refine ⟨dirs, _, ⟨{ (SN.n ((⟨un, uA, un.f5.length, uc, uh⟩ : SN).set2 kv)) with f0 := p, f5 := b9 }, A9, b9.length, c9, hp4⟩, ⟨HT10.out⟩, ⟨BN10.out⟩, ⟨HY10.out⟩, ⟨?_⟩, ⟨HF2.out.symm⟩, ⟨List.length_set⟩, ⟨by omega⟩, ⟨HP.out⟩⟩
                                rw [← HF1.out, if_pos HF2Z.out, List.map_append, List.map_set, ← hw, ← HKV.out]
                                simp only [SN.set2, List.map_cons, List.map_nil]
                            · have hb2 : (un.f2 == 0) = false := beq_eq_false_iff_ne.mpr hf2
                              have HF2Z := Aside0.mk hf2
                              clear hf2
                              go_upto_region 27 with (go_at_call 24; refine (creelkeep_picked.calls _ _ (kn : Int) _ (by first | exact E2.out | (rw [w64 (by have := HD.out; have := HL.out; omega) (by have := HD.out; have := HL.out; omega)]; exact E2.out))).mono ?_; rintro e w6 ⟨rfl, ⟨nd6, rfl⟩⟩)
                              obtain ⟨w6, hw6⟩ : ∃ w6, w6 = w5.drewN nd6 := ⟨_, rfl⟩
                              rw [← hw6]
                              have hb56 : Below w5.heap.size w5 w6 := by rw [hw6]; exact pw_below_drewN (Below.refl _ _) _
                              have HT6 := Aside0.mk (HT5.out.below hb56)
                              have BN6 := Aside0.mk (blk_below BN5.out hb56)
                              have CB6 := Aside0.mk (blk_below CB5.out hb56)
                              have CH6 := CH5
                              have HU6 := HUX
                              have cV6 : w6.cell? ⟨w.heap.size, 0, none⟩ = some (.slice (some ⟨g5, 0, none⟩) d.length c5) := (blk_cell HT6.out.hv 0).trans rfl
                              clear hw6 hb56
                              have hz6 : g5 < w6.heap.size := (Array.getElem?_eq_some_iff.1 CB6.out).1
                              have hz6b : g11 < w6.heap.size := (Array.getElem?_eq_some_iff.1 BN6.out).1
                              go_wp2_with (first | ((with_reducible refine gate_load (T := 116) (x := .tmp 128) rfl ?_); refine ev_load_agg rfl 116 (.tmp 128) rfl g5 (kn * 12) _ 116 (encN (⟨un, uA, un.f5.length, uc, uh⟩ : SN)) _ (by first | rfl | (simp; done)) CB6.out CH6.out Tryd.underlying116 rfl (by kernel_rfl) ?_) | ((with_reducible refine gate_store (x := .tmp 11) (y := .tmp 129) rfl ?_); refine ev_store_agg rfl rfl 116 (.tmp 11) (.tmp 129) rfl g11 0 (encN (⟨un, uA, un.f5.length, uc, uh⟩ : SN)).toArray (encN y).toArray (encN (⟨un, uA, un.f5.length, uc, uh⟩ : SN)).toArray 116 rfl rfl BN6.out (by show 0 + 12 ≤ 12; decide) (by kernel_rfl) (enc_one _) (enc_new _ _ rfl) (fun w7 ht7 b7 => ?_); have HT7 := Aside0.mk (HT6.out.turn ht7 BN6.out); have BN7 := Aside0.mk b7; clear ht7 b7) | ((with_reducible refine gate_store (x := .tmp 131) (y := .tmp 130) rfl ?_); refine ev_store_one rfl rfl 9 (.tmp 131) (.tmp 130) rfl g11 0 (.string p) (encN (⟨un, uA, un.f5.length, uc, uh⟩ : SN)).toArray ((encN (⟨un, uA, un.f5.length, uc, uh⟩ : SN)).toArray.setIfInBounds 0 (.string p)) 116 rfl rfl BN7.out (by show 0 < 12; decide) (by kernel_rfl) rfl rfl (fun w8 ht8 b8 => ?_); have HT8 := Aside0.mk (HT7.out.turn ht8 BN7.out); have cD : w8.cell? ⟨g11, 11, none⟩ = some (.slice uA un.f5.length uc) := enc_cell11 _ p b8; have BN8 := Aside0.mk b8; clear ht8 b8) | (go_at_call 57; refine (slices_Clone_byte_byte.calls uA uc un.f5 b9 _ (HT8.out.hn.2 _ (List.mem_of_getElem? HU6.out)).rd (HT8.out.hn.2 _ (List.mem_of_getElem? HU6.out)).le E3.out).mono ?_; rintro e w9 ⟨v9, rfl, ho9, hb9⟩; obtain ⟨A9, c9, rfl⟩ := Kd.R_slice ho9; have HO9 := Aside0.mk (Kd.R_lower ho9 HT8.out.hb.size); have HT9 := Aside0.mk (HT8.out.below hb9); have BN9 := Aside0.mk (blk_below BN8.out hb9); clear cD ho9 hb9) | ((with_reducible refine gate_store (x := .tmp 135) (y := .tmp 134) rfl ?_); refine ev_store_one rfl rfl 41 (.tmp 135) (.tmp 134) rfl g11 11 (.slice A9 b9.length c9) ((encN (⟨un, uA, un.f5.length, uc, uh⟩ : SN)).toArray.setIfInBounds 0 (.string p)) (encN ⟨{ (SN.n (⟨un, uA, un.f5.length, uc, uh⟩ : SN)) with f0 := p, f5 := b9 }, A9, b9.length, c9, hp4⟩).toArray 116 rfl rfl BN9.out (by show 11 < 12; decide) (by kernel_rfl) rfl (enc_copy _ p hp4 b9 A9 c9) (fun w10 ht10 b10 => ?_); have HT10 := Aside0.mk (HT9.out.turn ht10 BN9.out); have HY10 := Aside0.mk ((NodeOk.ofR HO9.out { (SN.n (⟨un, uA, un.f5.length, uc, uh⟩ : SN)) with f0 := p, f5 := b9 } rfl hp4).far ht10 BN9.out (by decide)); have BN10 := Aside0.mk b10; clear ht10 b10))
                              go_meet
                              case rel =>
                                refine ⟨dirs, d, ⟨{ (SN.n (⟨un, uA, un.f5.length, uc, uh⟩ : SN)) with f0 := p, f5 := b9 }, A9, b9.length, c9, hp4⟩, ⟨HT10.out⟩, ⟨BN10.out⟩, ⟨HY10.out⟩, ⟨?_⟩, ⟨HF2.out.symm⟩, ⟨rfl⟩, ⟨by omega⟩, ⟨HP.out⟩⟩
                                rw [← HF1.out, if_neg HF2Z.out, List.map_append]
                                congr 1
                                refine List.ext_getElem? (fun q => ?_)
                                by_cases e : kn = q
                                · subst e
                                  rw [List.getElem?_set_self (by rw [List.length_map]; exact hkd), List.getElem?_map, HUX.out]
                                  rfl
                                · rw [List.getElem?_set_ne e]
                          · have h := HF0.out
                            rw [if_neg hf1] at h
                            simp only [Option.some.injEq, Prod.mk.injEq] at h
                            obtain ⟨HF1, HF2⟩ := h
                            replace HF1 := Aside0.mk HF1
                            replace HF2 := Aside0.mk HF2
                            have hb1 : (un.f1 == 1) = false := beq_eq_false_iff_ne.mpr hf1
                            clear hf1
                            go_wp2_with (go_at_call 24; refine (creelkeep_picked.calls _ _ (kn : Int) _ (by first | exact E2.out | (rw [w64 (by have := HD.out; have := HL.out; omega) (by have := HD.out; have := HL.out; omega)]; exact E2.out))).mono ?_; rintro e w6 ⟨rfl, ⟨nd6, rfl⟩⟩)
                            go_meet
                            case rel =>
                              exact ⟨dirs, d, y, ⟨HT5.out.below (pw_below_drewN (Below.refl _ _) _)⟩, ⟨BN5.out⟩, ⟨HY5.out.below (pw_below_drewN (Below.refl _ _) _)⟩, ⟨by rw [← HF1.out, ← HYN.out]; simp⟩, ⟨HF2.out.symm⟩, ⟨rfl⟩, ⟨by omega⟩, ⟨HP.out⟩⟩
                    · rw [if_neg k0] at HF
                      have d3 : (kd == 3) = false := beq_eq_false_iff_ne.mpr (fun e => k0 (.inl e))
                      have d4 : (kd == 4) = false := beq_eq_false_iff_ne.mpr (fun e => k0 (.inr e))
                      clear k0
                      simp only [Option.some.injEq, Prod.mk.injEq] at HF
                      obtain ⟨HF1, HF2⟩ := HF
                      replace HF1 := Aside0.mk HF1
                      replace HF2 := Aside0.mk HF2
                      go_wp2_with (fail)
                      go_meet
                      case rel =>
                        exact ⟨dirs, d, y, ⟨HT5.out⟩, ⟨BN5.out⟩, ⟨HY5.out⟩, ⟨by rw [← HF1.out, ← HYN.out]; simp⟩, ⟨HF2.out.symm⟩, ⟨rfl⟩, ⟨by omega⟩, ⟨HP.out⟩⟩
              case rest =>
                obtain ⟨dirs2, d2, y2, HTa, BNa, HYa, HFa, HFb, hlen2, hdl2, hds2⟩ := hcut
                have cV6 : wc.cell? ⟨w.heap.size, 0, none⟩ = some (.slice A5 d.length c5) := (blk_cell HTa.out.hv 0).trans rfl
                have hzw : w.heap.size < wc.heap.size := (Array.getElem?_eq_some_iff.1 HTa.out.hv).1
                have hzg : g11 < wc.heap.size := (Array.getElem?_eq_some_iff.1 BNa.out).1
                have hnew := heap_alloc_new wc (.cells #[.string y2.n.f0, .int .i64 y2.n.f1, .int .i64 y2.n.f2, .string y2.n.f3, .int .i64 y2.n.f4.f0, .int .i64 y2.n.f4.f1, .int .i64 y2.n.f4.f2, .string y2.n.f4.f3, .string y2.n.f4.f4, .int .i64 y2.n.f4.f5, .int .i64 y2.n.f4.f6, .slice y2.A y2.len y2.cap] 116)
                have HBL := Aside0.mk (below_alloc (Below.refl wc.heap.size wc) (.cells #[.string y2.n.f0, .int .i64 y2.n.f1, .int .i64 y2.n.f2, .string y2.n.f3, .int .i64 y2.n.f4.f0, .int .i64 y2.n.f4.f1, .int .i64 y2.n.f4.f2, .string y2.n.f4.f3, .string y2.n.f4.f4, .int .i64 y2.n.f4.f5, .int .i64 y2.n.f4.f6, .slice y2.A y2.len y2.cap] 116))
                have HNW := Aside0.mk hnew
                clear hnew
                go_wp2_with (first | ((with_reducible refine gate_load (T := 116) (x := .tmp 11) rfl ?_); refine ev_load_agg rfl 116 (.tmp 11) rfl g11 0 #[.string y2.n.f0, .int .i64 y2.n.f1, .int .i64 y2.n.f2, .string y2.n.f3, .int .i64 y2.n.f4.f0, .int .i64 y2.n.f4.f1, .int .i64 y2.n.f4.f2, .string y2.n.f4.f3, .string y2.n.f4.f4, .int .i64 y2.n.f4.f5, .int .i64 y2.n.f4.f6, .slice y2.A y2.len y2.cap] 116 [.string y2.n.f0, .int .i64 y2.n.f1, .int .i64 y2.n.f2, .string y2.n.f3, .int .i64 y2.n.f4.f0, .int .i64 y2.n.f4.f1, .int .i64 y2.n.f4.f2, .string y2.n.f4.f3, .string y2.n.f4.f4, .int .i64 y2.n.f4.f5, .int .i64 y2.n.f4.f6, .slice y2.A y2.len y2.cap] _ rfl BNa.out rfl Tryd.underlying116 rfl (by kernel_rfl) ?_) | ((with_reducible refine gate_builtin (b := .append) (xs := #[.tmp 136, .tmp 138]) rfl ?_); at_builtin; refine ev_append_node rfl (.tmp 136) (.tmp 138) rfl y2 wc.heap.size 1 rfl (HTa.out.hn.below HBL.out) rfl HNW.out (HYa.out.below HBL.out) (by have := hlen2.out; have := HD.out; have := HL.out; omega) (Nat.le_trans HTa.out.hb.size HBL.out.size) (fun v9 w9 hn9 hg9 => ?_); obtain ⟨A9, c9, rfl, _⟩ := hn9.slice; have HN9 := Aside0.mk hn9; have HO9 := Aside0.mk (R_grown116 (Kd.R_below HTa.out.ho HBL.out) (HTa.out.hn.below HBL.out) hg9); have HV9 := Aside0.mk (blk_grown116 (blk_below HTa.out.hv HBL.out) (by decide) (HTa.out.hn.below HBL.out) hg9); have HB9 := Aside0.mk (below_grown116 (below_step HTa.out.hb HBL.out) (HTa.out.hn.below HBL.out) hg9); have hz99 : w.heap.size < w9.heap.size := (Array.getElem?_eq_some_iff.1 HV9.out).1; clear hn9 hg9) | ((with_reducible refine gate_store (x := .tmp 5) (y := .tmp 139) rfl ?_); refine ev_store_one rfl rfl 113 (.tmp 5) (.tmp 139) rfl w.heap.size 0 (.slice A9 (d2 ++ [y2]).length c9) _ #[.slice A9 (d2 ++ [y2]).length c9] 113 rfl rfl HV9.out (by show 0 < 1; decide) (by kernel_rfl) rfl rfl (fun w10 ht10 b10 => ?_); have HN10 := Aside0.mk (HN9.out.turn ht10 HV9.out (by decide) (by decide)); have HO10 := Aside0.mk (R_turn113 HO9.out ht10 HV9.out); have HV10 := Aside0.mk b10; have HB10 := Aside0.mk (ht10.below HB9.out (Nat.le_refl _)); clear ht10 b10))
                go_roundg k1
                case measure => omega
                case rel => exact ⟨dirs2, d2 ++ [y2], _, (by (have := HIK.out; have := HL.out; rw [w64 (by omega) (by omega)]; congr 1; omega)), ⟨by (have := HIK.out; rw [show l0.length - k1 = i + 1 by omega, ← HFa.out, ← HFb.out]; exact HT'.out)⟩, ⟨by (have := HIK.out; omega)⟩, ⟨by (have := HIK.out; have := HD.out; have := hlen2.out; rw [List.length_append, List.length_singleton]; omega)⟩, ⟨by (have := HIK.out; have := HS.out; have := hdl2.out; omega)⟩, ⟨hds2.out⟩, ⟨HO10.out⟩, ⟨HV10.out⟩, ⟨HN10.out⟩, ⟨HB10.out⟩⟩
def nodeLe (a b : S116) : Bool := decide (lessV a.f0 b.f0 ≤ 0)
def creelkeep_Tree.f (l0 : List S23) (a1 : Int) : Option (List S116) := if l0.length < 100000000 then (treeGo a1 l0 [] [⟨#[]⟩]).bind fun t => if (t.map (·.f0)).Nodup then some (t.mergeSort nodeLe) else none else none
theorem nodup_inj {l : List S116} (h : (l.map (·.f0)).Nodup) : ∀ a b, a ∈ l → b ∈ l → a.f0 = b.f0 → a = b := by
  induction l with
  | nil => intro a b ha; cases ha
  | cons x l ih =>
    rw [List.map_cons, List.nodup_cons] at h
    intro a b ha hb e
    rcases List.mem_cons.1 ha with rfl | ha
    · rcases List.mem_cons.1 hb with rfl | hb
      · rfl
      · exact absurd (List.mem_map.2 ⟨b, hb, e.symm⟩) h.1
    · rcases List.mem_cons.1 hb with hb | hb
      · have hm : b.f0 ∈ l.map (·.f0) := List.mem_map.2 ⟨a, ha, e⟩
        rw [hb] at hm
        exact absurd hm h.1
      · exact ih h.2 a b ha hb e
theorem sorted_is {t ys : List S116} (hd : (t.map (·.f0)).Nodup) (hp : ys.Perm t) (hs : ys.Pairwise (fun a b => lessV a.f0 b.f0 ≤ 0)) : ys = t.mergeSort nodeLe := by
  have T := lessV_tot
  have h2 : (t.mergeSort nodeLe).Pairwise (fun a b => nodeLe a b = true) := List.pairwise_mergeSort (fun a b c h1 h2 => by
    unfold nodeLe at *
    exact decide_eq_true (T.tr _ _ _ (of_decide_eq_true h1) (of_decide_eq_true h2))) (fun a b => by
    unfold nodeLe
    have := T.neg a.f0 b.f0
    rw [Bool.or_eq_true, decide_eq_true_eq, decide_eq_true_eq]
    omega) t
  refine List.Perm.eq_of_pairwise (le := fun a b => lessV a.f0 b.f0 ≤ 0) (fun a b ha hb h3 h4 => ?_) hs (h2.imp fun {a b} h => of_decide_eq_true h) (hp.trans (List.mergeSort_perm t nodeLe).symm)
  have h5 := T.neg a.f0 b.f0
  refine nodup_inj hd a b (hp.mem_iff.1 ha) ((List.mergeSort_perm t nodeLe).mem_iff.1 hb) ((T.zero _ _).1 (by omega))
theorem creelkeep_Tree.calls (A0 : Option Addr) (c0 : Nat) (l0 : List S23) (a1 : Int) (r : List S116) (w : World) (hr0 : Kd.C k23 w A0 l0.length l0) (hc0 : l0.length ≤ c0) (hG : G_ w) (h : creelkeep_Tree.f l0 a1 = some r) :
    Calls Tryd.prog 68 #[.slice A0 l0.length c0, .int .i64 a1] w fun e w' => ∃ A c d, e = .returned (.slice A r.length c) ∧ NR w' w.heap.size (.slice A r.length c) d ∧ d.map (·.n) = r ∧ Below w.heap.size w w' := by
  unfold creelkeep_Tree.f at h
  split at h
  case isFalse => cases h
  rename_i hln
  rw [Option.bind_eq_some_iff] at h
  obtain ⟨t, ht, h⟩ := h
  split at h
  case isFalse => cases h
  rename_i hnd
  injection h with h
  refine (tree_calls A0 c0 l0 a1 t w hr0 hc0 hG hln ht).mono ?_
  rintro e w' ⟨A, c, d, rfl, hn, hp, hs, hb⟩
  have hr : d.map (·.n) = r := by rw [← h]; exact sorted_is hnd hp (by rw [List.pairwise_map]; exact hs)
  have hl : d.length = r.length := by rw [← hr, List.length_map]
  rw [hl] at hn ⊢
  exact ⟨A, c, d, rfl, hn, hr, hb⟩

end Go.Proofs.YthonjghpblkpgaaDoor.PGlobJoins
