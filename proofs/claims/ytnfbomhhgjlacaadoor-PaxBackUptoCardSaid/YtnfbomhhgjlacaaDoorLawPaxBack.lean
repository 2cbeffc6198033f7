/- The card of PaxBack (second form) out of its walk: for every input of bulk at most 1048576 the law returns true, and each argument reads afterwards as it read before. -/
import Derived.Test.YtnfbomhhgjlacaaDoorCards
import Derived.Test.YtnfbomhhgjlacaaDoorTie
import Derived.Test.YtnfbomhhgjlacaaDoorLpaxback
import Derived.WalkKit
import Derived.ProofKit
import Derived.OpenShut
import Derived.ShutString
import Derived.ChangeOld
import Derived.Below
import Derived.SizedLaws
import Derived.LaidSub
import Derived.Deep.DeepWitnessRowRef
import Derived.Deep.DeepHandedRow
import Derived.Lib.LaidTab
import Derived.LaidMore
import Derived.Stop.Joined
import Derived.Deep.Slices
namespace Go.Proofs.YtnfbomhhgjlacaaDoor.paxBack
open Go.ChangeShapes Go.WideShapes Go.ChangeAt Go.RowKit
open Go.ChangeMaps (open_string shut_string)
open Abs
set_option linter.unusedVariables false
theorem own : ownKnob Tryd.prog.godebug = none := by kernel_rfl
theorem laidOut : laidOutB Tryd.prog = true := by kernel_rfl
theorem isI_of {n : Int} (h : (Lit.int .i64 n).wf = true) : isI n := bounds_i64 h
theorem spot_none {w : World} {a : Addr} {u : Value} (h : w.cell? a = some u) : a.spot = none ∧ a.block < w.heap.size := by
  unfold World.cell? at h
  cases hb : w.heap[a.block]? with
  | none => rw [hb] at h; cases h
  | some o =>
    refine ⟨?_, (Array.getElem?_eq_some_iff.1 hb).1⟩
    rw [hb] at h
    cases o with
    | cells c t f =>
      dsimp only at h
      cases hs : a.spot with
      | none => rfl
      | some s => rw [hs] at h; cases h
    | _ => cases h
theorem add_plain (b off n : Nat) : Addr.add ⟨b, off, none⟩ n = ⟨b, off + n, none⟩ := by
  unfold Addr.add
  split
  · rename_i h; subst h; rfl
  · rfl
theorem raws_rows {w : World} {b : Nat} : ∀ (l : List RawT) (off : Nat), (∀ j x, l[j]? = some x → ∀ i u, ([.int .i64 x.a, .int .i64 x.b, .int .i64 x.c, .string x.s] : List Value)[i]? = some u → w.cell? ⟨b, off + (j * 4 + i), none⟩ = some u) → AV.repRows nob (fun _ => True) w 4 b off (l.map encRaw)
  | [], _, _ => trivial
  | x :: l, off, h => by
    have h0 := h 0 x rfl
    refine ⟨rfl, ⟨⟨_, h0 0 _ rfl, rfl, rfl⟩, ⟨_, h0 1 _ rfl, rfl, rfl⟩, ⟨_, h0 2 _ rfl, rfl, rfl⟩, ⟨_, h0 3 _ rfl, rfl, rfl⟩, trivial⟩, raws_rows l (off + 4) fun j y hy i u hu => ?_⟩
    have := h (j + 1) y (by simpa using hy) i u hu
    rw [show off + 4 + (j * 4 + i) = off + ((j + 1) * 4 + i) by omega]
    exact this
theorem bulk_le {H : Type} {d : DataW H} {l : List (DataW H)} (h : d ∈ l) : Rows.uptoBulk d ≤ Rows.uptoBulkAll l := by
  induction l with
  | nil => cases h
  | cons x r ih =>
    simp only [Rows.uptoBulkAll]
    cases List.mem_cons.1 h with
    | inl e => subst e; omega
    | inr e => have := ih e; omega
theorem bulk_str {H : Type} (bytes : List UInt8) : Rows.uptoBulk (DataW.lit (H := H) (.string bytes)) = bytes.length + 1 := by simp [Rows.uptoBulk]
theorem bulk_one {H : Type} (d : DataW H) : 1 ≤ Rows.uptoBulk d := by
  cases d with
  | lit l => cases l <;> simp [Rows.uptoBulk]
  | nil => simp [Rows.uptoBulk]
  | ptr d => simp [Rows.uptoBulk]
  | slice elems spare => simp [Rows.uptoBulk]
  | agg parts => simp [Rows.uptoBulk]
  | iface t d => simp [Rows.uptoBulk]
  | map entries => simp [Rows.uptoBulk]
  | held h => simp [Rows.uptoBulk]
theorem bulk_len {H : Type} (l : List (DataW H)) : l.length ≤ Rows.uptoBulkAll l := by
  induction l with
  | nil => simp [Rows.uptoBulkAll]
  | cons x r ih => have := bulk_one x; simp only [Rows.uptoBulkAll, List.length_cons]; omega
theorem bulk_slice {H : Type} (elems spare : List (DataW H)) : elems.length + 1 ≤ Rows.uptoBulk (.slice elems spare) := by
  have := bulk_len elems
  simp only [Rows.uptoBulk]
  omega
theorem table10 {W : World} (h : laidMetH Tryd.checked.prog Rows.paxBackUptoRow.laid W) : Lib.TabIs Tryd.prog W "internal/strconv.uint64pow10" .u64 Lib.pow10Tab := by
  have h1 := (laidMetH_iff.1 (h.filter fun x => x.1 == "internal/strconv.uint64pow10")).1
  have e : ((Rows.paxBackUptoRow.laid.filter fun x => x.1 == "internal/strconv.uint64pow10").filter fun x => x.2.handleName?.isNone) = [("internal/strconv.uint64pow10", Lib.tabData .u64 Lib.pow10Tab)] := by kernel_rfl
  rw [e] at h1
  exact Lib.tabIs_of_head (g := 1) (t := 217) (e := 165) (n := 20) (by kernel_rfl) (by kernel_rfl) (by kernel_rfl) (by kernel_rfl) (by kernel_rfl) (by kernel_rfl) h1
/-- A world for the witness: the settled one, each listed variable holding what its initialiser lays. -/
noncomputable def laidWorld (os : Os) : World :=
  { World.holding Tryd.prog os ⟨#[.cells #[.string ⟨#[118, 97, 108, 117, 101, 32, 111, 117, 116, 32, 111, 102, 32, 114, 97, 110, 103, 101]⟩] 236, .cells #[.string ⟨#[105, 110, 118, 97, 108, 105, 100, 32, 115, 121, 110, 116, 97, 120]⟩] 236], #[], []⟩ with heap := (((((((((((((((World.holding Tryd.prog os ⟨#[.cells #[.string ⟨#[118, 97, 108, 117, 101, 32, 111, 117, 116, 32, 111, 102, 32, 114, 97, 110, 103, 101]⟩] 236, .cells #[.string ⟨#[105, 110, 118, 97, 108, 105, 100, 32, 115, 121, 110, 116, 97, 120]⟩] 236], #[], []⟩).heap).modify 6 (fun | .cells _ t frozen => .cells #[.int .u8 0, .int .u8 1, .int .u8 28, .int .u8 2, .int .u8 29, .int .u8 14, .int .u8 24, .int .u8 3, .int .u8 30, .int .u8 22, .int .u8 20, .int .u8 15, .int .u8 25, .int .u8 17, .int .u8 4, .int .u8 8, .int .u8 31, .int .u8 27, .int .u8 13, .int .u8 23, .int .u8 21, .int .u8 19, .int .u8 16, .int .u8 7, .int .u8 26, .int .u8 12, .int .u8 18, .int .u8 6, .int .u8 11, .int .u8 5, .int .u8 10, .int .u8 9] t frozen | o => o))).modify 7 (fun | .cells _ t frozen => .cells #[.int .u8 0, .int .u8 1, .int .u8 56, .int .u8 2, .int .u8 57, .int .u8 49, .int .u8 28, .int .u8 3, .int .u8 61, .int .u8 58, .int .u8 42, .int .u8 50, .int .u8 38, .int .u8 29, .int .u8 17, .int .u8 4, .int .u8 62, .int .u8 47, .int .u8 59, .int .u8 36, .int .u8 45, .int .u8 43, .int .u8 51, .int .u8 22, .int .u8 53, .int .u8 39, .int .u8 33, .int .u8 30, .int .u8 24, .int .u8 18, .int .u8 12, .int .u8 5, .int .u8 63, .int .u8 55, .int .u8 48, .int .u8 27, .int .u8 60, .int .u8 41, .int .u8 37, .int .u8 16, .int .u8 46, .int .u8 35, .int .u8 44, .int .u8 21, .int .u8 52, .int .u8 32, .int .u8 23, .int .u8 11, .int .u8 54, .int .u8 26, .int .u8 40, .int .u8 15, .int .u8 34, .int .u8 20, .int .u8 31, .int .u8 10, .int .u8 25, .int .u8 14, .int .u8 19, .int .u8 9, .int .u8 13, .int .u8 8, .int .u8 7, .int .u8 6] t frozen | o => o))).modify 1 (fun | .cells _ t frozen => .cells #[.int .u64 1, .int .u64 10, .int .u64 100, .int .u64 1000, .int .u64 10000, .int .u64 100000, .int .u64 1000000, .int .u64 10000000, .int .u64 100000000, .int .u64 1000000000, .int .u64 10000000000, .int .u64 100000000000, .int .u64 1000000000000, .int .u64 10000000000000, .int .u64 100000000000000, .int .u64 1000000000000000, .int .u64 10000000000000000, .int .u64 100000000000000000, .int .u64 1000000000000000000, .int .u64 10000000000000000000] t frozen | o => o))).modify 5 (fun | .cells _ t frozen => .cells #[.int .u8 128, .int .u8 191, .int .u8 160, .int .u8 191, .int .u8 128, .int .u8 159, .int .u8 144, .int .u8 191, .int .u8 128, .int .u8 143, .int .u8 0, .int .u8 0, .int .u8 0, .int .u8 0, .int .u8 0, .int .u8 0, .int .u8 0, .int .u8 0, .int .u8 0, .int .u8 0, .int .u8 0, .int .u8 0, .int .u8 0, .int .u8 0, .int .u8 0, .int .u8 0, .int .u8 0, .int .u8 0, .int .u8 0, .int .u8 0, .int .u8 0, .int .u8 0] t frozen | o => o))).modify 3 (fun | .cells _ t frozen => .cells #[.iface 234 (.pointer (some ⟨(World.settled Tryd.prog os).heap.size + 0, 0, none⟩))] t frozen | o => o))).modify 2 (fun | .cells _ t frozen => .cells #[.iface 234 (.pointer (some ⟨(World.settled Tryd.prog os).heap.size + 1, 0, none⟩))] t frozen | o => o))).modify 4 (fun | .cells _ t frozen => .cells (Go.Pinned.utf8FirstZ.map fun n : Nat => Value.int .u8 (n : Int)).toArray t frozen | o => o)) }
theorem laid_met (os : Os) : laidMet Tryd.prog Rows.paxBackUptoRow.laid ((laidWorld os).forCall (fun _ _ => 0) ⟨#[], #[.slice none 0 0, .slice none 0 0], []⟩).memory :=
  laidMet_of_run' 12 (by kernel_rfl) (by kernel_rfl)
theorem reads (os : Os) {H : Type} (enc : TypeId × Value → H) : ∃ places, DataW.whole enc Tryd.prog ((laidWorld os).forCall (fun _ _ => 0) ⟨#[], #[.slice none 0 0, .slice none 0 0], []⟩).memory Tryd.f10.params.toList Rows.paxBackSpec.vars false (#[.slice none 0 0, .slice none 0 0] : Array Value).toList 8 = some ([.nil, .nil], [], places) :=
  ⟨[], by kernel_rfl⟩
theorem list_all23 {α : Type} {n : Nat} {p : Nat → α → Prop} (h : ∀ i, i < n → ∃ x, p i x) : ∃ l : List α, l.length = n ∧ ∀ i x, l[i]? = some x → p i x := by
  induction n with
  | zero => exact ⟨[], rfl, fun i x hx => by simp at hx⟩
  | succ n ih =>
    obtain ⟨l, hl, hp⟩ := ih (fun i hi => h i (by omega))
    obtain ⟨x, hx⟩ := h n (by omega)
    refine ⟨l ++ [x], by simp [hl], fun i y hy => ?_⟩
    by_cases e : i < l.length
    · rw [List.getElem?_append_left e] at hy
      exact hp i y hy
    · rw [List.getElem?_append_right (by omega)] at hy
      by_cases e2 : i - l.length = 0
      · rw [e2] at hy
        injection hy with hy
        have e3 : i = n := by omega
        rw [e3, ← hy]
        exact hx
      · obtain ⟨q, hq⟩ : ∃ q, i - l.length = q + 1 := ⟨i - l.length - 1, by omega⟩
        rw [hq] at hy
        simp at hy
theorem list_ofs4 {α : Type _} (l : List α) (h : l.length = 4) : ∃ c0 c1 c2 c3, l = [c0, c1, c2, c3] :=
  match l, h with
  | [c0, c1, c2, c3], _ => ⟨c0, c1, c2, c3, rfl⟩
set_option maxRecDepth 100000 in
theorem rows_T {H : Type} {enc : TypeId × Value → H} {W : World} {a : Option Addr} {len cap : Nat} {d : DataW H} {ps : List MemPlace} (h : DataW.Trod enc Tryd.prog W 0 (fun _ => true) true 47 (.slice a len cap) d ps) (hb : Rows.uptoBulk d ≤ 1048576) :
    ∃ l : List RawT, (AV.row 4 (l.map encRaw)).rep nob (fun _ => True) W (.slice a len cap) ∧ l.length ≤ 1048576 ∧ ∀ x ∈ l, RawGood x := by
  obtain ⟨fuel, hf⟩ := h
  rcases Go.Deep.open_slice Tryd.underlying47 hf with ⟨hcs, _⟩ | ⟨ad, l, c, m, n_, D, Pl, hcs, _, hl, hm, hmm, hx, hi⟩
  · simp [Value.cells] at hcs
    obtain ⟨rfl, rfl, rfl⟩ := hcs
    exact ⟨[], ⟨none, 0, rfl, Nat.le_refl _, fun h => absurd h (by simp)⟩, by simp, fun x hx => by cases hx⟩
  · simp [Value.cells] at hcs
    obtain ⟨rfl, rfl, rfl⟩ := hcs
    have hx1 := (Prod.mk.inj hx).1
    rw [hx1] at hb
    have hs_ := Nat.le_trans (bulk_slice (H := H) _ _) hb
    simp only [List.length_map, List.length_range] at hs_
    have hmc : m = cap := by simpa using hmm
    have hall : ∀ i, i < len → Rows.uptoBulk (D i) ≤ 1048576 := fun i hi' => by
      have h1 := bulk_le (l := (List.range len).map D) (d := D i) (List.mem_map.2 ⟨i, List.mem_range.2 hi', rfl⟩)
      simp only [Rows.uptoBulk] at hb
      omega
    have hel : ∀ i, i < len → ∃ x : RawT, (∀ (j : Nat) u, ([.int .i64 x.a, .int .i64 x.b, .int .i64 x.c, .string x.s] : List Value)[j]? = some u → W.cell? (ad.add (i * 4 + j)) = some u) ∧ (Lit.int .i64 x.a).wf = true ∧ (Lit.int .i64 x.b).wf = true ∧ (Lit.int .i64 x.c).wf = true ∧ x.s.size ≤ 1048576 := fun i hi' => by
      obtain ⟨cs', hcs', ht'⟩ := hi i (by omega)
      rw [show Tryd.prog.cellsOf 23 = 4 from by kernel_rfl] at hcs'
      obtain ⟨_, hcl, hat⟩ := World.cells?_some hcs'
      obtain ⟨ys, q, _, hy, _, hyl, hfld⟩ := DataW.trod_struct Tryd.underlying23 ht'
      have hD := (Prod.mk.inj hy).1
      obtain ⟨c0, c1, c2, c3, rfl⟩ := list_ofs4 cs' hcl
      obtain ⟨y0, y1, y2, y3, rfl⟩ := list_ofs4 ys (show ys.length = 4 from hyl)
      clear hy
      have f0 : DataW.trod enc Tryd.prog W 0 (fun _ => true) true q 3 (List.take (Tryd.prog.cellsOf 3) (List.drop 0 [c0, c1, c2, c3])) = some y0 := hfld 0 _ rfl
      rw [show Tryd.prog.cellsOf 3 = 1 from by kernel_rfl] at f0
      obtain ⟨z0, e0, g0, w0⟩ := DataW.trod_int Tryd.underlying3 f0
      have f1 : DataW.trod enc Tryd.prog W 0 (fun _ => true) true q 3 (List.take (Tryd.prog.cellsOf 3) (List.drop 1 [c0, c1, c2, c3])) = some y1 := hfld 1 _ rfl
      rw [show Tryd.prog.cellsOf 3 = 1 from by kernel_rfl] at f1
      obtain ⟨z1, e1, g1, w1⟩ := DataW.trod_int Tryd.underlying3 f1
      have f2 : DataW.trod enc Tryd.prog W 0 (fun _ => true) true q 3 (List.take (Tryd.prog.cellsOf 3) (List.drop 2 [c0, c1, c2, c3])) = some y2 := hfld 2 _ rfl
      rw [show Tryd.prog.cellsOf 3 = 1 from by kernel_rfl] at f2
      obtain ⟨z2, e2, g2, w2⟩ := DataW.trod_int Tryd.underlying3 f2
      have f3 : DataW.trod enc Tryd.prog W 0 (fun _ => true) true q 9 (List.take (Tryd.prog.cellsOf 9) (List.drop 3 [c0, c1, c2, c3])) = some y3 := hfld 3 _ rfl
      rw [show Tryd.prog.cellsOf 9 = 1 from by kernel_rfl] at f3
      obtain ⟨z3, e3, g3, w3⟩ := DataW.trod_string Tryd.underlying9 f3
      obtain rfl : c0 = .int .i64 z0 := by simpa [Value.cells] using e0
      obtain rfl : c1 = .int .i64 z1 := by simpa [Value.cells] using e1
      obtain rfl : c2 = .int .i64 z2 := by simpa [Value.cells] using e2
      obtain rfl : c3 = .string z3 := by simpa [Value.cells] using e3
      have hbD := hall i hi'
      rw [hD] at hbD
      simp only [Rows.uptoBulk] at hbD
      have hz3 : z3.size ≤ 1048576 := by
        have h1 := bulk_le (l := [y0, y1, y2, y3].map (·.1)) (d := y3.1) (by simp)
        have h0 : Rows.uptoBulk y3.1 = z3.data.toList.length + 1 := by rw [g3]; exact bulk_str _
        rw [Array.length_toList] at h0
        have h2 : z3.data.size = z3.size := rfl
        omega
      refine ⟨⟨z0, z1, z2, z3⟩, fun j u hu => ?_, w0, w1, w2, hz3⟩
      match j, hu with
      | 0, hu => injection hu with hu; rw [← hu, ← Go.Deep.add_add]; exact hat 0 (by omega)
      | 1, hu => injection hu with hu; rw [← hu, ← Go.Deep.add_add]; exact hat 1 (by omega)
      | 2, hu => injection hu with hu; rw [← hu, ← Go.Deep.add_add]; exact hat 2 (by omega)
      | 3, hu => injection hu with hu; rw [← hu, ← Go.Deep.add_add]; exact hat 3 (by omega)
      | q + 4, hu => simp at hu
    obtain ⟨l, hll, hp⟩ := list_all23 hel
    have hg : ∀ x ∈ l, RawGood x := fun x hx => by
      obtain ⟨i, hi2⟩ := List.getElem?_of_mem hx
      obtain ⟨_, g0, g1, g2, g3⟩ := hp i x hi2
      exact ⟨isI_of g0, isI_of g1, isI_of g2, g3⟩
    refine ⟨l, ⟨_, _, by rw [List.length_map, hll], by rw [List.length_map, hll]; omega, fun h0 => ?_⟩, by omega, hg⟩
    rw [List.length_map] at h0
    have hc0 := (hp 0 _ (List.getElem?_eq_getElem h0)).1 0 _ rfl
    rw [show ad.add (0 * 4 + 0) = ad by simp [Addr.add]] at hc0
    obtain ⟨hsp, hlt⟩ := spot_none hc0
    obtain ⟨b, off, sp⟩ := ad
    obtain rfl : sp = none := hsp
    refine ⟨b, off, rfl, trivial, hlt, raws_rows l off fun j x hx i u hu => ?_⟩
    have := (hp j x hx).1 i u hu
    rw [add_plain] at this
    exact this
set_option maxRecDepth 100000 in
theorem lifted (os : Os) (started : os.Started) (H : Type) (enc : TypeId × Value → H) (F : Stop.Interp) :
    ReturnsInHanded {} Tryd.checked os 10 .any ((Rows.OpenSpec.upto Rows.paxBackSpec).preRow enc Tryd.prog Tryd.f10 Rows.paxBackUptoRow.domain false Rows.paxBackUptoRow.laid) (((Rows.OpenSpec.upto Rows.paxBackSpec).at F).post enc Tryd.prog Tryd.f10 false true false false) := by
  obtain ⟨places, hx⟩ := reads os enc
  refine returnsInHanded_of_row (C := Tryd.checked) (s := (Rows.OpenSpec.upto Rows.paxBackSpec)) own started (by kernel_rfl) Tryd.func10
    (witness_row_atRef (enc := enc) (C := Tryd.checked) false (laidWorld os) #[.slice none 0 0, .slice none 0 0] rfl (by kernel_rfl) (by kernel_rfl) (by kernel_rfl)
      (OpenSpec.preRow_of_cond 8 hx (by kernel_rfl) (fun k hk => by cases hk; kernel_rfl) (by kernel_rfl) (laid_met os))) ?_
  intro W base args ds gs before hval0 hW hcnd0 hcond hsz0 hL hshaped _
  have hsz : (DataW.weightsEach Tryd.prog (Tryd.f10.params.toList ++ Rows.paxBackSpec.plain.varTypes Tryd.prog) (ds ++ gs)).all (· ≤ reachBytes) = true := hsz0
  have hval : ∀ (j : Nat) t v, Tryd.f10.params[j]? = some t → args[j]? = some v → Value.okWide Tryd.prog W .any base t v := hval0
  have hbulk : Rows.uptoBulkAll (ds ++ gs) ≤ 1048576 := of_decide_eq_true (hcond _ rfl)
  have hW' := hW
  obtain ⟨p, q, hA0, hV, rfl, hfz, hnd⟩ := hW
  have hA : DataW.TrodAll enc Tryd.prog W 0 (fun _ => true) true Tryd.f10.params.toList args.toList ds p := hA0
  rw [Tryd.params10] at hA hval hsz
  obtain ⟨v0, vs0, d0, ds0, p0, q0, hargs, rfl, rfl, h0, r0⟩ := trodAll_cons hA
  obtain ⟨v1, vs1, d1, ds1, p1, q1, rfl, rfl, rfl, h1, r1⟩ := trodAll_cons r0
  obtain ⟨rfl, rfl, rfl⟩ := trodAll_nil r1
  obtain rfl : args = #[v0, v1] := by cases args; simp_all
  obtain ⟨rfl, rfl⟩ := trodVars_none hV
  obtain ⟨a0, len0, cap0, rfl⟩ := okWide_slice Tryd.underlying47 (hval 0 47 v0 rfl rfl)
  have k0 := h0
  have lt0 : ∀ x ∈ p0, x.block < W.heap.size := by obtain ⟨m, hm⟩ := k0; exact DataW.trod_lt m _ _ _ hm
  have hb0 := bulk_le (l := [d0, d1] ++ []) (d := d0) (by simp)
  obtain ⟨l0, rp0, ln0, gd0⟩ := rows_T h0 (Nat.le_trans hb0 (by simpa using hbulk))
  obtain ⟨a1, len1, cap1, rfl⟩ := okWide_slice Tryd.underlying47 (hval 1 47 v1 rfl rfl)
  have k1 := h1
  have lt1 : ∀ x ∈ p1, x.block < W.heap.size := by obtain ⟨m, hm⟩ := k1; exact DataW.trod_lt m _ _ _ hm
  have hb1 := bulk_le (l := [d0, d1] ++ []) (d := d1) (by simp)
  obtain ⟨l1, rp1, ln1, gd1⟩ := rows_T h1 (Nat.le_trans hb1 (by simpa using hbulk))
  have hml_ : ∃ m : Int, W.cell? ⟨0, 0, none⟩ = some (.int .i64 m) := cell_of_shapedOpen_int (k := .i64) hshaped (by decide +kernel) (t := 3) (zero := #[.int .i64 0]) (by kernel_rfl) rfl (by kernel_rfl) (by kernel_rfl) Tryd.underlying3
  clear hA0 hval0 hsz0 hsz
  have hGX : GX W := ⟨hml_, table10 hL⟩
  have hgs : gdN ≤ W.heap.size := by
    obtain ⟨m, hm⟩ := hml_
    exact GTab_size W (Nat.lt_of_le_of_lt (Nat.zero_le _) (spot_none hm).2) hGX.2
  refine (AC_calls (C := CX) (paxBackLaw_ac l0 (by omega) gd0 l1 (by omega) gd1) hgs hGX (vs := [.slice a0 len0 cap0, .slice a1 len1 cap1]) ⟨_, _, rfl, rp0, ⟨_, _, rfl, rp1, rfl⟩⟩ (u := .bool true) (fun _ _ _ h => h)).mono fun e W' ⟨he, bel⟩ => ?_
  subst he
  exact ⟨_, rfl, _, _, _, [], _, [], hW', trodAll_mk1 (shut_bool Tryd.underlying4 _), (trodAll_cons_mk (Below.trod laidOut (by kernel_rfl) (of_decide_eq_true (by kernel_rfl)) k0 bel lt0) (trodAll_cons_mk (Below.trod laidOut (by kernel_rfl) (of_decide_eq_true (by kernel_rfl)) k1 bel lt1) trodAll_mk0)), rfl, bel.frame _, fun h => by cases h⟩
theorem said : Rows.PaxBackUptoSaid :=
  OpenClaim.holds_of_cond 10 Tryd.f10 rfl rfl rfl rfl rfl rfl rfl ⟨rfl, rfl, rfl, rfl, rfl⟩ rfl rfl rfl rfl rfl (by kernel_rfl) Tryd.func10 (by kernel_rfl)
    (of_decide_eq_true (by kernel_rfl)) (by unfold Func.isWrapper; first | (rw [if_pos (by decide +kernel)]; kernel_rfl) | (rw [if_neg (by decide +kernel)]; exact ⟨rfl, rfl⟩))
    (fun os started H enc _ F => by rw [OpenClaim.pre_eq_preRow]; exact lifted os started H enc F)
theorem plain (f : FuncId) (fn : Func) (hf : Tryd.pinned.checked.prog.funcNamed "creel/creelkeep.PaxBack" = some f) (hfn : Tryd.pinned.checked.prog.funcs[f]? = some fn) :
    true = Tryd.pinned.checked.prog.looks [] ∧ ∀ (j : Nat) t, fn.params[j]? = some t → Tryd.pinned.checked.prog.wantsStandIn t = false := by
  obtain rfl : f = 10 := Option.some.inj ((show Tryd.prog.funcNamed "creel/creelkeep.PaxBack" = some 10 by kernel_rfl).symm.trans hf) |>.symm
  obtain rfl : fn = Tryd.f10 := (Option.some.inj (Tryd.func10.symm.trans hfn)).symm
  refine ⟨by kernel_rfl, fun j t ht => ?_⟩
  rw [Tryd.params10] at ht
  have hm : t ∈ [47, 47] := by simpa using Array.mem_of_getElem? ht
  have hall : ([47, 47].all fun u => !Tryd.prog.wantsStandIn u) = true := by kernel_rfl
  exact (show Tryd.prog.wantsStandIn t = false by simpa using List.all_eq_true.1 hall t hm)
theorem proved : Rows.PaxBackUptoCardSaid :=
  Claim7.holds_tied_plain_at .later [] _ _ _ _ said (fun _ h => by cases h) (by kernel_rfl) (fun _ h => by cases h) paxBackUpto_row_tie rfl ⟨rfl, rfl⟩ (by kernel_rfl) rfl plain (by kernel_rfl)
#print axioms proved
end Go.Proofs.YtnfbomhhgjlacaaDoor.paxBack
namespace Go.Proofs.YtnfbomhhgjlacaaDoor
/-- The card, under a short name, for the claim. -/
theorem paxBack_holds : Rows.PaxBackUptoCardSaid := paxBack.proved
end Go.Proofs.YtnfbomhhgjlacaaDoor
