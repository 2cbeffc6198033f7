/- strings.Builder's String, walked. -/
import Derived.Test.YtnfbomhhgjlacaaDoorRbld
import Derived.Test.YtnfbomhhgjlacaaDoorShelf
import Derived.Shelf.Strings.Builder1
import Derived.Shelf.RegionOpenPlain
import Derived.Lib.UnsafeStr
import Derived.WalkKit
namespace Go.Proofs.YtnfbomhhgjlacaaDoor.Abs
open Go.RowKit Go.MapKept Go.Shelf
set_option linter.unusedVariables false
set_option linter.unusedSimpArgs false
variable {P : Program} {ρ : Ren}
set_option maxHeartbeats 1000000 in
set_option maxRecDepth 100000 in
/-- String of a builder that holds at least one byte, its cells told: wherever it lies. -/
theorem bString_exact (L : Lays.n169 P ρ) (X : Builder.Extra P ρ) (b g cap : Nat) (l : List UInt8) (cur : Array Value) (fz : Nat × Nat) (w : World) (h0 : l ≠ []) (hb1 : w.cell? ⟨b, 1, none⟩ = some (.slice (some ⟨g, 0, none⟩) l.length cap)) (hg : w.heap[g]? = some (.cells cur (ρ.t 5) fz)) (hnc : l.length ≤ cap) (hcm : cap ≤ maxLen) (hcs : cur.size = cap) (hcell : ∀ j (x : UInt8), l[j]? = some x → w.cell? ((⟨g, 0, none⟩ : Addr).add j) = some (.int .u8 x.toNat)) :
    Calls P (ρ.f 169) #[.pointer (some ⟨b, 0, none⟩)] w fun e w' => e = .returned (.string ⟨l.toArray⟩) ∧ w' = w.drew.freeze ⟨g, 0, none⟩ l.length := by
  have hl0 : l.length ≠ 0 := by simpa using h0
  have c1 : w.drew.cell? ⟨b, 1, none⟩ = some (.slice (some ⟨g, 0, none⟩) l.length cap) := hb1
  have hSD : (Builtin.unsafeSliceData_ #[(ρ.t 37)] (ρ.t 127) #[.slice (some ⟨g, 0, none⟩) l.length cap]).run P w.drew = .ok (.pointer (some ⟨g, 0, none⟩)) w.drew :=
    Lib.run_unsafeSliceData_row _ _ _ _ _ _ (by omega)
  have hUS : (Builtin.unsafeString_ #[(ρ.t 127), (ρ.t 3)] (ρ.t 9) #[.pointer (some ⟨g, 0, none⟩), .int .i64 l.length]).run P w.drew = .ok (.string ⟨l.toArray⟩) (w.drew.freeze ⟨g, 0, none⟩ l.length) := by
    refine Lib.run_unsafeString_row w.drew (ρ.t 127) (ρ.t 3) (ρ.t 9) (ρ.t 5) L.t127 X.cellsByte g cur.size (by have hg' : w.drew.heap[g]? = some (.cells cur (ρ.t 5) fz) := hg; simp [World.shape?, hg']) l h0 (by omega) (by unfold maxLen at hcm; omega) hcell
  have mixed := L.mixed
  have t72 := L.t72; have a72 := L.a72; have z72 := L.z72; have v72 := L.v72; have u72 := run_underlying L.t72
  have t70 := L.t70; have a70 := L.a70; have z70 := L.z70; have v70 := L.v70; have u70 := run_underlying L.t70
  have t37 := L.t37; have a37 := L.a37; have z37 := L.z37; have v37 := L.v37; have u37 := run_underlying L.t37
  have t127 := L.t127; have a127 := L.a127; have z127 := L.z127; have v127 := L.v127; have u127 := run_underlying L.t127
  have t3 := L.t3; have a3 := L.a3; have z3 := L.z3; have v3 := L.v3; have u3 := run_underlying L.t3
  have t9 := L.t9; have a9 := L.a9; have z9 := L.z9; have v9 := L.v9; have u9 := run_underlying L.t9
  have t5 := X.t5; have a5 := X.a5; have z5 := X.z5; have v5 := X.v5; have u5 := run_underlying X.t5
  go_enter L.f169, Body.n169_ntmps ρ
  go_wp2
  go_region_o
  all_goals (go_wp2; go_ret; exact ⟨rfl, rfl⟩)
set_option maxHeartbeats 2000000 in
set_option maxRecDepth 100000 in
/-- String of a builder that nothing was written to. -/
theorem bString_nil (L : Lays.n169 P ρ) (X : Builder.Extra P ρ) (b : Nat) (w : World) (hb1 : w.cell? ⟨b, 1, none⟩ = some (.slice none 0 0)) :
    Calls P (ρ.f 169) #[.pointer (some ⟨b, 0, none⟩)] w fun e w' => e = .returned (.string ⟨#[]⟩) ∧ w' = w.drew := by
  have hUS := Any.unsafeString_none L X
  have c1 : w.drew.cell? ⟨b, 1, none⟩ = some (.slice none 0 0) := hb1
  have hSD : (Builtin.unsafeSliceData_ #[(ρ.t 37)] (ρ.t 127) #[.slice none 0 0]).run P w.drew = .ok (.pointer none) w.drew := rfl
  have mixed := L.mixed
  have t72 := L.t72; have a72 := L.a72; have z72 := L.z72; have v72 := L.v72; have u72 := run_underlying L.t72
  have t70 := L.t70; have a70 := L.a70; have z70 := L.z70; have v70 := L.v70; have u70 := run_underlying L.t70
  have t37 := L.t37; have a37 := L.a37; have z37 := L.z37; have v37 := L.v37; have u37 := run_underlying L.t37
  have t127 := L.t127; have a127 := L.a127; have z127 := L.z127; have v127 := L.v127; have u127 := run_underlying L.t127
  have t3 := L.t3; have a3 := L.a3; have z3 := L.z3; have v3 := L.v3; have u3 := run_underlying L.t3
  have t9 := L.t9; have a9 := L.a9; have z9 := L.z9; have v9 := L.v9; have u9 := run_underlying L.t9
  have t5 := X.t5; have a5 := X.a5; have z5 := X.z5; have v5 := X.v5; have u5 := run_underlying X.t5
  go_enter L.f169, Body.n169_ntmps ρ
  go_wp2
  go_region_o
  all_goals (go_wp2; go_ret; exact ⟨rfl, rfl⟩)
theorem freeze_eq {w : World} {g n : Nat} {cur : Array Value} {t : TypeId} {fz : Nat × Nat} (h0 : n ≠ 0) (hg : w.heap[g]? = some (.cells cur t fz)) : (∃ fz', (w.freeze ⟨g, 0, none⟩ n).heap[g]? = some (.cells cur t fz')) ∧ (∀ k, k ≠ g → (w.freeze ⟨g, 0, none⟩ n).heap[k]? = w.heap[k]?) ∧ (w.freeze ⟨g, 0, none⟩ n).heap.size = w.heap.size ∧ (w.freeze ⟨g, 0, none⟩ n).os = w.os ∧ (w.freeze ⟨g, 0, none⟩ n).tape = w.tape ∧ (w.freeze ⟨g, 0, none⟩ n).output = w.output ∧ (w.freeze ⟨g, 0, none⟩ n).drawn = w.drawn := by
  unfold World.freeze
  rw [if_neg h0]
  refine ⟨?_, fun k hk => ?_, ?_, rfl, rfl, rfl, rfl⟩
  · obtain ⟨lo, hi⟩ := fz
    exact ⟨if lo == hi then (0, 0 + n) else (min lo 0, max hi (0 + n)), by simp [Array.getElem?_modify, hg]⟩
  · simp only [Array.getElem?_modify]
    rw [if_neg (fun e => hk e.symm)]
  · simp
/-- String of a builder that holds at least one byte, inside whatever block: what it held is the caller's no more. -/
theorem string_acb (T : Nat) (rest : List AV) (s : ByteArray) (h0 : s.size ≠ 0) : ACB CX 42 [.ptr 0 0] [.cells T (.ptr 0 0 :: .own 1 1 0 s.size :: rest), .row 5 1 (bytesA s)] (.v (.string s)) [.none, .none] := by
  intro w vs β ok hgd hG hr hB
  obtain ⟨v, _, rfl, ⟨b, hb0, rfl⟩, rfl⟩ := hr
  obtain ⟨b', cur, hb0', hbk, hcs⟩ := hB.rep 0 _ rfl
  rw [hb0] at hb0'
  injection hb0' with hb0'
  subst hb0'
  obtain ⟨v0, l1, hl1, _, _, hr1⟩ := hcs
  obtain ⟨v1, l2, hl2, _, hv1, _⟩ := hr1
  have hrow := hB.rep 1 _ rfl
  rw [AV.rep] at hv1
  simp only [BoxC.rep] at hrow
  cases hβ : β 1 with
  | none =>
    rw [hβ] at hv1
    exact absurd hv1.2.2 h0
  | some g =>
    rw [hβ] at hv1 hrow
    obtain ⟨cap, e, hv, hnc, hcm, hsh⟩ := hv1
    obtain ⟨cur2, tl, ⟨fz, hg, _⟩, _, cs, hc2, hcl, hrep⟩ := hrow
    rw [shape_of_blk hg] at hsh
    have hcap : cur2.size = cap := by injection hsh with hsh; injection hsh with _ hsh; omega
    have hsl : s.data.toList.length = s.size := by rw [Array.length_toList]; rfl
    have hcell : ∀ j (x : UInt8), s.data.toList[j]? = some x → w.cell? ((⟨g, 0, none⟩ : Addr).add j) = some (.int .u8 x.toNat) := fun j x hx => by
      rw [addr_add, Nat.zero_add, cell_of_blk hg, hc2]
      have hj : (strV s)[j]? = some (.int .u8 (x.toNat : Int)) := by simp [strV, hx]
      rw [bytesA_flat] at hrep
      have he : cs = strV s := by
        clear hc2 hcl hj
        generalize strV s = us at hrep
        induction us generalizing cs with
        | nil => exact hrep
        | cons u us ih =>
          obtain ⟨v', r', rfl, _, h3, h4⟩ := hrep
          rw [ih _ h4]
          have h3 : v' = u := h3
          rw [h3]
      rw [he, List.getElem?_append_left (List.getElem?_eq_some_iff.1 hj).1]
      exact hj
    have hb1 : w.cell? ⟨b, 1, none⟩ = some (.slice (some ⟨g, 0, none⟩) s.data.toList.length cap) := by
      rw [cell_of_blk hbk, hl1, hl2, hsl]
      simp [hv]
    have hlt : g < w.heap.size := (Array.getElem?_eq_some_iff.1 hg).1
    have hL : Tryd.lays169_ren.f 169 = 42 := rfl
    have hcall := bString_exact Tryd.lays169 Tryd.Builder_Extra_169 b g cap s.data.toList cur2 fz w (fun e => h0 (by rw [← hsl, e]; rfl)) hb1 hg (by rw [hsl]; exact hnc) hcm hcap hcell
    rw [hsl] at hcall
    have hgd' : w.drew.heap[g]? = some (.cells cur2 5 fz) := hg
    obtain ⟨⟨fz', f1⟩, f2, f3, f4, f5, f6, f7⟩ := freeze_eq (w := w.drew) h0 hgd'
    refine Calls.mono hcall ?_
    rintro e' w' ⟨rfl, rfl⟩
    refine ⟨_, β, rfl, ?_⟩
    have hlive : ∀ i, ¬ liveIn ([.none, .none] : List BoxC) i := fun i h => by
      obtain ⟨bc, h1, h2⟩ := h
      match i, h1 with
      | 0, h1 => injection h1 with h1; subst h1; cases h2
      | 1, h1 => injection h1 with h1; subst h1; cases h2
      | n + 2, h1 => simp at h1
    refine ⟨f4, f5, f6, fun _ => ?_, ?_, fun k hk hn => ?_, fun k q hq => ?_, fun _ _ _ _ => rfl, ?_, fun i bc hi => ?_, fun i j _ h => absurd h (hlive i), fun i _ h => absurd h (hlive i)⟩
    · rw [f7]; exact Nat.le_succ _
    · rw [f3]; exact Nat.le_refl _
    · exact f2 k (fun e => hn ⟨1, ⟨_, rfl, rfl⟩, by rw [hβ, e]⟩)
    · by_cases e : k = g
      · subst e
        rw [shape_of_blk f1, ← hq, shape_of_blk hg]
      · rw [shape_same (f2 k e)]
        exact hq
    · show _ = Value.string s
      congr 1
    · match i, hi with
      | 0, hi => injection hi with hi; subst hi; trivial
      | 1, hi => injection hi with hi; subst hi; trivial
      | n + 2, hi => simp at hi
/-- String of a builder that nothing was written to. -/
theorem stringNil_acb (T : Nat) (rest : List AV) : ACB CX 42 [.ptr 0 0] [.cells T (.v (.pointer none) :: .v (.slice none 0 0) :: rest)] (.v (.string ⟨#[]⟩)) [.none] := by
  intro w vs β ok hgd hG hr hB
  obtain ⟨v, _, rfl, ⟨b, hb0, rfl⟩, rfl⟩ := hr
  obtain ⟨b', cur, hb0', hbk, hcs⟩ := hB.rep 0 _ rfl
  rw [hb0] at hb0'
  injection hb0' with hb0'
  subst hb0'
  obtain ⟨v0, l1, hl1, _, _, hr1⟩ := hcs
  obtain ⟨v1, l2, hl2, _, hv1, _⟩ := hr1
  have hv1 : v1 = .slice none 0 0 := hv1
  have hb1 : w.cell? ⟨b, 1, none⟩ = some (.slice none 0 0) := by
    rw [cell_of_blk hbk, hl1, hl2]
    simp [hv1]
  have hL : Tryd.lays169_ren.f 169 = 42 := rfl
  refine Calls.mono (bString_nil Tryd.lays169 Tryd.Builder_Extra_169 b w hb1) ?_
  rintro e' w' ⟨rfl, rfl⟩
  have hlive : ∀ i, ¬ liveIn ([.none] : List BoxC) i := fun i h => by
    obtain ⟨bc, h1, h2⟩ := h
    match i, h1 with
    | 0, h1 => injection h1 with h1; subst h1; cases h2
    | n + 1, h1 => simp at h1
  exact ⟨_, β, rfl, rfl, rfl, rfl, fun _ => Nat.le_succ _, Nat.le_refl _, fun _ _ _ => rfl, fun _ _ h => h, fun _ _ _ _ => rfl, rfl, fun i bc hi => by
    match i, hi with
    | 0, hi => injection hi with hi; subst hi; trivial
    | n + 1, hi => simp at hi, fun i j _ h => absurd h (hlive i), fun i _ h => absurd h (hlive i)⟩
end Go.Proofs.YtnfbomhhgjlacaaDoor.Abs
