/- What the library's functions of strings answer. -/
import Derived.Test.YtnfbomhhgjlacaaDoorRlib
import Derived.Test.YtnfbomhhgjlacaaDoorShelf
namespace Go.Proofs.YtnfbomhhgjlacaaDoor.Abs
open Go.RowKit Go.MapKept
set_option linter.unusedVariables false
set_option linter.unusedSimpArgs false
set_option maxRecDepth 100000
set_option maxHeartbeats 4000000
def encS (s : ByteArray) : List AV := [.v (.string s)]
theorem indexByte_ac (s : ByteArray) (c : UInt8) : AC CX 37 [.v (.string s), .v (.int .u8 (c.toNat : Int))] (.v (.int .i64 (Lib.indexByte s.data.toList c))) :=
  AC_of_calls (u := .int .i64 (Lib.indexByte s.data.toList c)) (fun _ _ _ => rfl) fun w vs ok hgd hG hr => by
    obtain ⟨v, _, rfl, hv, v2, _, rfl, hv2, rfl⟩ := hr
    obtain rfl : v = .string s := hv
    obtain rfl : v2 = .int .u8 (c.toNat : Int) := hv2
    refine (Tryd.strings_IndexByte s (c.toNat : Int) w).mono fun e w' ⟨he, hw⟩ => ⟨?_, hw ▸ Below.refl _ _⟩
    rw [he, Int.toNat_natCast]
    simp
theorem repeat_ac (s : ByteArray) (n : Int) (h0 : 0 ≤ n) (h1 : s.size * n.toNat ≤ 140737488355328) (h2 : n ≤ 9223372036854775807) : AC CX 41 [.v (.string s), .v (.int .i64 n)] (.v (.string (mkS (Lib.repeatL s.data.toList n.toNat)))) :=
  AC_of_calls (u := .string (mkS (Lib.repeatL s.data.toList n.toNat))) (fun _ _ _ => rfl) fun w vs ok hgd hG hr => by
    obtain ⟨v, _, rfl, hv, v2, _, rfl, hv2, rfl⟩ := hr
    obtain rfl : v = .string s := hv
    obtain rfl : v2 = .int .i64 n := hv2
    have hc := Tryd.strings_Repeat s n.toNat w (by omega) h1
    rw [Int.toNat_of_nonneg h0] at hc
    exact hc
theorem replace0_ac (s : ByteArray) (h : s.size ≤ 1000000000) : AC CX 92 [.v (.string s), .v (.string ⟨#[0]⟩), .v (.string ⟨#[48]⟩)] (.v (.string (mkS (noz s.data.toList)))) :=
  AC_of_calls (u := .string (mkS (noz s.data.toList))) (fun _ _ _ => rfl) fun w vs ok hgd hG hr => by
    obtain ⟨v, _, rfl, hv, v2, _, rfl, hv2, v3, _, rfl, hv3, rfl⟩ := hr
    obtain rfl : v = .string s := hv
    obtain rfl : v2 = .string ⟨#[0]⟩ := hv2
    obtain rfl : v3 = .string ⟨#[48]⟩ := hv3
    obtain ⟨⟨m, hm⟩, _⟩ := hG
    have hc := Lib.countB_le (⟨#[0]⟩ : ByteArray) (by decide) s.size s (Nat.le_refl _)
    have s1 : (⟨#[48]⟩ : ByteArray).size = 1 := rfl
    have := Tryd.strings_ReplaceAll s ⟨#[0]⟩ ⟨#[48]⟩ m w (by omega) hm (by decide) (by rw [s1]; omega)
    have k1 : (⟨#[0]⟩ : ByteArray).data.toList = [0] := rfl
    have k2 : (⟨#[48]⟩ : ByteArray).data.toList = [48] := rfl
    rw [k1, k2, replaceAll_noz] at this
    exact this
/-- strings.Split at "/". -/
def partsS (s : ByteArray) : List ByteArray := (cutL 47 s.data.toList).map mkS
theorem split_ac {dr : Bool} (s : ByteArray) (h : s.size ≤ 1000000000) : AC (CXw dr) 102 [.v (.string s), .v (.string ⟨#[47]⟩)] (.row 1 ((partsS s).map encS)) := by
  intro w vs ok hgd hG hr
  obtain ⟨v, _, rfl, hv, v2, _, rfl, hv2, rfl⟩ := hr
  obtain rfl : v = .string s := hv
  obtain rfl : v2 = .string ⟨#[47]⟩ := hv2
  obtain ⟨⟨m, hm⟩, _⟩ := hG
  refine (Tryd.strings_Split s ⟨#[47]⟩ m w (by omega) hm (by decide)).mono ?_
  rintro e w' ⟨rfl, rfl⟩
  have e1 : Lib.splitB (⟨#[47]⟩ : ByteArray) 0 (Lib.countB s ⟨#[47]⟩) s = partsS s := by
    unfold partsS
    rw [← splitB_cut, List.map_map]
    exact ((List.map_congr_left (g := id) (fun x _ => mkS_self x)).trans (List.map_id _)).symm
  have hlen : (Lib.splitB (⟨#[47]⟩ : ByteArray) 0 (Lib.countB s ⟨#[47]⟩) s).length = Lib.countB s ⟨#[47]⟩ + 1 := Lib.splitB_all ⟨#[47]⟩ (by decide) 0 _ s rfl
  rw [e1] at hlen ⊢
  refine ⟨_, rfl, (BelowD.refl _ _).alloc (Nat.le_refl _) _, ?_⟩
  have := rep_alloc (w := w) (vs := (partsS s).map Value.string) (t := 9) (ok := fun b => ok b ∨ w.heap.size ≤ b) (fun v hv => by obtain ⟨x, _, rfl⟩ := List.mem_map.1 hv; rfl) (.inr (Nat.le_refl _))
  rw [List.map_map, List.length_map, hlen] at this
  exact this
end Go.Proofs.YtnfbomhhgjlacaaDoor.Abs
