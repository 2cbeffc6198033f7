/- Bytes in whole blocks, walked: pad.*, slices.Grow and slices.Concat of bytes. -/
import Derived.Test.YtnfbomhhgjlacaaDoorRpadp
import Derived.Test.YtnfbomhhgjlacaaDoorDr14
import Derived.Test.YtnfbomhhgjlacaaDoorDr9
namespace Go.Proofs.YtnfbomhhgjlacaaDoor.Abs
open Go.RowKit Go.MapKept
set_option linter.unusedVariables false
set_option linter.unusedSimpArgs false
set_option maxRecDepth 100000
set_option maxHeartbeats 4000000
theorem trim0_ac {dr : Bool} (s : ByteArray) (h : ∀ x ∈ s.data.toList, x = 0) (hs : s.size ≤ 1000000000) : AC (CXw dr) 113 [.v (.string s), .v (.string ⟨#[0]⟩)] (.v (.string ⟨#[]⟩)) := by
  intro w vs ok hgd hG hr
  obtain ⟨v, _, rfl, hv, v2, _, rfl, hv2, rfl⟩ := hr
  obtain rfl : v = .string s := hv
  obtain rfl : v2 = .string ⟨#[0]⟩ := hv2
  refine (Tryd.strings_Trim_one s 0 (by decide) w (by omega)).mono ?_
  rintro e w' ⟨rfl, hw⟩
  have e1 : Lib.trimB s.data.toList 0 = [] := (trim_zero _ _).2 h
  rw [e1]
  refine ⟨_, rfl, ?_, rfl⟩
  rcases hw with rfl | rfl
  · exact BelowD.refl _ _
  · exact below_drew' w
theorem cB (s : ByteArray) : ClosedE (bytesA s) := fun j => by
  rw [← avoidsL_flatten]
  exact avoidsL_mem fun x hx => by
    obtain ⟨l, hl, hx⟩ := List.mem_flatten.1 hx
    obtain ⟨u, _, rfl⟩ := List.mem_map.1 hl
    rw [List.mem_singleton] at hx
    subst hx
    rfl
def ccS (a b : ByteArray) : Nat → Int
  | 0 => 0
  | 1 => 0 + (a.size : Int)
  | _ => 0 + (a.size : Int) + (b.size : Int)
def ccN (a b : ByteArray) : Nat → Nat
  | 0 => 0
  | 1 => a.size
  | _ => a.size + b.size
def ccB (a b : ByteArray) : Nat → List (List AV)
  | 0 => []
  | 1 => bytesA a
  | _ => bytesA (a ++ b)
theorem cCC (a b : ByteArray) : ∀ k, ClosedE (ccB a b k)
  | 0 => fun _ => rfl
  | 1 => cB a
  | _ + 2 => cB (a ++ b)
end Go.Proofs.YtnfbomhhgjlacaaDoor.Abs
