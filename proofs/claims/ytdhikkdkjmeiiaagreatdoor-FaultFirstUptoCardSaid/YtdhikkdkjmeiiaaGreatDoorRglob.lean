/- Signs of a pattern: glob.end, glob.split, walked. -/
import Derived.Test.YtdhikkdkjmeiiaaGreatDoorRpath
namespace Go.Proofs.YtdhikkdkjmeiiaaGreatDoor.Abs
open Go.RowKit Go.MapKept
set_option linter.unusedVariables false
set_option linter.unusedSimpArgs false
set_option maxRecDepth 100000
set_option maxHeartbeats 4000000
def endK (s : ByteArray) : Nat := if preF (s.extract 1 s.size) ⟨#[33]⟩ = true then 2 else 1
def endI (s : ByteArray) : Int := if endK s < s.size then Lib.indexByte (s.extract (endK s + 1) s.size).data.toList 93 else -1
def endF (s : ByteArray) : Int := if endI s < 0 then -1 else (endK s : Int) + 1 + endI s + 1
theorem idx_bnd : ∀ (l : List UInt8) (c : UInt8), -1 ≤ Lib.indexByte l c ∧ Lib.indexByte l c < l.length
  | [], _ => by simp [Lib.indexByte]
  | b :: l, c => by
    have ih := idx_bnd l c
    simp only [Lib.indexByte, List.length_cons]
    split
    · omega
    · split <;> rename_i h1 h2 <;> simp at h2 <;> omega
theorem ext_size (s : ByteArray) (a : Nat) : (s.extract a s.size).size = s.size - a := by
  rw [ByteArray.size_extract]; omega
theorem endI_bnd (s : ByteArray) : -1 ≤ endI s ∧ (0 ≤ endI s → endI s + endK s + 1 < s.size) := by
  unfold endI
  split
  · have := idx_bnd (s.extract (endK s + 1) s.size).data.toList 93
    rw [size_list, ext_size] at this
    omega
  · omega
theorem endF_bnd (s : ByteArray) : -1 ≤ endF s ∧ (0 ≤ endF s → 3 ≤ endF s ∧ endF s ≤ s.size) := by
  have := endI_bnd s
  have h2 : 1 ≤ endK s := by unfold endK; split <;> omega
  unfold endF
  split <;> omega
theorem end_ac (s : ByteArray) (h0 : 1 ≤ s.size) (hs : s.size ≤ 1000000) : AC CX 94 [.v (.string s)] (.v (.int .i64 (endF s))) := by
  have hib := endI_bnd s
  have hx := ext_size s 1
  have hx2 := ext_size s (endK s + 1)
  have hpr := hasPrefix_ac (s.extract 1 s.size) ⟨#[33]⟩ (by omega)
  have hin := indexByte_ac (s.extract (endK s + 1) s.size) 93
  have hii : endK s < s.size → Lib.indexByte (s.extract (endK s + 1) s.size).data.toList 93 = endI s := fun h => by unfold endI; rw [if_pos h]
  have hi0 : ¬ endK s < s.size → endI s = -1 := fun h => by unfold endI; rw [if_neg h]
  have he : endF s = if endI s < 0 then -1 else (endK s : Int) + 1 + endI s + 1 := rfl
  have hk : endK s = if preF (s.extract 1 s.size) ⟨#[33]⟩ = true then 2 else 1 := rfl
  generalize endF s = e at he
  generalize endI s = i at hib hii hi0 he
  generalize endK s = q at hk hin hii hi0 he hib hx2
  generalize hp : preF (s.extract 1 s.size) ⟨#[33]⟩ = p at hk hpr
  cases p
  all_goals
    have hq : q = 1 ∨ q = 2 := by rw [hk]; simp
    simp only [if_true, if_false, Bool.false_eq_true] at hk
    subst hk
    refine AC_walk ⟨TB, 27, 0, [], []⟩ (fn := Tryz.f94) TB_ok Tryz.func94 rfl rfl rfl rfl rfl (fun _ => rfl) (fun _ => rfl) ?_; intro E hna hX
    refine goT ?_
    refine ⟨_, hpr, by kernel_rfl, fun _ => rfl, ?_⟩
    refine goT ?_
    refine condB_intro (fun h1 => ?_) (fun h1 => ?_)
    · have e1 := of_decide_eq_true h1
      have h3 := hii (by omega)
      rw [h3] at hin
      refine goT ?_
      refine ⟨_, hin, by kernel_rfl, fun _ => rfl, ?_⟩
      refine goT ?_
      refine condB_intro (fun h2 => ?_) (fun h2 => ?_)
      · have e2 := of_decide_eq_true h2
        rw [if_pos e2] at he
        rw [he]
        refine goT ?_
        rfl
      · have e2 := of_decide_eq_false h2
        rw [if_neg e2] at he
        rw [he]
        refine goT ?_
        rfl
    · have e1 := of_decide_eq_false h1
      have h3 := hi0 (by omega)
      rw [h3, if_pos (by decide)] at he
      rw [he]
      refine goT ?_
      rfl
end Go.Proofs.YtdhikkdkjmeiiaaGreatDoor.Abs
