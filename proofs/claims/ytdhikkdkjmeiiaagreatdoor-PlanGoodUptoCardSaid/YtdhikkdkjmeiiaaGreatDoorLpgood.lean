/- The law of the members made of a tree: nothing is amiss with them, whatever the rules take. -/
import Derived.Test.YtdhikkdkjmeiiaaGreatDoorRplanx
namespace Go.Proofs.YtdhikkdkjmeiiaaGreatDoor.Abs
open Go.RowKit Go.MapKept
set_option linter.unusedVariables false
set_option linter.unusedSimpArgs false
set_option maxRecDepth 100000
set_option maxHeartbeats 4000000
def abE : EntT := ⟨⟨#[97, 47, 98]⟩, 1, ⟨#[]⟩, smallM, ⟨#[]⟩⟩
theorem abE_good : EntGood abE := ⟨by kernel_rfl, ⟨by decide, by decide, by decide, by decide, by decide, by decide, by decide, by decide⟩, by decide, fun _ => rfl, by decide, by decide, by decide, fun h => absurd h (by decide), fun _ => by decide⟩
theorem abE_chk : pchkL [] [abE] = 10 := by kernel_rfl
theorem abE_ac : AC CX 19 [.row 11 [[.v (.string ⟨#[97, 47, 98]⟩), .v (.int .i64 1), .v (.string ⟨#[]⟩), .v (.int .i64 0), .v (.int .i64 0), .v (.int .i64 0), .v (.string ⟨#[]⟩), .v (.string ⟨#[]⟩), .v (.int .i64 0), .v (.int .i64 0), .v (.slice none 0 0)]]] (.v (.int .i64 10)) := by
  have h := pcheck1_ac abE abE_good rfl
  rw [abE_chk] at h
  exact h
theorem pgoodLaw_ac (l : List RawT) (hl : l.length ≤ 100000000) (hg : ∀ r ∈ l, RawGood r) (m : List RawT) (hm : m.length ≤ 100000000) (hgm : ∀ r ∈ m, RawGood r) : AC CX 6 [.row 4 (l.map encRaw), .row 4 (m.map encRaw)] (.v (.bool true)) := by
  obtain ⟨hT, hn⟩ := tree_ok (most := 30) hg (by decide)
  have hta := tree_ac l 30 hl hg
  generalize treeF l 30 = a at hT hn hta
  have hru := rules_ac m 4 hm hgm (by decide)
  obtain ⟨hrl, hra⟩ := rules_ok m 4
  generalize rulesL m 4 = rs at hru hrl hra
  have hmk := make_ac a rs hT (by omega) (by omega) hra
  have hTo := run_tree hT (takesF rs)
  have hol := (runL_sub (takesF rs) a).length_le
  generalize runL (takesF rs) a = out at hmk hTo hol
  have hch := pcheckT_ac hTo (by omega)
  generalize entsL out = es at hmk hch
  obtain ⟨sm, u, hul, hsm, hsr⟩ := psmallc_ex
  have hab := abE_ac
  refine AC_walk ⟨TB, 46, 0, [], []⟩ (fn := Tryz.f6) TB_ok Tryz.func6 rfl rfl rfl rfl rfl (fun _ => rfl) (fun _ => rfl) ?_; intro E hna hX
  refine goT ?_
  refine ⟨_, hta, by kernel_rfl, fun _ => rfl, ?_⟩
  refine goT ?_
  refine ⟨_, hru, by kernel_rfl, fun _ => rfl, ?_⟩
  refine goT ?_
  refine ⟨_, hmk, by kernel_rfl, fun _ => rfl, ?_⟩
  refine goT ?_
  refine ⟨_, hsm, by kernel_rfl, fun _ => rfl, ?_⟩
  refine goT ?_
  refine ⟨_, hsr, by kernel_rfl, fun _ => rfl, ?_⟩
  refine goT ?_
  refine ⟨_, hch, by kernel_rfl, fun _ => rfl, ?_⟩
  refine goT ?_
  refine ⟨_, hab, by kernel_rfl, fun _ => rfl, ?_⟩
  refine goT ?_
  rfl
end Go.Proofs.YtdhikkdkjmeiiaaGreatDoor.Abs
