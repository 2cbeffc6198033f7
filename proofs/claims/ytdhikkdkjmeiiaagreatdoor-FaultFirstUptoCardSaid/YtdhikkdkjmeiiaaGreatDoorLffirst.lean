/- The law of faults: the first file that has one, and no one ahead of it. -/
import Derived.Test.YtdhikkdkjmeiiaaGreatDoorRfault
namespace Go.Proofs.YtdhikkdkjmeiiaaGreatDoor.Abs
open Go.RowKit Go.MapKept
set_option linter.unusedVariables false
set_option linter.unusedSimpArgs false
set_option maxRecDepth 100000
set_option maxHeartbeats 4000000
def aE : EntT := ⟨⟨#[97]⟩, 1, ⟨#[]⟩, smallM, ⟨#[]⟩⟩
theorem aE_good : EntGood aE := ⟨by kernel_rfl, ⟨by decide, by decide, by decide, by decide, by decide, by decide, by decide, by decide⟩, by decide, fun _ => rfl, by decide, by decide, by decide, fun h => absurd h (by decide), fun _ => by decide⟩
theorem aE_chk : pchkL [] [aE] = 0 := by kernel_rfl
theorem aE_ac : AC CX 24 [.row 11 [[.v (.string ⟨#[97]⟩), .v (.int .i64 1), .v (.string ⟨#[]⟩), .v (.int .i64 0), .v (.int .i64 0), .v (.int .i64 0), .v (.string ⟨#[]⟩), .v (.string ⟨#[]⟩), .v (.int .i64 0), .v (.int .i64 0), .v (.slice none 0 0)]], .row 2 [[.v (.string ⟨#[97]⟩), .v (.int .i64 1)]]] (.tup [.agg [.v (.string ⟨#[97]⟩), .v (.int .i64 1)], .v (.int .i64 0), .v (.int .i64 0)]) := by
  have hc := pcheck_ac [aE] (fun y hy => by rw [List.mem_singleton] at hy; subst hy; exact aE_good) (by simp) (by decide)
  rw [aE_chk] at hc
  have h := ffirst_ac [aE] (fs := [⟨⟨#[97]⟩, 1⟩]) ⟨fun x hx => by rw [List.mem_singleton] at hx; subst hx; exact ⟨by kernel_rfl, by decide⟩, by simp, by decide⟩ (by decide) hc
  rw [show firstG [⟨⟨#[97]⟩, 1⟩] 0 [aE] = (⟨⟨#[97]⟩, 1⟩, 0, 0) from by kernel_rfl] at h
  exact AC_imp1 h (Imp.row (l := [encENil aE]) (m := [encE aE]) ⟨encENil_imp rfl, trivial⟩)
theorem ffirstLaw_ac (l : List RawT) (hl : l.length ≤ 100000000) (hg : ∀ r ∈ l, RawGood r) (m : List Int) (hm : m.length ≤ 100000000) (hgm : ∀ x ∈ m, isI x) : AC CX 8 [.row 4 (l.map encRaw), .row 1 (m.map encI)] (.v (.bool true)) := by
  obtain ⟨hT, hn⟩ := tree_ok (most := 20) hg (by decide)
  have hta := tree_ac l 20 hl hg
  have hen := entriesOf_ac l hl hg
  generalize treeF l 20 = a at hT hn hta hen
  have hfo := faultsOf_ac hT (by omega) m hm hgm
  have hF := faultsG_ok hT m 0 [] (finv_nil a)
  generalize faultsG a 0 m [] = fs at hfo hF
  have hfl := hF.len
  have hel := ents_len a
  have hfi := ffirst_ac (entsL a) hF (by omega) (pcheckT_ac hT (by omega))
  have hsay := firstG_says (fs := fs) (entsL a) 0
  generalize entsL a = es at hen hel hfi hsay
  have hcn : ∀ es' : List EntT, es'.length ≤ 1000000 → AC CX 28 [.row 11 (es'.map encE), .fn (.func 25) [.eptr [.row 2 (fs.map encF)]]] (.v (.bool (es'.any (hasF fs)))) := fun es' h => containsE_ac es' 25 [.row 2 (fs.map encF)] (hasF fs) (by omega) (by kernel_rfl) (fun x _ => has_ac (by omega) x)
  have hha : ∀ x, AC CX 25 [.agg (encE x), .eptr [.row 2 (fs.map encF)]] (.v (.bool (hasF fs x))) := fun x => has_ac (by omega) x
  have hex := aE_ac
  rcases hsay with ⟨s1, s2⟩ | ⟨j, x, s1, s2, s3, s4, s5, s6⟩
  · have hc0 := hcn es (by omega)
    rw [s2] at hc0
    generalize firstG fs 0 es = r at hfi s1
    obtain ⟨⟨p, c⟩, at_, e⟩ := r
    dsimp only at hfi s1
    subst s1
    refine AC_walk ⟨TB, 93, 0, [], []⟩ (fn := Tryz.f8) TB_ok Tryz.func8 rfl rfl rfl rfl rfl (fun _ => rfl) (fun _ => rfl) ?_; intro E hna hX
    refine goT ?_
    refine ⟨_, hta, by kernel_rfl, fun _ => rfl, ?_⟩
    refine goT ?_
    refine ⟨_, hen, by kernel_rfl, fun _ => rfl, ?_⟩
    refine goT ?_
    refine ⟨_, hfo, by kernel_rfl, fun _ => rfl, ?_⟩
    refine goT ?_
    refine ⟨_, hfi, by kernel_rfl, fun _ => rfl, ?_⟩
    refine goT ?_
    refine ⟨_, hex, by kernel_rfl, fun _ => rfl, ?_⟩
    refine goT ?_
    refine .inl ⟨_, hc0, by kernel_rfl, ⟨⟨True.intro, ⟨True.intro, True.intro⟩, True.intro⟩, True.intro⟩, ?_⟩
    refine goT ?_
    rfl
  · have hjl := (List.getElem?_eq_some_iff.1 s1).1
    have hc1 := hcn (es.take j) (by rw [List.length_take]; omega)
    rw [s6] at hc1
    have hh := hha x
    rw [s5] at hh
    generalize firstG fs 0 es = r at hfi s2 s3 s4
    obtain ⟨⟨p, c⟩, at_, e⟩ := r
    dsimp only at hfi s2 s3 s4
    subst s3; subst s4
    rw [Nat.zero_add] at s2
    subst s2
    have hpp : decide (x.path = x.path) = true := decide_eq_true rfl
    clear s5 s6
    refine AC_walk ⟨TB, 93, 0, [], []⟩ (fn := Tryz.f8) TB_ok Tryz.func8 rfl rfl rfl rfl rfl (fun _ => rfl) (fun _ => rfl) ?_; intro E hna hX
    refine goT ?_
    refine ⟨_, hta, by kernel_rfl, fun _ => rfl, ?_⟩
    refine goT ?_
    refine ⟨_, hen, by kernel_rfl, fun _ => rfl, ?_⟩
    refine goT ?_
    refine ⟨_, hfo, by kernel_rfl, fun _ => rfl, ?_⟩
    refine goT ?_
    refine ⟨_, hfi, by kernel_rfl, fun _ => rfl, ?_⟩
    refine goT ?_
    refine ⟨_, hex, by kernel_rfl, fun _ => rfl, ?_⟩
    refine goT ?_
    refine W_draw hX (n := 30) (follows_mixed Tryz.checked) (ws := [[], [], [(1, 64)], [(0, 63), (2, 65)], [(3, 66)], [(4, 67)], [(4, 67)], [(4, 67), (5, 68), (6, 69)], [(4, 67), (7, 70)], [(4, 67), (8, 71)], [(4, 67)], [(4, 67), (10, 73)], [(4, 67), (9, 72), (11, 74)], [(4, 67), (12, 75)], [(4, 67), (13, 76)], [(14, 77)], [(14, 77)], [(14, 77)], [(14, 77), (16, 79), (17, 80)], [(14, 77), (18, 81)], [(14, 77), (15, 78), (19, 82)], [(14, 77), (20, 83)], [(20, 83), (21, 84)], [(22, 85)], [(22, 85)], [(22, 85), (23, 86), (24, 87)], [(22, 85)], [(22, 85), (25, 88), (26, 89)], [(22, 85), (27, 90)], [(22, 85), (28, 91)]]) (ds := [63, 64, 65, 66, 67, 68, 69, 70, 71, 72, 73, 74, 75, 76, 77, 78, 79, 80, 81, 82, 83, 84, 85, 86, 87, 88, 89, 90, 91, 92]) (bi := []) (wa := [(0, 63), (1, 64), (2, 65), (3, 66), (4, 67), (5, 68), (6, 69), (7, 70), (8, 71), (9, 72), (10, 73), (11, 74), (12, 75), (13, 76), (14, 77), (15, 78), (16, 79), (17, 80), (18, 81), (19, 82), (20, 83), (21, 84), (22, 85), (23, 86), (24, 87), (25, 88), (26, 89), (27, 90), (28, 91), (29, 92)]) ⟨by kernel_rfl, by kernel_rfl, by kernel_rfl, by kernel_rfl, by decide, by kernel_rfl, by kernel_rfl, rfl, by decide, rfl⟩ ?_
    refine goT ?_
    refine ⟨_, hh, by kernel_rfl, ⟨⟨True.intro, True.intro⟩, ⟨True.intro, True.intro⟩⟩, ?_⟩
    refine goT ?_
    refine ⟨(es.take j).map encE, ⟨by rw [List.drop_zero, List.map_take]⟩, ?_⟩
    refine goT ?_
    refine ⟨_, hc1, by kernel_rfl, ⟨⟨True.intro, ⟨True.intro, True.intro⟩, True.intro⟩, True.intro⟩, ?_⟩
    refine goT ?_
    rfl
end Go.Proofs.YtdhikkdkjmeiiaaGreatDoor.Abs
