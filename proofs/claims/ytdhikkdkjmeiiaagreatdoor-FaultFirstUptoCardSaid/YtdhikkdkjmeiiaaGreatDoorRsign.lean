/- glob.sign, the closures of glob.part, glob.part, walked. -/
import Derived.Test.YtdhikkdkjmeiiaaGreatDoorRset
import Derived.Test.YtdhikkdkjmeiiaaGreatDoorRwildw
import Derived.Test.YtdhikkdkjmeiiaaGreatDoorRtree2
namespace Go.Proofs.YtdhikkdkjmeiiaaGreatDoor.Abs
open Go.RowKit Go.MapKept
set_option linter.unusedVariables false
set_option linter.unusedSimpArgs false
set_option maxRecDepth 100000
set_option maxHeartbeats 4000000
def okT (s : ByteArray) : Bool := decide (1 ≤ s.size ∧ s.size ≤ 100000) && (!decide (byteAt s 0 = 91) || okS 300 (setS s) 0)
def signF (s : ByteArray) (c : Int) : Bool := if byteAt s 0 = 63 then true else if byteAt s 0 = 91 then ((setF s c).map (·.1)).getD false else decide (byteAt s 0 = c)
theorem sign_ac (s : ByteArray) (c : Int) (h : okT s = true) : AC CX 124 [.v (.string s), .v (.int .u8 c)] (.v (.bool (signF s c))) := by
  unfold okT at h
  rw [Bool.and_eq_true, decide_eq_true_eq] at h
  obtain ⟨⟨h0, hs⟩, hb⟩ := h
  have he : signF s c = if byteAt s 0 = 63 then true else if byteAt s 0 = 91 then ((setF s c).map (·.1)).getD false else decide (byteAt s 0 = c) := rfl
  have hset : byteAt s 0 = 91 → ∃ r, setF s c = some r := fun h => by
    rw [decide_eq_true h] at hb
    exact okS_some c _ 300 _ _ _ hb
  refine AC_walk ⟨TB, 24, 0, [], []⟩ (fn := Tryz.f124) TB_ok Tryz.func124 rfl rfl rfl rfl rfl (fun _ => rfl) (fun _ => rfl) ?_; intro E hna hX
  refine goT ?_
  refine condB_intro (fun h1 => ?_) (fun h1 => ?_)
  · rw [he, if_pos (of_decide_eq_true h1)]
    refine goT ?_
    rfl
  have e1 : ¬ byteAt s 0 = 63 := of_decide_eq_false h1
  rw [if_neg e1] at he
  refine goT ?_
  refine condB_intro (fun h2 => ?_) (fun h2 => ?_)
  · have e2 : byteAt s 0 = 91 := of_decide_eq_true h2
    obtain ⟨r, hr⟩ := hset e2
    rw [if_pos e2, hr] at he
    rw [he]
    refine goT ?_
    refine ⟨_, set_ac s c r h0 hs hr, by kernel_rfl, fun _ => rfl, ?_⟩
    refine goT ?_
    rfl
  have e2 : ¬ byteAt s 0 = 91 := of_decide_eq_false h2
  rw [if_neg e2] at he
  rw [he]
  refine goT ?_
  rfl
def starT (p : ByteArray) (t : List ByteArray) (i : Nat) : Bool := match t[i]? with
  | some x => decide (x = p)
  | none => false
def fitT (t : List ByteArray) (s : ByteArray) (i k : Nat) : Bool := match t[i]? with
  | some x => signF x (byteAt s k)
  | none => false
theorem part1_ac (t : List ByteArray) (i : Nat) (hi : i < t.length) : AC CX 122 [.v (.int .i64 i), .eptr [.row 1 (t.map encS)]] (.v (.bool (starT ⟨#[42]⟩ t i))) := by
  obtain ⟨x, hx⟩ := get_lt (l := t) (k := i) hi
  have he : starT ⟨#[42]⟩ t i = decide (x = ⟨#[42]⟩) := by unfold starT; rw [hx]
  rw [he]
  refine AC_walk ⟨TB, 9, 0, [], []⟩ (fn := Tryz.f122) TB_ok Tryz.func122 rfl rfl rfl rfl rfl (fun _ => rfl) (fun _ => rfl) ?_; intro E hna hX
  refine goT ?_
  rfl
theorem part2_ac (t : List ByteArray) (s : ByteArray) (i k : Nat) (hi : i < t.length) (hk : k < s.size) (ht : ∀ x ∈ t, okT x = true) : AC CX 123 [.v (.int .i64 i), .v (.int .i64 k), .eptr [.row 1 (t.map encS)], .eptr [.v (.string s)]] (.v (.bool (fitT t s i k))) := by
  obtain ⟨x, hx⟩ := get_lt (l := t) (k := i) hi
  have he : fitT t s i k = signF x (byteAt s k) := by unfold fitT; rw [hx]
  rw [he]
  refine AC_walk ⟨TB, 15, 0, [], []⟩ (fn := Tryz.f123) TB_ok Tryz.func123 rfl rfl rfl rfl rfl (fun _ => rfl) (fun _ => rfl) ?_; intro E hna hX
  refine goT ?_
  refine W_draw hX (n := 8) (follows_mixed Tryz.checked) (ws := [[], [], [(0, 7), (1, 8)], [(2, 9)], [], [], [(4, 11), (5, 12)], [(3, 10), (6, 13)]]) (ds := [7, 8, 9, 10, 11, 12, 13, 14]) (bi := []) (wa := [(0, 7), (1, 8), (2, 9), (3, 10), (4, 11), (5, 12), (6, 13), (7, 14)]) ⟨by kernel_rfl, by kernel_rfl, by kernel_rfl, by kernel_rfl, by decide, by kernel_rfl, by kernel_rfl, rfl, by decide, rfl⟩ ?_
  refine goT ?_
  refine ⟨_, sign_ac x (byteAt s k) (ht x (List.mem_of_getElem? hx)), by kernel_rfl, fun _ => rfl, ?_⟩
  refine goT ?_
  rfl
/-- A part of a pattern, told of a part of a path. -/
def partF (p s : ByteArray) : Bool := wildF (splitL p).length s.size (starT ⟨#[42]⟩ (splitL p)) (fitT (splitL p) s)
def okP (p : ByteArray) : Bool := decide (p.size ≤ 400) && gokB p.size p && (splitL p).all okT
theorem part_ac (p s : ByteArray) (h : okP p = true) (hs : s.size ≤ 1000000) : AC CX 114 [.v (.string p), .v (.string s)] (.v (.bool (partF p s))) := by
  unfold okP at h
  rw [Bool.and_eq_true, Bool.and_eq_true, decide_eq_true_eq] at h
  obtain ⟨⟨hp, hg⟩, ht⟩ := h
  rw [List.all_eq_true] at ht
  have hsp := gsplit_ac p (by omega) hg
  have hln : (splitL p).length ≤ p.size := splitF_len p.size p
  have hw := wild_ac (n := (splitL p).length) (m := s.size) (starT ⟨#[42]⟩ (splitL p)) (fitT (splitL p) s) 122 123 [.row 1 ((splitL p).map encS)] [.row 1 ((splitL p).map encS)] [.v (.string s)] (by omega) hs (by kernel_rfl) (by kernel_rfl) (fun i hi => part1_ac _ i hi) (fun i k hi hk => part2_ac _ s i k hi hk ht)
  have he : partF p s = wildF (splitL p).length s.size (starT ⟨#[42]⟩ (splitL p)) (fitT (splitL p) s) := rfl
  rw [he]
  generalize wildF (splitL p).length s.size (starT ⟨#[42]⟩ (splitL p)) (fitT (splitL p) s) = b at hw
  clear he ht hg
  generalize splitL p = t at hsp hln hw
  refine AC_walk ⟨TB, 15, 0, [], []⟩ (fn := Tryz.f114) TB_ok Tryz.func114 rfl rfl rfl rfl rfl (fun _ => rfl) (fun _ => rfl) ?_; intro E hna hX
  refine goT ?_
  refine ⟨_, hsp, by kernel_rfl, fun _ => rfl, ?_⟩
  refine goT ?_
  refine .inl ⟨_, hw, by kernel_rfl, ⟨⟨True.intro, True.intro, ⟨True.intro, True.intro⟩, ⟨True.intro, True.intro, True.intro⟩, True.intro⟩, True.intro⟩, ?_⟩
  refine goT ?_
  rfl
end Go.Proofs.YtdhikkdkjmeiiaaGreatDoor.Abs
