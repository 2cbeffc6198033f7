/- creelkeep.Rules, walked. -/
import Derived.Test.YtdhikkdkjmeiiaaGreatDoorRfrun
import Derived.Test.YtdhikkdkjmeiiaaGreatDoorDr11
import Derived.Test.YtdhikkdkjmeiiaaGreatDoorDr9
namespace Go.Proofs.YtdhikkdkjmeiiaaGreatDoor.Abs
open Go.RowKit Go.MapKept
set_option linter.unusedVariables false
set_option linter.unusedSimpArgs false
set_option maxRecDepth 100000
set_option maxHeartbeats 4000000
def pats : List ByteArray := [⟨#[97]⟩, ⟨#[42, 42]⟩, ⟨#[42]⟩, ⟨#[97, 47, 42, 42]⟩, ⟨#[42, 42, 47, 98]⟩, ⟨#[63]⟩, ⟨#[91, 97, 45, 98, 93]⟩, ⟨#[91, 33, 97, 93, 42]⟩, ⟨#[42, 42, 47, 42, 46, 116, 120, 116]⟩, ⟨#[120, 42]⟩, ⟨#[97, 98, 47, 42]⟩, ⟨#[42, 42, 47, 110, 42]⟩]
theorem pats_ok : (pats.all okG) = true := by kernel_rfl
def patF (b : Int) : ByteArray := pats.getD (pickF b 12).toNat ⟨#[97]⟩
theorem pat_at (b : Int) : pats[(pickF b 12).toNat]? = some (patF b) ∧ okG (patF b) = true := by
  have hp := pick_lt (n := b) (m := 12) (by decide)
  have hl : pats.length = 12 := rfl
  have h1 : pats[(pickF b 12).toNat]? = some (patF b) := by
    unfold patF
    rw [List.getD_eq_getElem?_getD, List.getElem?_eq_getElem (by omega)]
    rfl
  exact ⟨h1, List.all_eq_true.1 pats_ok _ (List.mem_of_getElem? h1)⟩
def ruleOf (r : RawT) : RuleT := (decide (pickF r.a 2 = 0), patF r.b)
/-- The rules of raw numbers: of the first `most`. -/
def rulesL (l : List RawT) (most : Nat) : List RuleT := (l.take most).map ruleOf
theorem rules_ok (l : List RawT) (most : Nat) : (rulesL l most).length ≤ most ∧ ∀ r ∈ rulesL l most, okG r.2 = true := by
  constructor
  · unfold rulesL
    rw [List.length_map, List.length_take]; omega
  · intro r hr
    unfold rulesL at hr
    obtain ⟨x, _, rfl⟩ := List.mem_map.1 hr
    exact (pat_at x.b).2
theorem rules_step {l : List RawT} {k most : Nat} {x : RawT} (hx : l[k]? = some x) : rulesL (l.take (k + 1)) most = if k < most then rulesL (l.take k) most ++ [ruleOf x] else rulesL (l.take k) most := by
  unfold rulesL
  rw [List.take_take, List.take_take]
  by_cases h : k < most
  · rw [if_pos h, show min most (k + 1) = k + 1 by omega, show min most k = k by omega, take_snoc hx, List.map_append]
    rfl
  · rw [if_neg h, show min most (k + 1) = most by omega, show min most k = most by omega]
theorem rules_acb (l : List RawT) (most : Nat) (hl : l.length ≤ 100000000) (hg : ∀ r ∈ l, RawGood r) (hm : most ≤ 12) : ACB CX 11 [.row 4 (l.map encRaw), .v (.int .i64 most)] [] (.own 0 2 0 (rulesL l most).length) [.row 31 2 ((rulesL l most).map encRule)] := by
  have h00 : rulesL (l.take 0) most = [] := by unfold rulesL; rw [List.take_zero, List.take_nil]; rfl
  have hlen : ∀ k, (rulesL (l.take k) most).length ≤ 12 := fun k => Nat.le_trans (rules_ok _ _).1 hm
  refine ACB_walk ⟨TB, 38, 0, [], []⟩ (fn := Tryz.f11) TB_ok Tryz.func11 rfl rfl rfl rfl (fun i h => by cases h) rfl ?_; intro E hX
  repeat (first | ((with_reducible show W _ _ _ _ _ _); first | refine W_seq ?_ | refine W_region hX ?_ | refine W_cond ?_ | refine W_skip ?_ | refine W_exit ?_ | refine W_ret ?_) | ((fail_if_success (with_reducible show W _ _ _ _ _ _)); show W _ _ _ _ _ _) | refine andA ?_ | refine condT ?_ | refine condF ?_ | refine exB ?_ | refine exL ?_ | refine Exists.intro _ (And.intro rfl ?_) | refine Exists.intro _ (And.intro (get_mapN (by assumption)) ?_) | ((fail_if_success (with_reducible show LoopEnd _ _ _ _ _ _ _)); show LoopEnd _ _ _ _ _ _ _) | ((fail_if_success (with_reducible show JoinEnd _ _ _ _ _)); show JoinEnd _ _ _ _ _) | ((fail_if_success (with_reducible show JoinG _ _ _ _ _)); show JoinG _ _ _ _ _))
  refine W_nilOwn hX 5 31 2 rfl rfl ?_
  refine goT ?_
  refine W_loop (fun k : Nat => k ≤ l.length) (fun k => l.length - k) (fun k => ⟨[(1, .v (.int .i64 most)), (5, .own 0 2 0 (rulesL (l.take k) most).length), (6, .row 1 (pats.map encS)), (10, .row 4 (l.map encRaw)), (11, .v (.int .i64 l.length)), (12, .v (.int .i64 k))], [.row 31 2 ((rulesL (l.take k) most).map encRule)]⟩) 0 (Nat.zero_le _) (Drops.to [1, 5, 6, 10, 11, 12] (by rw [h00]; rfl)) ?_
  intro k hk
  refine goT ?_
  refine condB_intro (fun h1 => ?_) (fun h1 => ?_)
  · have e1 : (k : Int) < (l.length : Int) := of_decide_eq_true h1
    obtain ⟨x, hx⟩ := get_lt (l := l) (k := k) (by omega)
    have hxg := hg x (List.mem_of_getElem? hx)
    have hst := rules_step (most := most) hx
    have hlk := hlen k
    have hp := pick_lt (n := x.b) (m := 12) (by decide)
    have hpa := (pat_at x.b).1
    have hpk1 := picked_ac x.a 2 hxg.a (by decide)
    have hpk2 := picked_ac x.b 12 hxg.b (by decide)
    obtain ⟨out2, ho2⟩ : ∃ o, o = rulesL (l.take (k + 1)) most := ⟨_, rfl⟩
    rw [← ho2] at hst
    generalize rulesL (l.take k) most = out at hst hlk
    refine goT ?_
    refine condB_intro (fun h2 => ?_) (fun h2 => ?_)
    · have e2 : (k : Int) < (most : Int) := of_decide_eq_true h2
      rw [if_pos (by omega)] at hst
      refine goT ?_
      refine W_drawL hX (m := 15) (f := 16) (follows_mixed Tryz.checked) (ws := [[], [], [(1, 21)], [(2, 22)], [(3, 23)], [], [], [(6, 26)], [], [(8, 28)], [(3, 23), (7, 27), (9, 29)], [(5, 25), (10, 30)], [(11, 31)], [(4, 24), (12, 32)], [(13, 33)]]) (ds := [20, 21, 22, 23, 24, 25, 26, 27, 28, 29, 30, 31, 32, 33, 34]) (wa := [(0, 20), (1, 21), (2, 22), (3, 23), (4, 24), (5, 25), (6, 26), (7, 27), (8, 28), (9, 29), (10, 30), (11, 31), (12, 32), (13, 33), (14, 34)]) ⟨by kernel_rfl, by kernel_rfl, by kernel_rfl, by kernel_rfl, by decide, by kernel_rfl, by kernel_rfl, by kernel_rfl, by kernel_rfl⟩ ?_
      refine goT ?_
      refine ⟨_, hpk1, by kernel_rfl, fun _ => rfl, ?_⟩
      refine goT ?_
      refine ⟨_, hpk2, by kernel_rfl, fun _ => rfl, ?_⟩
      refine goT ?_
      refine ⟨(pickF x.b 12).toNat, by omega, encS (patF x.b), get_mapN hpa, ?_⟩
      refine goT ?_
      refine ⟨(out ++ [ruleOf x]).length, (out ++ [ruleOf x]).map encRule, by rw [List.length_append]; rfl, by rw [List.map_append]; rfl, ?_⟩
      refine goT ?_
      exact LoopEnd_fin (k + 1) [1, 5, 6, 10, 11, 12] 1 hX (by omega) (by omega) rfl (by rw [← ho2, hst]; rfl) rfl rfl ⟨cRule _, trivial⟩
    · have e2 : ¬ (k : Int) < (most : Int) := of_decide_eq_false h2
      rw [if_neg (by omega)] at hst
      refine goT ?_
      exact LoopEnd_fin (k + 1) [1, 5, 6, 10, 11, 12] 1 hX (by omega) (by omega) rfl (by rw [← ho2, hst]; rfl) rfl rfl ⟨cRule _, trivial⟩
  · have e1 : ¬ (k : Int) < (l.length : Int) := of_decide_eq_false h1
    obtain rfl : k = l.length := by omega
    rw [List.take_length]
    refine goT ?_
    exact ⟨_, rfl⟩
theorem rules_ac (l : List RawT) (most : Nat) (hl : l.length ≤ 100000000) (hg : ∀ r ∈ l, RawGood r) (hm : most ≤ 12) : AC CX 11 [.row 4 (l.map encRaw), .v (.int .i64 most)] (.row 2 ((rulesL l most).map encRule)) :=
  AC_of_ACB (rules_acb l most hl hg hm) rfl (List.length_map _) (fun i => ClosedE_map (fun _ _ => rfl) _ i)
end Go.Proofs.YtdhikkdkjmeiiaaGreatDoor.Abs
