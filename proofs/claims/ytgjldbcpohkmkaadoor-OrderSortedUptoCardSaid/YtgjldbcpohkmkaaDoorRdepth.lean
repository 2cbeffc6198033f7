/- order.Depth and slices.Clone, walked; strings.Count of slashes. -/
import Derived.Test.YtgjldbcpohkmkaaDoorRinsw
namespace Go.Proofs.YtgjldbcpohkmkaaDoor.Abs
open Go.RowKit Go.MapKept
set_option linter.unusedVariables false
set_option linter.unusedSimpArgs false
set_option maxRecDepth 100000
set_option maxHeartbeats 4000000
theorem count_ac (s : ByteArray) (h : s.size ≤ 1000000000) : AC CX 14 [.v (.string s), .v (.string ⟨#[47]⟩)] (.v (.int .i64 (Lib.countB s ⟨#[47]⟩))) :=
  AC_of_calls (u := .int .i64 (Lib.countB s ⟨#[47]⟩)) (fun _ _ _ => rfl) fun w vs ok hgd hG hr => by
    obtain ⟨v, _, rfl, hv, v2, _, rfl, hv2, rfl⟩ := hr
    obtain rfl : v = .string s := hv
    obtain rfl : v2 = .string ⟨#[47]⟩ := hv2
    obtain ⟨m, hm⟩ := hG
    refine (Tryd.strings_Count_any s ⟨#[47]⟩ m w (by omega) hm (by decide)).mono fun e w' ⟨he, hw⟩ => ⟨he, hw ▸ Below.refl _ _⟩
theorem parts_len (s : ByteArray) : (partsS s).length = Lib.countB s ⟨#[47]⟩ + 1 := by
  have e1 : Lib.splitB (⟨#[47]⟩ : ByteArray) 0 (Lib.countB s ⟨#[47]⟩) s = partsS s := by
    unfold partsS
    rw [← splitB_cut, List.map_map]
    exact ((List.map_congr_left (g := id) (fun x _ => mkS_self x)).trans (List.map_id _)).symm
  rw [← e1]
  exact Lib.splitB_all ⟨#[47]⟩ (by decide) 0 _ s rfl
def deepN (x : NodeT) : Int := 1 + (Lib.countB x.path ⟨#[47]⟩ : Nat)
def maxI (m n : Int) : Int := if n > m then n else m
def deepL (l : List NodeT) : Int := l.foldl (fun m x => maxI m (deepN x)) 0
theorem deep_step {l : List NodeT} {k : Nat} {x : NodeT} (h : l[k]? = some x) : deepL (l.take (k + 1)) = maxI (deepL (l.take k)) (deepN x) := by
  unfold deepL
  rw [take_snoc h, List.foldl_append]
  rfl
theorem deep_le {l : List NodeT} (h : ∀ x ∈ l, deepN x ≤ 1000) : 0 ≤ deepL l ∧ deepL l ≤ 1000 := by
  have key : ∀ (l : List NodeT) (m : Int), (∀ x ∈ l, deepN x ≤ 1000) → 0 ≤ m → m ≤ 1000 → 0 ≤ l.foldl (fun m x => maxI m (deepN x)) m ∧ l.foldl (fun m x => maxI m (deepN x)) m ≤ 1000 := by
    intro l
    induction l with
    | nil => intro m _ h1 h2; exact ⟨h1, h2⟩
    | cons x l ih =>
      intro m hx h1 h2
      have := hx x (List.mem_cons_self ..)
      exact ih (maxI m (deepN x)) (fun y hy => hx y (List.mem_cons_of_mem _ hy)) (by unfold maxI; split <;> omega) (by unfold maxI; split <;> omega)
  exact key l 0 h (by omega) (by omega)
theorem clone_acb (xs : List NodeT) (hl : xs.length ≤ 1000000) : ACB CX 11 [.row 12 (xs.map encNode)] [] (.own 0 12 0 xs.length) [.row 40 12 (xs.map encNode)] := by
  refine ACB_walk ⟨TB, 8, 0, [], [5]⟩ (fn := Tryd.f11) TB_ok Tryd.func11 rfl rfl rfl rfl (fun i h => by cases h) rfl ?_; intro E hX
  refine goT ?_
  refine fun b hb => ?_
  refine goT ?_
  cases b
  · refine goT ?_
    refine ⟨xs.length, xs.map encNode, by rw [List.length_map]; omega, rfl, ?_⟩
    refine goT ?_
    exact ⟨[], rfl⟩
  · have hx : xs = [] := by
      by_cases e : xs = []
      · exact e
      · exact absurd (hb (fun h => e (List.map_eq_nil_iff.1 h))) (by decide)
    subst hx
    repeat (first | ((with_reducible show W _ _ _ _ _ _); first | refine W_seq ?_ | refine W_block ?_ | refine W_region hX ?_ | refine W_cond ?_ | refine W_skip ?_ | refine W_exit ?_) | ((fail_if_success (with_reducible show W _ _ _ _ _ _)); show W _ _ _ _ _ _) | refine andA ?_ | refine condT ?_ | refine condF ?_ | refine exB ?_ | refine exL ?_ | refine Exists.intro _ (And.intro rfl ?_) | refine Exists.intro _ (And.intro (get_mapN (by assumption)) ?_) | ((fail_if_success (with_reducible show LoopEnd _ _ _ _ _ _ _)); show LoopEnd _ _ _ _ _ _ _) | ((fail_if_success (with_reducible show JoinEnd _ _ _ _ _)); show JoinEnd _ _ _ _ _) | ((fail_if_success (with_reducible show JoinG _ _ _ _ _)); show JoinG _ _ _ _ _))
    refine W_nilOwn hX 2 40 12 rfl rfl ?_
    refine goT ?_
    exact ⟨[], rfl⟩
theorem depth_ac {a : List NodeT} (hT : TreeOk a) (ha : a.length ≤ 40) : AC CX 13 [.row 12 (a.map encNode)] (.tup [.v (.int .i64 (deepL a)), .v (.int .i64 0)]) := by
  have hck := check_ac a hT.node (by omega)
  rw [check_tree hT ha] at hck
  refine AC_walk ⟨TB, 27, 0, [], []⟩ (fn := Tryd.f13) TB_ok Tryd.func13 rfl rfl rfl rfl rfl (fun _ => rfl) (fun _ => rfl) ?_; intro E hna hX
  refine goT ?_
  refine ⟨_, hck, by kernel_rfl, fun _ => rfl, ?_⟩
  refine goT ?_
  refine W_loop (fun k : Nat => k ≤ a.length) (fun k => a.length - k) (fun k => ⟨[(5, .v (.int .i64 (deepL (a.take k)))), (13, .row 12 (a.map encNode)), (14, .v (.int .i64 a.length)), (15, .v (.int .i64 k))], []⟩) 0 (Nat.zero_le _) (Drops.to [5, 13, 14, 15] rfl) ?_
  intro k hk
  refine goT ?_
  refine condB_intro (fun h1 => ?_) (fun h1 => ?_)
  · have e1 : (k : Int) < (a.length : Int) := of_decide_eq_true h1
    obtain ⟨x, hx⟩ := get_lt (l := a) (k := k) (by omega)
    have hpx := (hT.node x (List.mem_of_getElem? hx)).path
    have hps := pathChk_size hpx
    have hst := deep_step hx
    have hpl : ((pathParts x.path).length : Int) = deepN x := by
      unfold pathParts deepN
      rw [if_neg (path_ne hpx), parts_len]
      omega
    refine goT ?_
    refine ⟨_, parts_ac x.path (by omega), by kernel_rfl, fun _ => rfl, ?_⟩
    refine goT ?_
    rw [hpl]
    exact LoopEnd_fin (k + 1) [5, 13, 14, 15] 0 hX (by omega) (by omega) rfl (by rw [hst]; rfl) rfl rfl trivial
  · have e1 : ¬ (k : Int) < (a.length : Int) := of_decide_eq_false h1
    obtain rfl : k = a.length := by omega
    rw [List.take_length]
    refine goT ?_
    rfl
end Go.Proofs.YtgjldbcpohkmkaaDoor.Abs
