/- The law of trees that rules were run over: who is taken, and all that it is in. -/
import Derived.Test.YtaogbdfmoeolnaaDoorRrules
import Derived.Test.YtaogbdfmoeolnaaDoorRchk
namespace Go.Proofs.YtaogbdfmoeolnaaDoor.Abs
open Go.RowKit Go.MapKept
set_option linter.unusedVariables false
set_option linter.unusedSimpArgs false
set_option maxRecDepth 100000
set_option maxHeartbeats 4000000
theorem takes_a : takesF [(false, ⟨#[97]⟩)] ⟨#[97]⟩ = false := by kernel_rfl
theorem okG_a : okG ⟨#[97]⟩ = true := by kernel_rfl
theorem chk_a : pathChk ⟨#[97]⟩ = 0 := by kernel_rfl
theorem want_nil (tk : ByteArray → Bool) (f : Nat) : wantF tk f ⟨#[]⟩ = true := by cases f <;> simp [wantF]
theorem feachLaw_ac (l : List RawT) (hl : l.length ≤ 100000000) (hg : ∀ r ∈ l, RawGood r) (m : List RawT) (hm : m.length ≤ 100000000) (hgm : ∀ r ∈ m, RawGood r) : AC CX 5 [.row 4 (l.map encRaw), .row 4 (m.map encRaw)] (.v (.bool true)) := by
  obtain ⟨hT, hn⟩ := tree_ok (most := 20) hg (by decide)
  have hta := tree_ac l 20 hl hg
  generalize treeF l 20 = a at hT hn hta
  have hru := rules_ac m 5 hm hgm (by decide)
  obtain ⟨hrl, hra⟩ := rules_ok m 5
  generalize rulesL m 5 = rs at hru hrl hra
  have hrun := frun_ac a rs hT (by omega) (by omega) hra
  have htk : ∀ s, pathChk s = 0 → AC CX 18 [.row 2 (rs.map encRule), .v (.string s)] (.tup [.v (.bool (takesF rs s)), .v (.int .i64 0)]) := fun s hs => takesT_ac rs s (by omega) hra hs
  have hone := takesT_ac [(false, ⟨#[97]⟩)] ⟨#[97]⟩ (by decide) (fun r hr => by rw [List.mem_singleton] at hr; subst hr; exact okG_a) chk_a
  rw [takes_a] at hone
  have hwm := fun f n hn hs => want_mem hT (takesF rs) f n hn hs
  have hsub := runL_sub (takesF rs) a
  have hnod := tree_nodup hT
  generalize takesF rs = tk at hrun htk hwm hsub
  have hol := hsub.length_le
  generalize runL tk a = out at hrun hwm hsub hol
  refine AC_walk ⟨TB, 80, 0, [], []⟩ (fn := Tryd.f5) TB_ok Tryd.func5 rfl rfl rfl rfl rfl (fun _ => rfl) (fun _ => rfl) ?_; intro E hna hX
  repeat (first | ((with_reducible show W _ _ _ _ _ _); first | refine W_seq ?_ | refine W_block ?_ | refine W_region hX ?_ | refine W_cond ?_ | refine W_skip ?_ | refine W_exit ?_ | refine W_ret ?_) | ((fail_if_success (with_reducible show W _ _ _ _ _ _)); show W _ _ _ _ _ _) | refine andA ?_ | refine condT ?_ | refine condF ?_ | refine exB ?_ | refine exL ?_ | refine Exists.intro _ (And.intro rfl ?_) | refine Exists.intro _ (And.intro (get_mapN (by assumption)) ?_) | ((fail_if_success (with_reducible show LoopEnd _ _ _ _ _ _ _)); show LoopEnd _ _ _ _ _ _ _) | ((fail_if_success (with_reducible show JoinEnd _ _ _ _ _)); show JoinEnd _ _ _ _ _) | ((fail_if_success (with_reducible show JoinG _ _ _ _ _)); show JoinG _ _ _ _ _))
  refine ⟨_, hta, by kernel_rfl, fun _ => rfl, ?_⟩
  repeat (first | ((with_reducible show W _ _ _ _ _ _); first | refine W_seq ?_ | refine W_block ?_ | refine W_region hX ?_ | refine W_cond ?_ | refine W_skip ?_ | refine W_exit ?_ | refine W_ret ?_) | ((fail_if_success (with_reducible show W _ _ _ _ _ _)); show W _ _ _ _ _ _) | refine andA ?_ | refine condT ?_ | refine condF ?_ | refine exB ?_ | refine exL ?_ | refine Exists.intro _ (And.intro rfl ?_) | refine Exists.intro _ (And.intro (get_mapN (by assumption)) ?_) | ((fail_if_success (with_reducible show LoopEnd _ _ _ _ _ _ _)); show LoopEnd _ _ _ _ _ _ _) | ((fail_if_success (with_reducible show JoinEnd _ _ _ _ _)); show JoinEnd _ _ _ _ _) | ((fail_if_success (with_reducible show JoinG _ _ _ _ _)); show JoinG _ _ _ _ _))
  refine ⟨_, hru, by kernel_rfl, fun _ => rfl, ?_⟩
  repeat (first | ((with_reducible show W _ _ _ _ _ _); first | refine W_seq ?_ | refine W_block ?_ | refine W_region hX ?_ | refine W_cond ?_ | refine W_skip ?_ | refine W_exit ?_ | refine W_ret ?_) | ((fail_if_success (with_reducible show W _ _ _ _ _ _)); show W _ _ _ _ _ _) | refine andA ?_ | refine condT ?_ | refine condF ?_ | refine exB ?_ | refine exL ?_ | refine Exists.intro _ (And.intro rfl ?_) | refine Exists.intro _ (And.intro (get_mapN (by assumption)) ?_) | ((fail_if_success (with_reducible show LoopEnd _ _ _ _ _ _ _)); show LoopEnd _ _ _ _ _ _ _) | ((fail_if_success (with_reducible show JoinEnd _ _ _ _ _)); show JoinEnd _ _ _ _ _) | ((fail_if_success (with_reducible show JoinG _ _ _ _ _)); show JoinG _ _ _ _ _))
  refine ⟨_, hrun, by kernel_rfl, fun _ => rfl, ?_⟩
  repeat (first | ((with_reducible show W _ _ _ _ _ _); first | refine W_seq ?_ | refine W_block ?_ | refine W_region hX ?_ | refine W_cond ?_ | refine W_skip ?_ | refine W_exit ?_ | refine W_ret ?_) | ((fail_if_success (with_reducible show W _ _ _ _ _ _)); show W _ _ _ _ _ _) | refine andA ?_ | refine condT ?_ | refine condF ?_ | refine exB ?_ | refine exL ?_ | refine Exists.intro _ (And.intro rfl ?_) | refine Exists.intro _ (And.intro (get_mapN (by assumption)) ?_) | ((fail_if_success (with_reducible show LoopEnd _ _ _ _ _ _ _)); show LoopEnd _ _ _ _ _ _ _) | ((fail_if_success (with_reducible show JoinEnd _ _ _ _ _)); show JoinEnd _ _ _ _ _) | ((fail_if_success (with_reducible show JoinG _ _ _ _ _)); show JoinG _ _ _ _ _))
  refine ⟨_, hone, by kernel_rfl, fun _ => rfl, ?_⟩
  repeat (first | ((with_reducible show W _ _ _ _ _ _); first | refine W_seq ?_ | refine W_block ?_ | refine W_region hX ?_ | refine W_cond ?_ | refine W_skip ?_ | refine W_exit ?_ | refine W_ret ?_) | ((fail_if_success (with_reducible show W _ _ _ _ _ _)); show W _ _ _ _ _ _) | refine andA ?_ | refine condT ?_ | refine condF ?_ | refine exB ?_ | refine exL ?_ | refine Exists.intro _ (And.intro rfl ?_) | refine Exists.intro _ (And.intro (get_mapN (by assumption)) ?_) | ((fail_if_success (with_reducible show LoopEnd _ _ _ _ _ _ _)); show LoopEnd _ _ _ _ _ _ _) | ((fail_if_success (with_reducible show JoinEnd _ _ _ _ _)); show JoinEnd _ _ _ _ _) | ((fail_if_success (with_reducible show JoinG _ _ _ _ _)); show JoinG _ _ _ _ _))
  refine W_loop (fun k : Nat => k ≤ a.length) (fun k => a.length - k) (fun k => ⟨[(6, .row 2 (rs.map encRule)), (7, .row 12 (out.map encNode)), (44, .row 12 (a.map encNode)), (45, .v (.int .i64 a.length)), (46, .v (.int .i64 k))], []⟩) 0 (Nat.zero_le _) (Drops.to [6, 7, 44, 45, 46] rfl) ?_
  intro k hk
  repeat (first | ((with_reducible show W _ _ _ _ _ _); first | refine W_seq ?_ | refine W_block ?_ | refine W_region hX ?_ | refine W_cond ?_ | refine W_skip ?_ | refine W_exit ?_ | refine W_ret ?_) | ((fail_if_success (with_reducible show W _ _ _ _ _ _)); show W _ _ _ _ _ _) | refine andA ?_ | refine condT ?_ | refine condF ?_ | refine exB ?_ | refine exL ?_ | refine Exists.intro _ (And.intro rfl ?_) | refine Exists.intro _ (And.intro (get_mapN (by assumption)) ?_) | ((fail_if_success (with_reducible show LoopEnd _ _ _ _ _ _ _)); show LoopEnd _ _ _ _ _ _ _) | ((fail_if_success (with_reducible show JoinEnd _ _ _ _ _)); show JoinEnd _ _ _ _ _) | ((fail_if_success (with_reducible show JoinG _ _ _ _ _)); show JoinG _ _ _ _ _))
  refine condB_intro (fun h1 => ?_) (fun h1 => ?_)
  · have e1 : (k : Int) < (a.length : Int) := of_decide_eq_true h1
    obtain ⟨x, hx⟩ := get_lt (l := a) (k := k) (by omega)
    have hxa := List.mem_of_getElem? hx
    have hxp := (hT.node x hxa).path
    have hxs := pathChk_size hxp
    have hfi := find_ac out x.path (by omega)
    have hw := hwm 400 x hxa (by omega)
    have hb : decide ((if findN out x.path < 0 then (5 : Int) else 0) = 0) = wantF tk 400 x.path := by
      rw [Bool.eq_iff_iff, decide_eq_true_eq, hw]
      by_cases hf : findN out x.path < 0
      · rw [if_pos hf]
        constructor
        · intro h; cases h
        · intro h; exact absurd hf (find_mem.2 ⟨x, h, rfl⟩)
      · rw [if_neg hf]
        refine ⟨fun _ => ?_, fun _ => rfl⟩
        obtain ⟨y, hy, e⟩ := find_mem.1 hf
        have := nodup_inj hnod y x (hsub.subset hy) hxa e
        rw [← this]
        exact hy
    generalize (if findN out x.path < 0 then (5 : Int) else 0) = cd at hfi hb
    repeat (first | ((with_reducible show W _ _ _ _ _ _); first | refine W_seq ?_ | refine W_block ?_ | refine W_region hX ?_ | refine W_cond ?_ | refine W_skip ?_ | refine W_exit ?_ | refine W_ret ?_) | ((fail_if_success (with_reducible show W _ _ _ _ _ _)); show W _ _ _ _ _ _) | refine andA ?_ | refine condT ?_ | refine condF ?_ | refine exB ?_ | refine exL ?_ | refine Exists.intro _ (And.intro rfl ?_) | refine Exists.intro _ (And.intro (get_mapN (by assumption)) ?_) | ((fail_if_success (with_reducible show LoopEnd _ _ _ _ _ _ _)); show LoopEnd _ _ _ _ _ _ _) | ((fail_if_success (with_reducible show JoinEnd _ _ _ _ _)); show JoinEnd _ _ _ _ _) | ((fail_if_success (with_reducible show JoinG _ _ _ _ _)); show JoinG _ _ _ _ _))
    refine W_loop (γ := Nat × Bool × ByteArray) (fun g => (g.2.1 && wantF tk g.1 g.2.2) = wantF tk 400 x.path ∧ g.2.2.size ≤ g.1 ∧ (g.2.2 = ⟨#[]⟩ ∨ ∃ n ∈ a, n.path = g.2.2)) (fun g => g.1) (fun g => ⟨[(6, .row 2 (rs.map encRule)), (7, .row 12 (out.map encNode)), (12, .ptr 0 0), (13, .v (.bool g.2.1)), (14, .v (.string g.2.2)), (44, .row 12 (a.map encNode)), (45, .v (.int .i64 a.length)), (46, .v (.int .i64 k))], [.cells 29 (encNode x)]⟩) (400, true, x.path) ⟨Bool.true_and _, by show x.path.size ≤ 400; omega, .inr ⟨x, hxa, rfl⟩⟩ (Drops.to [6, 7, 12, 13, 14, 44, 45, 46] rfl) ?_
    rintro ⟨f, b, s⟩ ⟨hbw, hsf, hso⟩
    dsimp only at hbw hsf hso ⊢
    by_cases hs : s = ⟨#[]⟩
    · have hsd : decide (s = ⟨#[]⟩) = true := decide_eq_true hs
      rw [hs, want_nil, Bool.and_true] at hbw
      rw [← hbw] at hb
      have hcd : (!(decide (cd = 0) == b)) = false := by rw [hb]; simp
      repeat (first | ((with_reducible show W _ _ _ _ _ _); first | refine W_seq ?_ | refine W_block ?_ | refine W_region hX ?_ | refine W_cond ?_ | refine W_skip ?_ | refine W_exit ?_ | refine W_ret ?_) | ((fail_if_success (with_reducible show W _ _ _ _ _ _)); show W _ _ _ _ _ _) | refine andA ?_ | refine condT ?_ | refine condF ?_ | refine exB ?_ | refine exL ?_ | refine Exists.intro _ (And.intro rfl ?_) | refine Exists.intro _ (And.intro (get_mapN (by assumption)) ?_) | ((fail_if_success (with_reducible show LoopEnd _ _ _ _ _ _ _)); show LoopEnd _ _ _ _ _ _ _) | ((fail_if_success (with_reducible show JoinEnd _ _ _ _ _)); show JoinEnd _ _ _ _ _) | ((fail_if_success (with_reducible show JoinG _ _ _ _ _)); show JoinG _ _ _ _ _))
      refine ⟨_, hfi, by kernel_rfl, fun _ => rfl, ?_⟩
      repeat (first | ((with_reducible show W _ _ _ _ _ _); first | refine W_seq ?_ | refine W_block ?_ | refine W_region hX ?_ | refine W_cond ?_ | refine W_skip ?_ | refine W_exit ?_ | refine W_ret ?_) | ((fail_if_success (with_reducible show W _ _ _ _ _ _)); show W _ _ _ _ _ _) | refine andA ?_ | refine condT ?_ | refine condF ?_ | refine exB ?_ | refine exL ?_ | refine Exists.intro _ (And.intro rfl ?_) | refine Exists.intro _ (And.intro (get_mapN (by assumption)) ?_) | ((fail_if_success (with_reducible show LoopEnd _ _ _ _ _ _ _)); show LoopEnd _ _ _ _ _ _ _) | ((fail_if_success (with_reducible show JoinEnd _ _ _ _ _)); show JoinEnd _ _ _ _ _) | ((fail_if_success (with_reducible show JoinG _ _ _ _ _)); show JoinG _ _ _ _ _))
      exact LoopEnd_fin (k + 1) [6, 7, 44, 45, 46] 0 hX (by omega) (by omega) rfl rfl rfl rfl trivial
    · have hsd : decide (s = ⟨#[]⟩) = false := decide_eq_false hs
      obtain ⟨n, hna2, hnp⟩ := hso.resolve_left hs
      have hsp := (hT.node n hna2).path
      rw [hnp] at hsp
      have hsz := pathChk_size hsp
      have hts := htk s hsp
      have hup := up_ac s (by omega)
      have hp := size_pos hs
      obtain ⟨f, rfl⟩ : ∃ f', f = f' + 1 := ⟨f - 1, by omega⟩
      have hus : (upF s).size ≤ f := by
        by_cases hz : upF s = ⟨#[]⟩
        · rw [hz]; exact Nat.zero_le _
        · have := up_size hz; omega
      rw [wantF, if_neg hs, ← Bool.and_assoc] at hbw
      have hnext : upF s = ⟨#[]⟩ ∨ ∃ n ∈ a, n.path = upF s := by
        by_cases hz : upF s = ⟨#[]⟩
        · exact .inl hz
        · rw [← hnp] at hz ⊢
          obtain ⟨q, hq, h1, _⟩ := (hT.up n hna2).resolve_left hz
          exact .inr ⟨q, hq, h1⟩
      cases b
      · repeat (first | ((with_reducible show W _ _ _ _ _ _); first | refine W_seq ?_ | refine W_block ?_ | refine W_region hX ?_ | refine W_cond ?_ | refine W_skip ?_ | refine W_exit ?_ | refine W_ret ?_) | ((fail_if_success (with_reducible show W _ _ _ _ _ _)); show W _ _ _ _ _ _) | refine andA ?_ | refine condT ?_ | refine condF ?_ | refine exB ?_ | refine exL ?_ | refine Exists.intro _ (And.intro rfl ?_) | refine Exists.intro _ (And.intro (get_mapN (by assumption)) ?_) | ((fail_if_success (with_reducible show LoopEnd _ _ _ _ _ _ _)); show LoopEnd _ _ _ _ _ _ _) | ((fail_if_success (with_reducible show JoinEnd _ _ _ _ _)); show JoinEnd _ _ _ _ _) | ((fail_if_success (with_reducible show JoinG _ _ _ _ _)); show JoinG _ _ _ _ _))
        refine ⟨_, hts, by kernel_rfl, fun _ => rfl, ?_⟩
        repeat (first | ((with_reducible show W _ _ _ _ _ _); first | refine W_seq ?_ | refine W_block ?_ | refine W_region hX ?_ | refine W_cond ?_ | refine W_skip ?_ | refine W_exit ?_ | refine W_ret ?_) | ((fail_if_success (with_reducible show W _ _ _ _ _ _)); show W _ _ _ _ _ _) | refine andA ?_ | refine condT ?_ | refine condF ?_ | refine exB ?_ | refine exL ?_ | refine Exists.intro _ (And.intro rfl ?_) | refine Exists.intro _ (And.intro (get_mapN (by assumption)) ?_) | ((fail_if_success (with_reducible show LoopEnd _ _ _ _ _ _ _)); show LoopEnd _ _ _ _ _ _ _) | ((fail_if_success (with_reducible show JoinEnd _ _ _ _ _)); show JoinEnd _ _ _ _ _) | ((fail_if_success (with_reducible show JoinG _ _ _ _ _)); show JoinG _ _ _ _ _))
        refine ⟨_, hup, by kernel_rfl, fun _ => rfl, ?_⟩
        repeat (first | ((with_reducible show W _ _ _ _ _ _); first | refine W_seq ?_ | refine W_block ?_ | refine W_region hX ?_ | refine W_cond ?_ | refine W_skip ?_ | refine W_exit ?_ | refine W_ret ?_) | ((fail_if_success (with_reducible show W _ _ _ _ _ _)); show W _ _ _ _ _ _) | refine andA ?_ | refine condT ?_ | refine condF ?_ | refine exB ?_ | refine exL ?_ | refine Exists.intro _ (And.intro rfl ?_) | refine Exists.intro _ (And.intro (get_mapN (by assumption)) ?_) | ((fail_if_success (with_reducible show LoopEnd _ _ _ _ _ _ _)); show LoopEnd _ _ _ _ _ _ _) | ((fail_if_success (with_reducible show JoinEnd _ _ _ _ _)); show JoinEnd _ _ _ _ _) | ((fail_if_success (with_reducible show JoinG _ _ _ _ _)); show JoinG _ _ _ _ _))
        exact LoopEnd_fin (f, false, upF s) [6, 7, 12, 13, 14, 44, 45, 46] 1 hX ⟨hbw, hus, hnext⟩ (Nat.lt_succ_self _) rfl rfl rfl rfl ⟨rfl, trivial⟩
      · repeat (first | ((with_reducible show W _ _ _ _ _ _); first | refine W_seq ?_ | refine W_block ?_ | refine W_region hX ?_ | refine W_cond ?_ | refine W_skip ?_ | refine W_exit ?_ | refine W_ret ?_) | ((fail_if_success (with_reducible show W _ _ _ _ _ _)); show W _ _ _ _ _ _) | refine andA ?_ | refine condT ?_ | refine condF ?_ | refine exB ?_ | refine exL ?_ | refine Exists.intro _ (And.intro rfl ?_) | refine Exists.intro _ (And.intro (get_mapN (by assumption)) ?_) | ((fail_if_success (with_reducible show LoopEnd _ _ _ _ _ _ _)); show LoopEnd _ _ _ _ _ _ _) | ((fail_if_success (with_reducible show JoinEnd _ _ _ _ _)); show JoinEnd _ _ _ _ _) | ((fail_if_success (with_reducible show JoinG _ _ _ _ _)); show JoinG _ _ _ _ _))
        refine ⟨_, hts, by kernel_rfl, fun _ => rfl, ?_⟩
        repeat (first | ((with_reducible show W _ _ _ _ _ _); first | refine W_seq ?_ | refine W_block ?_ | refine W_region hX ?_ | refine W_cond ?_ | refine W_skip ?_ | refine W_exit ?_ | refine W_ret ?_) | ((fail_if_success (with_reducible show W _ _ _ _ _ _)); show W _ _ _ _ _ _) | refine andA ?_ | refine condT ?_ | refine condF ?_ | refine exB ?_ | refine exL ?_ | refine Exists.intro _ (And.intro rfl ?_) | refine Exists.intro _ (And.intro (get_mapN (by assumption)) ?_) | ((fail_if_success (with_reducible show LoopEnd _ _ _ _ _ _ _)); show LoopEnd _ _ _ _ _ _ _) | ((fail_if_success (with_reducible show JoinEnd _ _ _ _ _)); show JoinEnd _ _ _ _ _) | ((fail_if_success (with_reducible show JoinG _ _ _ _ _)); show JoinG _ _ _ _ _))
        refine ⟨_, hup, by kernel_rfl, fun _ => rfl, ?_⟩
        repeat (first | ((with_reducible show W _ _ _ _ _ _); first | refine W_seq ?_ | refine W_block ?_ | refine W_region hX ?_ | refine W_cond ?_ | refine W_skip ?_ | refine W_exit ?_ | refine W_ret ?_) | ((fail_if_success (with_reducible show W _ _ _ _ _ _)); show W _ _ _ _ _ _) | refine andA ?_ | refine condT ?_ | refine condF ?_ | refine exB ?_ | refine exL ?_ | refine Exists.intro _ (And.intro rfl ?_) | refine Exists.intro _ (And.intro (get_mapN (by assumption)) ?_) | ((fail_if_success (with_reducible show LoopEnd _ _ _ _ _ _ _)); show LoopEnd _ _ _ _ _ _ _) | ((fail_if_success (with_reducible show JoinEnd _ _ _ _ _)); show JoinEnd _ _ _ _ _) | ((fail_if_success (with_reducible show JoinG _ _ _ _ _)); show JoinG _ _ _ _ _))
        exact LoopEnd_fin (f, tk s, upF s) [6, 7, 12, 13, 14, 44, 45, 46] 1 hX ⟨hbw, hus, hnext⟩ (Nat.lt_succ_self _) rfl rfl rfl rfl ⟨rfl, trivial⟩
  · repeat (first | ((with_reducible show W _ _ _ _ _ _); first | refine W_seq ?_ | refine W_block ?_ | refine W_region hX ?_ | refine W_cond ?_ | refine W_skip ?_ | refine W_exit ?_ | refine W_ret ?_) | ((fail_if_success (with_reducible show W _ _ _ _ _ _)); show W _ _ _ _ _ _) | refine andA ?_ | refine condT ?_ | refine condF ?_ | refine exB ?_ | refine exL ?_ | refine Exists.intro _ (And.intro rfl ?_) | refine Exists.intro _ (And.intro (get_mapN (by assumption)) ?_) | ((fail_if_success (with_reducible show LoopEnd _ _ _ _ _ _ _)); show LoopEnd _ _ _ _ _ _ _) | ((fail_if_success (with_reducible show JoinEnd _ _ _ _ _)); show JoinEnd _ _ _ _ _) | ((fail_if_success (with_reducible show JoinG _ _ _ _ _)); show JoinG _ _ _ _ _))
    rfl
end Go.Proofs.YtaogbdfmoeolnaaDoor.Abs
