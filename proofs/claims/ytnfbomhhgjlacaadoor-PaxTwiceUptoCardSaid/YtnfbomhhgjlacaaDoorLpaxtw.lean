/- The law PaxTwice. -/
import Derived.Test.YtnfbomhhgjlacaaDoorRpax
import Derived.Test.YtnfbomhhgjlacaaDoorDr12
namespace Go.Proofs.YtnfbomhhgjlacaaDoor.Abs
open Go.RowKit Go.MapKept
set_option linter.unusedVariables false
set_option linter.unusedSimpArgs false
set_option maxRecDepth 100000
set_option maxHeartbeats 4000000
theorem cRaw (l : List RawT) : ClosedE (l.map encRaw) := ClosedE_map (fun _ _ => rfl) l
theorem recordsOf_ac (c : UInt8) (l : List RawT) (hl : l.length ≤ 100000000) (hg : ∀ r ∈ l, RawGood r) : AC CX 29 [.row 4 (l.map encRaw), .v (.string ⟨#[c]⟩)] (.row 2 ((recsL c l).map encRec)) :=
  AC_of_ACB (recordsOf_acb c l hl hg) rfl (List.length_map _) (fun i => cR _ i)
theorem cloneRaw_acb (xs : List RawT) (hl : xs.length ≤ 100000000) : ACB CX 30 [.row 4 (xs.map encRaw)] [] (.own 0 4 0 xs.length) [.row 23 4 (xs.map encRaw)] := by
  refine ACB_walk ⟨TB, 8, 0, [], [5]⟩ (fn := Tryd.f30) TB_ok Tryd.func30 rfl rfl rfl rfl (fun i h => by cases h) rfl ?_; intro E hX
  refine goT ?_
  refine fun b hb => ?_
  refine goT ?_
  cases b
  · refine goT ?_
    refine ⟨xs.length, xs.map encRaw, by rw [List.length_map]; omega, rfl, ?_⟩
    refine goT ?_
    exact ⟨[], rfl⟩
  · have hx : xs = [] := by
      by_cases e : xs = []
      · exact e
      · exact absurd (hb (fun h => e (List.map_eq_nil_iff.1 h))) (by decide)
    subst hx
    repeat (first | ((with_reducible show W _ _ _ _ _ _); first | refine W_seq ?_ | refine W_block ?_ | refine W_region hX ?_ | refine W_cond ?_ | refine W_skip ?_ | refine W_exit ?_) | ((fail_if_success (with_reducible show W _ _ _ _ _ _)); show W _ _ _ _ _ _) | refine andA ?_ | refine condT ?_ | refine condF ?_ | refine exB ?_ | refine exL ?_ | refine Exists.intro _ (And.intro rfl ?_) | refine Exists.intro _ (And.intro (get_mapN (by assumption)) ?_) | ((fail_if_success (with_reducible show LoopEnd _ _ _ _ _ _ _)); show LoopEnd _ _ _ _ _ _ _) | ((fail_if_success (with_reducible show JoinEnd _ _ _ _ _)); show JoinEnd _ _ _ _ _) | ((fail_if_success (with_reducible show JoinG _ _ _ _ _)); show JoinG _ _ _ _ _))
    refine W_nilOwn hX 2 23 4 rfl rfl ?_
    refine goT ?_
    exact ⟨[], rfl⟩
def raw0 : RawT := ⟨0, 0, 0, ⟨#[]⟩⟩
theorem raw0_good : RawGood raw0 := ⟨by unfold raw0 isI; decide, by unfold raw0 isI; decide, by unfold raw0 isI; decide, by unfold raw0; decide⟩
theorem twice_says {c : UInt8} {l : List RawT} {k : Nat} {x : RecT} (hx : (recsL c l)[k]? = some x) : ChkSays (recsL c l ++ [x]) 6 := by
  have hk := (List.getElem?_eq_some_iff.1 hx).1
  have hlen := recs_len c l
  obtain ⟨q, hq⟩ : ∃ q, (recsL c l).length = q + 1 := ⟨(recsL c l).length - 1, by omega⟩
  obtain ⟨a, ha⟩ := get_lt (l := recsL c l) (k := q) (by omega)
  obtain ⟨hq6, xa, _, ra⟩ := recs_get ha
  obtain ⟨hk6, xk, _, rx⟩ := recs_get hx
  refine .inr ⟨rfl, q, a, x, fun i a b hi h1 h2 => ?_, by rw [List.getElem?_append_left (by omega)]; exact ha, by rw [List.getElem?_append_right (by omega), hq, Nat.sub_self]; rfl, ?_⟩
  · rw [List.getElem?_append_left (by omega)] at h1 h2
    exact recs_up c l (i + 2) i a b (by omega) h1 h2
  · subst ra; subst rx
    show ltS (keyOf c q) (keyOf c k) = false
    rcases Nat.lt_or_ge k q with h | h
    · have h1 := key_lt c h (by omega)
      cases h2 : ltS (keyOf c q) (keyOf c k) with
      | false => rfl
      | true =>
        have := ltS_tr h1 h2
        rw [ltS_irr] at this
        cases this
    · obtain rfl : k = q := by omega
      exact ltS_irr _
theorem paxTwiceLaw_ac (l : List RawT) (hl : l.length ≤ 10000000) (hg : ∀ r ∈ l, RawGood r) (i : Int) (hi : isI i) : AC CX 9 [.row 4 (l.map encRaw), .v (.int .i64 i)] (.v (.bool true)) := by
  have hcl := cloneRaw_acb l (by omega)
  have hrs := recordsOf_ac 97 (l ++ [raw0]) (by rw [List.length_append]; simp; omega) (fun r hr => by
    rcases List.mem_append.1 hr with h | h
    · exact hg r h
    · rw [List.mem_singleton] at h; subst h; exact raw0_good)
  have hlen := recs_len 97 (l ++ [raw0])
  rw [List.length_append, List.length_singleton] at hlen
  obtain ⟨n, hn⟩ : ∃ n, n = (recsL 97 (l ++ [raw0])).length := ⟨_, rfl⟩
  have hp := pick_lt (n := i) (m := n) (by omega)
  have hpk := picked_ac i n hi (by omega)
  obtain ⟨k, hk⟩ : ∃ k : Nat, pickF i n = (k : Int) := ⟨(pickF i n).toNat, by omega⟩
  rw [hk] at hpk
  obtain ⟨x, hx⟩ := get_lt (l := recsL 97 (l ++ [raw0])) (k := k) (by omega)
  have hok := recs_ok 97 (.inl rfl) (l ++ [raw0])
  have hxo := hok x (List.mem_of_getElem? hx)
  have hwr := paxWrite_ac (recsL 97 (l ++ [raw0])) (by omega) hok (recs_up 97 _ _)
  have hw1 := recWrite_ac x hxo
  have hrd := paxRead_ac (recsL 97 (l ++ [raw0]) ++ [x]) 6 (by rw [List.length_append]; simp; omega) (fun r hr => by
    rcases List.mem_append.1 hr with h | h
    · exact hok r h
    · rw [List.mem_singleton] at h; subst h; exact hxo) (twice_says hx)
  have hca : catB (recsL 97 (l ++ [raw0]) ++ [x]) = catB (recsL 97 (l ++ [raw0])) ++ recB x := by
    rw [catB_app, catB_cons]
    apply bytes_ext
    simp only [app_list]
    unfold catB
    simp
  rw [hca, if_neg (by decide)] at hrd
  have hfi := paxFind_ac (recsL 97 (l ++ [raw0])) k x (by omega) hx (fun j y hj hy e => by
    obtain ⟨hj6, xj, _, rfl⟩ := recs_get hy
    obtain ⟨hk6, xk, _, rfl⟩ := recs_get hx
    have e : keyOf 97 j = keyOf 97 k := e
    have := key_lt 97 hj (by omega)
    rw [e, ltS_irr] at this
    cases this)
  have hsz := catB_size (recsL 97 (l ++ [raw0])) hok
  have hxz := recB_size hxo
  generalize recsL 97 (l ++ [raw0]) = xs at *
  subst hn
  refine AC_walk ⟨TB, 77, 0, [], []⟩ (fn := Tryd.f9) TB_ok Tryd.func9 rfl rfl rfl rfl rfl (fun _ => rfl) (fun _ => rfl) ?_; intro E hna hX
  repeat (first | ((with_reducible show W _ _ _ _ _ _); first | refine W_seq ?_ | refine W_block ?_ | refine W_regionB hX 1 rfl ?_ | refine W_cond ?_ | refine W_skip ?_ | refine W_exit ?_ | refine W_ret ?_) | ((fail_if_success (with_reducible show W _ _ _ _ _ _)); show W _ _ _ _ _ _) | refine andA ?_ | refine condT ?_ | refine condF ?_ | refine exB ?_ | refine exL ?_ | refine Exists.intro _ (And.intro rfl ?_) | refine Exists.intro _ (And.intro (get_mapN (by assumption)) ?_) | ((fail_if_success (with_reducible show LoopEnd _ _ _ _ _ _ _)); show LoopEnd _ _ _ _ _ _ _) | ((fail_if_success (with_reducible show JoinEnd _ _ _ _ _)); show JoinEnd _ _ _ _ _) | ((fail_if_success (with_reducible show JoinG _ _ _ _ _)); show JoinG _ _ _ _ _))
  refine W_regionM hX hna [.n, .lay, .n, .n, .n, .frz 0 [19]] ?_
  refine goT ?_
  refine ⟨[], _, _, _, _, ⟨hcl, by kernel_rfl, rfl, rfl, rfl, by decide, rfl, Nat.zero_le _, rfl, balln, ballc (cRaw _) balln, rfl, fun j hj => (by cases hj), fun j hj => (by cases hj)⟩, ?_⟩
  refine goT ?_
  refine ⟨l.length + 1, (l ++ [raw0]).map encRaw, rfl, by rw [List.map_append]; rfl, ?_⟩
  refine goT ?_
  refine ⟨⟨_, ⟨fun t ht => by simp at ht; subst ht; rfl, by rw [List.length_map, List.length_append]; rfl, cRaw _, True.intro, rfl⟩⟩, ?_⟩
  refine goT ?_
  refine ⟨_, hrs, by kernel_rfl, fun _ => rfl, ?_⟩
  refine goT ?_
  refine ⟨_, hpk, by kernel_rfl, fun _ => rfl, ?_⟩
  refine goT ?_
  refine ⟨_, hwr, by kernel_rfl, fun _ => rfl, ?_⟩
  refine goT ?_
  refine ⟨_, hw1, by kernel_rfl, fun _ => rfl, ?_⟩
  refine goT ?_
  refine ⟨_, hrd, by kernel_rfl, fun _ => rfl, ?_⟩
  refine goT ?_
  refine ⟨_, hfi, by kernel_rfl, fun _ => rfl, ?_⟩
  refine goT ?_
  rw [decide_eq_true (rfl : x.val = x.val)]
  rfl
end Go.Proofs.YtnfbomhhgjlacaaDoor.Abs
