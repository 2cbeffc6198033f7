/- The law of link groups. -/
import Derived.Test.YtghnifboofhcdaaDoorRlink
import Derived.Test.YtghnifboofhcdaaDoorRpure
namespace Go.Proofs.YtghnifboofhcdaaDoor.Abs
open Go.RowKit Go.MapKept
set_option linter.unusedVariables false
set_option linter.unusedSimpArgs false
set_option maxRecDepth 100000
set_option maxHeartbeats 4000000
def fz (t : List NodeT) (i : Nat) : Int := (t[i]?.map (·.same)).getD 0
theorem fz_at {t : List NodeT} {i : Nat} {x : NodeT} (h : t[i]? = some x) : fz t i = x.same := by unfold fz; rw [h]; rfl
def IsFirst (t : List NodeT) (i q : Nat) : Prop := q ≤ i ∧ (q = i ∨ (fz t i ≠ 0 ∧ fz t q = fz t i)) ∧ (fz t i ≠ 0 → ∀ p, p < q → fz t p ≠ fz t i)
def MapOk (t : List NodeT) (k : Nat) (m : List (Int × Int)) : Prop := ∀ s, s ≠ 0 → (∀ j, m.lookup s = some j → ∃ q : Nat, j = (q : Int) ∧ q < k ∧ fz t q = s ∧ ∀ p, p < q → fz t p ≠ s) ∧ (m.lookup s = none → ∀ p, p < k → fz t p ≠ s)
theorem lookup_snoc {s a : Int} {j : Int} : ∀ m : List (Int × Int), (m ++ [(a, j)]).lookup s = match m.lookup s with
    | some x => some x
    | none => if s = a then some j else none
  | [] => by
    show (match s == a with | true => some j | false => none) = _
    by_cases h : s = a
    · rw [beq_iff_eq.2 h]; simp [h]
    · rw [beq_eq_false_iff_ne.2 h]; simp [h]
  | (b, x) :: m => by
    have ih := lookup_snoc (s := s) (a := a) (j := j) m
    rw [List.cons_append, List.lookup, List.lookup]
    cases s == b with
    | true => rfl
    | false => exact ih
theorem firsts_at {t : List NodeT} : ∀ (d k : Nat) (m : List (Int × Int)), k + d = t.length → MapOk t k m → (firstsL (t.drop k) k m).1.length = d ∧ ∀ i, i < d → ∃ q : Nat, (firstsL (t.drop k) k m).1[i]? = some (q : Int) ∧ IsFirst t (k + i) q
  | 0, k, m, hd, hm => by
    rw [List.drop_eq_nil_of_le (by omega)]
    exact ⟨rfl, fun i hi => by omega⟩
  | d + 1, k, m, hd, hm => by
    obtain ⟨x, hx⟩ : ∃ x, t[k]? = some x := ⟨t[k], List.getElem?_eq_getElem (by omega)⟩
    have hf : fz t k = x.same := fz_at hx
    have key : ∃ q : Nat, (meetR x.same (k : Int) m).1 = (q : Int) ∧ IsFirst t k q ∧ MapOk t (k + 1) (meetR x.same (k : Int) m).2 := by
      by_cases h0 : x.same = 0
      · rw [meet_zero h0]
        refine ⟨k, rfl, ⟨Nat.le_refl _, .inl rfl, fun h => absurd (hf.trans h0) h⟩, fun s hs => ⟨fun j hj => ?_, fun hn p hp => ?_⟩⟩
        · obtain ⟨q, a, b, c⟩ := (hm s hs).1 j hj
          exact ⟨q, a, by omega, c⟩
        · by_cases e : p = k
          · rw [e, hf, h0]; exact Ne.symm hs
          · exact (hm s hs).2 hn p (by omega)
      · cases hlk : m.lookup x.same with
        | some j =>
          rw [meet_some h0 hlk]
          obtain ⟨q, a, b, c, e⟩ := (hm _ h0).1 j hlk
          refine ⟨q, a, ⟨by omega, .inr ⟨by rw [hf]; exact h0, by rw [hf]; exact c⟩, fun _ => by rw [hf]; exact e⟩, fun s hs => ⟨fun j hj => ?_, fun hn p hp => ?_⟩⟩
          · obtain ⟨q, a, b, c⟩ := (hm s hs).1 j hj
            exact ⟨q, a, by omega, c⟩
          · by_cases e : p = k
            · rw [e, hf]
              rintro rfl
              rw [hlk] at hn; cases hn
            · exact (hm s hs).2 hn p (by omega)
        | none =>
          rw [meet_none h0 hlk]
          have hno := (hm _ h0).2 hlk
          refine ⟨k, rfl, ⟨Nat.le_refl _, .inl rfl, fun _ p hp => by rw [hf]; exact hno p hp⟩, fun s hs => ⟨fun j hj => ?_, fun hn p hp => ?_⟩⟩
          · rw [lookup_snoc] at hj
            cases hq : m.lookup s with
            | some y =>
              rw [hq] at hj
              obtain ⟨q, a, b, c⟩ := (hm s hs).1 j (hq.trans hj)
              exact ⟨q, a, by omega, c⟩
            | none =>
              rw [hq] at hj
              dsimp only at hj
              split at hj
              · rename_i e
                injection hj with hj
                exact ⟨k, hj.symm, by omega, by rw [hf, e], fun p hp => by rw [e]; exact hno p hp⟩
              · cases hj
          · rw [lookup_snoc] at hn
            cases hq : m.lookup s with
            | some y => rw [hq] at hn; cases hn
            | none =>
              rw [hq] at hn
              dsimp only at hn
              split at hn
              · cases hn
              · rename_i e
                by_cases ek : p = k
                · rw [ek, hf]; exact fun h => e h.symm
                · exact (hm s hs).2 hq p (by omega)
    obtain ⟨q, k1, k2, k3⟩ := key
    obtain ⟨l1, l2⟩ := firsts_at d (k + 1) _ (by omega) k3
    rw [drop_at hx, firstsL]
    refine ⟨by rw [List.length_cons, l1], fun i hi => ?_⟩
    cases i with
    | zero => exact ⟨q, by rw [List.getElem?_cons_zero, k1], k2⟩
    | succ i =>
      obtain ⟨q2, a, b⟩ := l2 i (by omega)
      exact ⟨q2, by rw [List.getElem?_cons_succ]; exact a, by rw [show k + (i + 1) = k + 1 + i by omega]; exact b⟩
theorem firsts_self {t : List NodeT} {i q p : Nat} (h : IsFirst t i q) (h2 : IsFirst t q p) : p = q := by
  obtain ⟨a, b, c⟩ := h
  obtain ⟨a2, b2, c2⟩ := h2
  rcases b with rfl | ⟨b1, b3⟩
  · rcases b2 with rfl | ⟨d1, d2⟩
    · rfl
    · rcases Nat.lt_or_ge p q with hlt | hge
      · exact absurd d2 (c d1 p hlt)
      · omega
  · rcases b2 with rfl | ⟨d1, d2⟩
    · rfl
    · rcases Nat.lt_or_ge p q with hlt | hge
      · exact absurd (d2.trans b3) (c b1 p hlt)
      · omega
theorem firsts_all (t : List NodeT) : (firstsL t 0 []).1.length = t.length ∧ ∀ i, i < t.length → ∃ q : Nat, (firstsL t 0 []).1[i]? = some (q : Int) ∧ IsFirst t i q := by
  obtain ⟨l1, l2⟩ := firsts_at (t := t) t.length 0 [] (by omega) (fun s hs => ⟨fun j hj => by (cases hj), fun _ p hp => by omega⟩)
  rw [List.drop_zero] at l1 l2
  exact ⟨l1, fun i hi => by have := l2 i hi; rwa [Nat.zero_add] at this⟩
theorem small_good : ∀ n ∈ smallT, NodeGood n := by
  have hm : MetaGood smallM := ⟨by decide, by decide, by decide, by decide, by decide, by decide, by decide, by decide⟩
  have h1 : NodeGood smallA := ⟨by kernel_rfl, hm, by decide, by decide, .inr (.inl ⟨rfl, rfl, rfl, rfl⟩)⟩
  have h2 : NodeGood smallB := ⟨by kernel_rfl, hm, by decide, by decide, .inl ⟨rfl, rfl, by decide⟩⟩
  have h3 : NodeGood smallC := ⟨by kernel_rfl, hm, by decide, by decide, .inr (.inr ⟨rfl, by decide, by decide, rfl, rfl⟩)⟩
  intro n hn
  have hn : n ∈ [smallA, smallB, smallC] := hn
  simp only [List.mem_cons, List.not_mem_nil, or_false] at hn
  rcases hn with rfl | rfl | rfl
  · exact h1
  · exact h2
  · exact h3
theorem groups_ac (l : List RawT) (hl : l.length ≤ 100000000) (hg : ∀ r ∈ l, RawGood r) : AC CX 3 [.row 4 (l.map encRaw)] (.v (.bool true)) := by
  obtain ⟨hT, hn⟩ := tree_ok (most := 30) hg (by decide)
  have hta := tree_ac l 30 hl hg
  generalize treeF l 30 = t at hT hn hta
  have hck := check_tree hT (by omega)
  obtain ⟨l1, l2⟩ := firsts_all t
  have hfa := firsts_ac t hT.node (by omega) hck
  generalize (firstsL t 0 []).1 = L at l1 l2 hfa
  have hsc : chkF smallT = 0 := by kernel_rfl
  have hsa := firsts_ac smallT small_good (by decide) hsc
  have hse : (firstsL smallT 0 []).1 = [0, 1, 2] := by kernel_rfl
  rw [hse] at hsa
  have hcd : ∀ s : ByteArray, bytesA s = bytesA s := fun _ => rfl
  refine AC_walk ⟨TB, 103, 0, [], []⟩ (fn := Tryd.f3) TB_ok Tryd.func3 rfl rfl rfl rfl rfl (fun _ => rfl) (fun _ => rfl) ?_; intro E hna hX
  repeat (first | ((with_reducible show W _ _ _ _ _ _); first | refine W_seq ?_ | refine W_block ?_ | refine W_region hX ?_ | refine W_cond ?_ | refine W_skip ?_ | refine W_exit ?_ | refine W_ret ?_) | ((fail_if_success (with_reducible show W _ _ _ _ _ _)); show W _ _ _ _ _ _) | refine andA ?_ | refine condT ?_ | refine condF ?_ | refine exB ?_ | refine exL ?_ | refine Exists.intro _ (And.intro rfl ?_) | refine Exists.intro _ (And.intro (get_mapN (by assumption)) ?_) | ((fail_if_success (with_reducible show LoopEnd _ _ _ _ _ _ _)); show LoopEnd _ _ _ _ _ _ _) | ((fail_if_success (with_reducible show JoinEnd _ _ _ _ _)); show JoinEnd _ _ _ _ _) | ((fail_if_success (with_reducible show JoinG _ _ _ _ _)); show JoinG _ _ _ _ _))
  refine ⟨_, hta, by kernel_rfl, fun _ => rfl, ?_⟩
  repeat (first | ((with_reducible show W _ _ _ _ _ _); first | refine W_seq ?_ | refine W_block ?_ | refine W_region hX ?_ | refine W_cond ?_ | refine W_skip ?_ | refine W_exit ?_ | refine W_ret ?_) | ((fail_if_success (with_reducible show W _ _ _ _ _ _)); show W _ _ _ _ _ _) | refine andA ?_ | refine condT ?_ | refine condF ?_ | refine exB ?_ | refine exL ?_ | refine Exists.intro _ (And.intro rfl ?_) | refine Exists.intro _ (And.intro (get_mapN (by assumption)) ?_) | ((fail_if_success (with_reducible show LoopEnd _ _ _ _ _ _ _)); show LoopEnd _ _ _ _ _ _ _) | ((fail_if_success (with_reducible show JoinEnd _ _ _ _ _)); show JoinEnd _ _ _ _ _) | ((fail_if_success (with_reducible show JoinG _ _ _ _ _)); show JoinG _ _ _ _ _))
  refine ⟨_, hfa, by kernel_rfl, fun _ => rfl, ?_⟩
  repeat (first | ((with_reducible show W _ _ _ _ _ _); first | refine W_seq ?_ | refine W_block ?_ | refine W_region hX ?_ | refine W_cond ?_ | refine W_skip ?_ | refine W_exit ?_ | refine W_ret ?_) | ((fail_if_success (with_reducible show W _ _ _ _ _ _)); show W _ _ _ _ _ _) | refine andA ?_ | refine condT ?_ | refine condF ?_ | refine exB ?_ | refine exL ?_ | refine Exists.intro _ (And.intro rfl ?_) | refine Exists.intro _ (And.intro (get_mapN (by assumption)) ?_) | ((fail_if_success (with_reducible show LoopEnd _ _ _ _ _ _ _)); show LoopEnd _ _ _ _ _ _ _) | ((fail_if_success (with_reducible show JoinEnd _ _ _ _ _)); show JoinEnd _ _ _ _ _) | ((fail_if_success (with_reducible show JoinG _ _ _ _ _)); show JoinG _ _ _ _ _))
  refine ⟨_, small_ac, by kernel_rfl, fun _ => rfl, ?_⟩
  repeat (first | ((with_reducible show W _ _ _ _ _ _); first | refine W_seq ?_ | refine W_block ?_ | refine W_region hX ?_ | refine W_cond ?_ | refine W_skip ?_ | refine W_exit ?_ | refine W_ret ?_) | ((fail_if_success (with_reducible show W _ _ _ _ _ _)); show W _ _ _ _ _ _) | refine andA ?_ | refine condT ?_ | refine condF ?_ | refine exB ?_ | refine exL ?_ | refine Exists.intro _ (And.intro rfl ?_) | refine Exists.intro _ (And.intro (get_mapN (by assumption)) ?_) | ((fail_if_success (with_reducible show LoopEnd _ _ _ _ _ _ _)); show LoopEnd _ _ _ _ _ _ _) | ((fail_if_success (with_reducible show JoinEnd _ _ _ _ _)); show JoinEnd _ _ _ _ _) | ((fail_if_success (with_reducible show JoinG _ _ _ _ _)); show JoinG _ _ _ _ _))
  refine ⟨_, hsa, by kernel_rfl, fun _ => rfl, ?_⟩
  repeat (first | ((with_reducible show W _ _ _ _ _ _); first | refine W_seq ?_ | refine W_block ?_ | refine W_region hX ?_ | refine W_cond ?_ | refine W_skip ?_ | refine W_exit ?_ | refine W_ret ?_) | ((fail_if_success (with_reducible show W _ _ _ _ _ _)); show W _ _ _ _ _ _) | refine andA ?_ | refine condT ?_ | refine condF ?_ | refine exB ?_ | refine exL ?_ | refine Exists.intro _ (And.intro rfl ?_) | refine Exists.intro _ (And.intro (get_mapN (by assumption)) ?_) | ((fail_if_success (with_reducible show LoopEnd _ _ _ _ _ _ _)); show LoopEnd _ _ _ _ _ _ _) | ((fail_if_success (with_reducible show JoinEnd _ _ _ _ _)); show JoinEnd _ _ _ _ _) | ((fail_if_success (with_reducible show JoinG _ _ _ _ _)); show JoinG _ _ _ _ _))
  refine ⟨_, equalI_ac [0, 1, 2] [0, 1, 2] (by decide) (by decide) rfl, by kernel_rfl, fun _ => rfl, ?_⟩
  repeat (first | ((with_reducible show W _ _ _ _ _ _); first | refine W_seq ?_ | refine W_block ?_ | refine W_region hX ?_ | refine W_cond ?_ | refine W_skip ?_ | refine W_exit ?_ | refine W_ret ?_) | ((fail_if_success (with_reducible show W _ _ _ _ _ _)); show W _ _ _ _ _ _) | refine andA ?_ | refine condT ?_ | refine condF ?_ | refine exB ?_ | refine exL ?_ | refine Exists.intro _ (And.intro rfl ?_) | refine Exists.intro _ (And.intro (get_mapN (by assumption)) ?_) | ((fail_if_success (with_reducible show LoopEnd _ _ _ _ _ _ _)); show LoopEnd _ _ _ _ _ _ _) | ((fail_if_success (with_reducible show JoinEnd _ _ _ _ _)); show JoinEnd _ _ _ _ _) | ((fail_if_success (with_reducible show JoinG _ _ _ _ _)); show JoinG _ _ _ _ _))
  refine W_loop (fun k : Nat => k ≤ L.length) (fun k => L.length - k) (fun k => ⟨[(3, .row 12 (t.map encNode)), (4, .row 1 (L.map encI)), (39, .row 1 (L.map encI)), (40, .v (.int .i64 L.length)), (41, .v (.int .i64 k))], []⟩) 0 (Nat.zero_le _) (Drops.to [3, 4, 39, 40, 41] rfl) ?_
  intro k hk
  repeat (first | ((with_reducible show W _ _ _ _ _ _); first | refine W_seq ?_ | refine W_block ?_ | refine W_region hX ?_ | refine W_cond ?_ | refine W_skip ?_ | refine W_exit ?_ | refine W_ret ?_) | ((fail_if_success (with_reducible show W _ _ _ _ _ _)); show W _ _ _ _ _ _) | refine andA ?_ | refine condT ?_ | refine condF ?_ | refine exB ?_ | refine exL ?_ | refine Exists.intro _ (And.intro rfl ?_) | refine Exists.intro _ (And.intro (get_mapN (by assumption)) ?_) | ((fail_if_success (with_reducible show LoopEnd _ _ _ _ _ _ _)); show LoopEnd _ _ _ _ _ _ _) | ((fail_if_success (with_reducible show JoinEnd _ _ _ _ _)); show JoinEnd _ _ _ _ _) | ((fail_if_success (with_reducible show JoinG _ _ _ _ _)); show JoinG _ _ _ _ _))
  refine condB_intro (fun h1 => ?_) (fun h1 => ?_)
  · have e1 := of_decide_eq_true h1
    obtain ⟨q, hq, hF⟩ := l2 k (by omega)
    have hqk := hF.1
    obtain ⟨q2, hq2, hF2⟩ := l2 q (by omega)
    have e2 := firsts_self hF hF2
    subst e2
    obtain ⟨a, ha⟩ := get_lt (l := t) (k := q2) (by omega)
    obtain ⟨b, hb⟩ := get_lt (l := t) (k := k) (by omega)
    have hqq : (!decide ((q2 : Int) = (q2 : Int))) = false := by simp
    have done : ∀ s, Drops CX E s ⟨[(3, .row 12 (t.map encNode)), (4, .row 1 (L.map encI)), (39, .row 1 (L.map encI)), (40, .v (.int .i64 L.length)), (41, .v (.int .i64 (k + 1 : Nat)))], []⟩ → LoopEnd CX E (fun k : Nat => k ≤ L.length) (fun k => L.length - k) (fun k => ⟨[(3, .row 12 (t.map encNode)), (4, .row 1 (L.map encI)), (39, .row 1 (L.map encI)), (40, .v (.int .i64 L.length)), (41, .v (.int .i64 k))], []⟩) k s := fun s hs => ⟨k + 1, by omega, by omega, hs⟩
    rcases Nat.lt_or_ge q2 k with hlt | hge
    · have e3 : (q2 : Int) < (k : Int) := by omega
      obtain ⟨_, hor, _⟩ := hF
      have hb1 : b.same ≠ 0 ∧ a.same = b.same := by
        rcases hor with h | ⟨h, h'⟩
        · omega
        · rw [fz_at hb] at h h'
          rw [fz_at ha] at h'
          exact ⟨h, h'⟩
      obtain ⟨_, hda, _⟩ := hT.one a (List.mem_of_getElem? ha) b (List.mem_of_getElem? hb) hb1.2 (by rw [hb1.2]; exact hb1.1)
      obtain ⟨hb0, hab⟩ := hb1
      repeat (first | ((with_reducible show W _ _ _ _ _ _); first | refine W_seq ?_ | refine W_block ?_ | refine W_region hX ?_ | refine W_cond ?_ | refine W_skip ?_ | refine W_exit ?_ | refine W_ret ?_) | ((fail_if_success (with_reducible show W _ _ _ _ _ _)); show W _ _ _ _ _ _) | refine andA ?_ | refine condT ?_ | refine condF ?_ | refine exB ?_ | refine exL ?_ | refine Exists.intro _ (And.intro rfl ?_) | refine Exists.intro _ (And.intro (get_mapN (by assumption)) ?_) | ((fail_if_success (with_reducible show LoopEnd _ _ _ _ _ _ _)); show LoopEnd _ _ _ _ _ _ _) | ((fail_if_success (with_reducible show JoinEnd _ _ _ _ _)); show JoinEnd _ _ _ _ _) | ((fail_if_success (with_reducible show JoinG _ _ _ _ _)); show JoinG _ _ _ _ _))
      refine W_draw hX (n := 56) (follows_mixed Tryd.checked) (ws := [[], [(0, 46)], [(1, 47)], [(2, 48)], [(2, 48)], [(2, 48), (3, 49), (4, 50)], [(2, 48), (5, 51)], [(2, 48), (6, 52)], [(7, 53)], [(7, 53)], [(7, 53), (8, 54), (9, 55)], [(7, 53), (10, 56)], [(7, 53)], [(7, 53), (11, 57), (12, 58)], [(7, 53), (13, 59)], [(7, 53), (14, 60)], [(15, 61)], [(15, 61)], [(15, 61), (16, 62), (17, 63)], [(15, 61), (18, 64)], [(19, 65)], [(19, 65)], [(19, 65), (20, 66), (21, 67)], [(19, 65), (22, 68)], [(19, 65), (23, 69)], [(19, 65)], [(19, 65)], [(19, 65), (25, 71), (26, 72)], [(19, 65), (27, 73)], [(19, 65), (28, 74)], [(19, 65), (24, 70), (29, 75)], [(19, 65), (30, 76)], [(31, 77)], [(31, 77)], [(31, 77), (32, 78), (33, 79)], [(31, 77), (34, 80)], [(31, 77), (35, 81)], [(31, 77), (36, 82)], [(19, 65), (31, 77), (37, 83)], [(19, 65), (31, 77), (38, 84)], [(39, 85)], [(39, 85)], [(39, 85), (40, 86), (41, 87)], [(39, 85), (42, 88)], [(39, 85), (43, 89)], [(39, 85), (44, 90)], [(39, 85)], [(39, 85)], [(39, 85), (46, 92), (47, 93)], [(39, 85), (48, 94)], [(39, 85), (49, 95)], [(39, 85), (50, 96)], [(39, 85), (45, 91), (51, 97)], [(19, 65), (39, 85), (52, 98)], [(15, 61), (19, 65), (53, 99)], [(15, 61), (54, 100)]]) (ds := [46, 47, 48, 49, 50, 51, 52, 53, 54, 55, 56, 57, 58, 59, 60, 61, 62, 63, 64, 65, 66, 67, 68, 69, 70, 71, 72, 73, 74, 75, 76, 77, 78, 79, 80, 81, 82, 83, 84, 85, 86, 87, 88, 89, 90, 91, 92, 93, 94, 95, 96, 97, 98, 99, 100, 101]) (bi := []) (wa := [(0, 46), (1, 47), (2, 48), (3, 49), (4, 50), (5, 51), (6, 52), (7, 53), (8, 54), (9, 55), (10, 56), (11, 57), (12, 58), (13, 59), (14, 60), (15, 61), (16, 62), (17, 63), (18, 64), (19, 65), (20, 66), (21, 67), (22, 68), (23, 69), (24, 70), (25, 71), (26, 72), (27, 73), (28, 74), (29, 75), (30, 76), (31, 77), (32, 78), (33, 79), (34, 80), (35, 81), (36, 82), (37, 83), (38, 84), (39, 85), (40, 86), (41, 87), (42, 88), (43, 89), (44, 90), (45, 91), (46, 92), (47, 93), (48, 94), (49, 95), (50, 96), (51, 97), (52, 98), (53, 99), (54, 100), (55, 101)]) ⟨by kernel_rfl, by kernel_rfl, by kernel_rfl, by kernel_rfl, by decide, by kernel_rfl, by kernel_rfl, rfl, by decide, rfl⟩ ?_
      repeat (first | ((with_reducible show W _ _ _ _ _ _); first | refine W_seq ?_ | refine W_block ?_ | refine W_region hX ?_ | refine W_cond ?_ | refine W_skip ?_ | refine W_exit ?_ | refine W_ret ?_) | ((fail_if_success (with_reducible show W _ _ _ _ _ _)); show W _ _ _ _ _ _) | refine andA ?_ | refine condT ?_ | refine condF ?_ | refine exB ?_ | refine exL ?_ | refine Exists.intro _ (And.intro rfl ?_) | refine Exists.intro _ (And.intro (get_mapN (by assumption)) ?_) | ((fail_if_success (with_reducible show LoopEnd _ _ _ _ _ _ _)); show LoopEnd _ _ _ _ _ _ _) | ((fail_if_success (with_reducible show JoinEnd _ _ _ _ _)); show JoinEnd _ _ _ _ _) | ((fail_if_success (with_reducible show JoinG _ _ _ _ _)); show JoinG _ _ _ _ _))
      exact done _ (Drops.to [3, 4, 39, 40, 41] rfl)
    · have e3 : ¬ (q2 : Int) < (k : Int) := by omega
      repeat (first | ((with_reducible show W _ _ _ _ _ _); first | refine W_seq ?_ | refine W_block ?_ | refine W_region hX ?_ | refine W_cond ?_ | refine W_skip ?_ | refine W_exit ?_ | refine W_ret ?_) | ((fail_if_success (with_reducible show W _ _ _ _ _ _)); show W _ _ _ _ _ _) | refine andA ?_ | refine condT ?_ | refine condF ?_ | refine exB ?_ | refine exL ?_ | refine Exists.intro _ (And.intro rfl ?_) | refine Exists.intro _ (And.intro (get_mapN (by assumption)) ?_) | ((fail_if_success (with_reducible show LoopEnd _ _ _ _ _ _ _)); show LoopEnd _ _ _ _ _ _ _) | ((fail_if_success (with_reducible show JoinEnd _ _ _ _ _)); show JoinEnd _ _ _ _ _) | ((fail_if_success (with_reducible show JoinG _ _ _ _ _)); show JoinG _ _ _ _ _))
      refine W_draw hX (n := 56) (follows_mixed Tryd.checked) (ws := [[], [(0, 46)], [(1, 47)], [(2, 48)], [(2, 48)], [(2, 48), (3, 49), (4, 50)], [(2, 48), (5, 51)], [(2, 48), (6, 52)], [(7, 53)], [(7, 53)], [(7, 53), (8, 54), (9, 55)], [(7, 53), (10, 56)], [(7, 53)], [(7, 53), (11, 57), (12, 58)], [(7, 53), (13, 59)], [(7, 53), (14, 60)], [(15, 61)], [(15, 61)], [(15, 61), (16, 62), (17, 63)], [(15, 61), (18, 64)], [(19, 65)], [(19, 65)], [(19, 65), (20, 66), (21, 67)], [(19, 65), (22, 68)], [(19, 65), (23, 69)], [(19, 65)], [(19, 65)], [(19, 65), (25, 71), (26, 72)], [(19, 65), (27, 73)], [(19, 65), (28, 74)], [(19, 65), (24, 70), (29, 75)], [(19, 65), (30, 76)], [(31, 77)], [(31, 77)], [(31, 77), (32, 78), (33, 79)], [(31, 77), (34, 80)], [(31, 77), (35, 81)], [(31, 77), (36, 82)], [(19, 65), (31, 77), (37, 83)], [(19, 65), (31, 77), (38, 84)], [(39, 85)], [(39, 85)], [(39, 85), (40, 86), (41, 87)], [(39, 85), (42, 88)], [(39, 85), (43, 89)], [(39, 85), (44, 90)], [(39, 85)], [(39, 85)], [(39, 85), (46, 92), (47, 93)], [(39, 85), (48, 94)], [(39, 85), (49, 95)], [(39, 85), (50, 96)], [(39, 85), (45, 91), (51, 97)], [(19, 65), (39, 85), (52, 98)], [(15, 61), (19, 65), (53, 99)], [(15, 61), (54, 100)]]) (ds := [46, 47, 48, 49, 50, 51, 52, 53, 54, 55, 56, 57, 58, 59, 60, 61, 62, 63, 64, 65, 66, 67, 68, 69, 70, 71, 72, 73, 74, 75, 76, 77, 78, 79, 80, 81, 82, 83, 84, 85, 86, 87, 88, 89, 90, 91, 92, 93, 94, 95, 96, 97, 98, 99, 100, 101]) (bi := []) (wa := [(0, 46), (1, 47), (2, 48), (3, 49), (4, 50), (5, 51), (6, 52), (7, 53), (8, 54), (9, 55), (10, 56), (11, 57), (12, 58), (13, 59), (14, 60), (15, 61), (16, 62), (17, 63), (18, 64), (19, 65), (20, 66), (21, 67), (22, 68), (23, 69), (24, 70), (25, 71), (26, 72), (27, 73), (28, 74), (29, 75), (30, 76), (31, 77), (32, 78), (33, 79), (34, 80), (35, 81), (36, 82), (37, 83), (38, 84), (39, 85), (40, 86), (41, 87), (42, 88), (43, 89), (44, 90), (45, 91), (46, 92), (47, 93), (48, 94), (49, 95), (50, 96), (51, 97), (52, 98), (53, 99), (54, 100), (55, 101)]) ⟨by kernel_rfl, by kernel_rfl, by kernel_rfl, by kernel_rfl, by decide, by kernel_rfl, by kernel_rfl, rfl, by decide, rfl⟩ ?_
      repeat (first | ((with_reducible show W _ _ _ _ _ _); first | refine W_seq ?_ | refine W_block ?_ | refine W_region hX ?_ | refine W_cond ?_ | refine W_skip ?_ | refine W_exit ?_ | refine W_ret ?_) | ((fail_if_success (with_reducible show W _ _ _ _ _ _)); show W _ _ _ _ _ _) | refine andA ?_ | refine condT ?_ | refine condF ?_ | refine exB ?_ | refine exL ?_ | refine Exists.intro _ (And.intro rfl ?_) | refine Exists.intro _ (And.intro (get_mapN (by assumption)) ?_) | ((fail_if_success (with_reducible show LoopEnd _ _ _ _ _ _ _)); show LoopEnd _ _ _ _ _ _ _) | ((fail_if_success (with_reducible show JoinEnd _ _ _ _ _)); show JoinEnd _ _ _ _ _) | ((fail_if_success (with_reducible show JoinG _ _ _ _ _)); show JoinG _ _ _ _ _))
      exact done _ (Drops.to [3, 4, 39, 40, 41] rfl)
  · have e1 := of_decide_eq_false h1
    repeat (first | ((with_reducible show W _ _ _ _ _ _); first | refine W_seq ?_ | refine W_block ?_ | refine W_region hX ?_ | refine W_cond ?_ | refine W_skip ?_ | refine W_exit ?_ | refine W_ret ?_) | ((fail_if_success (with_reducible show W _ _ _ _ _ _)); show W _ _ _ _ _ _) | refine andA ?_ | refine condT ?_ | refine condF ?_ | refine exB ?_ | refine exL ?_ | refine Exists.intro _ (And.intro rfl ?_) | refine Exists.intro _ (And.intro (get_mapN (by assumption)) ?_) | ((fail_if_success (with_reducible show LoopEnd _ _ _ _ _ _ _)); show LoopEnd _ _ _ _ _ _ _) | ((fail_if_success (with_reducible show JoinEnd _ _ _ _ _)); show JoinEnd _ _ _ _ _) | ((fail_if_success (with_reducible show JoinG _ _ _ _ _)); show JoinG _ _ _ _ _))
    rfl
end Go.Proofs.YtghnifboofhcdaaDoor.Abs
