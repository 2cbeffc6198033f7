/- Members: plan.Check and plan.Make, walked. -/
import Derived.Test.YtdhikkdkjmeiiaaGreatDoorRents
import Derived.Test.YtdhikkdkjmeiiaaGreatDoorRrules
import Derived.Test.YtdhikkdkjmeiiaaGreatDoorRsmall
namespace Go.Proofs.YtdhikkdkjmeiiaaGreatDoor.Abs
open Go.RowKit Go.MapKept
set_option linter.unusedVariables false
set_option linter.unusedSimpArgs false
set_option maxRecDepth 100000
set_option maxHeartbeats 4000000
/-! ### Members: what plan.Check says, plainly. -/
def lookE (l : List EntT) (s : ByteArray) : Option EntT := l.find? fun x => decide (x.path = s)
def pPrevBad (pre : List EntT) (x : EntT) : Bool := match pre.getLast? with
  | some p => decide (compareF p.path x.path ≥ 0)
  | none => false
def isDirE (pre : List EntT) (s : ByteArray) : Bool := match lookE pre s with
  | some f => decide (f.kind = 2)
  | none => false
def pUpBad (pre : List EntT) (x : EntT) : Bool := !decide (upF x.path = ⟨#[]⟩) && !isDirE pre (upF x.path)
def isFileE (pre : List EntT) (x : EntT) : Bool := match lookE pre x.target with
  | some f => decide (f.kind = 1) && decide (f.mt = x.mt)
  | none => false
def pLinkBad (pre : List EntT) (x : EntT) : Bool := decide (x.kind = 4) && !isFileE pre x
def pchkL (pre : List EntT) : List EntT → Int
  | [] => 0
  | x :: rest => if pPrevBad pre x = true then 6 else if pUpBad pre x = true then 10 else if pLinkBad pre x = true then 11 else pchkL (pre ++ [x]) rest
def kvE (x : EntT) : Value × AV := (.string x.path, .agg (encE x))
theorem keyEq_str (a b : ByteArray) : keyEq (.string a) (.string b) = decide (a = b) := by
  rw [Bool.eq_iff_iff, decide_eq_true_eq]
  show (a == b) = true ↔ a = b
  constructor
  · intro h
    cases a with
    | mk a => cases b with
      | mk b =>
        have h : (a == b) = true := h
        rw [eq_of_beq h]
  · rintro rfl
    cases a with
    | mk a =>
      show (a == a) = true
      exact beq_self_eq_true a
theorem kvE_at {s : ByteArray} : ∀ {m : List EntT}, kvFind (.string s) (m.map kvE) = (lookE m s).map fun x => .agg (encE x)
  | [] => rfl
  | x :: m => by
    have ih := kvE_at (s := s) (m := m)
    unfold lookE at ih ⊢
    rw [List.map_cons, kvE, kvFind, keyEq_str]
    by_cases h : s = x.path
    · rw [decide_eq_true h, if_pos rfl, List.find?_cons_of_pos (by rw [h]; exact decide_eq_true rfl)]
      rfl
    · rw [List.find?_cons_of_neg (by intro hh; exact h (of_decide_eq_true hh).symm), decide_eq_false h, if_neg (by decide), ih]
theorem kvSetE_none {x : EntT} : ∀ {m : List EntT}, lookE m x.path = none → kvSet (.string x.path) (.agg (encE x)) (m.map kvE) = (m ++ [x]).map kvE
  | [], _ => rfl
  | y :: m, h => by
    have h1 : ¬ y.path = x.path := fun e => by
      unfold lookE at h
      rw [List.find?_cons_of_pos (by exact decide_eq_true e)] at h
      cases h
    have h2 : lookE m x.path = none := by
      unfold lookE at h ⊢
      rw [List.find?_cons_of_neg (by intro hh; exact h1 (of_decide_eq_true hh))] at h
      exact h
    rw [List.map_cons, List.cons_append, List.map_cons, ← kvSetE_none h2]
    show (if keyEq (.string x.path) (.string y.path) = true then _ else _) = _
    rw [keyEq_str, decide_eq_false (fun h => h1 h.symm), if_neg (by decide)]
    rfl
theorem look_take {l : List EntT} (hn : (l.map (·.path)).Nodup) {j k : Nat} {y : EntT} (hj : l[j]? = some y) (hjk : j < k) : lookE (l.take k) y.path = some y := by
  unfold lookE
  cases hf : (l.take k).find? (fun x => decide (x.path = y.path)) with
  | none =>
    have := List.find?_eq_none.1 hf y (List.mem_of_getElem? (i := j) (by rw [List.getElem?_take, if_pos hjk]; exact hj))
    simp at this
  | some z =>
    have hz0 := List.find?_some hf
    have hz1 : z.path = y.path := of_decide_eq_true hz0
    have hz2 := List.mem_of_mem_take (List.mem_of_find?_eq_some hf)
    have : ∀ (l : List EntT), (l.map (·.path)).Nodup → ∀ a ∈ l, ∀ b ∈ l, a.path = b.path → a = b := by
      intro l
      induction l with
      | nil => intro _ a ha; cases ha
      | cons c l ih =>
        intro hn a ha b hb e
        rw [List.map_cons, List.nodup_cons] at hn
        rcases List.mem_cons.1 ha with e1 | ha' <;> rcases List.mem_cons.1 hb with e2 | hb'
        · rw [e1, e2]
        · subst e1; exact absurd (List.mem_map.2 ⟨b, hb', e.symm⟩) hn.1
        · subst e2; exact absurd (List.mem_map.2 ⟨a, ha', e⟩) hn.1
        · exact ih hn.2 a ha' b hb' e
    rw [this l hn z hz2 y (List.mem_of_getElem? hj) hz1]
theorem look_new {l : List EntT} (hn : (l.map (·.path)).Nodup) {k : Nat} {x : EntT} (hk : l[k]? = some x) : lookE (l.take k) x.path = none := by
  unfold lookE
  rw [List.find?_eq_none]
  intro y hy h
  have h := of_decide_eq_true h
  obtain ⟨j, hj⟩ := List.getElem?_of_mem hy
  rw [List.getElem?_take] at hj
  split at hj
  · rename_i hjk
    have e1 : (l.map (·.path))[j]? = some y.path := by rw [List.getElem?_map, hj]; rfl
    have e2 : (l.map (·.path))[k]? = some y.path := by rw [List.getElem?_map, hk, h]; rfl
    obtain ⟨q1, q2⟩ := List.getElem?_eq_some_iff.1 e1
    obtain ⟨q3, q4⟩ := List.getElem?_eq_some_iff.1 e2
    have := (List.getElem_inj hn).1 (q2.trans q4.symm)
    omega
  · cases hj
theorem ents_nodup {l : List EntT} (h : EntsOk l) : (l.map (·.path)).Nodup := by
  rw [List.Nodup, List.pairwise_map]
  exact h.sorted.imp fun {a b} hab e => by
    have := (lessF_tot.zero a.path b.path).2 e
    omega
theorem pchk_ok {l : List EntT} (h : EntsOk l) : ∀ d k : Nat, k + d = l.length → pchkL (l.take k) (l.drop k) = 0
  | 0, k, hd => by rw [List.drop_eq_nil_of_le (by omega), pchkL]
  | d + 1, k, hd => by
    obtain ⟨x, hx⟩ := get_lt (l := l) (k := k) (by omega)
    have hg := h.good x (List.mem_of_getElem? hx)
    have hn := ents_nodup h
    have hpb : pPrevBad (l.take k) x = false := by
      unfold pPrevBad
      by_cases hk : k = 0
      · subst hk; rfl
      · obtain ⟨y, hy⟩ := get_lt (l := l) (k := k - 1) (by omega)
        have hgy := h.good y (List.mem_of_getElem? hy)
        rw [last_take (by omega) (by omega), hy]
        dsimp only
        rw [compare_less hgy.path hg.path]
        have h1 := List.pairwise_iff_getElem.1 h.sorted (k - 1) k (by omega) (by omega) (by omega)
        obtain ⟨q1, q2⟩ := List.getElem?_eq_some_iff.1 hy
        obtain ⟨q3, q4⟩ := List.getElem?_eq_some_iff.1 hx
        rw [q2, q4] at h1
        exact decide_eq_false (by omega)
    have hub : pUpBad (l.take k) x = false := by
      unfold pUpBad isDirE
      rcases h.up k x hx with hz | ⟨j, y, h1, h2, h3, h4⟩
      · rw [decide_eq_true hz]; rfl
      · rw [← h3, look_take hn h2 h1]
        dsimp only
        rw [decide_eq_true h4, Bool.not_true, Bool.and_false]
    have hlb : pLinkBad (l.take k) x = false := by
      unfold pLinkBad isFileE
      by_cases hk4 : x.kind = 4
      · obtain ⟨j, y, h1, h2, h3, h4, h5⟩ := h.one k x hx hk4
        rw [← h3, look_take hn h2 h1]
        dsimp only
        rw [decide_eq_true h4, decide_eq_true h5]
        simp
      · rw [decide_eq_false hk4, Bool.false_and]
    rw [drop_at hx, pchkL, hpb, if_neg (by decide), hub, if_neg (by decide), hlb, if_neg (by decide), ← take_snoc hx]
    exact pchk_ok h d (k + 1) (by omega)
theorem pchk_zero {l : List EntT} (h : EntsOk l) : pchkL [] l = 0 := by
  have := pchk_ok h l.length 0 (by omega)
  rwa [List.take_zero, List.drop_zero] at this
/-! ### plan.Right and plan.Check, walked. -/
theorem pright_ac (x : EntT) (h : EntGood x) : AC CX 51 [.agg (encE x)] (.v (.int .i64 0)) := by
  obtain ⟨b1, b2, b3, b4, b5, b6, b7, b8, b9⟩ := h
  have hp := pathChk_size b1
  have hd : x.kind ≠ 1 → ((bytesA x.data).length : Int) = 0 := fun h => by rw [b4 h]; rfl
  have hdl : (bytesA x.data).length = x.data.size := bytesA_len _
  refine AC_walk ⟨TB, 63, 0, [], []⟩ (fn := Tryz.f51) TB_ok Tryz.func51 rfl rfl rfl rfl rfl (fun _ => rfl) (fun _ => rfl) ?_; intro E hna hX
  refine goT ?_
  refine ⟨_, pathCheck_ac x.path (by omega), by kernel_rfl, fun _ => rfl, ?_⟩
  rw [b1]
  refine goT ?_
  refine ⟨_, metaCheck_ac x.mt b2, by kernel_rfl, fun _ => rfl, ?_⟩
  refine goT ?_
  by_cases k3 : x.kind < 3
  · have ht : x.target = ⟨#[]⟩ := b5.2 k3
    have hz := b9 (by omega)
    have hc : (!((!decide (x.target = ⟨#[]⟩)) == decide (x.kind ≥ 3))) = false := by rw [decide_eq_true ht, decide_eq_false (by omega)]; rfl
    clear b4 b5 b8 b9
    by_cases k1 : x.kind = 1
    · clear hd
      refine goT ?_
      refine ⟨_, indexByte_ac x.target 0, by kernel_rfl, fun _ => rfl, ?_⟩
      refine goT ?_
      rfl
    · have hd := hd k1
      refine goT ?_
      refine ⟨_, indexByte_ac x.target 0, by kernel_rfl, fun _ => rfl, ?_⟩
      refine goT ?_
      rfl
  · have ht : ¬ x.target = ⟨#[]⟩ := fun e => k3 (b5.1 e)
    have hd := hd (by omega)
    have hc : (!((!decide (x.target = ⟨#[]⟩)) == decide (x.kind ≥ 3))) = false := by rw [decide_eq_false ht, decide_eq_true (by omega)]; rfl
    by_cases k4 : x.kind = 4
    · have ht4 := b8 k4
      clear b4 b5 b8 b9
      refine goT ?_
      refine ⟨_, pathCheck_ac x.target (by omega), by kernel_rfl, fun _ => rfl, ?_⟩
      rw [ht4]
      refine goT ?_
      rfl
    · have hz := b9 k4
      clear b4 b5 b8 b9
      refine goT ?_
      refine ⟨_, indexByte_ac x.target 0, by kernel_rfl, fun _ => rfl, ?_⟩
      refine goT ?_
      rfl
theorem cKE (m : List EntT) : ClosedK (m.map kvE) := fun j => avoids_kv (fun _ => rfl) m
theorem pcheck_ac (xs : List EntT) (hg : ∀ x ∈ xs, EntGood x) (hd : (xs.map (·.path)).Nodup) (hl : xs.length ≤ 40) : AC CX 19 [.row 11 (xs.map encE)] (.v (.int .i64 (pchkL [] xs))) := by
  refine AC_walk ⟨TB, 75, 0, [], []⟩ (fn := Tryz.f19) TB_ok Tryz.func19 rfl rfl rfl rfl rfl (fun _ => rfl) (fun _ => rfl) ?_; intro E hna hX
  refine goT ?_
  refine W_loop (fun k : Nat => k ≤ xs.length ∧ pchkL [] xs = pchkL (xs.take k) (xs.drop k)) (fun k => xs.length - k) (fun k => ⟨[(0, .row 11 (xs.map encE)), (3, .mp 0), (13, .row 11 (xs.map encE)), (14, .v (.int .i64 xs.length)), (15, .v (.int .i64 k))], [.map .string ((xs.take k).map kvE)]⟩) 0 ⟨Nat.zero_le _, rfl⟩ (Drops.to [0, 3, 13, 14, 15] rfl) ?_
  rintro k ⟨hk, he⟩
  refine goT ?_
  refine condB_intro (fun h2 => ?_) (fun h2 => ?_)
  · have e2 : (k : Int) < (xs.length : Int) := of_decide_eq_true h2
    obtain ⟨x, hx⟩ := get_lt (l := xs) (k := k) (by omega)
    have hgx := hg x (List.mem_of_getElem? hx)
    have hpx := pathChk_size hgx.path
    rw [drop_at hx, pchkL] at he
    refine goT ?_
    refine ⟨_, pright_ac x hgx, by kernel_rfl, fun _ => rfl, ?_⟩
    refine goT ?_
    refine W_join True ⟨[(0, .row 11 (xs.map encE)), (3, .mp 0), (5, .ptr 1 0), (13, .row 11 (xs.map encE)), (14, .v (.int .i64 xs.length)), (15, .v (.int .i64 k)), (38, .v (.bool (pPrevBad (xs.take k) x)))], [.map .string ((xs.take k).map kvE), .cells 51 (encE x)]⟩ ?_ fun _ => ?_
    · refine W_draw hX (n := 14) (follows_mixed Tryz.checked) (ws := [[], [(0, 25)], [(1, 26)], [(2, 27)], [(2, 27)], [(2, 27), (4, 29)], [(2, 27), (3, 28), (5, 30)], [(2, 27), (6, 31)], [(2, 27), (7, 32)], [(2, 27)], [(2, 27), (9, 34)], [(2, 27), (8, 33), (10, 35)], [(2, 27), (11, 36)], [(2, 27), (12, 37)]]) (ds := [25, 26, 27, 28, 29, 30, 31, 32, 33, 34, 35, 36, 37, 38]) (bi := []) (wa := [(0, 25), (1, 26), (2, 27), (3, 28), (4, 29), (5, 30), (6, 31), (7, 32), (8, 33), (9, 34), (10, 35), (11, 36), (12, 37), (13, 38)]) ⟨by kernel_rfl, by kernel_rfl, by kernel_rfl, by kernel_rfl, by decide, by kernel_rfl, by kernel_rfl, rfl, by decide, rfl⟩ ?_
      refine goT ?_
      refine condB_intro (fun h3 => ?_) (fun h3 => ?_)
      · have e3 : (k : Int) > 0 := of_decide_eq_true h3
        obtain ⟨y, hy⟩ := get_lt (l := xs) (k := k - 1) (by omega)
        have hgy := hg y (List.mem_of_getElem? hy)
        have hpy := pathChk_size hgy.path
        have hpb : pPrevBad (xs.take k) x = decide (compareF y.path x.path ≥ 0) := by
          unfold pPrevBad
          rw [last_take hk (by omega), hy]
        refine goT ?_
        refine ⟨k - 1, by omega, _, get_mapN hy, ?_⟩
        refine goT ?_
        refine ⟨_, compare_ac y.path x.path (by omega) (by omega), by kernel_rfl, fun _ => rfl, ?_⟩
        refine goT ?_
        exact ⟨trivial, Drops.to [0, 3, 5, 13, 14, 15, 38] (by rw [hpb]; rfl)⟩
      · have hpb : pPrevBad (xs.take k) x = false := by
          have : k = 0 := by have := of_decide_eq_false h3; omega
          subst this
          rfl
        refine goT ?_
        exact ⟨trivial, Drops.to [0, 3, 5, 13, 14, 15, 38] (by rw [hpb]; rfl)⟩
    refine goT ?_
    refine condB_intro (fun h4 => ?_) (fun h4 => ?_)
    · refine goT ?_
      rw [he, if_pos h4]
      rfl
    rw [if_neg (by rw [h4]; decide)] at he
    refine goT ?_
    refine ⟨_, up_ac x.path (by omega), by kernel_rfl, fun _ => rfl, ?_⟩
    repeat (first | ((with_reducible show W _ _ _ _ _ _); first | refine W_seq ?_ | refine W_block ?_ | refine W_regionB hX 13 rfl ?_ | refine W_cond ?_ | refine W_skip ?_ | refine W_exit ?_ | refine W_ret ?_) | ((fail_if_success (with_reducible show W _ _ _ _ _ _)); show W _ _ _ _ _ _) | refine andA ?_ | refine condT ?_ | refine condF ?_ | refine exB ?_ | refine exL ?_ | refine Exists.intro _ (And.intro rfl ?_) | refine Exists.intro _ (And.intro (get_mapN (by assumption)) ?_) | ((fail_if_success (with_reducible show LoopEnd _ _ _ _ _ _ _)); show LoopEnd _ _ _ _ _ _ _) | ((fail_if_success (with_reducible show JoinEnd _ _ _ _ _)); show JoinEnd _ _ _ _ _) | ((fail_if_success (with_reducible show JoinG _ _ _ _ _)); show JoinG _ _ _ _ _))
    refine W_join True ⟨[(0, .row 11 (xs.map encE)), (3, .mp 0), (5, .ptr 1 0), (13, .row 11 (xs.map encE)), (14, .v (.int .i64 xs.length)), (15, .v (.int .i64 k)), (50, .v (.bool (pUpBad (xs.take k) x)))], [.map .string ((xs.take k).map kvE), .cells 51 (encE x)]⟩ ?_ fun _ => ?_
    · by_cases h5 : upF x.path = ⟨#[]⟩
      · have hub : pUpBad (xs.take k) x = false := by unfold pUpBad; rw [decide_eq_true h5]; rfl
        refine goT ?_
        exact ⟨trivial, Drops.to [0, 3, 5, 13, 14, 15, 50] (by rw [hub]; rfl)⟩
      · cases hlk : lookE (xs.take k) (upF x.path) with
        | none =>
          have hkv : ∀ z, (kvFind (.string (upF x.path)) ((xs.take k).map kvE)).getD z = z := fun z => by rw [kvE_at, hlk]; rfl
          have hub : pUpBad (xs.take k) x = true := by unfold pUpBad isDirE; rw [hlk, decide_eq_false h5]; rfl
          refine goT ?_
          rw [hkv]
          refine goT ?_
          exact ⟨trivial, Drops.to [0, 3, 5, 13, 14, 15, 50] (by rw [hub]; rfl)⟩
        | some f =>
          have hkv : ∀ z, (kvFind (.string (upF x.path)) ((xs.take k).map kvE)).getD z = .agg (encE f) := fun z => by rw [kvE_at, hlk]; rfl
          have hub : pUpBad (xs.take k) x = !decide (f.kind = 2) := by unfold pUpBad isDirE; rw [hlk, decide_eq_false h5]; rfl
          refine goT ?_
          rw [hkv]
          refine goT ?_
          exact ⟨trivial, Drops.to [0, 3, 5, 13, 14, 15, 50] (by rw [hub]; rfl)⟩
    refine goT ?_
    refine condB_intro (fun h6 => ?_) (fun h6 => ?_)
    · refine goT ?_
      rw [he, if_pos h6]
      rfl
    rw [if_neg (by rw [h6]; decide)] at he
    have hset := kvSetE_none (look_new hd hx)
    rw [← take_snoc hx] at hset
    by_cases hk4 : x.kind = 4
    · cases hlk : lookE (xs.take k) x.target with
      | none =>
        have hkv : ∀ z, (kvFind (.string x.target) ((xs.take k).map kvE)).getD z = z := fun z => by rw [kvE_at, hlk]; rfl
        have hlb : pLinkBad (xs.take k) x = true := by unfold pLinkBad isFileE; rw [hlk, decide_eq_true hk4]; rfl
        rw [if_pos hlb] at he
        refine goT ?_
        rw [hkv]
        refine goT ?_
        rw [he]
        rfl
      | some f =>
        have hkv : ∀ z, (kvFind (.string x.target) ((xs.take k).map kvE)).getD z = .agg (encE f) := fun z => by rw [kvE_at, hlk]; rfl
        have hlb : pLinkBad (xs.take k) x = !(decide (f.kind = 1) && decide (f.mt = x.mt)) := by unfold pLinkBad isFileE; rw [hlk, decide_eq_true hk4]; rfl
        by_cases hf1 : f.kind = 1
        · rw [decide_eq_true hf1, Bool.true_and] at hlb
          rw [hlb] at he
          clear hlb
          refine goT ?_
          rw [hkv]
          refine goT ?_
          refine condB_intro (fun h8 => ?_) (fun h8 => ?_)
          · have e8 : decide (f.mt = x.mt) = false := metaEq.symm.trans ((Bool.not_eq_true' _).mp h8)
            rw [e8, if_pos (show (!false) = true from rfl)] at he
            refine goT ?_
            rw [he]
            rfl
          · have e8 : decide (f.mt = x.mt) = true := metaEq.symm.trans ((Bool.not_eq_false' _).mp h8)
            rw [e8, if_neg (by decide)] at he
            refine goT ?_
            refine ⟨(xs.take (k + 1)).map kvE, ⟨hset⟩, ?_⟩
            refine goT ?_
            exact LoopEnd_fin (k + 1) [0, 3, 13, 14, 15] 1 hX ⟨by omega, by rw [take_snoc hx]; exact he⟩ (by omega) rfl rfl rfl rfl ⟨cKE _, trivial⟩
        · rw [decide_eq_false hf1, Bool.false_and, Bool.not_false] at hlb
          rw [if_pos hlb] at he
          refine goT ?_
          rw [hkv]
          refine goT ?_
          rw [he]
          rfl
    · have hlb : pLinkBad (xs.take k) x = false := by unfold pLinkBad; rw [decide_eq_false hk4]; rfl
      rw [if_neg (by rw [hlb]; decide)] at he
      cases hlk : lookE (xs.take k) x.target with
      | none =>
        have hkv : ∀ z, (kvFind (.string x.target) ((xs.take k).map kvE)).getD z = z := fun z => by rw [kvE_at, hlk]; rfl
        refine goT ?_
        rw [hkv]
        refine goT ?_
        refine ⟨(xs.take (k + 1)).map kvE, ⟨hset⟩, ?_⟩
        refine goT ?_
        exact LoopEnd_fin (k + 1) [0, 3, 13, 14, 15] 1 hX ⟨by omega, by rw [take_snoc hx]; exact he⟩ (by omega) rfl rfl rfl rfl ⟨cKE _, trivial⟩
      | some f =>
        have hkv : ∀ z, (kvFind (.string x.target) ((xs.take k).map kvE)).getD z = .agg (encE f) := fun z => by rw [kvE_at, hlk]; rfl
        refine goT ?_
        rw [hkv]
        refine goT ?_
        refine ⟨(xs.take (k + 1)).map kvE, ⟨hset⟩, ?_⟩
        refine goT ?_
        exact LoopEnd_fin (k + 1) [0, 3, 13, 14, 15] 1 hX ⟨by omega, by rw [take_snoc hx]; exact he⟩ (by omega) rfl rfl rfl rfl ⟨cKE _, trivial⟩
  · have e2 : ¬ (k : Int) < (xs.length : Int) := of_decide_eq_false h2
    obtain rfl : k = xs.length := by omega
    refine goT ?_
    rw [he, List.drop_length]
    rfl
/-! ### plan.Make, walked. -/
theorem cE (l : List EntT) : ClosedE (l.map encE) := ClosedE_map (fun _ _ => rfl) l
def linkOf (x : NodeT) (p : ByteArray) : EntT := ⟨x.path, 4, p, x.mt, ⟨#[]⟩⟩
theorem make_ac (t : List NodeT) (rs : List RuleT) (hT : TreeOk t) (ht : t.length ≤ 40) (hl : rs.length ≤ 12) (ha : ∀ r ∈ rs, okG r.2 = true) : AC CX 17 [.row 12 (t.map encNode), .row 2 (rs.map encRule)] (.tup [.row 11 ((entsL (runL (takesF rs) t)).map encE), .v (.int .i64 0)]) := by
  have hrun := frun_ac t rs hT (by omega) (by omega) ha
  have hTo := run_tree hT (takesF rs)
  have hol := (runL_sub (takesF rs) t).length_le
  generalize runL (takesF rs) t = out at hrun hTo hol
  have hfi := firsts_ac out hTo.node (by omega) (check_tree hTo (by omega))
  have hel := ents_len out
  have hfl := (firsts_all out).1
  have hat : ∀ (i : Nat) (n : NodeT), out[i]? = some n → ∃ (q : Nat) (m : NodeT), (firstsL out 0 []).1[i]? = some (q : Int) ∧ q ≤ i ∧ out[q]? = some m ∧ (entsL out)[i]? = some (if q < i then linkOf n m.path else entOf n) := fun i n hn => by
    obtain ⟨q, m, h1, h2, h3, h4⟩ := ents_at hn
    exact ⟨q, m, h1, h2.1, h3, h4⟩
  generalize (firstsL out 0 []).1 = L at hfi hfl hat
  generalize entsL out = es at hel hat
  refine AC_walk ⟨TB, 68, 0, [], []⟩ (fn := Tryz.f17) TB_ok Tryz.func17 rfl rfl rfl rfl rfl (fun _ => rfl) (fun _ => rfl) ?_; intro E hna hX
  refine goT ?_
  refine ⟨_, hrun, by kernel_rfl, fun _ => rfl, ?_⟩
  refine goT ?_
  refine ⟨_, hfi, by kernel_rfl, fun _ => rfl, ?_⟩
  repeat (first | ((with_reducible show W _ _ _ _ _ _); first | refine W_seq ?_ | refine W_region hX ?_ | refine W_cond ?_ | refine W_skip ?_ | refine W_exit ?_ | refine W_ret ?_) | ((fail_if_success (with_reducible show W _ _ _ _ _ _)); show W _ _ _ _ _ _) | refine andA ?_ | refine condT ?_ | refine condF ?_ | refine exB ?_ | refine exL ?_ | refine Exists.intro _ (And.intro rfl ?_) | refine Exists.intro _ (And.intro (get_mapN (by assumption)) ?_) | ((fail_if_success (with_reducible show LoopEnd _ _ _ _ _ _ _)); show LoopEnd _ _ _ _ _ _ _) | ((fail_if_success (with_reducible show JoinEnd _ _ _ _ _)); show JoinEnd _ _ _ _ _) | ((fail_if_success (with_reducible show JoinG _ _ _ _ _)); show JoinG _ _ _ _ _))
  refine W_nilOwn hX 9 51 11 rfl rfl ?_
  refine goT ?_
  refine W_loop (fun k : Nat => k ≤ out.length) (fun k => out.length - k) (fun k => ⟨[(0, .row 12 (out.map encNode)), (7, .row 1 (L.map encI)), (9, .own 0 11 0 k), (27, .row 12 (out.map encNode)), (28, .v (.int .i64 out.length)), (29, .v (.int .i64 k))], [.row 51 11 ((es.take k).map encE)]⟩) 0 (Nat.zero_le _) (Drops.to [0, 7, 9, 27, 28, 29] rfl) ?_
  intro k hk
  refine goT ?_
  refine condB_intro (fun h1 => ?_) (fun h1 => ?_)
  · have e1 : (k : Int) < (out.length : Int) := of_decide_eq_true h1
    obtain ⟨x, hx⟩ := get_lt (l := out) (k := k) (by omega)
    obtain ⟨q, m, hq, hqk, hm, he⟩ := hat k x hx
    have hkl : (es.take k).length = k := by rw [List.length_take]; omega
    refine goT ?_
    obtain ⟨y, hy⟩ : ∃ y, y = (if q < k then linkOf x m.path else entOf x) := ⟨_, rfl⟩
    rw [← hy] at he
    refine cnd_join True ⟨[(0, .row 12 (out.map encNode)), (7, .row 1 (L.map encI)), (9, .own 0 11 0 k), (27, .row 12 (out.map encNode)), (28, .v (.int .i64 out.length)), (29, .v (.int .i64 k)), (12, .ptr 2 0)], [.row 51 11 ((es.take k).map encE), .cells 40 (encNode x), .cells 51 (encE y)]⟩ ?_ fun _ => ?_
    · refine condB_intro (fun h2 => ?_) (fun h2 => ?_)
      · have e2 : (q : Int) < (k : Int) := of_decide_eq_true h2
        rw [if_pos (by omega)] at hy
        subst hy
        refine goT ?_
        refine W_drawS hX (n := 10) (follows_mixed Tryz.checked) 10 [.row 12 (out.map encNode), .row 1 (L.map encI), .v (.int .i64 k), .eptr (encI q), .v (.int .i64 q), .eptr (encNode m), .eptr (encNode m), .v (.string m.path), .ptr 2 1, .junk] [[.row 51 11 ((es.take k).map encE), .cells 40 (encNode x), .cells 51 (encE (entOf x))], [.row 51 11 ((es.take k).map encE), .cells 40 (encNode x), .cells 51 (encE { entOf x with kind := 4 })]] [9] [[0, 1], [0, 1], [0, 1], [0, 1], [0, 1], [0, 1], [0, 1], [0, 1], [0], []] (ws := [[], [], [], [(1, 52), (2, 53)], [(3, 54)], [(0, 51), (4, 55)], [(5, 56)], [(6, 57)], [], [(8, 59)]]) (ds := [51, 52, 53, 54, 55, 56, 57, 58, 59]) (wa := [(0, 51), (1, 52), (2, 53), (3, 54), (4, 55), (5, 56), (6, 57), (7, 58), (8, 59)]) ⟨by kernel_rfl, by kernel_rfl, by kernel_rfl, by kernel_rfl, by decide, by kernel_rfl, by kernel_rfl, by kernel_rfl, by decide, by kernel_rfl, by kernel_rfl⟩ rfl rfl rfl rfl rfl ?_ ?_
        · exact ⟨⟨rfl, rfl, True.intro⟩, ⟨rfl, rfl, True.intro⟩, ⟨rfl, rfl, True.intro⟩, ⟨⟨k, rfl, _, get_mapN hq, rfl⟩, ⟨k, rfl, _, get_mapN hq, rfl⟩, True.intro⟩, ⟨rfl, rfl, True.intro⟩, ⟨⟨q, rfl, _, get_mapN hm, rfl⟩, ⟨q, rfl, _, get_mapN hm, rfl⟩, True.intro⟩, ⟨rfl, rfl, True.intro⟩, ⟨rfl, rfl, True.intro⟩, ⟨rfl, True.intro⟩, rfl, True.intro⟩
        refine goT ?_
        exact ⟨trivial, Drops.trans (Drops.nilBoxRow 2 10 1 rfl rfl) (Drops.to [0, 7, 9, 27, 28, 29, 12] rfl)⟩
      · have e2 : ¬ (q : Int) < (k : Int) := of_decide_eq_false h2
        rw [if_neg (by omega)] at hy
        subst hy
        refine goT ?_
        exact ⟨trivial, Drops.to [0, 7, 9, 27, 28, 29, 12] rfl⟩
    refine goT ?_
    refine ⟨k + 1, (es.take (k + 1)).map encE, rfl, by rw [take_snoc he, List.map_append]; rfl, ?_⟩
    refine goT ?_
    exact LoopEnd_fin (k + 1) [0, 7, 9, 27, 28, 29] 1 hX (by omega) (by omega) rfl rfl rfl rfl ⟨cE _, trivial⟩
  · have e1 : ¬ (k : Int) < (out.length : Int) := of_decide_eq_false h1
    obtain rfl : k = out.length := by omega
    repeat (first | ((with_reducible show W _ _ _ _ _ _); first | refine W_seq ?_ | refine W_block ?_ | refine W_region hX ?_ | refine W_cond ?_ | refine W_skip ?_ | refine W_exit ?_) | ((fail_if_success (with_reducible show W _ _ _ _ _ _)); show W _ _ _ _ _ _) | refine andA ?_ | refine condT ?_ | refine condF ?_ | refine exB ?_ | refine exL ?_ | refine Exists.intro _ (And.intro rfl ?_) | refine Exists.intro _ (And.intro (get_mapN (by assumption)) ?_) | ((fail_if_success (with_reducible show LoopEnd _ _ _ _ _ _ _)); show LoopEnd _ _ _ _ _ _ _) | ((fail_if_success (with_reducible show JoinEnd _ _ _ _ _)); show JoinEnd _ _ _ _ _) | ((fail_if_success (with_reducible show JoinG _ _ _ _ _)); show JoinG _ _ _ _ _))
    refine W_freeze hna 0 [4] rfl (fun t ht => by simp at ht; subst ht; rfl) (by rw [List.length_map, List.length_take]; omega) (cE _) True.intro rfl ?_
    refine goT ?_
    rw [← hel, List.take_length]
    rfl
/-! ### plan.Make without rules, and over the small tree; plan.Check of a single member. -/
/-- A member's cells where its bytes are nil. -/
def encENil (x : EntT) : List AV := [.v (.string x.path), .v (.int .i64 x.kind), .v (.string x.target), .v (.int .i64 x.mt.mode), .v (.int .i64 x.mt.uid), .v (.int .i64 x.mt.gid), .v (.string x.mt.user), .v (.string x.mt.group), .v (.int .i64 x.mt.second), .v (.int .i64 x.mt.nano), .v (.slice none 0 0)]
theorem encENil_imp {x : EntT} (h : bytesA x.data = []) : ImpL (encENil x) (encE x) := by
  unfold encENil encE
  rw [h]
  exact ⟨Imp.refl _, Imp.refl _, Imp.refl _, Imp.refl _, Imp.refl _, Imp.refl _, Imp.refl _, Imp.refl _, Imp.refl _, Imp.refl _, Imp.nil 1, trivial⟩
theorem pcheck1_ac (x : EntT) (hg : EntGood x) (h : bytesA x.data = []) : AC CX 19 [.row 11 [encENil x]] (.v (.int .i64 (pchkL [] [x]))) :=
  AC_imp1 (pcheck_ac [x] (fun y hy => by rw [List.mem_singleton] at hy; subst hy; exact hg) (by simp) (by simp)) (Imp.row ⟨encENil_imp h, trivial⟩)
/-- Of a tree's members nothing is amiss. -/
theorem pcheckT_ac {t : List NodeT} (hT : TreeOk t) (ht : t.length ≤ 40) : AC CX 19 [.row 11 ((entsL t).map encE)] (.v (.int .i64 0)) := by
  have hE := ents_ok hT
  have h := pcheck_ac (entsL t) hE.good (ents_nodup hE) (by rw [ents_len]; exact ht)
  rw [pchk_zero hE] at h
  exact h
theorem make0_ac {t : List NodeT} (hT : TreeOk t) (ht : t.length ≤ 40) : AC CX 17 [.row 12 (t.map encNode), .v (.slice none 0 0)] (.tup [.row 11 ((entsL t).map encE), .v (.int .i64 0)]) := by
  have h := make_ac t [] hT ht (by decide) (fun r hr => by cases hr)
  rw [run_all hT (fun n _ => rfl)] at h
  exact AC_imp2 h (Imp.nil 2)
theorem psmall_ex : ∃ s u : List (List AV), u.length = 3 ∧ AC CX 12 [] (.row 12 s) ∧ AC CX 17 [.row 12 s, .v (.slice none 0 0)] (.tup [.row 11 u, .v (.int .i64 0)]) :=
  ⟨_, _, (List.length_map _).trans ((ents_len smallT).trans smallL), small_ac, make0_ac small_tree (by rw [smallL]; decide)⟩
theorem psmallc_len : (runL (takesF [(false, ⟨#[99]⟩)]) smallT).length = 2 := by kernel_rfl
theorem okG_c : okG ⟨#[99]⟩ = true := by kernel_rfl
theorem psmallc_ex : ∃ s u : List (List AV), u.length = 2 ∧ AC CX 12 [] (.row 12 s) ∧ AC CX 17 [.row 12 s, .row 2 [[.v (.bool false), .v (.string ⟨#[99]⟩)]]] (.tup [.row 11 u, .v (.int .i64 0)]) :=
  ⟨_, _, (List.length_map _).trans ((ents_len _).trans psmallc_len), small_ac, make_ac smallT [(false, ⟨#[99]⟩)] small_tree (by rw [smallL]; decide) (by decide) (fun r hr => by rw [List.mem_singleton] at hr; subst hr; exact okG_c)⟩
end Go.Proofs.YtdhikkdkjmeiiaaGreatDoor.Abs
