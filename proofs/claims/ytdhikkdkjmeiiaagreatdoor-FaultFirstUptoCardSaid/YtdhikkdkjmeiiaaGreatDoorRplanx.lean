/- Members: what they are, plan.Check and plan.Make, walked. -/
import Derived.Test.YtdhikkdkjmeiiaaGreatDoorRrun
import Derived.Test.YtdhikkdkjmeiiaaGreatDoorRgroups
import Derived.Test.YtdhikkdkjmeiiaaGreatDoorRanew2
import Derived.Test.YtdhikkdkjmeiiaaGreatDoorRrules
import Derived.Test.YtdhikkdkjmeiiaaGreatDoorRsmall
namespace Go.Proofs.YtdhikkdkjmeiiaaGreatDoor.Abs
open Go.RowKit Go.MapKept
set_option linter.unusedVariables false
set_option linter.unusedSimpArgs false
set_option maxRecDepth 100000
set_option maxHeartbeats 4000000
/-! ### Members of an archive, out of a tree: plain facts. -/
structure EntT where
  path : ByteArray
  kind : Int
  target : ByteArray
  mt : MetaT
  data : ByteArray
deriving DecidableEq
def encE (x : EntT) : List AV := [.v (.string x.path), .v (.int .i64 x.kind), .v (.string x.target), .v (.int .i64 x.mt.mode), .v (.int .i64 x.mt.uid), .v (.int .i64 x.mt.gid), .v (.string x.mt.user), .v (.string x.mt.group), .v (.int .i64 x.mt.second), .v (.int .i64 x.mt.nano), .row 1 (bytesA x.data)]
def entOf (n : NodeT) : EntT := ⟨n.path, n.kind, n.target, n.mt, n.data⟩
/-- The member of node i, whose file's first node is q. -/
def entAt (t : List NodeT) (i : Nat) (n : NodeT) (q : Int) : EntT := if q < (i : Int) then ⟨n.path, 4, (t[q.toNat]?.map (·.path)).getD ⟨#[]⟩, n.mt, ⟨#[]⟩⟩ else entOf n
def entsG (t : List NodeT) : Nat → List NodeT → List Int → List EntT
  | i, n :: l, q :: L => entAt t i n q :: entsG t (i + 1) l L
  | _, _, _ => []
def entsL (t : List NodeT) : List EntT := entsG t 0 t (firstsL t 0 []).1
theorem entsG_len (t : List NodeT) : ∀ (i : Nat) (l : List NodeT) (L : List Int), l.length = L.length → (entsG t i l L).length = l.length
  | _, [], [], _ => rfl
  | _, [], _ :: _, h => by cases h
  | _, _ :: _, [], h => by cases h
  | i, n :: l, q :: L, h => by rw [entsG, List.length_cons, List.length_cons, entsG_len t (i + 1) l L (by simpa using h)]
theorem entsG_at (t : List NodeT) : ∀ (i : Nat) (l : List NodeT) (L : List Int) (k : Nat) (n : NodeT) (q : Int), l[k]? = some n → L[k]? = some q → (entsG t i l L)[k]? = some (entAt t (i + k) n q)
  | _, [], _, k, n, q, h, _ => by simp at h
  | _, _ :: _, [], k, n, q, _, h => by simp at h
  | i, m :: l, p :: L, 0, n, q, h1, h2 => by
    injection h1 with h1
    injection h2 with h2
    subst h1; subst h2
    rfl
  | i, m :: l, p :: L, k + 1, n, q, h1, h2 => by
    rw [entsG, List.getElem?_cons_succ, entsG_at t (i + 1) l L k n q (by simpa using h1) (by simpa using h2), show i + 1 + k = i + (k + 1) by omega]
theorem ents_len (t : List NodeT) : (entsL t).length = t.length := entsG_len t 0 t _ (by rw [(firsts_all t).1])
/-- What a member is: the node itself, or a link to the first one that is the same file. -/
theorem ents_at {t : List NodeT} {i : Nat} {n : NodeT} (hn : t[i]? = some n) : ∃ (q : Nat) (m : NodeT), (firstsL t 0 []).1[i]? = some (q : Int) ∧ IsFirst t i q ∧ t[q]? = some m ∧ (entsL t)[i]? = some (if q < i then ⟨n.path, 4, m.path, n.mt, ⟨#[]⟩⟩ else entOf n) := by
  have hi := (List.getElem?_eq_some_iff.1 hn).1
  obtain ⟨q, h1, h2⟩ := (firsts_all t).2 i hi
  obtain ⟨m, hm⟩ := get_lt (l := t) (k := q) (Nat.lt_of_le_of_lt h2.1 hi)
  refine ⟨q, m, h1, h2, hm, ?_⟩
  have := entsG_at t 0 t (firstsL t 0 []).1 i n q hn h1
  unfold entsL
  rw [this, Nat.zero_add]
  unfold entAt
  by_cases h : q < i
  · rw [if_pos (by omega : (q : Int) < (i : Int)), if_pos h, Int.toNat_natCast, hm]
    rfl
  · rw [if_neg (by omega : ¬ (q : Int) < (i : Int)), if_neg h]
/-! ### What members ask -/
structure EntGood (x : EntT) : Prop where
  path : pathChk x.path = 0
  mt : MetaGood x.mt
  kind : 1 ≤ x.kind ∧ x.kind ≤ 4
  data : x.kind ≠ 1 → x.data = ⟨#[]⟩
  target : x.target = ⟨#[]⟩ ↔ x.kind < 3
  dsize : x.data.size ≤ 2000
  tsize : x.target.size ≤ 400
  link : x.kind = 4 → pathChk x.target = 0
  zero : x.kind ≠ 4 → Lib.indexByte x.target.data.toList 0 < 0
structure EntsOk (l : List EntT) : Prop where
  good : ∀ x ∈ l, EntGood x
  sorted : l.Pairwise fun a b => lessF a.path b.path < 0
  up : ∀ (i : Nat) (x : EntT), l[i]? = some x → upF x.path = ⟨#[]⟩ ∨ ∃ (j : Nat) (y : EntT), j < i ∧ l[j]? = some y ∧ y.path = upF x.path ∧ y.kind = 2
  one : ∀ (i : Nat) (x : EntT), l[i]? = some x → x.kind = 4 → ∃ (j : Nat) (y : EntT), j < i ∧ l[j]? = some y ∧ y.path = x.target ∧ y.kind = 1 ∧ y.mt = x.mt
theorem empty_of_size {s : ByteArray} (h : s.size = 0) : s = ⟨#[]⟩ := by
  apply bytes_ext
  have := size_list s
  rw [h] at this
  rw [List.eq_nil_of_length_eq_zero this]
theorem entOf_good {n : NodeT} (h : NodeGood n) : EntGood (entOf n) := by
  obtain ⟨h1, h2, h3, h4, h5⟩ := h
  have ne : Lib.indexByte (⟨#[]⟩ : ByteArray).data.toList 0 < 0 := by decide
  rcases h5 with ⟨a, b, c⟩ | ⟨a, b, c, d⟩ | ⟨a, b, c, d, e⟩
  · exact ⟨h1, h2, by show 1 ≤ n.kind ∧ n.kind ≤ 4; omega, fun h => absurd a h, ⟨fun _ => by show n.kind < 3; omega, fun _ => b⟩, h3, h4, fun h => by have h : n.kind = 4 := h; omega, fun _ => by show Lib.indexByte n.target.data.toList 0 < 0; rw [b]; exact ne⟩
  · exact ⟨h1, h2, by show 1 ≤ n.kind ∧ n.kind ≤ 4; omega, fun _ => empty_of_size c, ⟨fun _ => by show n.kind < 3; omega, fun _ => b⟩, h3, h4, fun h => by have h : n.kind = 4 := h; omega, fun _ => by show Lib.indexByte n.target.data.toList 0 < 0; rw [b]; exact ne⟩
  · exact ⟨h1, h2, by show 1 ≤ n.kind ∧ n.kind ≤ 4; omega, fun _ => empty_of_size d, ⟨fun h => absurd h b, fun h => by have h : n.kind < 3 := h; omega⟩, h3, h4, fun h => by have h : n.kind = 4 := h; omega, fun _ => c⟩
/-- A node that is a link, and the first one of its file. -/
theorem link_facts {t : List NodeT} (hT : TreeOk t) {i q : Nat} {n m : NodeT} (hn : t[i]? = some n) (hm : t[q]? = some m) (hF : IsFirst t i q) (h : q < i) : n.same ≠ 0 ∧ m.mt = n.mt ∧ m.data = n.data ∧ m.kind = n.kind ∧ m.kind = 1 ∧ m.target = n.target := by
  obtain ⟨_, h2, _⟩ := hF
  rcases h2 with rfl | ⟨h3, h4⟩
  · omega
  · rw [fz_at hn] at h3 h4
    rw [fz_at hm] at h4
    have h5 := hT.one m (List.mem_of_getElem? hm) n (List.mem_of_getElem? hn) h4 (by rw [h4]; exact h3)
    have gm := hT.node m (List.mem_of_getElem? hm)
    have gn := hT.node n (List.mem_of_getElem? hn)
    have k1 := kind_of_same gm (by rw [h4]; exact h3)
    have k2 := kind_of_same gn h3
    have tg : ∀ z : NodeT, NodeGood z → z.kind = 1 → z.target = ⟨#[]⟩ := fun z hz hk => by
      rcases hz.kind with ⟨_, b, _⟩ | ⟨a, _⟩ | ⟨a, _⟩
      · exact b
      · omega
      · omega
    exact ⟨h3, h5.1, h5.2.1, h5.2.2, k1, by rw [tg m gm k1, tg n gn k2]⟩
theorem ents_first {t : List NodeT} {q : Nat} {m : NodeT} {i : Nat} (hF : IsFirst t i q) (hm : t[q]? = some m) : (entsL t)[q]? = some (entOf m) := by
  obtain ⟨q2, m2, _, hF2, _, he⟩ := ents_at hm
  have e := firsts_self hF hF2
  subst e
  rw [he, if_neg (Nat.lt_irrefl _)]
theorem ents_path {t : List NodeT} (hT : TreeOk t) {i : Nat} {n : NodeT} (hn : t[i]? = some n) : ∃ x, (entsL t)[i]? = some x ∧ x.path = n.path ∧ x.mt = n.mt ∧ (x.kind = 2 ↔ n.kind = 2) := by
  obtain ⟨q, m, _, hF, hm, he⟩ := ents_at hn
  by_cases h : q < i
  · rw [if_pos h] at he
    obtain ⟨_, _, _, k1, k2, _⟩ := link_facts hT hn hm hF h
    refine ⟨_, he, rfl, rfl, ?_⟩
    show (4 : Int) = 2 ↔ n.kind = 2
    omega
  · rw [if_neg h] at he
    exact ⟨_, he, rfl, rfl, Iff.rfl⟩
theorem parent_at {t : List NodeT} (hT : TreeOk t) {i : Nat} {n : NodeT} (hn : t[i]? = some n) (hz : upF n.path ≠ ⟨#[]⟩) : ∃ (j : Nat) (m : NodeT), j < i ∧ t[j]? = some m ∧ m.path = upF n.path ∧ m.kind = 2 := by
  obtain ⟨m, hm, h1, h2⟩ := (hT.up n (List.mem_of_getElem? hn)).resolve_left hz
  obtain ⟨j, hj⟩ := List.getElem?_of_mem hm
  have hl := less_up hz
  rw [← h1] at hl
  refine ⟨j, m, ?_, hj, h1, h2⟩
  rcases Nat.lt_trichotomy j i with h | h | h
  · exact h
  · subst h
    rw [hn] at hj
    injection hj with hj
    rw [hj, (lessF_tot.zero _ _).2 rfl] at hl
    exact absurd hl (by decide)
  · have h4 := less_at hT hn hj h
    have h5 := lessF_tot.neg n.path m.path
    omega
theorem ents_ok {t : List NodeT} (hT : TreeOk t) : EntsOk (entsL t) := by
  have hlen := ents_len t
  refine ⟨fun x hx => ?_, ?_, fun i x hx => ?_, fun i x hx hk => ?_⟩
  · obtain ⟨i, hi⟩ := List.getElem?_of_mem hx
    obtain ⟨n, hn⟩ := get_lt (l := t) (k := i) (by rw [← hlen]; exact (List.getElem?_eq_some_iff.1 hi).1)
    obtain ⟨q, m, _, hF, hm, he⟩ := ents_at hn
    have gn := hT.node n (List.mem_of_getElem? hn)
    have gm := hT.node m (List.mem_of_getElem? hm)
    rw [hi] at he
    injection he with he
    subst he
    by_cases h : q < i
    · rw [if_pos h]
      have hmp := gm.path
      refine ⟨gn.path, gn.mt, by show (1 : Int) ≤ 4 ∧ (4 : Int) ≤ 4; decide, fun _ => rfl, ⟨fun h => absurd h (path_ne hmp), fun h => absurd (show (4 : Int) < 3 from h) (by decide)⟩, by show (0 : Nat) ≤ 2000; decide, pathChk_size hmp, fun _ => hmp, fun h => absurd rfl h⟩
    · rw [if_neg h]
      exact entOf_good gn
  · rw [List.pairwise_iff_getElem]
    intro i j hi hj hij
    obtain ⟨a, ha⟩ := get_lt (l := t) (k := i) (by omega)
    obtain ⟨b, hb⟩ := get_lt (l := t) (k := j) (by omega)
    obtain ⟨x, hx, ex, _⟩ := ents_path hT ha
    obtain ⟨y, hy, ey, _⟩ := ents_path hT hb
    obtain ⟨_, e1⟩ := List.getElem?_eq_some_iff.1 hx
    obtain ⟨_, e2⟩ := List.getElem?_eq_some_iff.1 hy
    rw [e1, e2, ex, ey]
    exact less_at hT ha hb hij
  · obtain ⟨n, hn⟩ := get_lt (l := t) (k := i) (by rw [← hlen]; exact (List.getElem?_eq_some_iff.1 hx).1)
    obtain ⟨x', hx', ex, _⟩ := ents_path hT hn
    rw [hx] at hx'
    injection hx' with hx'
    subst hx'
    rw [ex]
    by_cases hz : upF n.path = ⟨#[]⟩
    · exact .inl hz
    · obtain ⟨j, m, h1, h2, h3, h4⟩ := parent_at hT hn hz
      obtain ⟨y, hy, ey, _, ek⟩ := ents_path hT h2
      exact .inr ⟨j, y, h1, hy, ey.trans h3, ek.2 h4⟩
  · obtain ⟨n, hn⟩ := get_lt (l := t) (k := i) (by rw [← hlen]; exact (List.getElem?_eq_some_iff.1 hx).1)
    obtain ⟨q, m, _, hF, hm, he⟩ := ents_at hn
    rw [hx] at he
    injection he with he
    by_cases h : q < i
    · rw [if_pos h] at he
      obtain ⟨_, k0, _, k1, k2, _⟩ := link_facts hT hn hm hF h
      refine ⟨q, entOf m, h, ents_first hF hm, by rw [he]; rfl, k2, by rw [he]; exact k0⟩
    · rw [if_neg h] at he
      exfalso
      have gn := hT.node n (List.mem_of_getElem? hn)
      rw [he] at hk
      have hk : n.kind = 4 := hk
      rcases gn.kind with ⟨a, _⟩ | ⟨a, _⟩ | ⟨a, _⟩ <;> omega
/-! ### A tree out of members -/
def growL (t : List NodeT) (L : List Int) (k : Nat) : List NodeT := List.zipWith (anewN (L.take k)) (t.take k) (L.take k)
theorem grow_len {t : List NodeT} {L : List Int} (hL : L.length = t.length) (k : Nat) (hk : k ≤ t.length) : (growL t L k).length = k := by
  unfold growL
  rw [List.length_zipWith, List.length_take, List.length_take]
  omega
theorem grow_at {t : List NodeT} {L : List Int} {k j : Nat} (hj : j < k) {x : NodeT} {q : Int} (hx : t[j]? = some x) (hq : L[j]? = some q) : (growL t L k)[j]? = some (anewN (L.take k) x q) := by
  unfold growL
  rw [List.getElem?_zipWith, List.getElem?_take, if_pos hj, List.getElem?_take, if_pos hj, hx, hq]
theorem count_take {L : List Int} {k : Nat} {q p : Int} (hq : L[k]? = some q) : countL (L.take (k + 1)) p = if q = p then countL (L.take k) p + 1 else countL (L.take k) p := by
  unfold countL
  rw [take_snoc hq, List.count_append, List.count_singleton]
  by_cases h : q = p
  · subst h; simp
  · have hb : (q == p) = false := by simpa using h
    rw [if_neg h, hb]
    simp
theorem mem_count {L : List Int} {p : Int} (h : p ∈ L) : 1 ≤ countL L p := by
  have := List.count_pos_iff.2 h
  unfold countL
  omega
theorem not_mem_count {L : List Int} {p : Int} (h : p ∉ L) : countL L p = 0 := by
  unfold countL
  rw [List.count_eq_zero_of_not_mem h]
  rfl
section
variable {t : List NodeT} {L : List Int} (hL : FirstsOf t L) {k : Nat} {x : NodeT}
include hL
theorem lt_first {j : Nat} {q : Int} (hq : L[j]? = some q) : 0 ≤ q ∧ q ≤ (j : Int) := by
  have hj := (List.getElem?_eq_some_iff.1 hq).1
  rw [hL.len] at hj
  obtain ⟨q', h1, h2⟩ := hL.at_ j hj
  rw [hq] at h1
  injection h1 with h1
  have := h2.1
  omega
/-- A file's first node. -/
theorem grow_first (hx : t[k]? = some x) (hq : L[k]? = some (k : Int)) : growL t L (k + 1) = growL t L k ++ [{ x with same := 0 }] := by
  have hk := (List.getElem?_eq_some_iff.1 hx).1
  have hno : (k : Int) ∉ L.take k := fun h => by
    obtain ⟨j, hj⟩ := List.getElem?_of_mem h
    rw [List.getElem?_take] at hj
    split at hj
    · have := lt_first hL hj
      omega
    · cases hj
  apply List.ext_getElem?
  intro j
  rcases Nat.lt_trichotomy j k with h | h | h
  · obtain ⟨y, hy⟩ := get_lt (l := t) (k := j) (by omega)
    obtain ⟨p, hp⟩ := get_lt (l := L) (k := j) (by rw [hL.len]; omega)
    rw [List.getElem?_append_left (by rw [grow_len hL.len k (by omega)]; exact h), grow_at (by omega) hy hp, grow_at h hy hp]
    unfold anewN
    have hpk := lt_first hL hp
    rw [count_take (p := p) hq, if_neg (show ¬ (k : Int) = p by omega)]
  · subst h
    rw [grow_at (by omega) hx hq, List.getElem?_append_right (by rw [grow_len hL.len j (by omega)]; exact Nat.le_refl _), grow_len hL.len j (by omega), Nat.sub_self]
    unfold anewN
    rw [count_take hq, if_pos rfl, not_mem_count hno]
    rfl
  · rw [List.getElem?_eq_none (by rw [grow_len hL.len _ (by omega)]; omega), List.getElem?_eq_none (by rw [List.length_append, grow_len hL.len k (by omega)]; simp; omega)]
/-- One more name of a file. -/
theorem grow_link {q : Nat} {m : NodeT} (hx : t[k]? = some x) (hq : L[k]? = some (q : Int)) (hlt : q < k) (hm : t[q]? = some m) (hqq : L[q]? = some (q : Int)) : (∃ s, (growL t L k)[q]? = some { m with same := s }) ∧ growL t L (k + 1) = (growL t L k).set q { m with same := (q : Int) + 1 } ++ [{ x with same := (q : Int) + 1 }] := by
  have hk := (List.getElem?_eq_some_iff.1 hx).1
  have hmem : (q : Int) ∈ L.take k := List.mem_of_getElem? (i := q) (by rw [List.getElem?_take, if_pos hlt]; exact hqq)
  have hc := mem_count hmem
  refine ⟨⟨_, grow_at hlt hm hqq⟩, ?_⟩
  apply List.ext_getElem?
  intro j
  rcases Nat.lt_trichotomy j k with h | h | h
  · obtain ⟨y, hy⟩ := get_lt (l := t) (k := j) (by omega)
    obtain ⟨p, hp⟩ := get_lt (l := L) (k := j) (by rw [hL.len]; omega)
    rw [List.getElem?_append_left (by rw [List.length_set, grow_len hL.len k (by omega)]; exact h), grow_at (by omega) hy hp, List.getElem?_set]
    by_cases hjq : q = j
    · subst hjq
      rw [if_pos rfl, grow_len hL.len k (by omega), if_pos hlt]
      rw [hm] at hy
      injection hy with hy
      subst hy
      rw [hqq] at hp
      injection hp with hp
      subst hp
      unfold anewN
      rw [count_take hq, if_pos rfl, if_pos (by omega)]
    · rw [if_neg hjq, grow_at h hy hp]
      unfold anewN
      by_cases hpq : (q : Int) = p
      · subst hpq
        have h2 : 2 ≤ countL (L.take k) (q : Int) := by
          have := (count_two (L := L.take k) (i := q) (q := (q : Int)) (by rw [List.getElem?_take, if_pos hlt]; exact hqq)).2 ⟨j, fun e => hjq e.symm, by rw [List.getElem?_take, if_pos h]; exact hp⟩
          omega
        rw [count_take hq, if_pos rfl, if_pos (by omega), if_pos (by omega)]
      · rw [count_take hq, if_neg hpq]
  · subst h
    rw [grow_at (by omega) hx hq, List.getElem?_append_right (by rw [List.length_set, grow_len hL.len j (by omega)]; exact Nat.le_refl _), List.length_set, grow_len hL.len j (by omega), Nat.sub_self]
    unfold anewN
    rw [count_take hq, if_pos rfl, if_pos (by omega)]
    rfl
  · rw [List.getElem?_eq_none (by rw [grow_len hL.len _ (by omega)]; omega), List.getElem?_eq_none (by rw [List.length_append, List.length_set, grow_len hL.len k (by omega)]; simp; omega)]
theorem grow_all : growL t L t.length = List.zipWith (anewN L) t L := by
  unfold growL
  rw [List.take_length, ← hL.len, List.take_length]
end
/-! ### Members: plan.Check and plan.Make, walked. -/
/-! ### Members: what plan.Check says, plainly. -/
def lookE (l : List EntT) (s : ByteArray) : Option EntT := l.find? fun x => decide (x.path = s)
def pPrevBad (pre : List EntT) (x : EntT) : Bool := match pre.getLast? with
  | some p => decide (compareF p.path x.path ≥ 0)
  | none => false
def isDirE (pre : List EntT) (s : ByteArray) : Bool := match lookE pre s with
  | some f => decide (f.kind = 2)
  | none => false
def pUpBad (pre : List EntT) (x : EntT) : Bool := !decide (upF x.path = ⟨#[]⟩) && !isDirE pre (upF x.path)
def isFileE (pre : List EntT) (x : EntT) : Bool := match lookE pre x.target with
  | some f => decide (f.kind = 1) && decide (f.mt = x.mt)
  | none => false
def pLinkBad (pre : List EntT) (x : EntT) : Bool := decide (x.kind = 4) && !isFileE pre x
def pchkL (pre : List EntT) : List EntT → Int
  | [] => 0
  | x :: rest => if pPrevBad pre x = true then 6 else if pUpBad pre x = true then 10 else if pLinkBad pre x = true then 11 else pchkL (pre ++ [x]) rest
def kvE (x : EntT) : Value × AV := (.string x.path, .agg (encE x))
theorem keyEq_str (a b : ByteArray) : keyEq (.string a) (.string b) = decide (a = b) := by
  rw [Bool.eq_iff_iff, decide_eq_true_eq]
  show (a == b) = true ↔ a = b
  constructor
  · intro h
    cases a with
    | mk a => cases b with
      | mk b =>
        have h : (a == b) = true := h
        rw [eq_of_beq h]
  · rintro rfl
    cases a with
    | mk a =>
      show (a == a) = true
      exact beq_self_eq_true a
theorem kvE_at {s : ByteArray} : ∀ {m : List EntT}, kvFind (.string s) (m.map kvE) = (lookE m s).map fun x => .agg (encE x)
  | [] => rfl
  | x :: m => by
    have ih := kvE_at (s := s) (m := m)
    unfold lookE at ih ⊢
    rw [List.map_cons, kvE, kvFind, keyEq_str]
    by_cases h : s = x.path
    · rw [decide_eq_true h, if_pos rfl, List.find?_cons_of_pos (by rw [h]; exact decide_eq_true rfl)]
      rfl
    · rw [List.find?_cons_of_neg (by intro hh; exact h (of_decide_eq_true hh).symm), decide_eq_false h, if_neg (by decide), ih]
theorem kvSetE_none {x : EntT} : ∀ {m : List EntT}, lookE m x.path = none → kvSet (.string x.path) (.agg (encE x)) (m.map kvE) = (m ++ [x]).map kvE
  | [], _ => rfl
  | y :: m, h => by
    have h1 : ¬ y.path = x.path := fun e => by
      unfold lookE at h
      rw [List.find?_cons_of_pos (by exact decide_eq_true e)] at h
      cases h
    have h2 : lookE m x.path = none := by
      unfold lookE at h ⊢
      rw [List.find?_cons_of_neg (by intro hh; exact h1 (of_decide_eq_true hh))] at h
      exact h
    rw [List.map_cons, List.cons_append, List.map_cons, ← kvSetE_none h2]
    show (if keyEq (.string x.path) (.string y.path) = true then _ else _) = _
    rw [keyEq_str, decide_eq_false (fun h => h1 h.symm), if_neg (by decide)]
    rfl
theorem look_take {l : List EntT} (hn : (l.map (·.path)).Nodup) {j k : Nat} {y : EntT} (hj : l[j]? = some y) (hjk : j < k) : lookE (l.take k) y.path = some y := by
  unfold lookE
  cases hf : (l.take k).find? (fun x => decide (x.path = y.path)) with
  | none =>
    have := List.find?_eq_none.1 hf y (List.mem_of_getElem? (i := j) (by rw [List.getElem?_take, if_pos hjk]; exact hj))
    simp at this
  | some z =>
    have hz0 := List.find?_some hf
    have hz1 : z.path = y.path := of_decide_eq_true hz0
    have hz2 := List.mem_of_mem_take (List.mem_of_find?_eq_some hf)
    have : ∀ (l : List EntT), (l.map (·.path)).Nodup → ∀ a ∈ l, ∀ b ∈ l, a.path = b.path → a = b := by
      intro l
      induction l with
      | nil => intro _ a ha; cases ha
      | cons c l ih =>
        intro hn a ha b hb e
        rw [List.map_cons, List.nodup_cons] at hn
        rcases List.mem_cons.1 ha with e1 | ha' <;> rcases List.mem_cons.1 hb with e2 | hb'
        · rw [e1, e2]
        · subst e1; exact absurd (List.mem_map.2 ⟨b, hb', e.symm⟩) hn.1
        · subst e2; exact absurd (List.mem_map.2 ⟨a, ha', e⟩) hn.1
        · exact ih hn.2 a ha' b hb' e
    rw [this l hn z hz2 y (List.mem_of_getElem? hj) hz1]
theorem look_new {l : List EntT} (hn : (l.map (·.path)).Nodup) {k : Nat} {x : EntT} (hk : l[k]? = some x) : lookE (l.take k) x.path = none := by
  unfold lookE
  rw [List.find?_eq_none]
  intro y hy h
  have h := of_decide_eq_true h
  obtain ⟨j, hj⟩ := List.getElem?_of_mem hy
  rw [List.getElem?_take] at hj
  split at hj
  · rename_i hjk
    have e1 : (l.map (·.path))[j]? = some y.path := by rw [List.getElem?_map, hj]; rfl
    have e2 : (l.map (·.path))[k]? = some y.path := by rw [List.getElem?_map, hk, h]; rfl
    obtain ⟨q1, q2⟩ := List.getElem?_eq_some_iff.1 e1
    obtain ⟨q3, q4⟩ := List.getElem?_eq_some_iff.1 e2
    have := (List.getElem_inj hn).1 (q2.trans q4.symm)
    omega
  · cases hj
theorem ents_nodup {l : List EntT} (h : EntsOk l) : (l.map (·.path)).Nodup := by
  rw [List.Nodup, List.pairwise_map]
  exact h.sorted.imp fun {a b} hab e => by
    have := (lessF_tot.zero a.path b.path).2 e
    omega
theorem pchk_ok {l : List EntT} (h : EntsOk l) : ∀ d k : Nat, k + d = l.length → pchkL (l.take k) (l.drop k) = 0
  | 0, k, hd => by rw [List.drop_eq_nil_of_le (by omega), pchkL]
  | d + 1, k, hd => by
    obtain ⟨x, hx⟩ := get_lt (l := l) (k := k) (by omega)
    have hg := h.good x (List.mem_of_getElem? hx)
    have hn := ents_nodup h
    have hpb : pPrevBad (l.take k) x = false := by
      unfold pPrevBad
      by_cases hk : k = 0
      · subst hk; rfl
      · obtain ⟨y, hy⟩ := get_lt (l := l) (k := k - 1) (by omega)
        have hgy := h.good y (List.mem_of_getElem? hy)
        rw [last_take (by omega) (by omega), hy]
        dsimp only
        rw [compare_less hgy.path hg.path]
        have h1 := List.pairwise_iff_getElem.1 h.sorted (k - 1) k (by omega) (by omega) (by omega)
        obtain ⟨q1, q2⟩ := List.getElem?_eq_some_iff.1 hy
        obtain ⟨q3, q4⟩ := List.getElem?_eq_some_iff.1 hx
        rw [q2, q4] at h1
        exact decide_eq_false (by omega)
    have hub : pUpBad (l.take k) x = false := by
      unfold pUpBad isDirE
      rcases h.up k x hx with hz | ⟨j, y, h1, h2, h3, h4⟩
      · rw [decide_eq_true hz]; rfl
      · rw [← h3, look_take hn h2 h1]
        dsimp only
        rw [decide_eq_true h4, Bool.not_true, Bool.and_false]
    have hlb : pLinkBad (l.take k) x = false := by
      unfold pLinkBad isFileE
      by_cases hk4 : x.kind = 4
      · obtain ⟨j, y, h1, h2, h3, h4, h5⟩ := h.one k x hx hk4
        rw [← h3, look_take hn h2 h1]
        dsimp only
        rw [decide_eq_true h4, decide_eq_true h5]
        simp
      · rw [decide_eq_false hk4, Bool.false_and]
    rw [drop_at hx, pchkL, hpb, if_neg (by decide), hub, if_neg (by decide), hlb, if_neg (by decide), ← take_snoc hx]
    exact pchk_ok h d (k + 1) (by omega)
theorem pchk_zero {l : List EntT} (h : EntsOk l) : pchkL [] l = 0 := by
  have := pchk_ok h l.length 0 (by omega)
  rwa [List.take_zero, List.drop_zero] at this
/-! ### plan.Right and plan.Check, walked. -/
theorem pright_ac (x : EntT) (h : EntGood x) : AC CX 51 [.agg (encE x)] (.v (.int .i64 0)) := by
  obtain ⟨b1, b2, b3, b4, b5, b6, b7, b8, b9⟩ := h
  have hp := pathChk_size b1
  have hd : x.kind ≠ 1 → ((bytesA x.data).length : Int) = 0 := fun h => by rw [b4 h]; rfl
  have hdl : (bytesA x.data).length = x.data.size := bytesA_len _
  refine AC_walk ⟨TB, 63, 0, [], []⟩ (fn := Tryz.f51) TB_ok Tryz.func51 rfl rfl rfl rfl rfl (fun _ => rfl) (fun _ => rfl) ?_; intro E hna hX
  refine goT ?_
  refine ⟨_, pathCheck_ac x.path (by omega), by kernel_rfl, fun _ => rfl, ?_⟩
  rw [b1]
  refine goT ?_
  refine ⟨_, metaCheck_ac x.mt b2, by kernel_rfl, fun _ => rfl, ?_⟩
  refine goT ?_
  by_cases k3 : x.kind < 3
  · have ht : x.target = ⟨#[]⟩ := b5.2 k3
    have hz := b9 (by omega)
    have hc : (!((!decide (x.target = ⟨#[]⟩)) == decide (x.kind ≥ 3))) = false := by rw [decide_eq_true ht, decide_eq_false (by omega)]; rfl
    clear b4 b5 b8 b9
    by_cases k1 : x.kind = 1
    · clear hd
      refine goT ?_
      refine ⟨_, indexByte_ac x.target 0, by kernel_rfl, fun _ => rfl, ?_⟩
      refine goT ?_
      rfl
    · have hd := hd k1
      refine goT ?_
      refine ⟨_, indexByte_ac x.target 0, by kernel_rfl, fun _ => rfl, ?_⟩
      refine goT ?_
      rfl
  · have ht : ¬ x.target = ⟨#[]⟩ := fun e => k3 (b5.1 e)
    have hd := hd (by omega)
    have hc : (!((!decide (x.target = ⟨#[]⟩)) == decide (x.kind ≥ 3))) = false := by rw [decide_eq_false ht, decide_eq_true (by omega)]; rfl
    by_cases k4 : x.kind = 4
    · have ht4 := b8 k4
      clear b4 b5 b8 b9
      refine goT ?_
      refine ⟨_, pathCheck_ac x.target (by omega), by kernel_rfl, fun _ => rfl, ?_⟩
      rw [ht4]
      refine goT ?_
      rfl
    · have hz := b9 k4
      clear b4 b5 b8 b9
      refine goT ?_
      refine ⟨_, indexByte_ac x.target 0, by kernel_rfl, fun _ => rfl, ?_⟩
      refine goT ?_
      rfl
theorem cKE (m : List EntT) : ClosedK (m.map kvE) := fun j => avoids_kv (fun _ => rfl) m
theorem pcheck_ac (xs : List EntT) (hg : ∀ x ∈ xs, EntGood x) (hd : (xs.map (·.path)).Nodup) (hl : xs.length ≤ 40) : AC CX 19 [.row 11 (xs.map encE)] (.v (.int .i64 (pchkL [] xs))) := by
  refine AC_walk ⟨TB, 75, 0, [], []⟩ (fn := Tryz.f19) TB_ok Tryz.func19 rfl rfl rfl rfl rfl (fun _ => rfl) (fun _ => rfl) ?_; intro E hna hX
  refine goT ?_
  refine W_loop (fun k : Nat => k ≤ xs.length ∧ pchkL [] xs = pchkL (xs.take k) (xs.drop k)) (fun k => xs.length - k) (fun k => ⟨[(0, .row 11 (xs.map encE)), (3, .mp 0), (13, .row 11 (xs.map encE)), (14, .v (.int .i64 xs.length)), (15, .v (.int .i64 k))], [.map .string ((xs.take k).map kvE)]⟩) 0 ⟨Nat.zero_le _, rfl⟩ (Drops.to [0, 3, 13, 14, 15] rfl) ?_
  rintro k ⟨hk, he⟩
  refine goT ?_
  refine condB_intro (fun h2 => ?_) (fun h2 => ?_)
  · have e2 : (k : Int) < (xs.length : Int) := of_decide_eq_true h2
    obtain ⟨x, hx⟩ := get_lt (l := xs) (k := k) (by omega)
    have hgx := hg x (List.mem_of_getElem? hx)
    have hpx := pathChk_size hgx.path
    rw [drop_at hx, pchkL] at he
    refine goT ?_
    refine ⟨_, pright_ac x hgx, by kernel_rfl, fun _ => rfl, ?_⟩
    refine goT ?_
    refine W_join True ⟨[(0, .row 11 (xs.map encE)), (3, .mp 0), (5, .ptr 1 0), (13, .row 11 (xs.map encE)), (14, .v (.int .i64 xs.length)), (15, .v (.int .i64 k)), (38, .v (.bool (pPrevBad (xs.take k) x)))], [.map .string ((xs.take k).map kvE), .cells 51 (encE x)]⟩ ?_ fun _ => ?_
    · refine W_draw hX (n := 14) (follows_mixed Tryz.checked) (ws := [[], [(0, 25)], [(1, 26)], [(2, 27)], [(2, 27)], [(2, 27), (4, 29)], [(2, 27), (3, 28), (5, 30)], [(2, 27), (6, 31)], [(2, 27), (7, 32)], [(2, 27)], [(2, 27), (9, 34)], [(2, 27), (8, 33), (10, 35)], [(2, 27), (11, 36)], [(2, 27), (12, 37)]]) (ds := [25, 26, 27, 28, 29, 30, 31, 32, 33, 34, 35, 36, 37, 38]) (bi := []) (wa := [(0, 25), (1, 26), (2, 27), (3, 28), (4, 29), (5, 30), (6, 31), (7, 32), (8, 33), (9, 34), (10, 35), (11, 36), (12, 37), (13, 38)]) ⟨by kernel_rfl, by kernel_rfl, by kernel_rfl, by kernel_rfl, by decide, by kernel_rfl, by kernel_rfl, rfl, by decide, rfl⟩ ?_
      refine goT ?_
      refine condB_intro (fun h3 => ?_) (fun h3 => ?_)
      · have e3 : (k : Int) > 0 := of_decide_eq_true h3
        obtain ⟨y, hy⟩ := get_lt (l := xs) (k := k - 1) (by omega)
        have hgy := hg y (List.mem_of_getElem? hy)
        have hpy := pathChk_size hgy.path
        have hpb : pPrevBad (xs.take k) x = decide (compareF y.path x.path ≥ 0) := by
          unfold pPrevBad
          rw [last_take hk (by omega), hy]
        refine goT ?_
        refine ⟨k - 1, by omega, _, get_mapN hy, ?_⟩
        refine goT ?_
        refine ⟨_, compare_ac y.path x.path (by omega) (by omega), by kernel_rfl, fun _ => rfl, ?_⟩
        refine goT ?_
        exact ⟨trivial, Drops.to [0, 3, 5, 13, 14, 15, 38] (by rw [hpb]; rfl)⟩
      · have hpb : pPrevBad (xs.take k) x = false := by
          have : k = 0 := by have := of_decide_eq_false h3; omega
          subst this
          rfl
        refine goT ?_
        exact ⟨trivial, Drops.to [0, 3, 5, 13, 14, 15, 38] (by rw [hpb]; rfl)⟩
    refine goT ?_
    refine condB_intro (fun h4 => ?_) (fun h4 => ?_)
    · refine goT ?_
      rw [he, if_pos h4]
      rfl
    rw [if_neg (by rw [h4]; decide)] at he
    refine goT ?_
    refine ⟨_, up_ac x.path (by omega), by kernel_rfl, fun _ => rfl, ?_⟩
    repeat (first | ((with_reducible show W _ _ _ _ _ _); first | refine W_seq ?_ | refine W_block ?_ | refine W_regionB hX 13 rfl ?_ | refine W_cond ?_ | refine W_skip ?_ | refine W_exit ?_ | refine W_ret ?_) | ((fail_if_success (with_reducible show W _ _ _ _ _ _)); show W _ _ _ _ _ _) | refine andA ?_ | refine condT ?_ | refine condF ?_ | refine exB ?_ | refine exL ?_ | refine Exists.intro _ (And.intro rfl ?_) | refine Exists.intro _ (And.intro (get_mapN (by assumption)) ?_) | ((fail_if_success (with_reducible show LoopEnd _ _ _ _ _ _ _)); show LoopEnd _ _ _ _ _ _ _) | ((fail_if_success (with_reducible show JoinEnd _ _ _ _ _)); show JoinEnd _ _ _ _ _) | ((fail_if_success (with_reducible show JoinG _ _ _ _ _)); show JoinG _ _ _ _ _))
    refine W_join True ⟨[(0, .row 11 (xs.map encE)), (3, .mp 0), (5, .ptr 1 0), (13, .row 11 (xs.map encE)), (14, .v (.int .i64 xs.length)), (15, .v (.int .i64 k)), (50, .v (.bool (pUpBad (xs.take k) x)))], [.map .string ((xs.take k).map kvE), .cells 51 (encE x)]⟩ ?_ fun _ => ?_
    · by_cases h5 : upF x.path = ⟨#[]⟩
      · have hub : pUpBad (xs.take k) x = false := by unfold pUpBad; rw [decide_eq_true h5]; rfl
        refine goT ?_
        exact ⟨trivial, Drops.to [0, 3, 5, 13, 14, 15, 50] (by rw [hub]; rfl)⟩
      · cases hlk : lookE (xs.take k) (upF x.path) with
        | none =>
          have hkv : ∀ z, (kvFind (.string (upF x.path)) ((xs.take k).map kvE)).getD z = z := fun z => by rw [kvE_at, hlk]; rfl
          have hub : pUpBad (xs.take k) x = true := by unfold pUpBad isDirE; rw [hlk, decide_eq_false h5]; rfl
          refine goT ?_
          rw [hkv]
          refine goT ?_
          exact ⟨trivial, Drops.to [0, 3, 5, 13, 14, 15, 50] (by rw [hub]; rfl)⟩
        | some f =>
          have hkv : ∀ z, (kvFind (.string (upF x.path)) ((xs.take k).map kvE)).getD z = .agg (encE f) := fun z => by rw [kvE_at, hlk]; rfl
          have hub : pUpBad (xs.take k) x = !decide (f.kind = 2) := by unfold pUpBad isDirE; rw [hlk, decide_eq_false h5]; rfl
          refine goT ?_
          rw [hkv]
          refine goT ?_
          exact ⟨trivial, Drops.to [0, 3, 5, 13, 14, 15, 50] (by rw [hub]; rfl)⟩
    refine goT ?_
    refine condB_intro (fun h6 => ?_) (fun h6 => ?_)
    · refine goT ?_
      rw [he, if_pos h6]
      rfl
    rw [if_neg (by rw [h6]; decide)] at he
    have hset := kvSetE_none (look_new hd hx)
    rw [← take_snoc hx] at hset
    by_cases hk4 : x.kind = 4
    · cases hlk : lookE (xs.take k) x.target with
      | none =>
        have hkv : ∀ z, (kvFind (.string x.target) ((xs.take k).map kvE)).getD z = z := fun z => by rw [kvE_at, hlk]; rfl
        have hlb : pLinkBad (xs.take k) x = true := by unfold pLinkBad isFileE; rw [hlk, decide_eq_true hk4]; rfl
        rw [if_pos hlb] at he
        refine goT ?_
        rw [hkv]
        refine goT ?_
        rw [he]
        rfl
      | some f =>
        have hkv : ∀ z, (kvFind (.string x.target) ((xs.take k).map kvE)).getD z = .agg (encE f) := fun z => by rw [kvE_at, hlk]; rfl
        have hlb : pLinkBad (xs.take k) x = !(decide (f.kind = 1) && decide (f.mt = x.mt)) := by unfold pLinkBad isFileE; rw [hlk, decide_eq_true hk4]; rfl
        by_cases hf1 : f.kind = 1
        · rw [decide_eq_true hf1, Bool.true_and] at hlb
          rw [hlb] at he
          clear hlb
          refine goT ?_
          rw [hkv]
          refine goT ?_
          refine condB_intro (fun h8 => ?_) (fun h8 => ?_)
          · have e8 : decide (f.mt = x.mt) = false := metaEq.symm.trans ((Bool.not_eq_true' _).mp h8)
            rw [e8, if_pos (show (!false) = true from rfl)] at he
            refine goT ?_
            rw [he]
            rfl
          · have e8 : decide (f.mt = x.mt) = true := metaEq.symm.trans ((Bool.not_eq_false' _).mp h8)
            rw [e8, if_neg (by decide)] at he
            refine goT ?_
            refine ⟨(xs.take (k + 1)).map kvE, ⟨hset⟩, ?_⟩
            refine goT ?_
            exact LoopEnd_fin (k + 1) [0, 3, 13, 14, 15] 1 hX ⟨by omega, by rw [take_snoc hx]; exact he⟩ (by omega) rfl rfl rfl rfl ⟨cKE _, trivial⟩
        · rw [decide_eq_false hf1, Bool.false_and, Bool.not_false] at hlb
          rw [if_pos hlb] at he
          refine goT ?_
          rw [hkv]
          refine goT ?_
          rw [he]
          rfl
    · have hlb : pLinkBad (xs.take k) x = false := by unfold pLinkBad; rw [decide_eq_false hk4]; rfl
      rw [if_neg (by rw [hlb]; decide)] at he
      cases hlk : lookE (xs.take k) x.target with
      | none =>
        have hkv : ∀ z, (kvFind (.string x.target) ((xs.take k).map kvE)).getD z = z := fun z => by rw [kvE_at, hlk]; rfl
        refine goT ?_
        rw [hkv]
        refine goT ?_
        refine ⟨(xs.take (k + 1)).map kvE, ⟨hset⟩, ?_⟩
        refine goT ?_
        exact LoopEnd_fin (k + 1) [0, 3, 13, 14, 15] 1 hX ⟨by omega, by rw [take_snoc hx]; exact he⟩ (by omega) rfl rfl rfl rfl ⟨cKE _, trivial⟩
      | some f =>
        have hkv : ∀ z, (kvFind (.string x.target) ((xs.take k).map kvE)).getD z = .agg (encE f) := fun z => by rw [kvE_at, hlk]; rfl
        refine goT ?_
        rw [hkv]
        refine goT ?_
        refine ⟨(xs.take (k + 1)).map kvE, ⟨hset⟩, ?_⟩
        refine goT ?_
        exact LoopEnd_fin (k + 1) [0, 3, 13, 14, 15] 1 hX ⟨by omega, by rw [take_snoc hx]; exact he⟩ (by omega) rfl rfl rfl rfl ⟨cKE _, trivial⟩
  · have e2 : ¬ (k : Int) < (xs.length : Int) := of_decide_eq_false h2
    obtain rfl : k = xs.length := by omega
    refine goT ?_
    rw [he, List.drop_length]
    rfl
/-! ### plan.Make, walked. -/
theorem cE (l : List EntT) : ClosedE (l.map encE) := ClosedE_map (fun _ _ => rfl) l
def linkOf (x : NodeT) (p : ByteArray) : EntT := ⟨x.path, 4, p, x.mt, ⟨#[]⟩⟩
theorem make_ac (t : List NodeT) (rs : List RuleT) (hT : TreeOk t) (ht : t.length ≤ 40) (hl : rs.length ≤ 12) (ha : ∀ r ∈ rs, okG r.2 = true) : AC CX 17 [.row 12 (t.map encNode), .row 2 (rs.map encRule)] (.tup [.row 11 ((entsL (runL (takesF rs) t)).map encE), .v (.int .i64 0)]) := by
  have hrun := frun_ac t rs hT (by omega) (by omega) ha
  have hTo := run_tree hT (takesF rs)
  have hol := (runL_sub (takesF rs) t).length_le
  generalize runL (takesF rs) t = out at hrun hTo hol
  have hfi := firsts_ac out hTo.node (by omega) (check_tree hTo (by omega))
  have hel := ents_len out
  have hfl := (firsts_all out).1
  have hat : ∀ (i : Nat) (n : NodeT), out[i]? = some n → ∃ (q : Nat) (m : NodeT), (firstsL out 0 []).1[i]? = some (q : Int) ∧ q ≤ i ∧ out[q]? = some m ∧ (entsL out)[i]? = some (if q < i then linkOf n m.path else entOf n) := fun i n hn => by
    obtain ⟨q, m, h1, h2, h3, h4⟩ := ents_at hn
    exact ⟨q, m, h1, h2.1, h3, h4⟩
  generalize (firstsL out 0 []).1 = L at hfi hfl hat
  generalize entsL out = es at hel hat
  refine AC_walk ⟨TB, 68, 0, [], []⟩ (fn := Tryz.f17) TB_ok Tryz.func17 rfl rfl rfl rfl rfl (fun _ => rfl) (fun _ => rfl) ?_; intro E hna hX
  refine goT ?_
  refine ⟨_, hrun, by kernel_rfl, fun _ => rfl, ?_⟩
  refine goT ?_
  refine ⟨_, hfi, by kernel_rfl, fun _ => rfl, ?_⟩
  repeat (first | ((with_reducible show W _ _ _ _ _ _); first | refine W_seq ?_ | refine W_region hX ?_ | refine W_cond ?_ | refine W_skip ?_ | refine W_exit ?_ | refine W_ret ?_) | ((fail_if_success (with_reducible show W _ _ _ _ _ _)); show W _ _ _ _ _ _) | refine andA ?_ | refine condT ?_ | refine condF ?_ | refine exB ?_ | refine exL ?_ | refine Exists.intro _ (And.intro rfl ?_) | refine Exists.intro _ (And.intro (get_mapN (by assumption)) ?_) | ((fail_if_success (with_reducible show LoopEnd _ _ _ _ _ _ _)); show LoopEnd _ _ _ _ _ _ _) | ((fail_if_success (with_reducible show JoinEnd _ _ _ _ _)); show JoinEnd _ _ _ _ _) | ((fail_if_success (with_reducible show JoinG _ _ _ _ _)); show JoinG _ _ _ _ _))
  refine W_nilOwn hX 9 51 11 rfl rfl ?_
  refine goT ?_
  refine W_loop (fun k : Nat => k ≤ out.length) (fun k => out.length - k) (fun k => ⟨[(0, .row 12 (out.map encNode)), (7, .row 1 (L.map encI)), (9, .own 0 11 0 k), (27, .row 12 (out.map encNode)), (28, .v (.int .i64 out.length)), (29, .v (.int .i64 k))], [.row 51 11 ((es.take k).map encE)]⟩) 0 (Nat.zero_le _) (Drops.to [0, 7, 9, 27, 28, 29] rfl) ?_
  intro k hk
  refine goT ?_
  refine condB_intro (fun h1 => ?_) (fun h1 => ?_)
  · have e1 : (k : Int) < (out.length : Int) := of_decide_eq_true h1
    obtain ⟨x, hx⟩ := get_lt (l := out) (k := k) (by omega)
    obtain ⟨q, m, hq, hqk, hm, he⟩ := hat k x hx
    have hkl : (es.take k).length = k := by rw [List.length_take]; omega
    refine goT ?_
    obtain ⟨y, hy⟩ : ∃ y, y = (if q < k then linkOf x m.path else entOf x) := ⟨_, rfl⟩
    rw [← hy] at he
    refine cnd_join True ⟨[(0, .row 12 (out.map encNode)), (7, .row 1 (L.map encI)), (9, .own 0 11 0 k), (27, .row 12 (out.map encNode)), (28, .v (.int .i64 out.length)), (29, .v (.int .i64 k)), (12, .ptr 2 0)], [.row 51 11 ((es.take k).map encE), .cells 40 (encNode x), .cells 51 (encE y)]⟩ ?_ fun _ => ?_
    · refine condB_intro (fun h2 => ?_) (fun h2 => ?_)
      · have e2 : (q : Int) < (k : Int) := of_decide_eq_true h2
        rw [if_pos (by omega)] at hy
        subst hy
        refine goT ?_
        refine W_drawS hX (n := 10) (follows_mixed Tryz.checked) 10 [.row 12 (out.map encNode), .row 1 (L.map encI), .v (.int .i64 k), .eptr (encI q), .v (.int .i64 q), .eptr (encNode m), .eptr (encNode m), .v (.string m.path), .ptr 2 1, .junk] [[.row 51 11 ((es.take k).map encE), .cells 40 (encNode x), .cells 51 (encE (entOf x))], [.row 51 11 ((es.take k).map encE), .cells 40 (encNode x), .cells 51 (encE { entOf x with kind := 4 })]] [9] [[0, 1], [0, 1], [0, 1], [0, 1], [0, 1], [0, 1], [0, 1], [0, 1], [0], []] (ws := [[], [], [], [(1, 52), (2, 53)], [(3, 54)], [(0, 51), (4, 55)], [(5, 56)], [(6, 57)], [], [(8, 59)]]) (ds := [51, 52, 53, 54, 55, 56, 57, 58, 59]) (wa := [(0, 51), (1, 52), (2, 53), (3, 54), (4, 55), (5, 56), (6, 57), (7, 58), (8, 59)]) ⟨by kernel_rfl, by kernel_rfl, by kernel_rfl, by kernel_rfl, by decide, by kernel_rfl, by kernel_rfl, by kernel_rfl, by decide, by kernel_rfl, by kernel_rfl⟩ rfl rfl rfl rfl rfl ?_ ?_
        · exact ⟨⟨rfl, rfl, True.intro⟩, ⟨rfl, rfl, True.intro⟩, ⟨rfl, rfl, True.intro⟩, ⟨⟨k, rfl, _, get_mapN hq, rfl⟩, ⟨k, rfl, _, get_mapN hq, rfl⟩, True.intro⟩, ⟨rfl, rfl, True.intro⟩, ⟨⟨q, rfl, _, get_mapN hm, rfl⟩, ⟨q, rfl, _, get_mapN hm, rfl⟩, True.intro⟩, ⟨rfl, rfl, True.intro⟩, ⟨rfl, rfl, True.intro⟩, ⟨rfl, True.intro⟩, rfl, True.intro⟩
        refine goT ?_
        exact ⟨trivial, Drops.trans (Drops.nilBoxRow 2 10 1 rfl rfl) (Drops.to [0, 7, 9, 27, 28, 29, 12] rfl)⟩
      · have e2 : ¬ (q : Int) < (k : Int) := of_decide_eq_false h2
        rw [if_neg (by omega)] at hy
        subst hy
        refine goT ?_
        exact ⟨trivial, Drops.to [0, 7, 9, 27, 28, 29, 12] rfl⟩
    refine goT ?_
    refine ⟨k + 1, (es.take (k + 1)).map encE, rfl, by rw [take_snoc he, List.map_append]; rfl, ?_⟩
    refine goT ?_
    exact LoopEnd_fin (k + 1) [0, 7, 9, 27, 28, 29] 1 hX (by omega) (by omega) rfl rfl rfl rfl ⟨cE _, trivial⟩
  · have e1 : ¬ (k : Int) < (out.length : Int) := of_decide_eq_false h1
    obtain rfl : k = out.length := by omega
    repeat (first | ((with_reducible show W _ _ _ _ _ _); first | refine W_seq ?_ | refine W_block ?_ | refine W_region hX ?_ | refine W_cond ?_ | refine W_skip ?_ | refine W_exit ?_) | ((fail_if_success (with_reducible show W _ _ _ _ _ _)); show W _ _ _ _ _ _) | refine andA ?_ | refine condT ?_ | refine condF ?_ | refine exB ?_ | refine exL ?_ | refine Exists.intro _ (And.intro rfl ?_) | refine Exists.intro _ (And.intro (get_mapN (by assumption)) ?_) | ((fail_if_success (with_reducible show LoopEnd _ _ _ _ _ _ _)); show LoopEnd _ _ _ _ _ _ _) | ((fail_if_success (with_reducible show JoinEnd _ _ _ _ _)); show JoinEnd _ _ _ _ _) | ((fail_if_success (with_reducible show JoinG _ _ _ _ _)); show JoinG _ _ _ _ _))
    refine W_freeze hna 0 [4] rfl (fun t ht => by simp at ht; subst ht; rfl) (by rw [List.length_map, List.length_take]; omega) (cE _) True.intro rfl ?_
    refine goT ?_
    rw [← hel, List.take_length]
    rfl
/-! ### plan.Make without rules, and over the small tree; plan.Check of a single member. -/
/-- A member's cells where its bytes are nil. -/
def encENil (x : EntT) : List AV := [.v (.string x.path), .v (.int .i64 x.kind), .v (.string x.target), .v (.int .i64 x.mt.mode), .v (.int .i64 x.mt.uid), .v (.int .i64 x.mt.gid), .v (.string x.mt.user), .v (.string x.mt.group), .v (.int .i64 x.mt.second), .v (.int .i64 x.mt.nano), .v (.slice none 0 0)]
theorem encENil_imp {x : EntT} (h : bytesA x.data = []) : ImpL (encENil x) (encE x) := by
  unfold encENil encE
  rw [h]
  exact ⟨Imp.refl _, Imp.refl _, Imp.refl _, Imp.refl _, Imp.refl _, Imp.refl _, Imp.refl _, Imp.refl _, Imp.refl _, Imp.refl _, Imp.nil 1, trivial⟩
theorem pcheck1_ac (x : EntT) (hg : EntGood x) (h : bytesA x.data = []) : AC CX 19 [.row 11 [encENil x]] (.v (.int .i64 (pchkL [] [x]))) :=
  AC_imp1 (pcheck_ac [x] (fun y hy => by rw [List.mem_singleton] at hy; subst hy; exact hg) (by simp) (by simp)) (Imp.row ⟨encENil_imp h, trivial⟩)
/-- Of a tree's members nothing is amiss. -/
theorem pcheckT_ac {t : List NodeT} (hT : TreeOk t) (ht : t.length ≤ 40) : AC CX 19 [.row 11 ((entsL t).map encE)] (.v (.int .i64 0)) := by
  have hE := ents_ok hT
  have h := pcheck_ac (entsL t) hE.good (ents_nodup hE) (by rw [ents_len]; exact ht)
  rw [pchk_zero hE] at h
  exact h
theorem make0_ac {t : List NodeT} (hT : TreeOk t) (ht : t.length ≤ 40) : AC CX 17 [.row 12 (t.map encNode), .v (.slice none 0 0)] (.tup [.row 11 ((entsL t).map encE), .v (.int .i64 0)]) := by
  have h := make_ac t [] hT ht (by decide) (fun r hr => by cases hr)
  rw [run_all hT (fun n _ => rfl)] at h
  exact AC_imp2 h (Imp.nil 2)
theorem psmall_ex : ∃ s u : List (List AV), u.length = 3 ∧ AC CX 12 [] (.row 12 s) ∧ AC CX 17 [.row 12 s, .v (.slice none 0 0)] (.tup [.row 11 u, .v (.int .i64 0)]) :=
  ⟨_, _, (List.length_map _).trans ((ents_len smallT).trans smallL), small_ac, make0_ac small_tree (by rw [smallL]; decide)⟩
theorem psmallc_len : (runL (takesF [(false, ⟨#[99]⟩)]) smallT).length = 2 := by kernel_rfl
theorem okG_c : okG ⟨#[99]⟩ = true := by kernel_rfl
theorem psmallc_ex : ∃ s u : List (List AV), u.length = 2 ∧ AC CX 12 [] (.row 12 s) ∧ AC CX 17 [.row 12 s, .row 2 [[.v (.bool false), .v (.string ⟨#[99]⟩)]]] (.tup [.row 11 u, .v (.int .i64 0)]) :=
  ⟨_, _, (List.length_map _).trans ((ents_len _).trans psmallc_len), small_ac, make_ac smallT [(false, ⟨#[99]⟩)] small_tree (by rw [smallL]; decide) (by decide) (fun r hr => by rw [List.mem_singleton] at hr; subst hr; exact okG_c)⟩
end Go.Proofs.YtdhikkdkjmeiiaaGreatDoor.Abs
