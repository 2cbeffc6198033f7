/- Members of an archive, out of a tree: plain facts. -/
import Derived.Test.YtdhikkdkjmeiiaaGreatDoorRrun
import Derived.Test.YtdhikkdkjmeiiaaGreatDoorRgroups
import Derived.Test.YtdhikkdkjmeiiaaGreatDoorRanew2
namespace Go.Proofs.YtdhikkdkjmeiiaaGreatDoor.Abs
open Go.RowKit Go.MapKept
set_option linter.unusedVariables false
set_option linter.unusedSimpArgs false
structure EntT where
  path : ByteArray
  kind : Int
  target : ByteArray
  mt : MetaT
  data : ByteArray
deriving DecidableEq
def encE (x : EntT) : List AV := [.v (.string x.path), .v (.int .i64 x.kind), .v (.string x.target), .v (.int .i64 x.mt.mode), .v (.int .i64 x.mt.uid), .v (.int .i64 x.mt.gid), .v (.string x.mt.user), .v (.string x.mt.group), .v (.int .i64 x.mt.second), .v (.int .i64 x.mt.nano), .row 1 (bytesA x.data)]
def entOf (n : NodeT) : EntT := ⟨n.path, n.kind, n.target, n.mt, n.data⟩
/-- The member of node i, whose file's first node is q. -/
def entAt (t : List NodeT) (i : Nat) (n : NodeT) (q : Int) : EntT := if q < (i : Int) then ⟨n.path, 4, (t[q.toNat]?.map (·.path)).getD ⟨#[]⟩, n.mt, ⟨#[]⟩⟩ else entOf n
def entsG (t : List NodeT) : Nat → List NodeT → List Int → List EntT
  | i, n :: l, q :: L => entAt t i n q :: entsG t (i + 1) l L
  | _, _, _ => []
def entsL (t : List NodeT) : List EntT := entsG t 0 t (firstsL t 0 []).1
theorem entsG_len (t : List NodeT) : ∀ (i : Nat) (l : List NodeT) (L : List Int), l.length = L.length → (entsG t i l L).length = l.length
  | _, [], [], _ => rfl
  | _, [], _ :: _, h => by cases h
  | _, _ :: _, [], h => by cases h
  | i, n :: l, q :: L, h => by rw [entsG, List.length_cons, List.length_cons, entsG_len t (i + 1) l L (by simpa using h)]
theorem entsG_at (t : List NodeT) : ∀ (i : Nat) (l : List NodeT) (L : List Int) (k : Nat) (n : NodeT) (q : Int), l[k]? = some n → L[k]? = some q → (entsG t i l L)[k]? = some (entAt t (i + k) n q)
  | _, [], _, k, n, q, h, _ => by simp at h
  | _, _ :: _, [], k, n, q, _, h => by simp at h
  | i, m :: l, p :: L, 0, n, q, h1, h2 => by
    injection h1 with h1
    injection h2 with h2
    subst h1; subst h2
    rfl
  | i, m :: l, p :: L, k + 1, n, q, h1, h2 => by
    rw [entsG, List.getElem?_cons_succ, entsG_at t (i + 1) l L k n q (by simpa using h1) (by simpa using h2), show i + 1 + k = i + (k + 1) by omega]
theorem ents_len (t : List NodeT) : (entsL t).length = t.length := entsG_len t 0 t _ (by rw [(firsts_all t).1])
/-- What a member is: the node itself, or a link to the first one that is the same file. -/
theorem ents_at {t : List NodeT} {i : Nat} {n : NodeT} (hn : t[i]? = some n) : ∃ (q : Nat) (m : NodeT), (firstsL t 0 []).1[i]? = some (q : Int) ∧ IsFirst t i q ∧ t[q]? = some m ∧ (entsL t)[i]? = some (if q < i then ⟨n.path, 4, m.path, n.mt, ⟨#[]⟩⟩ else entOf n) := by
  have hi := (List.getElem?_eq_some_iff.1 hn).1
  obtain ⟨q, h1, h2⟩ := (firsts_all t).2 i hi
  obtain ⟨m, hm⟩ := get_lt (l := t) (k := q) (Nat.lt_of_le_of_lt h2.1 hi)
  refine ⟨q, m, h1, h2, hm, ?_⟩
  have := entsG_at t 0 t (firstsL t 0 []).1 i n q hn h1
  unfold entsL
  rw [this, Nat.zero_add]
  unfold entAt
  by_cases h : q < i
  · rw [if_pos (by omega : (q : Int) < (i : Int)), if_pos h, Int.toNat_natCast, hm]
    rfl
  · rw [if_neg (by omega : ¬ (q : Int) < (i : Int)), if_neg h]
/-! ### What members ask -/
structure EntGood (x : EntT) : Prop where
  path : pathChk x.path = 0
  mt : MetaGood x.mt
  kind : 1 ≤ x.kind ∧ x.kind ≤ 4
  data : x.kind ≠ 1 → x.data = ⟨#[]⟩
  target : x.target = ⟨#[]⟩ ↔ x.kind < 3
  dsize : x.data.size ≤ 2000
  tsize : x.target.size ≤ 400
  link : x.kind = 4 → pathChk x.target = 0
  zero : x.kind ≠ 4 → Lib.indexByte x.target.data.toList 0 < 0
structure EntsOk (l : List EntT) : Prop where
  good : ∀ x ∈ l, EntGood x
  sorted : l.Pairwise fun a b => lessF a.path b.path < 0
  up : ∀ (i : Nat) (x : EntT), l[i]? = some x → upF x.path = ⟨#[]⟩ ∨ ∃ (j : Nat) (y : EntT), j < i ∧ l[j]? = some y ∧ y.path = upF x.path ∧ y.kind = 2
  one : ∀ (i : Nat) (x : EntT), l[i]? = some x → x.kind = 4 → ∃ (j : Nat) (y : EntT), j < i ∧ l[j]? = some y ∧ y.path = x.target ∧ y.kind = 1 ∧ y.mt = x.mt
theorem empty_of_size {s : ByteArray} (h : s.size = 0) : s = ⟨#[]⟩ := by
  apply bytes_ext
  have := size_list s
  rw [h] at this
  rw [List.eq_nil_of_length_eq_zero this]
theorem entOf_good {n : NodeT} (h : NodeGood n) : EntGood (entOf n) := by
  obtain ⟨h1, h2, h3, h4, h5⟩ := h
  have ne : Lib.indexByte (⟨#[]⟩ : ByteArray).data.toList 0 < 0 := by decide
  rcases h5 with ⟨a, b, c⟩ | ⟨a, b, c, d⟩ | ⟨a, b, c, d, e⟩
  · exact ⟨h1, h2, by show 1 ≤ n.kind ∧ n.kind ≤ 4; omega, fun h => absurd a h, ⟨fun _ => by show n.kind < 3; omega, fun _ => b⟩, h3, h4, fun h => by have h : n.kind = 4 := h; omega, fun _ => by show Lib.indexByte n.target.data.toList 0 < 0; rw [b]; exact ne⟩
  · exact ⟨h1, h2, by show 1 ≤ n.kind ∧ n.kind ≤ 4; omega, fun _ => empty_of_size c, ⟨fun _ => by show n.kind < 3; omega, fun _ => b⟩, h3, h4, fun h => by have h : n.kind = 4 := h; omega, fun _ => by show Lib.indexByte n.target.data.toList 0 < 0; rw [b]; exact ne⟩
  · exact ⟨h1, h2, by show 1 ≤ n.kind ∧ n.kind ≤ 4; omega, fun _ => empty_of_size d, ⟨fun h => absurd h b, fun h => by have h : n.kind < 3 := h; omega⟩, h3, h4, fun h => by have h : n.kind = 4 := h; omega, fun _ => c⟩
/-- A node that is a link, and the first one of its file. -/
theorem link_facts {t : List NodeT} (hT : TreeOk t) {i q : Nat} {n m : NodeT} (hn : t[i]? = some n) (hm : t[q]? = some m) (hF : IsFirst t i q) (h : q < i) : n.same ≠ 0 ∧ m.mt = n.mt ∧ m.data = n.data ∧ m.kind = n.kind ∧ m.kind = 1 ∧ m.target = n.target := by
  obtain ⟨_, h2, _⟩ := hF
  rcases h2 with rfl | ⟨h3, h4⟩
  · omega
  · rw [fz_at hn] at h3 h4
    rw [fz_at hm] at h4
    have h5 := hT.one m (List.mem_of_getElem? hm) n (List.mem_of_getElem? hn) h4 (by rw [h4]; exact h3)
    have gm := hT.node m (List.mem_of_getElem? hm)
    have gn := hT.node n (List.mem_of_getElem? hn)
    have k1 := kind_of_same gm (by rw [h4]; exact h3)
    have k2 := kind_of_same gn h3
    have tg : ∀ z : NodeT, NodeGood z → z.kind = 1 → z.target = ⟨#[]⟩ := fun z hz hk => by
      rcases hz.kind with ⟨_, b, _⟩ | ⟨a, _⟩ | ⟨a, _⟩
      · exact b
      · omega
      · omega
    exact ⟨h3, h5.1, h5.2.1, h5.2.2, k1, by rw [tg m gm k1, tg n gn k2]⟩
theorem ents_first {t : List NodeT} {q : Nat} {m : NodeT} {i : Nat} (hF : IsFirst t i q) (hm : t[q]? = some m) : (entsL t)[q]? = some (entOf m) := by
  obtain ⟨q2, m2, _, hF2, _, he⟩ := ents_at hm
  have e := firsts_self hF hF2
  subst e
  rw [he, if_neg (Nat.lt_irrefl _)]
theorem ents_path {t : List NodeT} (hT : TreeOk t) {i : Nat} {n : NodeT} (hn : t[i]? = some n) : ∃ x, (entsL t)[i]? = some x ∧ x.path = n.path ∧ x.mt = n.mt ∧ (x.kind = 2 ↔ n.kind = 2) := by
  obtain ⟨q, m, _, hF, hm, he⟩ := ents_at hn
  by_cases h : q < i
  · rw [if_pos h] at he
    obtain ⟨_, _, _, k1, k2, _⟩ := link_facts hT hn hm hF h
    refine ⟨_, he, rfl, rfl, ?_⟩
    show (4 : Int) = 2 ↔ n.kind = 2
    omega
  · rw [if_neg h] at he
    exact ⟨_, he, rfl, rfl, Iff.rfl⟩
theorem parent_at {t : List NodeT} (hT : TreeOk t) {i : Nat} {n : NodeT} (hn : t[i]? = some n) (hz : upF n.path ≠ ⟨#[]⟩) : ∃ (j : Nat) (m : NodeT), j < i ∧ t[j]? = some m ∧ m.path = upF n.path ∧ m.kind = 2 := by
  obtain ⟨m, hm, h1, h2⟩ := (hT.up n (List.mem_of_getElem? hn)).resolve_left hz
  obtain ⟨j, hj⟩ := List.getElem?_of_mem hm
  have hl := less_up hz
  rw [← h1] at hl
  refine ⟨j, m, ?_, hj, h1, h2⟩
  rcases Nat.lt_trichotomy j i with h | h | h
  · exact h
  · subst h
    rw [hn] at hj
    injection hj with hj
    rw [hj, (lessF_tot.zero _ _).2 rfl] at hl
    exact absurd hl (by decide)
  · have h4 := less_at hT hn hj h
    have h5 := lessF_tot.neg n.path m.path
    omega
theorem ents_ok {t : List NodeT} (hT : TreeOk t) : EntsOk (entsL t) := by
  have hlen := ents_len t
  refine ⟨fun x hx => ?_, ?_, fun i x hx => ?_, fun i x hx hk => ?_⟩
  · obtain ⟨i, hi⟩ := List.getElem?_of_mem hx
    obtain ⟨n, hn⟩ := get_lt (l := t) (k := i) (by rw [← hlen]; exact (List.getElem?_eq_some_iff.1 hi).1)
    obtain ⟨q, m, _, hF, hm, he⟩ := ents_at hn
    have gn := hT.node n (List.mem_of_getElem? hn)
    have gm := hT.node m (List.mem_of_getElem? hm)
    rw [hi] at he
    injection he with he
    subst he
    by_cases h : q < i
    · rw [if_pos h]
      have hmp := gm.path
      refine ⟨gn.path, gn.mt, by show (1 : Int) ≤ 4 ∧ (4 : Int) ≤ 4; decide, fun _ => rfl, ⟨fun h => absurd h (path_ne hmp), fun h => absurd (show (4 : Int) < 3 from h) (by decide)⟩, by show (0 : Nat) ≤ 2000; decide, pathChk_size hmp, fun _ => hmp, fun h => absurd rfl h⟩
    · rw [if_neg h]
      exact entOf_good gn
  · rw [List.pairwise_iff_getElem]
    intro i j hi hj hij
    obtain ⟨a, ha⟩ := get_lt (l := t) (k := i) (by omega)
    obtain ⟨b, hb⟩ := get_lt (l := t) (k := j) (by omega)
    obtain ⟨x, hx, ex, _⟩ := ents_path hT ha
    obtain ⟨y, hy, ey, _⟩ := ents_path hT hb
    obtain ⟨_, e1⟩ := List.getElem?_eq_some_iff.1 hx
    obtain ⟨_, e2⟩ := List.getElem?_eq_some_iff.1 hy
    rw [e1, e2, ex, ey]
    exact less_at hT ha hb hij
  · obtain ⟨n, hn⟩ := get_lt (l := t) (k := i) (by rw [← hlen]; exact (List.getElem?_eq_some_iff.1 hx).1)
    obtain ⟨x', hx', ex, _⟩ := ents_path hT hn
    rw [hx] at hx'
    injection hx' with hx'
    subst hx'
    rw [ex]
    by_cases hz : upF n.path = ⟨#[]⟩
    · exact .inl hz
    · obtain ⟨j, m, h1, h2, h3, h4⟩ := parent_at hT hn hz
      obtain ⟨y, hy, ey, _, ek⟩ := ents_path hT h2
      exact .inr ⟨j, y, h1, hy, ey.trans h3, ek.2 h4⟩
  · obtain ⟨n, hn⟩ := get_lt (l := t) (k := i) (by rw [← hlen]; exact (List.getElem?_eq_some_iff.1 hx).1)
    obtain ⟨q, m, _, hF, hm, he⟩ := ents_at hn
    rw [hx] at he
    injection he with he
    by_cases h : q < i
    · rw [if_pos h] at he
      obtain ⟨_, k0, _, k1, k2, _⟩ := link_facts hT hn hm hF h
      refine ⟨q, entOf m, h, ents_first hF hm, by rw [he]; rfl, k2, by rw [he]; exact k0⟩
    · rw [if_neg h] at he
      exfalso
      have gn := hT.node n (List.mem_of_getElem? hn)
      rw [he] at hk
      have hk : n.kind = 4 := hk
      rcases gn.kind with ⟨a, _⟩ | ⟨a, _⟩ | ⟨a, _⟩ <;> omega
/-! ### A tree out of members -/
def growL (t : List NodeT) (L : List Int) (k : Nat) : List NodeT := List.zipWith (anewN (L.take k)) (t.take k) (L.take k)
theorem grow_len {t : List NodeT} {L : List Int} (hL : L.length = t.length) (k : Nat) (hk : k ≤ t.length) : (growL t L k).length = k := by
  unfold growL
  rw [List.length_zipWith, List.length_take, List.length_take]
  omega
theorem grow_at {t : List NodeT} {L : List Int} {k j : Nat} (hj : j < k) {x : NodeT} {q : Int} (hx : t[j]? = some x) (hq : L[j]? = some q) : (growL t L k)[j]? = some (anewN (L.take k) x q) := by
  unfold growL
  rw [List.getElem?_zipWith, List.getElem?_take, if_pos hj, List.getElem?_take, if_pos hj, hx, hq]
theorem count_take {L : List Int} {k : Nat} {q p : Int} (hq : L[k]? = some q) : countL (L.take (k + 1)) p = if q = p then countL (L.take k) p + 1 else countL (L.take k) p := by
  unfold countL
  rw [take_snoc hq, List.count_append, List.count_singleton]
  by_cases h : q = p
  · subst h; simp
  · have hb : (q == p) = false := by simpa using h
    rw [if_neg h, hb]
    simp
theorem mem_count {L : List Int} {p : Int} (h : p ∈ L) : 1 ≤ countL L p := by
  have := List.count_pos_iff.2 h
  unfold countL
  omega
theorem not_mem_count {L : List Int} {p : Int} (h : p ∉ L) : countL L p = 0 := by
  unfold countL
  rw [List.count_eq_zero_of_not_mem h]
  rfl
section
variable {t : List NodeT} {L : List Int} (hL : FirstsOf t L) {k : Nat} {x : NodeT}
include hL
theorem lt_first {j : Nat} {q : Int} (hq : L[j]? = some q) : 0 ≤ q ∧ q ≤ (j : Int) := by
  have hj := (List.getElem?_eq_some_iff.1 hq).1
  rw [hL.len] at hj
  obtain ⟨q', h1, h2⟩ := hL.at_ j hj
  rw [hq] at h1
  injection h1 with h1
  have := h2.1
  omega
/-- A file's first node. -/
theorem grow_first (hx : t[k]? = some x) (hq : L[k]? = some (k : Int)) : growL t L (k + 1) = growL t L k ++ [{ x with same := 0 }] := by
  have hk := (List.getElem?_eq_some_iff.1 hx).1
  have hno : (k : Int) ∉ L.take k := fun h => by
    obtain ⟨j, hj⟩ := List.getElem?_of_mem h
    rw [List.getElem?_take] at hj
    split at hj
    · have := lt_first hL hj
      omega
    · cases hj
  apply List.ext_getElem?
  intro j
  rcases Nat.lt_trichotomy j k with h | h | h
  · obtain ⟨y, hy⟩ := get_lt (l := t) (k := j) (by omega)
    obtain ⟨p, hp⟩ := get_lt (l := L) (k := j) (by rw [hL.len]; omega)
    rw [List.getElem?_append_left (by rw [grow_len hL.len k (by omega)]; exact h), grow_at (by omega) hy hp, grow_at h hy hp]
    unfold anewN
    have hpk := lt_first hL hp
    rw [count_take (p := p) hq, if_neg (show ¬ (k : Int) = p by omega)]
  · subst h
    rw [grow_at (by omega) hx hq, List.getElem?_append_right (by rw [grow_len hL.len j (by omega)]; exact Nat.le_refl _), grow_len hL.len j (by omega), Nat.sub_self]
    unfold anewN
    rw [count_take hq, if_pos rfl, not_mem_count hno]
    rfl
  · rw [List.getElem?_eq_none (by rw [grow_len hL.len _ (by omega)]; omega), List.getElem?_eq_none (by rw [List.length_append, grow_len hL.len k (by omega)]; simp; omega)]
/-- One more name of a file. -/
theorem grow_link {q : Nat} {m : NodeT} (hx : t[k]? = some x) (hq : L[k]? = some (q : Int)) (hlt : q < k) (hm : t[q]? = some m) (hqq : L[q]? = some (q : Int)) : (∃ s, (growL t L k)[q]? = some { m with same := s }) ∧ growL t L (k + 1) = (growL t L k).set q { m with same := (q : Int) + 1 } ++ [{ x with same := (q : Int) + 1 }] := by
  have hk := (List.getElem?_eq_some_iff.1 hx).1
  have hmem : (q : Int) ∈ L.take k := List.mem_of_getElem? (i := q) (by rw [List.getElem?_take, if_pos hlt]; exact hqq)
  have hc := mem_count hmem
  refine ⟨⟨_, grow_at hlt hm hqq⟩, ?_⟩
  apply List.ext_getElem?
  intro j
  rcases Nat.lt_trichotomy j k with h | h | h
  · obtain ⟨y, hy⟩ := get_lt (l := t) (k := j) (by omega)
    obtain ⟨p, hp⟩ := get_lt (l := L) (k := j) (by rw [hL.len]; omega)
    rw [List.getElem?_append_left (by rw [List.length_set, grow_len hL.len k (by omega)]; exact h), grow_at (by omega) hy hp, List.getElem?_set]
    by_cases hjq : q = j
    · subst hjq
      rw [if_pos rfl, grow_len hL.len k (by omega), if_pos hlt]
      rw [hm] at hy
      injection hy with hy
      subst hy
      rw [hqq] at hp
      injection hp with hp
      subst hp
      unfold anewN
      rw [count_take hq, if_pos rfl, if_pos (by omega)]
    · rw [if_neg hjq, grow_at h hy hp]
      unfold anewN
      by_cases hpq : (q : Int) = p
      · subst hpq
        have h2 : 2 ≤ countL (L.take k) (q : Int) := by
          have := (count_two (L := L.take k) (i := q) (q := (q : Int)) (by rw [List.getElem?_take, if_pos hlt]; exact hqq)).2 ⟨j, fun e => hjq e.symm, by rw [List.getElem?_take, if_pos h]; exact hp⟩
          omega
        rw [count_take hq, if_pos rfl, if_pos (by omega), if_pos (by omega)]
      · rw [count_take hq, if_neg hpq]
  · subst h
    rw [grow_at (by omega) hx hq, List.getElem?_append_right (by rw [List.length_set, grow_len hL.len j (by omega)]; exact Nat.le_refl _), List.length_set, grow_len hL.len j (by omega), Nat.sub_self]
    unfold anewN
    rw [count_take hq, if_pos rfl, if_pos (by omega)]
    rfl
  · rw [List.getElem?_eq_none (by rw [grow_len hL.len _ (by omega)]; omega), List.getElem?_eq_none (by rw [List.length_append, List.length_set, grow_len hL.len k (by omega)]; simp; omega)]
theorem grow_all : growL t L t.length = List.zipWith (anewN L) t L := by
  unfold growL
  rw [List.take_length, ← hL.len, List.take_length]
end
end Go.Proofs.YtdhikkdkjmeiiaaGreatDoor.Abs
