/- What is known of a grown tree. -/
import Derived.Test.YtgjldbcpohkmkaaDoorRtree4
namespace Go.Proofs.YtgjldbcpohkmkaaDoor.Abs
open Go.RowKit Go.MapKept
set_option linter.unusedVariables false
set_option linter.unusedSimpArgs false
theorem idx_lt {l : List UInt8} {c : UInt8} (h : c ∉ l) : Lib.indexByte l c < 0 := by rw [idx_none l c h]; decide
theorem idx_no {l : List UInt8} {c : UInt8} (h : Lib.indexByte l c < 0) : c ∉ l := fun hm => by
  obtain ⟨t, r, rfl, hn, hr⟩ := idx_split l c
  rcases hr with rfl | ⟨r', rfl⟩
  · rw [List.append_nil] at hm; exact hn hm
  · rw [idx_at t r' c hn] at h; omega
/-! ### Paths -/
theorem parts_join (d nm : ByteArray) : partsS (d ++ ⟨#[47]⟩ ++ nm) = partsS d ++ partsS nm := by
  unfold partsS
  rw [app_list, app_list, show (⟨#[47]⟩ : ByteArray).data.toList = [47] from rfl, List.append_assoc, List.singleton_append, cutL_app, List.map_append]
theorem parts_one {nm : ByteArray} (h : (47 : UInt8) ∉ nm.data.toList) : partsS nm = [nm] := by
  unfold partsS
  rw [cutL_none 47 _ h, List.map_singleton, mkS_self]
structure NameOk (nm : ByteArray) : Prop where
  s : (47 : UInt8) ∉ nm.data.toList
  z : (0 : UInt8) ∉ nm.data.toList
  b : badPart nm = false
  n : 1 ≤ nm.size
theorem name_ok : ∀ nm ∈ namesF, NameOk nm := by
  have h : (namesF.all fun nm => !nm.data.toList.contains 47 && !nm.data.toList.contains 0 && !badPart nm && decide (1 ≤ nm.size)) = true := by kernel_rfl
  intro nm hnm
  have := List.all_eq_true.1 h nm hnm
  simp only [Bool.and_eq_true, Bool.not_eq_true', decide_eq_true_eq] at this
  obtain ⟨⟨⟨h1, h2⟩, h3⟩, h4⟩ := this
  exact ⟨fun h => (by rw [List.contains_iff_mem.2 h] at h1; cases h1), fun h => (by rw [List.contains_iff_mem.2 h] at h2; cases h2), h3, h4⟩
theorem pathChk_zero {s : ByteArray} : pathChk s = 0 ↔ 1 ≤ s.size ∧ s.size ≤ 400 ∧ (0 : UInt8) ∉ s.data.toList ∧ (partsS s).any badPart = false := by
  unfold pathChk
  constructor
  · intro h
    split at h
    · cases h
    · rename_i h1
      split at h
      · cases h
      · rename_i h2
        split at h
        · cases h
        · rename_i h3
          exact ⟨by omega, by omega, idx_no (by omega), by simpa using h3⟩
  · rintro ⟨h1, h2, h3, h4⟩
    rw [if_neg (by omega), if_neg (by have := idx_lt h3; omega), if_neg (by rw [h4]; decide)]
theorem chk_name {nm : ByteArray} (h : NameOk nm) (hs : nm.size ≤ 400) : pathChk nm = 0 := pathChk_zero.2 ⟨h.n, hs, h.z, by rw [parts_one h.s]; simp [h.b]⟩
theorem chk_join {d nm : ByteArray} (hd : pathChk d = 0) (h : NameOk nm) (hs : (d ++ ⟨#[47]⟩ ++ nm).size ≤ 400) : pathChk (d ++ ⟨#[47]⟩ ++ nm) = 0 := by
  obtain ⟨d1, d2, d3, d4⟩ := pathChk_zero.1 hd
  refine pathChk_zero.2 ⟨?_, hs, ?_, ?_⟩
  · rw [ByteArray.size_append, ByteArray.size_append]; omega
  · rw [app_list, app_list]
    intro hm
    rcases List.mem_append.1 hm with hm | hm
    · rcases List.mem_append.1 hm with hm | hm
      · exact d3 hm
      · revert hm; decide
    · exact h.z hm
  · rw [parts_join, parts_one h.s, List.any_append, d4]
    simp [h.b]
theorem last_no {l : List UInt8} {c : UInt8} (h : c ∉ l) : ∀ n, n ≤ l.length → lastF l c n = -1
  | 0, _ => rfl
  | n + 1, hn => by
    rw [lastF, if_neg, last_no h n (by omega)]
    intro e
    rw [List.getD_eq_getElem?_getD, List.getElem?_eq_getElem (by omega)] at e
    exact h (e ▸ List.getElem_mem _)
theorem last_at {c : UInt8} {u v : List UInt8} (h : c ∉ v) : ∀ n, n ≤ v.length → lastF (u ++ c :: v) c (u.length + 1 + n) = u.length
  | 0, _ => by
    rw [Nat.add_zero, lastF, if_pos]
    simp
  | n + 1, hn => by
    rw [show u.length + 1 + (n + 1) = (u.length + 1 + n) + 1 by omega, lastF, if_neg, last_at h n (by omega)]
    intro e
    rw [List.getD_eq_getElem?_getD, List.getElem?_append_right (by omega), show u.length + 1 + n - u.length = n + 1 by omega, List.getElem?_cons_succ, List.getElem?_eq_getElem (by omega)] at e
    exact h (e ▸ List.getElem_mem _)
theorem up_none {s : ByteArray} (h : (47 : UInt8) ∉ s.data.toList) : upF s = ⟨#[]⟩ := by
  unfold upF
  rw [last_no h _ (by rw [size_list]; exact Nat.le_refl _), if_pos (by decide)]
theorem up_some {s u : ByteArray} {v : List UInt8} (h : s.data.toList = u.data.toList ++ 47 :: v) (hv : (47 : UInt8) ∉ v) : upF s = u := by
  have hl : s.size = u.data.toList.length + 1 + v.length := by rw [← size_list, h]; simp; omega
  unfold upF
  rw [h, hl, last_at hv _ (Nat.le_refl _), if_neg (by omega), Int.toNat_natCast]
  apply bytes_ext
  rw [ByteArray.data_extract, Array.toList_extract, List.extract_eq_take_drop, List.drop_zero, Nat.sub_zero, h, List.take_left]
theorem up_join {d nm : ByteArray} (h : NameOk nm) : upF (d ++ ⟨#[47]⟩ ++ nm) = d :=
  up_some (v := nm.data.toList) (by rw [app_list, app_list, show (⟨#[47]⟩ : ByteArray).data.toList = [47] from rfl, List.append_assoc]; rfl) h.s
theorem lex_prefix {α : Type} {c : α → α → Int} (T : Tot c) : ∀ (x y : List α), y ≠ [] → lexC c x (x ++ y) = -1
  | [], [], h => absurd rfl h
  | [], b :: y, _ => rfl
  | a :: x, y, h => by
    rw [List.cons_append, lexC, if_pos ((T.zero a a).2 rfl)]
    exact lex_prefix T x y h
/-- What a path is in is ahead of it. -/
theorem last_split {l : List UInt8} {c : UInt8} : ∀ n, n ≤ l.length → lastF l c n < 0 ∨ ∃ u v, lastF l c n = (u.length : Int) ∧ l = u ++ c :: v
  | 0, _ => .inl (by show (-1 : Int) < 0; decide)
  | n + 1, hn => by
    rw [lastF]
    by_cases h : l.getD n 0 = c
    · rw [if_pos h]
      refine .inr ⟨l.take n, l.drop (n + 1), by rw [List.length_take]; omega, ?_⟩
      rw [List.getD_eq_getElem?_getD, List.getElem?_eq_getElem (by omega)] at h
      have h : l[n] = c := h
      rw [← h, ← List.drop_eq_getElem_cons (by omega), List.take_append_drop]
    · rw [if_neg h]
      exact last_split n (by omega)
theorem less_up {s : ByteArray} (h : upF s ≠ ⟨#[]⟩) : lessF (upF s) s < 0 := by
  rcases last_split (l := s.data.toList) (c := 47) s.size (by rw [size_list]; exact Nat.le_refl _) with h1 | ⟨u, v, h1, h2⟩
  · unfold upF at h
    rw [if_pos h1] at h
    exact absurd rfl h
  · have e : upF s = mkS u := by
      unfold upF
      rw [h1, if_neg (by omega), Int.toNat_natCast]
      apply bytes_ext
      rw [mkS_list, ByteArray.data_extract, Array.toList_extract, List.extract_eq_take_drop, List.drop_zero, Nat.sub_zero, h2, List.take_left]
    have ep : partsS s = partsS (mkS u) ++ (cutL 47 v).map mkS := by
      unfold partsS
      rw [h2, cutL_app, List.map_append, mkS_list]
    unfold lessF
    rw [e, ep, lex_prefix cmpS_tot _ _ (by simp [cutL_ne 47 v])]
    decide
theorem compare_less {a b : ByteArray} (ha : pathChk a = 0) (hb : pathChk b = 0) : compareF a b = lessF a b := by
  have ne : ∀ {s : ByteArray}, pathChk s = 0 → s ≠ ⟨#[]⟩ := fun h e => by
    have := (pathChk_zero.1 h).1
    rw [e] at this
    revert this; decide
  unfold compareF lessF pathParts
  rw [if_neg (ne ha), if_neg (ne hb)]
/-! ### Growing -/
def UpOk (t : List NodeT) (p : ByteArray) : Prop := upF p = ⟨#[]⟩ ∨ ∃ m ∈ t, m.path = upF p ∧ m.kind = 2
def OwnOk (t : List NodeT) (x : NodeT) : Prop := x.same = 0 ∨ (1 ≤ x.same ∧ ∃ u, t[(x.same - 1).toNat]? = some u ∧ u.same = x.same ∧ u.mt = x.mt ∧ u.data = x.data ∧ u.kind = x.kind)
structure Inv (t : List NodeT) (dirs : List ByteArray) : Prop where
  node : ∀ n ∈ t, NodeGood n
  dir : ∀ d ∈ dirs, d = ⟨#[]⟩ ∨ (pathChk d = 0 ∧ ∃ m ∈ t, m.path = d ∧ m.kind = 2)
  up : ∀ n ∈ t, UpOk t n.path
  own : ∀ x ∈ t, OwnOk t x
theorem upOk_app {t : List NodeT} {p : ByteArray} (h : UpOk t p) (n : NodeT) : UpOk (t ++ [n]) p := by
  rcases h with h | ⟨m, hm, h⟩
  · exact .inl h
  · exact .inr ⟨m, List.mem_append_left _ hm, h⟩
theorem ownOk_app {t : List NodeT} {x : NodeT} (h : OwnOk t x) (n : NodeT) : OwnOk (t ++ [n]) x := by
  rcases h with h | ⟨h0, u, h1, h2⟩
  · exact .inl h
  · exact .inr ⟨h0, u, by rw [List.getElem?_append_left (List.getElem?_eq_some_iff.1 h1).1]; exact h1, h2⟩
theorem Inv.push {t : List NodeT} {dirs : List ByteArray} {n : NodeT} (hI : Inv t dirs) (h1 : NodeGood n) (h2 : UpOk t n.path) (h3 : OwnOk t n) : Inv (t ++ [n]) dirs :=
  ⟨fun x hx => by
    rcases List.mem_append.1 hx with hx | hx
    · exact hI.node x hx
    · rw [List.mem_singleton.1 hx]; exact h1, fun s hs => by
    rcases hI.dir s hs with b | ⟨b, m, hm, h⟩
    · exact .inl b
    · exact .inr ⟨b, m, List.mem_append_left _ hm, h⟩, fun x hx => by
    rcases List.mem_append.1 hx with hx | hx
    · exact upOk_app (hI.up x hx) n
    · rw [List.mem_singleton.1 hx]; exact upOk_app h2 n, fun x hx => by
    rcases List.mem_append.1 hx with hx | hx
    · exact ownOk_app (hI.own x hx) n
    · rw [List.mem_singleton.1 hx]; exact ownOk_app h3 n⟩
theorem Inv.pushDir {t : List NodeT} {dirs : List ByteArray} {n : NodeT} (hI : Inv t dirs) (hm : n ∈ t) (hd : n.kind = 2) (hp : pathChk n.path = 0) : Inv t (dirs ++ [n.path]) :=
  ⟨hI.node, fun s h => by
    rcases List.mem_append.1 h with h | h
    · exact hI.dir s h
    · rw [List.mem_singleton.1 h]; exact .inr ⟨hp, n, hm, rfl, hd⟩, hI.up, hI.own⟩
/-- A file that gets a number of its own. -/
theorem Inv.mark {t : List NodeT} {dirs : List ByteArray} {k : Nat} {u : NodeT} (hI : Inv t dirs) (hu : t[k]? = some u) (h1 : u.kind = 1) (h2 : u.same = 0) : Inv (t.set k { u with same := (k : Int) + 1 }) dirs := by
  have hum := hI.node u (List.mem_of_getElem? hu)
  have hkl := (List.getElem?_eq_some_iff.1 hu).1
  have hg : NodeGood { u with same := (k : Int) + 1 } := ⟨hum.path, hum.mt, hum.data, hum.target, by
    rcases hum.kind with ⟨a, b, c⟩ | ⟨a, _⟩ | ⟨a, _⟩
    · exact .inl ⟨a, b, by show (0 : Int) ≤ (k : Int) + 1; omega⟩
    · omega
    · omega⟩
  have hat : (t.set k { u with same := (k : Int) + 1 })[k]? = some { u with same := (k : Int) + 1 } := List.getElem?_set_self hkl
  have hmem : ∀ m ∈ t, m.kind = 2 → m ∈ t.set k { u with same := (k : Int) + 1 } := fun m hm hd => by
    obtain ⟨j, hj⟩ := List.getElem?_of_mem hm
    by_cases e : k = j
    · subst e; rw [hu] at hj; injection hj with hj; subst hj; omega
    · exact List.mem_of_getElem? (i := j) (by rw [List.getElem?_set_ne e]; exact hj)
  have hup : ∀ p, UpOk t p → UpOk (t.set k { u with same := (k : Int) + 1 }) p := fun p h => by
    rcases h with h | ⟨m, hm, a, c⟩
    · exact .inl h
    · exact .inr ⟨m, hmem m hm c, a, c⟩
  refine ⟨fun x hx => ?_, fun s hs => ?_, fun x hx => ?_, fun x hx => ?_⟩
  · rcases List.mem_or_eq_of_mem_set hx with hx | rfl
    · exact hI.node x hx
    · exact hg
  · rcases hI.dir s hs with b | ⟨b, m, hm, h, hd⟩
    · exact .inl b
    · exact .inr ⟨b, m, hmem m hm hd, h, hd⟩
  · rcases List.mem_or_eq_of_mem_set hx with hx | rfl
    · exact hup _ (hI.up x hx)
    · exact hup _ (hI.up u (List.mem_of_getElem? hu))
  · rcases List.mem_or_eq_of_mem_set hx with hx | rfl
    · rcases hI.own x hx with h | ⟨h0, w, a, b⟩
      · exact .inl h
      · refine .inr ⟨h0, w, ?_, b⟩
        rw [List.getElem?_set_ne]
        · exact a
        · intro e
          rw [← e, hu] at a
          injection a with a
          subst a
          omega
    · refine .inr ⟨by show (1 : Int) ≤ (k : Int) + 1; omega, _, ?_, rfl, rfl, rfl, rfl⟩
      show (t.set k _)[((k : Int) + 1 - 1).toNat]? = _
      rw [show ((k : Int) + 1 - 1).toNat = k by omega]
      exact hat
theorem noz_sub {s : ByteArray} {m : Int} : (0 : UInt8) ∉ (cleanF s m).data.toList := by
  unfold cleanF
  rw [ByteArray.data_extract, Array.toList_extract, List.extract_eq_take_drop, List.drop_zero, mkS_list]
  exact fun h => noz_free _ (List.mem_of_mem_take h)
theorem rep_sub {s : ByteArray} {n : Int} {c : UInt8} (h : c ∉ s.data.toList) : c ∉ (repF s n).data.toList := by
  unfold repF
  rw [mkS_list]
  have key : ∀ k, ∀ b ∈ Lib.repeatL s.data.toList k, b ∈ s.data.toList := by
    intro k
    induction k with
    | zero => intro b hb; simp [Lib.repeatL] at hb
    | succ n ih => intro b hb; simp only [Lib.repeatL, List.mem_append] at hb; exact hb.elim id (ih b)
  exact fun hm => h (key _ _ hm)
theorem meta_good {r : RawT} (h : RawGood r) : MetaGood (metaF r) := by
  have p1 := pick_lt (n := r.b) (m := 4096) (by decide)
  have p2 := pick_lt (n := r.c) (m := 3000) (by decide)
  have p3 := pick_lt (n := r.b) (m := 3000) (by decide)
  have p4 := clean_size r.s 40
  have p5 := pick_lt (n := r.c) (m := 17179869184) (by decide)
  have p6 := pick_lt (n := r.b) (m := 1000000000) (by decide)
  have p7 := pick_lt (n := r.c) (m := 1125899906842625) (by decide)
  have p8 := pick_lt (n := r.b) (m := 1125899906842625) (by decide)
  have p9 := pick_lt (n := r.b) (m := 61) (by decide)
  have gs : (⟨#[115, 116, 97, 102, 102]⟩ : ByteArray).size = 5 := rfl
  have z1 : (0 : UInt8) ∉ (cleanF r.s 40 ++ ⟨#[115, 116, 97, 102, 102]⟩).data.toList := by
    rw [app_list]
    exact fun h => (List.mem_append.1 h).elim noz_sub (by decide)
  have zr : (mkS (Lib.repeatL [103] (pickF r.b 61).toNat)).size ≤ 60 := by
    rw [mkS_size, Lib.repeatL_length]; simp; omega
  have z2 : (0 : UInt8) ∉ (cleanF r.s 40 ++ mkS (Lib.repeatL [103] (pickF r.b 61).toNat)).data.toList := by
    rw [app_list]
    exact fun h => (List.mem_append.1 h).elim noz_sub (rep_sub (s := ⟨#[103]⟩) (n := pickF r.b 61) (by decide))
  have base : MetaGood ⟨pickF r.b 4096, pickF r.c 3000, pickF r.b 3000, cleanF r.s 40, ⟨#[115, 116, 97, 102, 102]⟩, pickF r.c 17179869184, 0⟩ := ⟨⟨p1.1, by show pickF r.b 4096 ≤ 4095; omega⟩, ⟨p2.1, by show pickF r.c 3000 ≤ 1125899906842624; omega⟩, ⟨p3.1, by show pickF r.b 3000 ≤ 1125899906842624; omega⟩, by show (cleanF r.s 40).size ≤ 60; omega, by show (5 : Nat) ≤ 60; decide, idx_lt z1, ⟨by show -1099511627776 ≤ pickF r.c 17179869184; omega, by show pickF r.c 17179869184 ≤ 1099511627776; omega⟩, ⟨by show (0 : Int) ≤ 0; decide, by show (0 : Int) ≤ 999999999; decide⟩⟩
  obtain ⟨b1, b2, b3, b4, b5, b6, b7, b8⟩ := base
  unfold metaF
  split
  · exact ⟨b1, b2, b3, b4, b5, b6, b7, ⟨p6.1, by show pickF r.b 1000000000 ≤ 999999999; omega⟩⟩
  split
  · exact ⟨b1, b2, b3, b4, b5, b6, ⟨by show -1099511627776 ≤ -pickF r.c 17179869184 - 1; omega, by show -pickF r.c 17179869184 - 1 ≤ 1099511627776; omega⟩, b8⟩
  split
  · exact ⟨b1, ⟨p7.1, by show pickF r.c 1125899906842625 ≤ 1125899906842624; omega⟩, b3, b4, b5, b6, b7, b8⟩
  split
  · exact ⟨b1, b2, ⟨p8.1, by show pickF r.b 1125899906842625 ≤ 1125899906842624; omega⟩, b4, b5, b6, b7, b8⟩
  split
  · exact ⟨b1, b2, b3, b4, zr, idx_lt z2, b7, b8⟩
  · exact ⟨b1, b2, b3, b4, b5, b6, b7, b8⟩
theorem nodeOf_good {r : RawT} (h : RawGood r) {p : ByteArray} (hp : pathChk p = 0) : NodeGood (nodeOf r p) := by
  have c1 := clean_size r.s 40
  have q1 := pick_lt (n := r.c) (m := 30) (by decide)
  refine ⟨hp, meta_good h, ?_, by show (0 : Nat) ≤ 400; decide, .inl ⟨rfl, rfl, Int.le_refl _⟩⟩
  show (repF _ _).size ≤ 2000
  rw [rep_size]
  have : (pickF r.c 30).toNat * (cleanF r.s 40).size ≤ 30 * 40 := Nat.mul_le_mul (by omega) (by omega)
  omega
theorem step_inv {r : RawT} (h : RawGood r) {t : List NodeT} {dirs : List ByteArray} {k : Nat} (hI : Inv t dirs) (hT : TInv k t dirs) : Inv (stepT r t dirs).1 (stepT r t dirs).2 := by
  have p1 := pick_lt (n := r.c) (m := dirs.length) (by have := hT.d0; omega)
  obtain ⟨d, hd⟩ := get_lt (l := dirs) (k := (pickF r.c dirs.length).toNat) (by omega)
  have p2 := pick_lt (n := r.b) (m := 11) (by decide)
  obtain ⟨nm, hnm⟩ := get_lt (l := namesF) (k := (pickF r.b 11).toNat) (by show _ < 11; omega)
  have hnn := names_size nm (List.mem_of_getElem? hnm)
  have hno := name_ok nm (List.mem_of_getElem? hnm)
  have hp : pathOf r dirs = pre1 d ++ nm := by
    unfold pathOf
    rw [List.getD_eq_getElem?_getD, hd, List.getD_eq_getElem?_getD, hnm]
    rfl
  unfold stepT
  dsimp only
  split
  · exact hI
  rename_i hs
  have hs1 : (pathOf r dirs).size ≤ 400 := by
    rcases Nat.lt_or_ge 400 (pathOf r dirs).size with h | h
    · exact absurd (.inl h) hs
    · exact h
  have hgood : pathChk (pathOf r dirs) = 0 ∧ UpOk t (pathOf r dirs) := by
    rcases hI.dir d (List.mem_of_getElem? hd) with rfl | ⟨hd1, m, hm, hm1, hm2⟩
    · have e : pathOf r dirs = nm := by
        rw [hp, pre1, if_pos rfl]
        apply bytes_ext
        rw [app_list]; rfl
      rw [e]
      exact ⟨chk_name hno (by omega), .inl (up_none hno.s)⟩
    · have hne : d ≠ ⟨#[]⟩ := fun e => by
        have := (pathChk_zero.1 hd1).1
        rw [e] at this
        revert this; decide
      have e : pathOf r dirs = d ++ ⟨#[47]⟩ ++ nm := by rw [hp, pre1, if_neg hne]
      rw [e] at hs1 ⊢
      exact ⟨chk_join hd1 hno hs1, .inr ⟨m, hm, by rw [up_join hno, hm1], hm2⟩⟩
  obtain ⟨hpc, hup⟩ := hgood
  have hn := nodeOf_good h hpc
  generalize hpq : pathOf r dirs = p at hpc hup hn hs hs1
  split
  · have hgd : NodeGood { nodeOf r p with kind := 2, data := ⟨#[]⟩ } := ⟨hpc, hn.mt, by show (0 : Nat) ≤ 2000; decide, by show (0 : Nat) ≤ 400; decide, .inr (.inl ⟨rfl, rfl, rfl, rfl⟩)⟩
    have h1 := hI.push hgd hup (.inl rfl)
    exact h1.pushDir (n := { nodeOf r p with kind := 2, data := ⟨#[]⟩ }) (by simp) rfl hpc
  split
  · have c2 := clean_size r.s 10
    have q2 := pick_lt (n := r.b) (m := 20) (by decide)
    have q4 : (repF (cleanF r.s 10) (pickF r.b 20)).size ≤ 200 := by
      rw [rep_size]
      have : (pickF r.b 20).toNat * (cleanF r.s 10).size ≤ 20 * 10 := Nat.mul_le_mul (by omega) (by omega)
      omega
    refine hI.push ⟨hpc, hn.mt, by show (0 : Nat) ≤ 2000; decide, ?_, .inr (.inr ⟨rfl, ?_, ?_, rfl, rfl⟩)⟩ hup (.inl rfl)
    · show ((⟨#[116]⟩ : ByteArray) ++ repF _ _).size ≤ 400
      rw [ByteArray.size_append, show (⟨#[116]⟩ : ByteArray).size = 1 from rfl]
      omega
    · intro e
      have := congrArg ByteArray.size e
      rw [ByteArray.size_append, show (⟨#[116]⟩ : ByteArray).size = 1 from rfl, show (⟨#[]⟩ : ByteArray).size = 0 from rfl] at this
      omega
    · refine idx_lt ?_
      show (0 : UInt8) ∉ ((⟨#[116]⟩ : ByteArray) ++ repF _ _).data.toList
      rw [app_list]
      exact fun h => (List.mem_append.1 h).elim (by decide) (rep_sub noz_sub)
  split
  · have q7 := pick_lt (n := r.b) (m := t.length + 1) (by omega)
    generalize hi : pickF r.b (t.length + 1) = i at q7
    obtain ⟨j, rfl⟩ : ∃ j : Nat, i = (j : Int) := ⟨i.toNat, by omega⟩
    rw [Int.toNat_natCast]
    cases hu : t[j]? with
    | none => exact hI.push hn hup (.inl rfl)
    | some u =>
      dsimp only
      split
      · rename_i hk
        have hgu := hI.node u (List.mem_of_getElem? hu)
        have hj := (List.getElem?_eq_some_iff.1 hu).1
        by_cases h0 : u.same = 0
        · rw [if_pos h0]
          have hI2 := hI.mark hu hk h0
          refine hI2.push ⟨hpc, hgu.mt, hgu.data, hgu.target, ?_⟩ ?_ ?_
          · rcases hgu.kind with ⟨a, b, c⟩ | ⟨a, _⟩ | ⟨a, _⟩
            · exact .inl ⟨a, b, by show (0 : Int) ≤ (j : Int) + 1; omega⟩
            · omega
            · omega
          · rcases hup with h | ⟨m, hm, a, c⟩
            · exact .inl h
            · refine .inr ⟨m, ?_, a, c⟩
              obtain ⟨q, hq⟩ := List.getElem?_of_mem hm
              by_cases e : j = q
              · subst e; rw [hu] at hq; injection hq with hq; subst hq; omega
              · exact List.mem_of_getElem? (i := q) (by rw [List.getElem?_set_ne e]; exact hq)
          · refine .inr ⟨by show (1 : Int) ≤ (j : Int) + 1; omega, { u with same := (j : Int) + 1 }, ?_, rfl, rfl, rfl, rfl⟩
            show (t.set j _)[((j : Int) + 1 - 1).toNat]? = _
            rw [show ((j : Int) + 1 - 1).toNat = j by omega]
            exact List.getElem?_set_self hj
        · rw [if_neg h0]
          have e : t.set j { u with same := u.same } = t := by
            obtain ⟨hj1, hj2⟩ := List.getElem?_eq_some_iff.1 hu
            have : ({ u with same := u.same } : NodeT) = t[j] := by rw [hj2]
            rw [this, List.set_getElem_self]
          rw [e]
          refine hI.push ⟨hpc, hgu.mt, hgu.data, hgu.target, ?_⟩ hup ?_
          · rcases hgu.kind with ⟨a, b, c⟩ | ⟨a, _⟩ | ⟨a, _⟩
            · exact .inl ⟨a, b, c⟩
            · omega
            · omega
          · rcases hI.own u (List.mem_of_getElem? hu) with h | ⟨g1, w, g2, g3, g4, g5, g6⟩
            · exact absurd h h0
            · exact .inr ⟨g1, w, g2, g3, g4, g5, g6⟩
      · exact hI.push hn hup (.inl rfl)
  · exact hI.push hn hup (.inl rfl)
theorem stepT_tinv {r : RawT} (h : RawGood r) {t : List NodeT} {dirs : List ByteArray} {k : Nat} (hT : TInv k t dirs) : TInv (k + 1) (stepT r t dirs).1 (stepT r t dirs).2 := by
  have c1 := clean_size r.s 40
  have q1 := pick_lt (n := r.c) (m := 30) (by decide)
  have q3 : (repF (cleanF r.s 40) (pickF r.c 30)).size ≤ 1200 := by
    rw [rep_size]
    have : (pickF r.c 30).toNat * (cleanF r.s 40).size ≤ 30 * 40 := Nat.mul_le_mul (by omega) (by omega)
    omega
  unfold stepT
  dsimp only
  split
  · exact ⟨by have := hT.tl; show t.length ≤ k + 1; omega, by have := hT.dl; show dirs.length ≤ k + 1 + 1; omega, hT.d0, hT.ds, hT.tp, hT.nd⟩
  rename_i hs
  have hs1 : (pathOf r dirs).size ≤ 400 := by
    rcases Nat.lt_or_ge 400 (pathOf r dirs).size with h | h
    · exact absurd (.inl h) hs
    · exact h
  have hs2 : ¬ findN t (pathOf r dirs) ≥ 0 := fun h => hs (.inr h)
  generalize pathOf r dirs = p at hs1 hs2
  have hd0 : ∀ n ∈ t, n.data.size ≤ 1200 := fun n hn => (hT.tp n hn).2
  have hcom : TInv (k + 1) (t ++ [nodeOf r p]) dirs := hT.step hs2 hs1 rfl q3 rfl hd0 (.inl rfl)
  split
  · exact hT.step hs2 hs1 rfl (by show (0 : Nat) ≤ 1200; decide) rfl hd0 (.inr rfl)
  split
  · exact hT.step hs2 hs1 rfl (by show (0 : Nat) ≤ 1200; decide) rfl hd0 (.inl rfl)
  split
  · cases hu : t[(pickF r.b (t.length + 1)).toNat]? with
    | none => exact hcom
    | some u =>
      dsimp only
      split
      · have hud := hT.tp u (List.mem_of_getElem? hu)
        generalize (pickF r.b (t.length + 1)).toNat = j at hu
        generalize (if u.same = 0 then pickF r.b (t.length + 1) + 1 else u.same) = v
        refine hT.step hs2 hs1 rfl hud.2 ?_ (fun n hn => ?_) (.inl rfl)
        · rw [List.map_set]
          obtain ⟨hj1, hj2⟩ := List.getElem?_eq_some_iff.1 hu
          apply List.ext_getElem?
          intro m
          rw [List.getElem?_set]
          split
          · rename_i hm
            subst hm
            rw [List.length_map, if_pos hj1, List.getElem?_map, hu]
            rfl
          · rfl
        · rcases List.mem_or_eq_of_mem_set hn with hn | rfl
          · exact hd0 n hn
          · exact hud.2
      · exact hcom
  · exact hcom
theorem grow_inv {most : Int} : ∀ (l : List RawT) (t : List NodeT) (dirs : List ByteArray) (k : Nat), (∀ r ∈ l, RawGood r) → Inv t dirs → TInv k t dirs → ((t.length : Int) ≤ most ∨ t = []) → ∃ dirs' k', Inv (growT most l (t, dirs)) dirs' ∧ TInv k' (growT most l (t, dirs)) dirs' ∧ (((growT most l (t, dirs)).length : Int) ≤ most ∨ growT most l (t, dirs) = [])
  | [], t, dirs, k, _, h1, h2, h3 => ⟨dirs, k, h1, h2, h3⟩
  | r :: l, t, dirs, k, hg, h1, h2, h3 => by
    rw [growT]
    split
    · exact ⟨dirs, k, h1, h2, h3⟩
    · rename_i hm
      have h4 := step_inv (hg r (List.mem_cons_self ..)) h1 h2
      have h5 := stepT_tinv (hg r (List.mem_cons_self ..)) h2
      have hle : (stepT r t dirs).1.length ≤ t.length + 1 := by
        unfold stepT
        dsimp only
        repeat' split
        all_goals simp
      dsimp only at hm
      have hlast : ((stepT r t dirs).1.length : Int) ≤ most := by omega
      exact grow_inv l _ _ (k + 1) (fun x hx => hg x (List.mem_cons_of_mem _ hx)) h4 h5 (.inl hlast)
/-- A tree: what Check asks, and that those of one number are the same. -/
structure TreeOk (t : List NodeT) : Prop where
  node : ∀ n ∈ t, NodeGood n
  sorted : t.Pairwise (fun a b => lessF a.path b.path < 0)
  up : ∀ n ∈ t, UpOk t n.path
  one : ∀ a ∈ t, ∀ b ∈ t, a.same = b.same → a.same ≠ 0 → a.mt = b.mt ∧ a.data = b.data ∧ a.kind = b.kind
theorem tree_ok {l : List RawT} {most : Int} (hg : ∀ r ∈ l, RawGood r) (h0 : 0 ≤ most) : TreeOk (treeF l most) ∧ ((treeF l most).length : Int) ≤ most := by
  have hI0 : Inv [] [⟨#[]⟩] := ⟨fun n hn => (by cases hn), fun d hd => .inl (by simpa using hd), fun n hn => (by cases hn), fun n hn => (by cases hn)⟩
  have hT0 : TInv 0 [] [⟨#[]⟩] := ⟨Nat.le_refl _, Nat.le_refl _, by decide, fun d hd => (by rw [List.mem_singleton] at hd; subst hd; decide), fun n hn => (by cases hn), by simp⟩
  obtain ⟨dirs, k, h1, h2, h3⟩ := grow_inv (most := most) l [] [⟨#[]⟩] 0 hg hI0 hT0 (.inr rfl)
  unfold treeF
  generalize growT most l ([], [⟨#[]⟩]) = t at h1 h2 h3
  have hp : (sortF t).Perm t := List.mergeSort_perm t nodeLe
  have T := lessF_tot
  have hs : (sortF t).Pairwise (fun a b => nodeLe a b = true) := List.pairwise_mergeSort (fun a b c h1 h2 => by
    unfold nodeLe at *
    exact decide_eq_true (T.tr _ _ _ (of_decide_eq_true h1) (of_decide_eq_true h2))) (fun a b => by
    unfold nodeLe
    have := T.neg a.path b.path
    rw [Bool.or_eq_true, decide_eq_true_eq, decide_eq_true_eq]
    omega) t
  have hnd : ((sortF t).map (·.path)).Nodup := (hp.map _).nodup_iff.2 h2.nd
  refine ⟨⟨fun n hn => h1.node n (hp.mem_iff.1 hn), ?_, fun n hn => ?_, fun a ha b hb e e0 => ?_⟩, ?_⟩
  · rw [List.Nodup, List.pairwise_map] at hnd
    refine List.Pairwise.imp₂ (fun a b hab hne => ?_) hs hnd
    have hle : lessF a.path b.path ≤ 0 := of_decide_eq_true hab
    have := (T.zero a.path b.path)
    have hz : lessF a.path b.path ≠ 0 := fun h => hne (this.1 h)
    omega
  · rcases h1.up n (hp.mem_iff.1 hn) with h | ⟨m, hm, h⟩
    · exact .inl h
    · exact .inr ⟨m, hp.mem_iff.2 hm, h⟩
  · obtain ⟨a1, u, a2, a3, a4, a5, a6⟩ := (h1.own a (hp.mem_iff.1 ha)).resolve_left e0
    obtain ⟨b1, v, b2, b3, b4, b5, b6⟩ := (h1.own b (hp.mem_iff.1 hb)).resolve_left (by rw [← e]; exact e0)
    rw [← e] at b2
    have huv : u = v := by rw [a2] at b2; injection b2
    subst huv
    exact ⟨a4.symm.trans b4, a5.symm.trans b5, a6.symm.trans b6⟩
  · rw [hp.length_eq]
    rcases h3 with h | h
    · exact h
    · rw [h]; exact h0
theorem alike_same {f n : NodeT} (h4 : f.mt = n.mt) (h5 : f.data = n.data) : alikeF f n = true := by
  unfold alikeF
  rw [h4, h5]
  simp
theorem less_at {t : List NodeT} (hT : TreeOk t) {i j : Nat} {x y : NodeT} (hx : t[i]? = some x) (hy : t[j]? = some y) (h : i < j) : lessF x.path y.path < 0 := by
  obtain ⟨h1, e1⟩ := List.getElem?_eq_some_iff.1 hx
  obtain ⟨h2, e2⟩ := List.getElem?_eq_some_iff.1 hy
  have := List.pairwise_iff_getElem.1 hT.sorted i j h1 h2 h
  rw [e1, e2] at this
  exact this
theorem tree_nodup {t : List NodeT} (hT : TreeOk t) : (t.map (·.path)).Nodup := by
  rw [List.Nodup, List.pairwise_map]
  refine hT.sorted.imp fun {a b} h e => ?_
  rw [e, (lessF_tot.zero _ _).2 rfl] at h
  cases h
theorem lookup_mem {α : Type} {s : Int} {x : α} : ∀ {m : List (Int × α)}, m.lookup s = some x → (s, x) ∈ m
  | (b, y) :: m, h => by
    rw [List.lookup] at h
    cases hb : s == b with
    | true =>
      rw [hb] at h
      injection h with h
      have := eq_of_beq hb
      subst h; subst this
      exact List.mem_cons_self ..
    | false =>
      rw [hb] at h
      exact List.mem_cons_of_mem _ (lookup_mem h)
theorem chk_ok {t : List NodeT} (hT : TreeOk t) : ∀ (d k : Nat) (m : List (Int × NodeT)), k + d = t.length → (∀ p ∈ m, p.2 ∈ t ∧ p.2.same = p.1) → chkL (t.take k) (t.drop k) m = 0
  | 0, k, m, hd, hm => by rw [List.drop_eq_nil_of_le (by omega), chkL]
  | d + 1, k, m, hd, hm => by
    obtain ⟨n, hn⟩ : ∃ n, t[k]? = some n := ⟨t[k], List.getElem?_eq_getElem (by omega)⟩
    have hnm := List.mem_of_getElem? hn
    have hg := hT.node n hnm
    have hpb : prevBad (t.take k) n = false := by
      unfold prevBad
      by_cases hk : k = 0
      · subst hk; rfl
      · obtain ⟨y, hy⟩ : ∃ y, t[k - 1]? = some y := ⟨t[k - 1], List.getElem?_eq_getElem (by omega)⟩
        have hgy := hT.node y (List.mem_of_getElem? hy)
        rw [last_take (by omega) (by omega), hy]
        dsimp only
        rw [compare_less hgy.path hg.path]
        have := less_at hT hy hn (by omega)
        exact decide_eq_false (by omega)
    have hub : upBad (t.take k) n = false := by
      unfold upBad
      rcases hT.up n hnm with h | ⟨p, hp, h1, h2⟩
      · rw [decide_eq_true h]; rfl
      · by_cases hz : upF n.path = ⟨#[]⟩
        · rw [decide_eq_true hz]; rfl
        obtain ⟨j, hj⟩ := List.getElem?_of_mem hp
        have hl := less_up hz
        rw [← h1] at hl
        have hjk : j < k := by
          rcases Nat.lt_trichotomy j k with h | h | h
          · exact h
          · subst h
            rw [hn] at hj
            injection hj with hj
            rw [hj] at hl
            have := (lessF_tot.zero p.path p.path).2 rfl
            omega
          · have h4 := less_at hT hn hj h
            have h5 := lessF_tot.neg n.path p.path
            omega
        cases hf : (t.take k).find? (fun x => decide (x.path = upF n.path)) with
        | none =>
          have := List.find?_eq_none.1 hf p (List.mem_of_getElem? (i := j) (by rw [List.getElem?_take, if_pos hjk]; exact hj))
          simp [h1] at this
        | some z =>
          have hz1 := List.find?_some hf
          have hz2 := List.mem_of_mem_take (List.mem_of_find?_eq_some hf)
          have e : z = p := nodup_inj (tree_nodup hT) z p hz2 hp (by rw [h1]; simpa using hz1)
          subst e
          dsimp only
          rw [decide_eq_true h2, Bool.not_true, Bool.and_false]
    rw [drop_at hn, chkL, hpb, if_neg (by decide), hub, if_neg (by decide), ← take_snoc hn]
    by_cases h0 : n.same = 0
    · rw [if_pos h0]
      exact chk_ok hT d (k + 1) m (by omega) hm
    · rw [if_neg h0]
      cases hlk : m.lookup n.same with
      | none =>
        refine chk_ok hT d (k + 1) _ (by omega) (fun p hp => ?_)
        rcases List.mem_append.1 hp with hp | hp
        · exact hm p hp
        · rw [List.mem_singleton] at hp; subst hp; exact ⟨hnm, rfl⟩
      | some f =>
        obtain ⟨m1, m2⟩ := hm _ (lookup_mem hlk)
        obtain ⟨e4, e5, _⟩ := hT.one f m1 n hnm m2 (by rw [show f.same = n.same from m2]; exact h0)
        dsimp only
        rw [alike_same e4 e5, if_pos rfl]
        exact chk_ok hT d (k + 1) m (by omega) hm
theorem check_tree {t : List NodeT} (hT : TreeOk t) (h : t.length ≤ 40) : chkF t = 0 := by
  unfold chkF
  rw [if_neg (by omega)]
  exact chk_ok hT t.length 0 [] (by omega) (fun p hp => by cases hp)
end Go.Proofs.YtgjldbcpohkmkaaDoor.Abs
