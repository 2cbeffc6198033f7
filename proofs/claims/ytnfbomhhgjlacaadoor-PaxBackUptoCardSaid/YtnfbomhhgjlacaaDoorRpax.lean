/- Many records: pax.Check, Write, Read, Find. -/
import Derived.Test.YtnfbomhhgjlacaaDoorRrec
import Derived.Test.YtnfbomhhgjlacaaDoorRbstr
import Derived.Test.YtnfbomhhgjlacaaDoorDr17
import Derived.Test.YtnfbomhhgjlacaaDoorDr11
import Derived.Test.YtnfbomhhgjlacaaDoorDr9
import Derived.Test.YtnfbomhhgjlacaaDoorRtree3
namespace Go.Proofs.YtnfbomhhgjlacaaDoor.Abs
open Go.RowKit Go.MapKept
set_option linter.unusedVariables false
set_option linter.unusedSimpArgs false
set_option maxRecDepth 100000
set_option maxHeartbeats 4000000
theorem ltS_lexR (a b : ByteArray) : ltS a b = decide (lexC cU a.data.toList b.data.toList < 0) := by
  unfold ltS
  rw [ByteArray.toList_eq, ByteArray.toList_eq, less_lex]
theorem ltS_or (a b : ByteArray) : (ltS a b || decide (a = b)) = !ltS b a := by
  have T := lex_tot cU_tot
  rw [ltS_lexR, ltS_lexR, T.neg a.data.toList b.data.toList]
  by_cases e : a = b
  · subst e
    rw [(T.zero _ _).2 rfl]
    simp
  · have h0 : ¬ lexC cU a.data.toList b.data.toList = 0 := fun h => e (bytes_ext ((T.zero _ _).1 h))
    rw [decide_eq_false e, Bool.or_false, ← decide_not]
    congr 1
    apply propext
    omega
theorem ltS_tr {a b c : ByteArray} (h : ltS a b = true) (h2 : ltS b c = true) : ltS a c = true := by
  have T := lex_tot cU_tot
  rw [ltS_lexR, decide_eq_true_eq] at *
  have h3 := T.tr a.data.toList b.data.toList c.data.toList (by omega) (by omega)
  rcases Int.lt_or_eq_of_le h3 with h4 | h4
  · exact h4
  · have e := (T.zero _ _).1 h4
    rw [e] at h
    have := T.neg c.data.toList b.data.toList
    omega
theorem ltS_irr (a : ByteArray) : ltS a a = false := by
  rw [ltS_lexR, ((lex_tot cU_tot).zero _ _).2 rfl]
  rfl
theorem cR (l : List RecT) : ClosedE (l.map encRec) := ClosedE_map (fun _ _ => rfl) l
/-- Up to place k the keys rise. -/
def UpTo (l : List RecT) (k : Nat) : Prop := ∀ i a b, i + 1 < k → l[i]? = some a → l[i + 1]? = some b → ltS a.key b.key = true
theorem UpTo.succ {l : List RecT} {k : Nat} (h : UpTo l k) (h2 : ∀ a b, 0 < k → l[k - 1]? = some a → l[k]? = some b → ltS a.key b.key = true) : UpTo l (k + 1) := fun i a b hi ha hb => by
  by_cases e : i + 1 < k
  · exact h i a b e ha hb
  · obtain rfl : k = i + 1 := by omega
    exact h2 a b (by omega) (by simpa using ha) hb
/-- What pax.Check says: e. -/
def ChkSays (l : List RecT) (e : Int) : Prop := (e = 0 ∧ UpTo l l.length) ∨ (e = 6 ∧ ∃ q a b, UpTo l (q + 1) ∧ l[q]? = some a ∧ l[q + 1]? = some b ∧ ltS a.key b.key = false)
theorem paxCheck_ac (l : List RecT) (e : Int) (hl : l.length ≤ 12) (hg : ∀ r ∈ l, RecOk r) (he : ChkSays l e) : AC CX 81 [.row 2 (l.map encRec)] (.v (.int .i64 e)) := by
  refine AC_walk ⟨TB, 35, 0, [], []⟩ (fn := Tryd.f81) TB_ok Tryd.func81 rfl rfl rfl rfl rfl (fun _ => rfl) (fun _ => rfl) ?_; intro E hna hX
  refine goT ?_
  refine W_loop (fun k : Nat => k ≤ l.length ∧ UpTo l k) (fun k => l.length - k) (fun k => ⟨[(0, .row 2 (l.map encRec)), (9, .row 2 (l.map encRec)), (10, .v (.int .i64 l.length)), (11, .v (.int .i64 k))], []⟩) 0 ⟨Nat.zero_le _, fun i a b h => by omega⟩ (Drops.to [0, 9, 10, 11] rfl) ?_
  rintro k ⟨hk, hb⟩
  refine goT ?_
  refine condB_intro (fun h1 => ?_) (fun h1 => ?_)
  · have e1 : (k : Int) < (l.length : Int) := of_decide_eq_true h1
    obtain ⟨x, hx⟩ : ∃ x, l[k]? = some x := ⟨l[k], List.getElem?_eq_getElem (by omega)⟩
    have hch := recCheck_ac x (hg x (List.mem_of_getElem? hx))
    refine goT ?_
    refine ⟨_, hch, by kernel_rfl, fun _ => rfl, ?_⟩
    refine goT ?_
    by_cases hk0 : k = 0
    · subst hk0
      refine W_drops (st' := ⟨[(0, .row 2 (l.map encRec)), (9, .row 2 (l.map encRec)), (10, .v (.int .i64 l.length)), (11, .v (.int .i64 (0 : Nat))), (3, .v (.int .i64 (0 : Nat))), (4, .ptr 0 0)], [.cells 70 (encRec x)]⟩) (Drops.to [0, 9, 10, 11, 3, 4] rfl) ?_
      refine W_draw hX (n := 13) (follows_mixed Tryd.checked) (ws := [[], [(0, 21)], [(1, 22)], [(2, 23)], [(2, 23), (3, 24)], [(2, 23)], [(2, 23)], [(2, 23), (6, 27)], [(2, 23), (5, 26), (7, 28)], [(2, 23), (8, 29)], [(2, 23), (9, 30)], [(2, 23), (4, 25), (10, 31)], [(2, 23), (11, 32)]]) (ds := [21, 22, 23, 24, 25, 26, 27, 28, 29, 30, 31, 32, 33]) (bi := []) (wa := [(0, 21), (1, 22), (2, 23), (3, 24), (4, 25), (5, 26), (6, 27), (7, 28), (8, 29), (9, 30), (10, 31), (11, 32), (12, 33)]) ⟨by kernel_rfl, by kernel_rfl, by kernel_rfl, by kernel_rfl, by decide, by kernel_rfl, by kernel_rfl, rfl, by decide, rfl⟩ ?_
      refine goT ?_
      exact LoopEnd_fin 1 [0, 9, 10, 11] 0 hX ⟨by omega, hb.succ fun a b h => by omega⟩ (by omega) rfl rfl rfl rfl trivial
    · obtain ⟨j, rfl⟩ : ∃ j, k = j + 1 := ⟨k - 1, by omega⟩
      obtain ⟨y, hy⟩ : ∃ y, l[j]? = some y := ⟨l[j], List.getElem?_eq_getElem (by omega)⟩
      refine W_drops (st' := ⟨[(0, .row 2 (l.map encRec)), (9, .row 2 (l.map encRec)), (10, .v (.int .i64 l.length)), (11, .v (.int .i64 (j + 1 : Nat))), (3, .v (.int .i64 (j + 1 : Nat))), (4, .ptr 0 0)], [.cells 70 (encRec x)]⟩) (Drops.to [0, 9, 10, 11, 3, 4] rfl) ?_
      refine W_draw hX (n := 13) (follows_mixed Tryd.checked) (ws := [[], [(0, 21)], [(1, 22)], [(2, 23)], [(2, 23), (3, 24)], [(2, 23)], [(2, 23)], [(2, 23), (6, 27)], [(2, 23), (5, 26), (7, 28)], [(2, 23), (8, 29)], [(2, 23), (9, 30)], [(2, 23), (4, 25), (10, 31)], [(2, 23), (11, 32)]]) (ds := [21, 22, 23, 24, 25, 26, 27, 28, 29, 30, 31, 32, 33]) (bi := []) (wa := [(0, 21), (1, 22), (2, 23), (3, 24), (4, 25), (5, 26), (6, 27), (7, 28), (8, 29), (9, 30), (10, 31), (11, 32), (12, 33)]) ⟨by kernel_rfl, by kernel_rfl, by kernel_rfl, by kernel_rfl, by decide, by kernel_rfl, by kernel_rfl, rfl, by decide, rfl⟩ ?_
      refine goT ?_
      refine ⟨j, by omega, _, get_mapN hy, ?_⟩
      refine goT ?_
      refine condB_intro (fun h2 => ?_) (fun h2 => ?_)
      · rw [ltS_or, Bool.not_eq_true'] at h2
        refine goT ?_
        rcases he with ⟨rfl, hu⟩ | ⟨rfl, _⟩
        · have := hu j y x (by have := (List.getElem?_eq_some_iff.1 hx).1; omega) hy hx
          rw [this] at h2
          cases h2
        · rfl
      · rw [ltS_or, Bool.not_eq_false'] at h2
        refine goT ?_
        exact LoopEnd_fin (j + 2) [0, 9, 10, 11] 0 hX ⟨by omega, hb.succ fun a b h ha hb => by
          have ha : l[j]? = some a := ha
          rw [hy] at ha; rw [hx] at hb
          injection ha with ha; injection hb with hb
          subst ha; subst hb
          exact h2⟩ (by omega) rfl rfl rfl rfl trivial
  · have e1 : ¬ (k : Int) < (l.length : Int) := of_decide_eq_false h1
    obtain rfl : k = l.length := by omega
    refine goT ?_
    rcases he with ⟨rfl, _⟩ | ⟨_, q, a, b, _, h2, h3, h4⟩
    · rfl
    · have := hb q a b (by have := (List.getElem?_eq_some_iff.1 h3).1; omega) h2 h3
      rw [this] at h4
      cases h4
/-- The records, one behind the other. -/
def catB (l : List RecT) : ByteArray := l.foldl (fun s r => s ++ recB r) ⟨#[]⟩
theorem catB_snoc {l : List RecT} {k : Nat} {x : RecT} (h : l[k]? = some x) : catB (l.take (k + 1)) = catB (l.take k) ++ recB x := by
  unfold catB
  rw [take_snoc h, List.foldl_append]
  rfl
theorem catB_size (l : List RecT) (hg : ∀ r ∈ l, RecOk r) : (catB l).size ≤ 567 * l.length := by
  unfold catB
  have : ∀ (m : List RecT) (s : ByteArray), (∀ r ∈ m, RecOk r) → (m.foldl (fun s r => s ++ recB r) s).size ≤ s.size + 567 * m.length := by
    intro m
    induction m with
    | nil => intro s _; simp
    | cons r m ih =>
      intro s h
      have h1 := ih (s ++ recB r) (fun x hx => h x (List.mem_cons_of_mem _ hx))
      have h2 := recB_size (h r (List.mem_cons_self ..))
      rw [ByteArray.size_append] at h1
      rw [List.foldl_cons, List.length_cons]
      omega
  have h3 := this l ⟨#[]⟩ hg
  have h4 : (⟨#[]⟩ : ByteArray).size = 0 := rfl
  omega
theorem catB_pos {l : List RecT} {k : Nat} (hg : ∀ r ∈ l, RecOk r) (hk : k < l.length) : (catB (l.take (k + 1))).size ≠ 0 := by
  have hx : l[k]? = some l[k] := List.getElem?_eq_getElem hk
  rw [catB_snoc hx, ByteArray.size_append]
  have := recB_size (hg _ (List.mem_of_getElem? hx))
  omega
def penBx (T : Nat) (u : Nat) (rest : List AV) (l : List RecT) : Nat → List BoxC
  | 0 => [.cells T (.v (.pointer none) :: .v (.slice none 0 0) :: rest)]
  | k + 1 => [.cells T (.ptr 0 0 :: .own 2 1 0 (catB (l.take (k + 1))).size :: rest), .none, .row u 1 (bytesA (catB (l.take (k + 1))))]
theorem paxWrite_ac (l : List RecT) (hl : l.length ≤ 12) (hg : ∀ r ∈ l, RecOk r) (hu : UpTo l l.length) : AC CX 31 [.row 2 (l.map encRec)] (.tup [.v (.string (catB l)), .v (.int .i64 0)]) := by
  have hch := paxCheck_ac l 0 hl hg (.inl ⟨rfl, hu⟩)
  have hsz : ∀ k, (catB (l.take k)).size ≤ 6804 := fun k => by
    have h1 := catB_size (l.take k) (fun r hr => hg r (List.mem_of_mem_take hr))
    have h2 : (l.take k).length ≤ 12 := by rw [List.length_take]; omega
    omega
  refine AC_walk ⟨TB, 30, 0, [], []⟩ (fn := Tryd.f31) TB_ok Tryd.func31 rfl rfl rfl rfl rfl (fun _ => rfl) (fun _ => rfl) ?_; intro E hna hX
  refine goT ?_
  refine ⟨_, hch, by kernel_rfl, fun _ => rfl, ?_⟩
  refine goT ?_
  refine W_loop (fun k : Nat => k ≤ l.length) (fun k => l.length - k) (fun k => ⟨[(5, .ptr 0 0), (15, .row 2 (l.map encRec)), (16, .v (.int .i64 l.length)), (17, .v (.int .i64 k))], penBx 81 5 [] l k⟩) 0 (Nat.zero_le _) (Drops.to [5, 15, 16, 17] rfl) ?_
  rintro k hk
  cases k with
  | zero =>
    refine goT ?_
    refine condB_intro (fun h1 => ?_) (fun h1 => ?_)
    · have e1 := of_decide_eq_true h1
      obtain ⟨x, hx⟩ : ∃ x, l[0]? = some x := ⟨l[0], List.getElem?_eq_getElem (by omega)⟩
      have hrx := hg x (List.mem_of_getElem? hx)
      have hwr := recWrite_ac x hrx
      have hrs := recB_size hrx
      have hcat : catB (l.take (0 + 1)) = recB x := by
        rw [catB_snoc hx]
        apply bytes_ext
        rw [app_list]
        rfl
      have hws : ACB CX 82 [.ptr 0 0, .v (.string (recB x))] [.cells 81 [.v (.pointer none), .v (.slice none 0 0)]] (.tup [.v (.int .i64 (recB x).size), .v .nilIface]) [.cells 81 [.ptr 0 0, .own 1 1 0 (catB (l.take (0 + 1))).size], .row 5 1 (bytesA (catB (l.take (0 + 1))))] := by
        rw [hcat]
        exact writeString_new (recB x) (by omega)
      refine goT ?_
      refine ⟨_, hwr, by kernel_rfl, fun _ => rfl, ?_⟩
      refine goT ?_
      refine .inr ⟨[0], _, _, _, _, ⟨hws, by kernel_rfl, rfl, rfl, rfl, by decide, rfl, Nat.le_succ _, rfl, ballc rfl balln, ballc rfl (ballc (bytesA_closed _) balln), rfl, fun j hj => (by cases hj), fun j hj => (by cases hj)⟩, ?_⟩
      refine goT ?_
      exact ⟨0 + 1, by omega, by omega, Drops.trans (Drops.forget 1) (Drops.fin [5, 15, 16, 17] 3 (by rw [hX.np]; exact Nat.zero_le _) rfl rfl rfl ⟨rfl, True.intro, bytesA_closed _, trivial⟩)⟩
    · have e1 := of_decide_eq_false h1
      obtain rfl : l = [] := List.eq_nil_of_length_eq_zero (by omega)
      have hst := stringNil_acb 81 []
      refine goT ?_
      refine .inr ⟨[0], _, _, _, _, ⟨hst, by kernel_rfl, rfl, rfl, rfl, by decide, rfl, Nat.le_refl _, rfl, ballc rfl balln, ballc trivial balln, rfl, fun j hj => (by cases hj), fun j hj => (by cases hj)⟩, ?_⟩
      refine goT ?_
      rfl
  | succ k =>
    refine goT ?_
    refine condB_intro (fun h1 => ?_) (fun h1 => ?_)
    · have e1 := of_decide_eq_true h1
      obtain ⟨x, hx⟩ : ∃ x, l[k + 1]? = some x := ⟨l[k + 1], List.getElem?_eq_getElem (by omega)⟩
      have hrx := hg x (List.mem_of_getElem? hx)
      have hwr := recWrite_ac x hrx
      have hrs := recB_size hrx
      have hz := hsz (k + 1)
      have hws : ACB CX 82 [.ptr 0 0, .v (.string (recB x))] [.cells 81 [.ptr 0 0, .own 1 1 0 (catB (l.take (k + 1))).size], .row 5 1 (bytesA (catB (l.take (k + 1))))] (.tup [.v (.int .i64 (recB x).size), .v .nilIface]) [.cells 81 [.ptr 0 0, .own 1 1 0 (catB (l.take (k + 1 + 1))).size], .row 5 1 (bytesA (catB (l.take (k + 1 + 1))))] := by
        rw [catB_snoc hx]
        exact writeString_old (catB (l.take (k + 1))) (recB x) (by omega) (by omega)
      refine goT ?_
      refine ⟨_, hwr, by kernel_rfl, fun _ => rfl, ?_⟩
      refine goT ?_
      refine .inr ⟨[0, 2], _, _, _, _, ⟨hws, by kernel_rfl, rfl, rfl, rfl, by decide, rfl, Nat.le_refl _, rfl, ballc rfl (ballc (bytesA_closed _) balln), ballc rfl (ballc (bytesA_closed _) balln), rfl, fun j _ => rfl, fun j hj => ⟨.inl (by decide), .inr rfl, .inl (by decide), .inr rfl, trivial⟩⟩, ?_⟩
      refine goT ?_
      exact LoopEnd_fin (k + 2) [5, 15, 16, 17] 3 hX (by omega) (by omega) rfl rfl rfl rfl ⟨rfl, True.intro, bytesA_closed _, trivial⟩
    · have e1 := of_decide_eq_false h1
      have hk2 : k + 1 = l.length := by omega
      have hst := string_acb 81 [] (catB (l.take (k + 1))) (catB_pos hg (by omega))
      refine goT ?_
      refine .inr ⟨[0, 2], _, _, _, _, ⟨hst, by kernel_rfl, rfl, rfl, rfl, by decide, rfl, Nat.le_refl _, rfl, ballc rfl (ballc (bytesA_closed _) balln), ballc trivial (ballc trivial balln), rfl, fun j _ => rfl, fun j hj => ⟨.inl (by decide), .inr rfl, .inl (by decide), trivial⟩⟩, ?_⟩
      refine goT ?_
      rw [hk2, List.take_length]
      rfl
theorem catB_cons (r : RecT) (l : List RecT) : catB (r :: l) = recB r ++ catB l := by
  have h : ∀ (m : List RecT) (s : ByteArray), (m.foldl (fun s r => s ++ recB r) s) = s ++ catB m := by
    intro m
    induction m with
    | nil => intro s; apply bytes_ext; rw [app_list]; unfold catB; simp
    | cons a m ih =>
      intro s
      have h2 : catB (a :: m) = ((⟨#[]⟩ : ByteArray) ++ recB a) ++ catB m := ih ((⟨#[]⟩ : ByteArray) ++ recB a)
      rw [List.foldl_cons, ih, h2]
      apply bytes_ext
      simp only [app_list]
      simp
  unfold catB
  rw [List.foldl_cons, h]
  apply bytes_ext
  simp only [app_list]
  unfold catB
  simp
theorem catB_app (l m : List RecT) : catB (l ++ m) = catB l ++ catB m := by
  induction l with
  | nil => apply bytes_ext; rw [app_list]; unfold catB; simp
  | cons r l ih =>
    rw [List.cons_append, catB_cons, catB_cons, ih]
    apply bytes_ext
    simp only [app_list]
    simp
theorem paxRead_ac (l : List RecT) (e : Int) (hl : l.length ≤ 12) (hg : ∀ r ∈ l, RecOk r) (he : ChkSays l e) : AC CX 33 [.v (.string (catB l))] (.tup [if e = 0 then .row 2 (l.map encRec) else .v (.slice none 0 0), .v (.int .i64 e)]) := by
  have hch := paxCheck_ac l e hl hg he
  have hsz : ∀ k, (catB (l.drop k)).size ≤ 6804 := fun k => by
    have h1 := catB_size (l.drop k) (fun r hr => hg r (List.mem_of_mem_drop hr))
    have h2 : (l.drop k).length ≤ 12 := by rw [List.length_drop]; omega
    omega
  have hX0 : ∀ i, (AV.tup [if e = 0 then .row 2 (l.map encRec) else .v (.slice none 0 0), .v (.int .i64 e)]).avoids i = true := fun i => by
    split
    · have := cR l i
      simp [AV.avoids, AV.avoidsL, this]
    · rfl
  refine AC_walk ⟨TB, 31, 0, [], []⟩ (fn := Tryd.f33) TB_ok Tryd.func33 rfl rfl rfl rfl rfl (fun _ => rfl) hX0 ?_
  intro E hna hX
  repeat (first | ((with_reducible show W _ _ _ _ _ _); first | refine W_seq ?_ | refine W_region hX ?_ | refine W_cond ?_ | refine W_skip ?_ | refine W_exit ?_ | refine W_ret ?_) | ((fail_if_success (with_reducible show W _ _ _ _ _ _)); show W _ _ _ _ _ _) | refine andA ?_ | refine condT ?_ | refine condF ?_ | refine exB ?_ | refine exL ?_ | refine Exists.intro _ (And.intro rfl ?_) | refine Exists.intro _ (And.intro (get_mapN (by assumption)) ?_) | ((fail_if_success (with_reducible show LoopEnd _ _ _ _ _ _ _)); show LoopEnd _ _ _ _ _ _ _) | ((fail_if_success (with_reducible show JoinEnd _ _ _ _ _)); show JoinEnd _ _ _ _ _) | ((fail_if_success (with_reducible show JoinG _ _ _ _ _)); show JoinG _ _ _ _ _))
  refine W_nilOwn hX 4 70 2 rfl rfl ?_
  refine goT ?_
  refine W_loop (fun k : Nat => k ≤ l.length) (fun k => l.length - k) (fun k => ⟨[(0, .v (.string (catB (l.drop k)))), (4, .own 0 2 0 k)], [.row 70 2 ((l.take k).map encRec)]⟩) 0 (Nat.zero_le _) (Drops.to [0, 4] rfl) ?_
  intro k hk
  refine goT ?_
  refine condB_intro (fun h1 => ?_) (fun h1 => ?_)
  · have hk2 : k < l.length := by
      rcases Nat.lt_or_ge k l.length with h | h
      · exact h
      · rw [List.drop_eq_nil_of_le h] at h1
        cases h1
    obtain ⟨x, hx⟩ := get_lt hk2
    have hz := hsz (k + 1)
    have hdr : catB (l.drop k) = recB x ++ catB (l.drop (k + 1)) := by
      rw [← catB_cons]
      congr 1
      obtain ⟨h, rfl⟩ := List.getElem?_eq_some_iff.1 hx
      exact List.drop_eq_getElem_cons h
    have hrd := recRead_ac x (hg x (List.mem_of_getElem? hx)) (catB (l.drop (k + 1))) (by omega)
    rw [← hdr] at hrd
    refine goT ?_
    refine ⟨_, hrd, by kernel_rfl, fun _ => rfl, ?_⟩
    refine goT ?_
    refine ⟨k + 1, (l.take (k + 1)).map encRec, rfl, by rw [take_snoc hx, List.map_append]; rfl, ?_⟩
    refine goT ?_
    exact LoopEnd_fin (k + 1) [0, 4] 1 hX (by omega) (by omega) rfl rfl rfl rfl ⟨cR _, trivial⟩
  · have hk2 : k = l.length := by
      rcases Nat.lt_or_ge k l.length with h | h
      · obtain ⟨x, hx⟩ := get_lt h
        have hs := recB_size (hg x (List.mem_of_getElem? hx))
        have hdr : catB (l.drop k) = recB x ++ catB (l.drop (k + 1)) := by
          rw [← catB_cons]
          congr 1
          obtain ⟨h, rfl⟩ := List.getElem?_eq_some_iff.1 hx
          exact List.drop_eq_getElem_cons h
        have e0 : catB (l.drop k) = ⟨#[]⟩ := by
          have h1 := h1
          rw [Bool.not_eq_false', decide_eq_true_eq] at h1
          exact h1
        have := congrArg ByteArray.size e0
        rw [hdr, ByteArray.size_append] at this
        have h0 : (⟨#[]⟩ : ByteArray).size = 0 := rfl
        omega
      · omega
    subst hk2
    rw [List.take_length]
    repeat (first | ((with_reducible show W _ _ _ _ _ _); first | refine W_seq ?_ | refine W_block ?_ | refine W_regionB hX 7 rfl ?_ | refine W_cond ?_ | refine W_skip ?_ | refine W_exit ?_ | refine W_ret ?_) | ((fail_if_success (with_reducible show W _ _ _ _ _ _)); show W _ _ _ _ _ _) | refine andA ?_ | refine condT ?_ | refine condF ?_ | refine exB ?_ | refine exL ?_ | refine Exists.intro _ (And.intro rfl ?_) | refine Exists.intro _ (And.intro (get_mapN (by assumption)) ?_) | ((fail_if_success (with_reducible show LoopEnd _ _ _ _ _ _ _)); show LoopEnd _ _ _ _ _ _ _) | ((fail_if_success (with_reducible show JoinEnd _ _ _ _ _)); show JoinEnd _ _ _ _ _) | ((fail_if_success (with_reducible show JoinG _ _ _ _ _)); show JoinG _ _ _ _ _))
    refine W_freeze hna 0 [4] rfl (fun t ht => by simp at ht; subst ht; rfl) (List.length_map _) (cR _) True.intro rfl ?_
    refine goT ?_
    refine ⟨_, hch, by kernel_rfl, fun _ => rfl, ?_⟩
    refine goT ?_
    rcases he with ⟨rfl, _⟩ | ⟨rfl, _⟩
    · refine goT ?_
      rfl
    · refine goT ?_
      rfl
theorem paxFind_ac (l : List RecT) (k : Nat) (x : RecT) (hl : l.length ≤ 1000000) (hx : l[k]? = some x) (hn : ∀ (j : Nat) (y : RecT), j < k → l[j]? = some y → y.key ≠ x.key) : AC CX 34 [.row 2 (l.map encRec), .v (.string x.key)] (.tup [.v (.string x.val), .v (.bool true)]) := by
  have hkl := (List.getElem?_eq_some_iff.1 hx).1
  refine AC_walk ⟨TB, 21, 0, [], []⟩ (fn := Tryd.f34) TB_ok Tryd.func34 rfl rfl rfl rfl rfl (fun _ => rfl) (fun _ => rfl) ?_; intro E hna hX
  refine goT ?_
  refine W_loop (fun j : Nat => j ≤ k) (fun j => k - j) (fun j => ⟨[(1, .v (.string x.key)), (8, .row 2 (l.map encRec)), (9, .v (.int .i64 l.length)), (10, .v (.int .i64 j))], []⟩) 0 (Nat.zero_le _) (Drops.to [1, 8, 9, 10] rfl) ?_
  intro j hj
  obtain ⟨y, hy⟩ := get_lt (l := l) (k := j) (by omega)
  have hjl : j < l.length := by omega
  refine goT ?_
  refine condB_intro (fun h2 => ?_) (fun h2 => ?_)
  · have e2 := of_decide_eq_true h2
    have e : j = k := by
      rcases Nat.lt_or_ge j k with h | h
      · exact absurd e2 (hn j y h hy)
      · omega
    subst e
    rw [hx] at hy
    injection hy with hy
    subst hy
    refine goT ?_
    rfl
  · have e2 := of_decide_eq_false h2
    have e : j ≠ k := fun e => by
      subst e
      rw [hx] at hy
      injection hy with hy
      subst hy
      exact e2 rfl
    refine goT ?_
    exact LoopEnd_fin (j + 1) [1, 8, 9, 10] 0 hX (by omega) (by omega) rfl rfl rfl rfl trivial
/-! ### The records of raw numbers. -/
def repV (s : ByteArray) (n : Int) : ByteArray := mkS (Lib.repeatL s.data.toList n.toNat)
def keyOf (c : UInt8) (i : Nat) : ByteArray := ⟨#[c]⟩ ++ mkS (Lib.decDigits i)
def recOf (c : UInt8) (i : Nat) (r : RawT) : RecT := ⟨keyOf c i, repV (cleanF r.s 20) (pickF r.c 25)⟩
def recsL (c : UInt8) (l : List RawT) : List RecT := (l.take 6).mapIdx (recOf c)
theorem recs_step {c : UInt8} {l : List RawT} {k : Nat} {x : RawT} (hx : l[k]? = some x) : recsL c (l.take (k + 1)) = if k < 6 then recsL c (l.take k) ++ [recOf c k x] else recsL c (l.take k) := by
  have hk := (List.getElem?_eq_some_iff.1 hx).1
  unfold recsL
  rw [List.take_take, List.take_take]
  by_cases h : k < 6
  · rw [if_pos h, show min 6 (k + 1) = k + 1 by omega, show min 6 k = k by omega, take_snoc hx, List.mapIdx_append]
    simp only [List.mapIdx_cons, List.mapIdx_nil, List.length_take, show min k l.length + 0 = k by omega]
    simp [show min k l.length = k by omega]
  · rw [if_neg h, show min 6 (k + 1) = 6 by omega, show min 6 k = 6 by omega]
theorem recs_len (c : UInt8) (l : List RawT) : (recsL c l).length = min 6 l.length := by unfold recsL; rw [List.length_mapIdx, List.length_take]
theorem recs_get {c : UInt8} {l : List RawT} {i : Nat} {r : RecT} (h : (recsL c l)[i]? = some r) : i < 6 ∧ ∃ x, l[i]? = some x ∧ r = recOf c i x := by
  have hi := (List.getElem?_eq_some_iff.1 h).1
  rw [recs_len] at hi
  unfold recsL at h
  rw [List.getElem?_mapIdx] at h
  obtain ⟨x, h1, h2⟩ := Option.map_eq_some_iff.1 h
  rw [List.getElem?_take, if_pos (by omega)] at h1
  exact ⟨by omega, x, h1, h2.symm⟩
theorem keyOf_list (c : UInt8) {i : Nat} (h : i < 10) : (keyOf c i).data.toList = [c, UInt8.ofNat (48 + i)] := by
  unfold keyOf
  rw [app_list, mkS_list, dd_small h]
  rfl
theorem cU_self (c : UInt8) : cU c c = 0 := (cU_tot.zero c c).2 rfl
theorem key_lt (c : UInt8) {i j : Nat} (h : i < j) (hj : j < 10) : ltS (keyOf c i) (keyOf c j) = true := by
  rw [ltS_lexR, keyOf_list c (by omega), keyOf_list c hj]
  simp only [lexC, cU_self, if_true]
  have hlt : UInt8.ofNat (48 + i) < UInt8.ofNat (48 + j) := by
    rw [UInt8.lt_iff_toNat_lt, of48 (by omega), of48 hj]; omega
  have h1 : cU (UInt8.ofNat (48 + i)) (UInt8.ofNat (48 + j)) = -1 := by unfold cU; rw [if_pos hlt]
  rw [h1]
  rfl
theorem key_cross {c d : UInt8} (hcd : c < d) {i j : Nat} (hi : i < 10) (hj : j < 10) : ltS (keyOf c i) (keyOf d j) = true := by
  rw [ltS_lexR, keyOf_list c hi, keyOf_list d hj]
  have h1 : cU c d = -1 := by unfold cU; rw [if_pos hcd]
  simp only [lexC, h1]
  rfl
theorem cleanF_free (s : ByteArray) (m : Int) : (0 : UInt8) ∉ (cleanF s m).data.toList := by
  unfold cleanF
  rw [ByteArray.data_extract, Array.toList_extract, List.extract_eq_take_drop]
  intro h
  have h2 := List.mem_of_mem_drop (List.mem_of_mem_take h)
  rw [mkS_list] at h2
  exact noz_free _ h2
theorem repL_free {l : List UInt8} {c : UInt8} (h : c ∉ l) : ∀ n, c ∉ Lib.repeatL l n
  | 0 => by simp [Lib.repeatL]
  | n + 1 => by
    simp only [Lib.repeatL, List.mem_append, not_or]
    exact ⟨h, repL_free h n⟩
theorem repV_size (s : ByteArray) (n : Int) : (repV s n).size = n.toNat * s.size := by
  unfold repV
  rw [mkS_size, Lib.repeatL_length, size_list]
theorem recOf_ok (c : UInt8) (hc : c = 97 ∨ c = 98) {i : Nat} (hi : i < 6) (r : RawT) : RecOk (recOf c i r) := by
  have hl := keyOf_list c (i := i) (by omega)
  have hs : (keyOf c i).size = 2 := by rw [← size_list, hl]; rfl
  have hp := pick_lt (n := r.c) (m := 25) (by decide)
  have hcs := clean_size r.s 20
  have h20 : (20 : Int).toNat = 20 := rfl
  refine ⟨by show 1 ≤ (keyOf c i).size; omega, by show (keyOf c i).size ≤ 60; omega, ?_, ?_, ?_, ?_⟩
  · show (repV _ _).size ≤ 500
    rw [repV_size]
    exact Nat.le_trans (Nat.mul_le_mul (show (pickF r.c 25).toNat ≤ 24 by omega) (show (cleanF r.s 20).size ≤ 20 by omega)) (by decide)
  · show ∀ b ∈ (keyOf c i).data.toList, b.toNat < 128
    rw [hl]
    intro b hb
    rcases List.mem_cons.1 hb with rfl | hb
    · rcases hc with rfl | rfl <;> decide
    · rw [List.mem_singleton] at hb
      subst hb
      rw [of48 (by omega)]; omega
  · show ∀ b ∈ (keyOf c i).data.toList, b ≠ 61 ∧ b ≠ 10
    rw [hl]
    intro b hb
    rcases List.mem_cons.1 hb with rfl | hb
    · rcases hc with rfl | rfl <;> decide
    · rw [List.mem_singleton] at hb
      subst hb
      have h1 := of48 (d := i) (by omega)
      exact ⟨fun e => by rw [e] at h1; have : (61 : UInt8).toNat = 61 := rfl; omega, fun e => by rw [e] at h1; have : (10 : UInt8).toNat = 10 := rfl; omega⟩
  · show (0 : UInt8) ∉ (repV _ _).data.toList
    unfold repV
    rw [mkS_list]
    exact repL_free (cleanF_free _ _) _
theorem recs_ok (c : UInt8) (hc : c = 97 ∨ c = 98) (l : List RawT) : ∀ r ∈ recsL c l, RecOk r := fun r hr => by
  obtain ⟨i, hi⟩ := List.mem_iff_getElem?.1 hr
  obtain ⟨h6, x, _, rfl⟩ := recs_get hi
  exact recOf_ok c hc h6 x
theorem recs_up (c : UInt8) (l : List RawT) (k : Nat) : UpTo (recsL c l) k := fun i a b _ ha hb => by
  obtain ⟨_, x, _, rfl⟩ := recs_get ha
  obtain ⟨_, y, _, rfl⟩ := recs_get hb
  exact key_lt c (Nat.lt_succ_self i) (by omega)
theorem recordsOf_acb (c : UInt8) (l : List RawT) (hl : l.length ≤ 100000000) (hg : ∀ r ∈ l, RawGood r) : ACB CX 29 [.row 4 (l.map encRaw), .v (.string ⟨#[c]⟩)] [] (.own 0 2 0 (recsL c l).length) [.row 70 2 ((recsL c l).map encRec)] := by
  have h00 : recsL c (l.take 0) = [] := by unfold recsL; rw [List.take_zero, List.take_nil]; rfl
  refine ACB_walk ⟨TB, 34, 0, [], []⟩ (fn := Tryd.f29) TB_ok Tryd.func29 rfl rfl rfl rfl (fun i h => by cases h) rfl ?_; intro E hX
  repeat (first | ((with_reducible show W _ _ _ _ _ _); first | refine W_seq ?_ | refine W_region hX ?_ | refine W_cond ?_ | refine W_skip ?_ | refine W_exit ?_ | refine W_ret ?_) | ((fail_if_success (with_reducible show W _ _ _ _ _ _)); show W _ _ _ _ _ _) | refine andA ?_ | refine condT ?_ | refine condF ?_ | refine exB ?_ | refine exL ?_ | refine Exists.intro _ (And.intro rfl ?_) | refine Exists.intro _ (And.intro (get_mapN (by assumption)) ?_) | ((fail_if_success (with_reducible show LoopEnd _ _ _ _ _ _ _)); show LoopEnd _ _ _ _ _ _ _) | ((fail_if_success (with_reducible show JoinEnd _ _ _ _ _)); show JoinEnd _ _ _ _ _) | ((fail_if_success (with_reducible show JoinG _ _ _ _ _)); show JoinG _ _ _ _ _))
  refine W_nilOwn hX 5 70 2 rfl rfl ?_
  refine goT ?_
  refine W_loop (fun k : Nat => k ≤ l.length) (fun k => l.length - k) (fun k => ⟨[(1, .v (.string ⟨#[c]⟩)), (5, .own 0 2 0 (recsL c (l.take k)).length), (8, .row 4 (l.map encRaw)), (9, .v (.int .i64 l.length)), (10, .v (.int .i64 k))], [.row 70 2 ((recsL c (l.take k)).map encRec)]⟩) 0 (Nat.zero_le _) (Drops.to [1, 5, 8, 9, 10] (by rw [h00]; rfl)) ?_
  intro k hk
  refine goT ?_
  refine condB_intro (fun h1 => ?_) (fun h1 => ?_)
  · have e1 : (k : Int) < (l.length : Int) := of_decide_eq_true h1
    obtain ⟨x, hx⟩ := get_lt (l := l) (k := k) (by omega)
    have hxg := hg x (List.mem_of_getElem? hx)
    have hst := recs_step (c := c) hx
    have hlk : (recsL c (l.take k)).length ≤ 6 := by rw [recs_len]; omega
    have hp := pick_lt (n := x.c) (m := 25) (by decide)
    have hpk := picked_ac x.c 25 hxg.c (by decide)
    have hxs := hxg.s
    have hcl := clean_ac x.s 20 (by omega) (by decide)
    have hcs := clean_size x.s 20
    have h20 : (20 : Int).toNat = 20 := rfl
    have hmul : (cleanF x.s 20).size * (pickF x.c 25).toNat ≤ 140737488355328 := Nat.le_trans (Nat.mul_le_mul (show (cleanF x.s 20).size ≤ 20 by omega) (show (pickF x.c 25).toNat ≤ 24 by omega)) (by decide)
    have hre := repeat_ac (cleanF x.s 20) (pickF x.c 25) hp.1 hmul (by omega)
    obtain ⟨out2, ho2⟩ : ∃ o, o = recsL c (l.take (k + 1)) := ⟨_, rfl⟩
    rw [← ho2] at hst
    generalize recsL c (l.take k) = out at hst hlk
    refine goT ?_
    refine condB_intro (fun h2 => ?_) (fun h2 => ?_)
    · have e2 : (k : Int) < 6 := of_decide_eq_true h2
      rw [if_pos (by omega)] at hst
      have hit := itoa_ac k (by omega)
      have hds : (mkS (Lib.decDigits k)).size = 1 := by rw [mkS_size, dd_small (by omega)]; rfl
      have h1s : (⟨#[c]⟩ : ByteArray).size = 1 := rfl
      refine goT ?_
      refine W_drawL hX (m := 14) (f := 15) (follows_mixed Tryd.checked) (ws := [[], [], [], [(2, 19)], [(1, 18), (3, 20)], [], [(5, 22)], [(3, 20), (6, 23)], [], [(8, 25)], [(7, 24), (9, 26)], [(7, 24), (10, 27)], [(4, 21), (11, 28)], [(12, 29)]]) (ds := [17, 18, 19, 20, 21, 22, 23, 24, 25, 26, 27, 28, 29, 30]) (wa := [(0, 17), (1, 18), (2, 19), (3, 20), (4, 21), (5, 22), (6, 23), (7, 24), (8, 25), (9, 26), (10, 27), (11, 28), (12, 29), (13, 30)]) ⟨by kernel_rfl, by kernel_rfl, by kernel_rfl, by kernel_rfl, by decide, by kernel_rfl, by kernel_rfl, by kernel_rfl, by kernel_rfl⟩ ?_
      refine goT ?_
      refine ⟨_, hit, by kernel_rfl, fun _ => rfl, ?_⟩
      refine goT ?_
      refine ⟨_, hcl, by kernel_rfl, fun _ => rfl, ?_⟩
      refine goT ?_
      refine ⟨_, hpk, by kernel_rfl, fun _ => rfl, ?_⟩
      refine goT ?_
      refine ⟨_, hre, by kernel_rfl, fun _ => rfl, ?_⟩
      refine goT ?_
      refine ⟨(out ++ [recOf c k x]).length, (out ++ [recOf c k x]).map encRec, by rw [List.length_append]; rfl, by rw [List.map_append]; rfl, ?_⟩
      refine goT ?_
      exact LoopEnd_fin (k + 1) [1, 5, 8, 9, 10] 1 hX (by omega) (by omega) rfl (by rw [← ho2, hst]; rfl) rfl rfl ⟨cR _, trivial⟩
    · have e2 : ¬ (k : Int) < 6 := of_decide_eq_false h2
      rw [if_neg (by omega)] at hst
      refine goT ?_
      exact LoopEnd_fin (k + 1) [1, 5, 8, 9, 10] 1 hX (by omega) (by omega) rfl (by rw [← ho2, hst]; rfl) rfl rfl ⟨cR _, trivial⟩
  · have e1 : ¬ (k : Int) < (l.length : Int) := of_decide_eq_false h1
    obtain rfl : k = l.length := by omega
    rw [List.take_length]
    refine goT ?_
    exact ⟨[], rfl⟩
end Go.Proofs.YtnfbomhhgjlacaaDoor.Abs
