/- Paths. -/
import Derived.Test.YtnfbomhhgjlacaaDoorRstr
namespace Go.Proofs.YtnfbomhhgjlacaaDoor.Abs
open Go.RowKit Go.MapKept
set_option linter.unusedVariables false
set_option linter.unusedSimpArgs false
set_option maxRecDepth 100000
set_option maxHeartbeats 4000000
theorem any_at {α : Type} {p : α → Bool} {xs : List α} {k : Nat} {x : α} (hx : xs[k]? = some x) (h : p x = true) : xs.any p = true := List.any_eq_true.2 ⟨x, List.mem_of_getElem? hx, h⟩
theorem any_snoc {α : Type} {p : α → Bool} {xs : List α} {k : Nat} {x : α} (hx : xs[k]? = some x) (h0 : (xs.take k).any p = false) (h : p x = false) : (xs.take (k + 1)).any p = false := by
  rw [take_snoc hx, List.any_append, h0]
  simp [h]
theorem cutL_len (c : UInt8) : ∀ l : List UInt8, (cutL c l).length ≤ l.length + 1
  | [] => by simp [cutL]
  | b :: l => by
    have := cutL_len c l
    rw [cutL]
    split
    · simp; omega
    · split
      · simp
      · rename_i t r h
        rw [h] at this
        simp at this ⊢
        omega
theorem partsS_len (s : ByteArray) : (partsS s).length ≤ s.size + 1 := by
  unfold partsS
  rw [List.length_map, ← size_list]
  exact cutL_len 47 _
def badPart (p : ByteArray) : Bool := decide (p = ⟨#[]⟩) || decide (p = ⟨#[46]⟩) || decide (p = ⟨#[46, 46]⟩)
def pathChk (s : ByteArray) : Int := if s.size < 1 ∨ s.size > 400 then 1 else if 0 ≤ Lib.indexByte s.data.toList 0 then 3 else if (partsS s).any badPart then 9 else 0
theorem pathCheck_ac (s : ByteArray) (hs : s.size ≤ 1000000000) : AC CX 95 [.v (.string s)] (.v (.int .i64 (pathChk s))) := by
  have hpl := partsS_len s
  refine AC_walk ⟨TB, 34, 0, [], []⟩ (fn := Tryd.f95) TB_ok Tryd.func95 rfl rfl rfl rfl rfl (fun _ => rfl) (fun _ => rfl) ?_; intro E hna hX
  refine goT ?_
  refine condB_intro (fun h1 => ?_) (fun h1 => ?_)
  · have e1 := of_decide_eq_true h1
    refine goT ?_
    unfold pathChk
    rw [if_pos (.inl (by omega))]
    rfl
  have e1 := of_decide_eq_false h1
  refine goT ?_
  refine condB_intro (fun h2 => ?_) (fun h2 => ?_)
  · have e2 := of_decide_eq_true h2
    refine goT ?_
    unfold pathChk
    rw [if_pos (.inr (by omega))]
    rfl
  have e2 := of_decide_eq_false h2
  refine goT ?_
  refine ⟨_, indexByte_ac s 0, by kernel_rfl, fun _ => rfl, ?_⟩
  refine goT ?_
  refine condB_intro (fun h3 => ?_) (fun h3 => ?_)
  · have e3 := of_decide_eq_true h3
    refine goT ?_
    unfold pathChk
    rw [if_neg (by omega), if_pos e3]
    rfl
  have e3 := of_decide_eq_false h3
  refine goT ?_
  refine ⟨_, split_ac s hs, by kernel_rfl, fun _ => rfl, ?_⟩
  refine goT ?_
  refine W_loop (fun k : Nat => k ≤ (partsS s).length ∧ ((partsS s).take k).any badPart = false) (fun k => (partsS s).length - k) (fun k => ⟨[(17, .row 1 ((partsS s).map encS)), (18, .v (.int .i64 (partsS s).length)), (19, .v (.int .i64 k))], []⟩) 0 ⟨Nat.zero_le _, rfl⟩ (Drops.to [17, 18, 19] rfl) ?_
  rintro k ⟨hk, hb⟩
  refine goT ?_
  refine condB_intro (fun h4 => ?_) (fun h4 => ?_)
  · have e4 := of_decide_eq_true h4
    obtain ⟨x, hx⟩ : ∃ x, (partsS s)[k]? = some x := ⟨(partsS s)[k], List.getElem?_eq_getElem (by omega)⟩
    have bad : badPart x = true → tupOf [.v (.int .i64 9)] = .v (.int .i64 (pathChk s)) := fun hb => by
      unfold pathChk
      rw [if_neg (by omega), if_neg (by omega), if_pos (any_at hx hb)]
      rfl
    refine goT ?_
    refine condB_intro (fun h5 => ?_) (fun h5 => ?_)
    · have e5 := of_decide_eq_true h5
      refine goT ?_
      exact bad (by simp [badPart, e5])
    refine goT ?_
    refine condB_intro (fun h6 => ?_) (fun h6 => ?_)
    · have e6 := of_decide_eq_true h6
      refine goT ?_
      exact bad (by simp [badPart, e6])
    refine goT ?_
    refine condB_intro (fun h7 => ?_) (fun h7 => ?_)
    · have e7 := of_decide_eq_true h7
      refine goT ?_
      exact bad (by simp [badPart, e7])
    refine goT ?_
    exact LoopEnd_fin (k + 1) [17, 18, 19] 0 hX ⟨by omega, any_snoc hx hb (by unfold badPart; rw [h5, h6, h7]; rfl)⟩ (by omega) rfl rfl rfl rfl trivial
  · have e4 := of_decide_eq_false h4
    refine goT ?_
    obtain rfl : k = (partsS s).length := by omega
    rw [List.take_length] at hb
    unfold pathChk
    rw [if_neg (by omega), if_neg (by omega), if_neg (by rw [hb]; decide)]
    rfl
/-- The place of the last byte c among the first n; -1: there is none. -/
def lastF (l : List UInt8) (c : UInt8) : Nat → Int
  | 0 => -1
  | n + 1 => if l.getD n 0 = c then (n : Int) else lastF l c n
theorem byteAt_is {s : ByteArray} {n : Nat} {c : UInt8} : byteAt s n = (c.toNat : Int) ↔ s.data.toList.getD n 0 = c := by
  unfold byteAt
  constructor
  · intro h; exact UInt8.toNat_inj.1 (by omega)
  · intro h; rw [h]
theorem lastIndexS_ac (s : ByteArray) (c : UInt8) (hs : s.size ≤ 1000000000) : AC CX 164 [.v (.string s), .v (.int .u8 (c.toNat : Int))] (.v (.int .i64 (lastF s.data.toList c s.size))) := by
  refine AC_walk ⟨TB, 19, 0, [], []⟩ (fn := Tryd.f164) TB_ok Tryd.func164 rfl rfl rfl rfl rfl (fun _ => rfl) (fun _ => rfl) ?_; intro E hna hX
  refine goT ?_
  refine W_loop (fun k : Nat => k ≤ s.size ∧ lastF s.data.toList c s.size = lastF s.data.toList c k) (fun k => k) (fun k => ⟨[(0, .v (.string s)), (1, .v (.int .u8 (c.toNat : Int))), (5, .v (.int .i64 ((k : Int) - 1)))], []⟩) s.size ⟨Nat.le_refl _, rfl⟩ (Drops.to [0, 1, 5] rfl) ?_
  rintro k ⟨hk, he⟩
  refine goT ?_
  refine condB_intro (fun h4 => ?_) (fun h4 => ?_)
  · have e4 := of_decide_eq_true h4
    obtain ⟨k, rfl⟩ : ∃ j, k = j + 1 := ⟨k - 1, by omega⟩
    refine goT ?_
    refine ⟨k, by omega, by omega, ?_⟩
    refine goT ?_
    refine condB_intro (fun h5 => ?_) (fun h5 => ?_)
    · have e5 := byteAt_is.1 (of_decide_eq_true h5)
      refine goT ?_
      rw [he, lastF, if_pos e5]
      show AV.v (.int .i64 ((k + 1 : Nat) - 1)) = _
      congr 2
      omega
    · have e5 : ¬ _ := fun h => of_decide_eq_false h5 (byteAt_is.2 h)
      refine goT ?_
      exact LoopEnd_fin k [0, 1, 5] 0 hX ⟨by omega, by rw [he, lastF, if_neg e5]⟩ (Nat.lt_succ_self k) rfl (by show St.mk [_, _, (5, AV.v (.int .i64 (((k + 1 : Nat) : Int) - 1 - 1)))] _ = _; rw [show (((k + 1 : Nat) : Int) - 1 - 1) = (k : Int) - 1 by omega]; rfl) rfl rfl trivial
  · have e4 := of_decide_eq_false h4
    obtain rfl : k = 0 := by omega
    refine goT ?_
    rw [he]
    rfl
theorem lastIndex_ac (s : ByteArray) (c : UInt8) (hs : s.size ≤ 1000000000) : AC CX 135 [.v (.string s), .v (.int .u8 (c.toNat : Int))] (.v (.int .i64 (lastF s.data.toList c s.size))) := by
  refine AC_walk ⟨TB, 8, 0, [], []⟩ (fn := Tryd.f135) TB_ok Tryd.func135 rfl rfl rfl rfl rfl (fun _ => rfl) (fun _ => rfl) ?_; intro E hna hX
  refine goT ?_
  refine ⟨_, lastIndexS_ac s c hs, by kernel_rfl, fun _ => rfl, ?_⟩
  refine goT ?_
  rfl
def upF (s : ByteArray) : ByteArray := if lastF s.data.toList 47 s.size < 0 then ⟨#[]⟩ else s.extract 0 (lastF s.data.toList 47 s.size).toNat
theorem lastF_lt {l : List UInt8} {c : UInt8} : ∀ n : Nat, -1 ≤ lastF l c n ∧ lastF l c n < n
  | 0 => by simp [lastF]
  | n + 1 => by
    have := lastF_lt (l := l) (c := c) n
    rw [lastF]
    split <;> omega
theorem up_ac (s : ByteArray) (hs : s.size ≤ 1000000000) : AC CX 104 [.v (.string s)] (.v (.string (upF s))) := by
  have hb := lastF_lt (l := s.data.toList) (c := 47) s.size
  refine AC_walk ⟨TB, 11, 0, [], []⟩ (fn := Tryd.f104) TB_ok Tryd.func104 rfl rfl rfl rfl rfl (fun _ => rfl) (fun _ => rfl) ?_; intro E hna hX
  refine goT ?_
  refine ⟨_, lastIndex_ac s 47 hs, by kernel_rfl, fun _ => rfl, ?_⟩
  refine goT ?_
  refine condB_intro (fun h1 => ?_) (fun h1 => ?_)
  · have e1 := of_decide_eq_true h1
    refine goT ?_
    unfold upF
    rw [if_pos e1]
    rfl
  · have e1 := of_decide_eq_false h1
    refine goT ?_
    refine ⟨(lastF s.data.toList 47 s.size).toNat, by omega, by omega, ?_⟩
    refine goT ?_
    unfold upF
    rw [if_neg e1]
    rfl
def baseF (s : ByteArray) : ByteArray := s.extract (lastF s.data.toList 47 s.size + 1).toNat s.size
/-- p is what s begins with. -/
def preF (s p : ByteArray) : Bool := decide (p.size ≤ s.size) && decide (s.extract 0 p.size = p)
theorem hasPrefix1_ac (s p : ByteArray) (hs : s.size ≤ 1000000000) : AC CX 118 [.v (.string s), .v (.string p)] (.v (.bool (preF s p))) := by
  refine AC_walk ⟨TB, 18, 0, [], []⟩ (fn := Tryd.f118) TB_ok Tryd.func118 rfl rfl rfl rfl rfl (fun _ => rfl) (fun _ => rfl) ?_; intro E hna hX
  refine goT ?_
  refine condB_intro (fun h1 => ?_) (fun h1 => ?_)
  · have e1 := of_decide_eq_true h1
    refine goT ?_
    unfold preF
    rw [decide_eq_true (by omega), Bool.true_and]
    rfl
  · have e1 := of_decide_eq_false h1
    refine goT ?_
    unfold preF
    rw [decide_eq_false (by omega), Bool.false_and]
    rfl
theorem hasPrefix_ac (s p : ByteArray) (hs : s.size ≤ 1000000000) : AC CX 89 [.v (.string s), .v (.string p)] (.v (.bool (preF s p))) := by
  refine AC_walk ⟨TB, 8, 0, [], []⟩ (fn := Tryd.f89) TB_ok Tryd.func89 rfl rfl rfl rfl rfl (fun _ => rfl) (fun _ => rfl) ?_; intro E hna hX
  refine goT ?_
  refine ⟨_, hasPrefix1_ac s p hs, by kernel_rfl, fun _ => rfl, ?_⟩
  refine goT ?_
  rfl
def inF (s d : ByteArray) : Bool := (decide (d = ⟨#[]⟩) && !decide (s = ⟨#[]⟩)) || preF s (d ++ ⟨#[47]⟩)
theorem in_ac (s d : ByteArray) (hs : s.size ≤ 1000000000) (hd : d.size ≤ 1000000000) : AC CX 73 [.v (.string s), .v (.string d)] (.v (.bool (inF s d))) := by
  have s1 : (⟨#[47]⟩ : ByteArray).size = 1 := rfl
  refine AC_walk ⟨TB, 17, 0, [], []⟩ (fn := Tryd.f73) TB_ok Tryd.func73 rfl rfl rfl rfl rfl (fun _ => rfl) (fun _ => rfl) ?_; intro E hna hX
  refine goT ?_
  refine condB_intro (fun h1 => ?_) (fun h1 => ?_)
  · refine goT ?_
    refine condB_intro (fun h2 => ?_) (fun h2 => ?_)
    · refine goT ?_
      unfold inF
      rw [h1, h2]
      rfl
    · refine goT ?_
      refine ⟨_, hasPrefix_ac s _ hs, by kernel_rfl, fun _ => rfl, ?_⟩
      refine goT ?_
      unfold inF
      rw [h1, h2]
      rfl
  · refine goT ?_
    refine ⟨_, hasPrefix_ac s _ hs, by kernel_rfl, fun _ => rfl, ?_⟩
    refine goT ?_
    unfold inF
    rw [h1]
    rfl
def cmpS (a b : ByteArray) : Int := if ltS a b = true then -1 else if a = b then 0 else 1
theorem isNaN_ac {dr : Bool} (a : ByteArray) : AC (CXw dr) 162 [.v (.string a)] (.v (.bool false)) := by
  refine AC_walk ⟨TB, 6, 0, [], []⟩ (fn := Tryd.f162) TB_ok Tryd.func162 rfl rfl rfl rfl rfl (fun _ => rfl) (fun _ => rfl) ?_; intro E hna hX
  refine goT ?_
  show AV.v (.bool (!decide (a = a))) = _
  simp
theorem cmpCompare_ac {dr : Bool} (a b : ByteArray) : AC (CXw dr) 133 [.v (.string a), .v (.string b)] (.v (.int .i64 (cmpS a b))) := by
  refine AC_walk ⟨TB, 20, 0, [], []⟩ (fn := Tryd.f133) TB_ok Tryd.func133 rfl rfl rfl rfl rfl (fun _ => rfl) (fun _ => rfl) ?_; intro E hna hX
  refine goT ?_
  refine ⟨_, isNaN_ac a, by kernel_rfl, fun _ => rfl, ?_⟩
  refine goT ?_
  refine ⟨_, isNaN_ac b, by kernel_rfl, fun _ => rfl, ?_⟩
  refine goT ?_
  refine condB_intro (fun h1 => ?_) (fun h1 => ?_)
  · refine goT ?_
    unfold cmpS
    rw [if_pos h1]
    rfl
  · refine goT ?_
    refine condB_intro (fun h2 => ?_) (fun h2 => ?_)
    · refine goT ?_
      unfold cmpS
      rw [h1, if_neg (by decide), if_neg (fun e => by subst e; simp at h2)]
      rfl
    · refine goT ?_
      unfold cmpS
      rw [h1, if_neg (by decide), if_pos (by rw [h1] at h2; simpa using h2)]
      rfl
theorem sCompare_ac {dr : Bool} (l m : List ByteArray) (hl : l.length ≤ 1000000000) (hm : m.length ≤ 1000000000) : AC (CXw dr) 101 [.row 1 (l.map encS), .row 1 (m.map encS)] (.v (.int .i64 (lexC cmpS l m))) := by
  refine AC_walk ⟨TB, 36, 0, [], []⟩ (fn := Tryd.f101) TB_ok Tryd.func101 rfl rfl rfl rfl rfl (fun _ => rfl) (fun _ => rfl) ?_; intro E hna hX
  refine goT ?_
  refine W_loop (fun k : Nat => k ≤ l.length ∧ k ≤ m.length ∧ lexC cmpS l m = lexC cmpS (l.drop k) (m.drop k)) (fun k => l.length - k) (fun k => ⟨[(0, .row 1 (l.map encS)), (1, .row 1 (m.map encS)), (9, .row 1 (l.map encS)), (10, .v (.int .i64 l.length)), (11, .v (.int .i64 k))], []⟩) 0 ⟨Nat.zero_le _, Nat.zero_le _, rfl⟩ (Drops.to [0, 1, 9, 10, 11] rfl) ?_
  rintro k ⟨hk, hk2, he⟩
  refine goT ?_
  refine condB_intro (fun h1 => ?_) (fun h1 => ?_)
  · have e1 := of_decide_eq_true h1
    obtain ⟨x, hx⟩ : ∃ x, l[k]? = some x := ⟨l[k], List.getElem?_eq_getElem (by omega)⟩
    have dx : l.drop k = x :: l.drop (k + 1) := by
      obtain ⟨h, rfl⟩ := List.getElem?_eq_some_iff.1 hx
      exact List.drop_eq_getElem_cons h
    refine goT ?_
    refine condB_intro (fun h2 => ?_) (fun h2 => ?_)
    · have e2 := of_decide_eq_true h2
      refine goT ?_
      rw [he, dx, @List.drop_eq_nil_of_le _ m _ (by omega)]
      rfl
    · have e2 := of_decide_eq_false h2
      obtain ⟨y, hy⟩ : ∃ y, m[k]? = some y := ⟨m[k], List.getElem?_eq_getElem (by omega)⟩
      have dy : m.drop k = y :: m.drop (k + 1) := by
        obtain ⟨h, rfl⟩ := List.getElem?_eq_some_iff.1 hy
        exact List.drop_eq_getElem_cons h
      refine goT ?_
      refine ⟨_, cmpCompare_ac x y, by kernel_rfl, fun _ => rfl, ?_⟩
      refine goT ?_
      refine condB_intro (fun h3 => ?_) (fun h3 => ?_)
      · refine goT ?_
        have e3 : ¬ cmpS x y = 0 := by simpa using h3
        rw [he, dx, dy, lexC, if_neg e3]
        rfl
      · have e3 : cmpS x y = 0 := by simpa using h3
        refine goT ?_
        exact LoopEnd_fin (k + 1) [0, 1, 9, 10, 11] 0 hX ⟨by omega, by omega, by rw [he, dx, dy, lexC, if_pos e3]⟩ (by omega) rfl rfl rfl rfl trivial
  · have e1 := of_decide_eq_false h1
    obtain rfl : k = l.length := by omega
    refine goT ?_
    refine condB_intro (fun h2 => ?_) (fun h2 => ?_)
    · have e2 := of_decide_eq_true h2
      refine goT ?_
      rw [he, List.drop_length]
      cases hd : m.drop l.length with
      | nil => have := congrArg List.length hd; simp at this; omega
      | cons y r => rfl
    · have e2 := of_decide_eq_false h2
      refine goT ?_
      rw [he, List.drop_length, List.drop_eq_nil_of_le (by omega)]
      rfl
def pathParts (s : ByteArray) : List ByteArray := if s = ⟨#[]⟩ then [] else partsS s
theorem parts_ac (s : ByteArray) (hs : s.size ≤ 1000000000) : AC CX 106 [.v (.string s)] (.row 1 ((pathParts s).map encS)) := by
  suffices h : AC CX 106 [.v (.string s)] (if s = ⟨#[]⟩ then .v (.slice none 0 0) else .row 1 ((partsS s).map encS)) by
    refine AC_imp h ?_
    unfold pathParts
    split
    · exact Imp.nil 1
    · exact Imp.refl _
  refine AC_walk ⟨TB, 7, 0, [], []⟩ (fn := Tryd.f106) TB_ok Tryd.func106 rfl rfl rfl rfl rfl (fun _ => rfl) (fun i => by split <;> rfl) ?_
  intro E hna hX
  refine goT ?_
  refine condB_intro (fun h1 => ?_) (fun h1 => ?_)
  · have e1 := of_decide_eq_true h1
    refine goT ?_
    rw [if_pos e1]
    rfl
  · have e1 := of_decide_eq_false h1
    refine goT ?_
    refine ⟨_, split_ac s hs, by kernel_rfl, fun _ => rfl, ?_⟩
    refine goT ?_
    rw [if_neg e1]
    rfl
def compareF (a b : ByteArray) : Int := lexC cmpS (pathParts a) (pathParts b)
theorem pathParts_len (s : ByteArray) : (pathParts s).length ≤ s.size + 1 := by
  unfold pathParts
  split
  · simp
  · exact partsS_len s
theorem compare_ac (a b : ByteArray) (ha : a.size ≤ 999999999) (hb : b.size ≤ 999999999) : AC CX 69 [.v (.string a), .v (.string b)] (.v (.int .i64 (compareF a b))) := by
  have h1 := pathParts_len a
  have h2 := pathParts_len b
  refine AC_walk ⟨TB, 10, 0, [], []⟩ (fn := Tryd.f69) TB_ok Tryd.func69 rfl rfl rfl rfl rfl (fun _ => rfl) (fun _ => rfl) ?_; intro E hna hX
  refine goT ?_
  refine ⟨_, parts_ac a (by omega), by kernel_rfl, fun _ => rfl, ?_⟩
  refine goT ?_
  refine ⟨_, parts_ac b (by omega), by kernel_rfl, fun _ => rfl, ?_⟩
  refine goT ?_
  refine ⟨_, sCompare_ac _ _ (by omega) (by omega), by kernel_rfl, fun _ => rfl, ?_⟩
  refine goT ?_
  rfl
end Go.Proofs.YtnfbomhhgjlacaaDoor.Abs
