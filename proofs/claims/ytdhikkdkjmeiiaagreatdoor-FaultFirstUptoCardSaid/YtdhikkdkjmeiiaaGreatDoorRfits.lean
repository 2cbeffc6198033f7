/- glob.parts, glob.Check, glob.Fits, walked. -/
import Derived.Test.YtdhikkdkjmeiiaaGreatDoorRsign
import Derived.Test.YtdhikkdkjmeiiaaGreatDoorRpure
namespace Go.Proofs.YtdhikkdkjmeiiaaGreatDoor.Abs
open Go.RowKit Go.MapKept
set_option linter.unusedVariables false
set_option linter.unusedSimpArgs false
set_option maxRecDepth 100000
set_option maxHeartbeats 4000000
def fitP (p q : List ByteArray) (i k : Nat) : Bool := match p[i]?, q[k]? with
  | some x, some y => partF x y
  | _, _ => false
theorem parts1_ac (t : List ByteArray) (i : Nat) (hi : i < t.length) : AC CX 112 [.v (.int .i64 i), .eptr [.row 1 (t.map encS)]] (.v (.bool (starT ⟨#[42, 42]⟩ t i))) := by
  obtain ⟨x, hx⟩ := get_lt (l := t) (k := i) hi
  have he : starT ⟨#[42, 42]⟩ t i = decide (x = ⟨#[42, 42]⟩) := by unfold starT; rw [hx]
  rw [he]
  refine AC_walk ⟨TB, 9, 0, [], []⟩ (fn := Tryz.f112) TB_ok Tryz.func112 rfl rfl rfl rfl rfl (fun _ => rfl) (fun _ => rfl) ?_; intro E hna hX
  refine goT ?_
  rfl
theorem parts2_ac (p q : List ByteArray) (i k : Nat) (hi : i < p.length) (hk : k < q.length) (hp : ∀ x ∈ p, okP x = true) (hq : ∀ x ∈ q, x.size ≤ 1000000) : AC CX 113 [.v (.int .i64 i), .v (.int .i64 k), .eptr [.row 1 (p.map encS)], .eptr [.row 1 (q.map encS)]] (.v (.bool (fitP p q i k))) := by
  obtain ⟨x, hx⟩ := get_lt (l := p) (k := i) hi
  obtain ⟨y, hy⟩ := get_lt (l := q) (k := k) hk
  have he : fitP p q i k = partF x y := by unfold fitP; rw [hx, hy]
  rw [he]
  refine AC_walk ⟨TB, 16, 0, [], []⟩ (fn := Tryz.f113) TB_ok Tryz.func113 rfl rfl rfl rfl rfl (fun _ => rfl) (fun _ => rfl) ?_; intro E hna hX
  refine goT ?_
  refine W_draw hX (n := 9) (follows_mixed Tryz.checked) (ws := [[], [], [(0, 7), (1, 8)], [(2, 9)], [], [], [(4, 11), (5, 12)], [(6, 13)], [(3, 10), (7, 14)]]) (ds := [7, 8, 9, 10, 11, 12, 13, 14, 15]) (bi := []) (wa := [(0, 7), (1, 8), (2, 9), (3, 10), (4, 11), (5, 12), (6, 13), (7, 14), (8, 15)]) ⟨by kernel_rfl, by kernel_rfl, by kernel_rfl, by kernel_rfl, by decide, by kernel_rfl, by kernel_rfl, rfl, by decide, rfl⟩ ?_
  refine goT ?_
  refine ⟨_, part_ac x y (hp x (List.mem_of_getElem? hx)) (hq y (List.mem_of_getElem? hy)), by kernel_rfl, fun _ => rfl, ?_⟩
  refine goT ?_
  rfl
def partsF (p q : List ByteArray) : Bool := wildF p.length q.length (starT ⟨#[42, 42]⟩ p) (fitP p q)
theorem gparts_ac (p q : List ByteArray) (hpl : p.length ≤ 1000) (hql : q.length ≤ 1000) (hp : ∀ x ∈ p, okP x = true) (hq : ∀ x ∈ q, x.size ≤ 1000000) : AC CX 96 [.row 1 (p.map encS), .row 1 (q.map encS)] (.v (.bool (partsF p q))) := by
  have hw := wild_ac (n := p.length) (m := q.length) (starT ⟨#[42, 42]⟩ p) (fitP p q) 112 113 [.row 1 (p.map encS)] [.row 1 (p.map encS)] [.row 1 (q.map encS)] (by omega) (by omega) (by kernel_rfl) (by kernel_rfl) (fun i hi => parts1_ac _ i hi) (fun i k hi hk => parts2_ac p q i k hi hk hp hq)
  have he : partsF p q = wildF p.length q.length (starT ⟨#[42, 42]⟩ p) (fitP p q) := rfl
  rw [he]
  generalize wildF p.length q.length (starT ⟨#[42, 42]⟩ p) (fitP p q) = b at hw
  refine AC_walk ⟨TB, 12, 0, [], []⟩ (fn := Tryz.f96) TB_ok Tryz.func96 rfl rfl rfl rfl rfl (fun _ => rfl) (fun _ => rfl) ?_; intro E hna hX
  refine goT ?_
  refine .inl ⟨_, hw, by kernel_rfl, ⟨⟨True.intro, True.intro, ⟨True.intro, True.intro⟩, ⟨True.intro, True.intro, True.intro⟩, True.intro⟩, True.intro⟩, ?_⟩
  refine goT ?_
  rfl
def okG (p : ByteArray) : Bool := decide (1 ≤ p.size ∧ p.size ≤ 400) && ((partsS p).all fun x => !decide (x = ⟨#[]⟩) && okP x)
theorem gcheck_ac (s : ByteArray) (h : okG s = true) : AC CX 68 [.v (.string s)] (.v (.int .i64 0)) := by
  unfold okG at h
  rw [Bool.and_eq_true, decide_eq_true_eq, List.all_eq_true] at h
  obtain ⟨⟨h0, h4⟩, ha⟩ := h
  have hsp : AC CX 67 [.v (.string s), .v (.string ⟨#[47]⟩)] (.row 1 ((partsS s).map encS)) := split_ac s (by omega)
  have hln := partsS_len s
  generalize partsS s = t at hsp hln ha
  refine AC_walk ⟨TB, 43, 0, [], []⟩ (fn := Tryz.f68) TB_ok Tryz.func68 rfl rfl rfl rfl rfl (fun _ => rfl) (fun _ => rfl) ?_; intro E hna hX
  refine goT ?_
  refine ⟨_, hsp, by kernel_rfl, fun _ => rfl, ?_⟩
  refine goT ?_
  refine W_loop (fun k : Nat => k ≤ t.length) (fun k => t.length - k) (fun k => ⟨[(15, .row 1 (t.map encS)), (16, .v (.int .i64 t.length)), (17, .v (.int .i64 k))], []⟩) 0 (Nat.zero_le _) (Drops.to [15, 16, 17] rfl) ?_
  intro k hk
  refine goT ?_
  refine condB_intro (fun h1 => ?_) (fun h1 => ?_)
  · have e1 : (k : Int) < (t.length : Int) := of_decide_eq_true h1
    obtain ⟨x, hx⟩ := get_lt (l := t) (k := k) (by omega)
    have hxa := ha x (List.mem_of_getElem? hx)
    rw [Bool.and_eq_true, Bool.not_eq_true', decide_eq_false_iff_not] at hxa
    obtain ⟨hxn, hxp⟩ := hxa
    have hxd : decide (x = ⟨#[]⟩) = false := decide_eq_false hxn
    unfold okP at hxp
    rw [Bool.and_eq_true, Bool.and_eq_true, decide_eq_true_eq] at hxp
    obtain ⟨⟨hxs, hxg⟩, _⟩ := hxp
    refine goT ?_
    refine W_loop (γ := Nat × ByteArray) (fun g => gokB g.1 g.2 = true ∧ g.2.size ≤ g.1 ∧ g.1 ≤ 400) (fun g => g.1) (fun g => ⟨[(4, .v (.string g.2)), (15, .row 1 (t.map encS)), (16, .v (.int .i64 t.length)), (17, .v (.int .i64 k))], []⟩) (x.size, x) ⟨hxg, Nat.le_refl _, hxs⟩ (Drops.to [4, 15, 16, 17] rfl) ?_
    rintro ⟨f, r⟩ ⟨hg, hf, hf4⟩
    dsimp only at hg hf hf4 ⊢
    by_cases hr2 : r = ⟨#[42, 42]⟩
    · have hd : decide (r = ⟨#[42, 42]⟩) = true := decide_eq_true hr2
      refine goT ?_
      exact LoopEnd_fin (k + 1) [15, 16, 17] 0 hX (by omega) (by omega) rfl rfl rfl rfl trivial
    have hd : decide (r = ⟨#[42, 42]⟩) = false := decide_eq_false hr2
    by_cases hne : r = ⟨#[]⟩
    · have hd2 : decide (r = ⟨#[]⟩) = true := decide_eq_true hne
      refine goT ?_
      exact LoopEnd_fin (k + 1) [15, 16, 17] 0 hX (by omega) (by omega) rfl rfl rfl rfl trivial
    have hd2 : decide (r = ⟨#[]⟩) = false := decide_eq_false hne
    have hp := size_pos hne
    obtain ⟨f, rfl⟩ : ∃ f', f = f' + 1 := ⟨f - 1, by omega⟩
    obtain ⟨k1, k2, k3, k4⟩ := ok_step hg hne
    have hend := end_ac r hp (by omega)
    obtain ⟨u, hu⟩ : ∃ u, u = r.extract (tokN r) r.size := ⟨_, rfl⟩
    have hus := ext_size r (tokN r)
    rw [← hu] at k4 hus
    have hq : tokN r = if byteAt r 0 = 91 then (endF r).toNat else 1 := rfl
    refine goT ?_
    refine condB_intro (fun h2 => ?_) (fun h2 => ?_)
    · have e2 : byteAt r 0 = 91 := of_decide_eq_true h2
      have k5 := k1 e2
      rw [if_pos e2] at hq
      refine goT ?_
      refine ⟨_, hend, by kernel_rfl, fun _ => rfl, ?_⟩
      refine goT ?_
      refine ⟨tokN r, by omega, by omega, ?_⟩
      rw [← hu]
      refine goT ?_
      exact LoopEnd_fin (f, u) [4, 15, 16, 17] 0 hX ⟨k4, by show u.size ≤ f; omega, by show f ≤ 400; omega⟩ (Nat.lt_succ_self _) rfl rfl rfl rfl trivial
    · have e2 : ¬ byteAt r 0 = 91 := of_decide_eq_false h2
      rw [if_neg e2] at hq
      rw [hq] at hu
      refine goT ?_
      rw [← hu]
      exact LoopEnd_fin (f, u) [4, 15, 16, 17] 0 hX ⟨k4, by show u.size ≤ f; omega, by show f ≤ 400; omega⟩ (Nat.lt_succ_self _) rfl rfl rfl rfl trivial
  · have e1 : ¬ (k : Int) < (t.length : Int) := of_decide_eq_false h1
    refine goT ?_
    rfl
theorem cutL_size (c : UInt8) : ∀ (l : List UInt8), ∀ t ∈ cutL c l, t.length ≤ l.length
  | [], t, h => by
    rw [cutL, List.mem_singleton] at h
    subst h
    exact Nat.le_refl _
  | b :: l, t, h => by
    have ih := cutL_size c l
    rw [cutL] at h
    split at h
    · rcases List.mem_cons.1 h with rfl | h
      · exact Nat.zero_le _
      · have := ih t h
        rw [List.length_cons]; omega
    · split at h
      · rw [List.mem_singleton] at h
        subst h
        rw [List.length_cons]; simp
      · rename_i u r hc
        rw [hc] at ih
        rcases List.mem_cons.1 h with rfl | h
        · have := ih u (List.mem_cons_self ..)
          rw [List.length_cons, List.length_cons]; omega
        · have := ih t (List.mem_cons_of_mem _ h)
          rw [List.length_cons]; omega
theorem partsS_size (s : ByteArray) : ∀ x ∈ partsS s, x.size ≤ s.size := fun x hx => by
  unfold partsS at hx
  obtain ⟨t, ht, rfl⟩ := List.mem_map.1 hx
  have := cutL_size 47 _ t ht
  rw [size_list] at this
  exact this
def fitsF (p s : ByteArray) : Bool := partsF (partsS p) (partsS s)
theorem fits_ac (p s : ByteArray) (h : okG p = true) (hs : pathChk s = 0) : AC CX 70 [.v (.string p), .v (.string s)] (.tup [.v (.bool (fitsF p s)), .v (.int .i64 0)]) := by
  have hck := gcheck_ac p h
  unfold okG at h
  rw [Bool.and_eq_true, decide_eq_true_eq, List.all_eq_true] at h
  obtain ⟨⟨h0, h4⟩, ha⟩ := h
  have hsz := pathChk_size hs
  have hs1 := (pathChk_zero.1 hs).1
  have hpc := pathCheck_ac s (by omega)
  rw [hs] at hpc
  have hpp : pathParts p = partsS p := if_neg fun e => by rw [e] at h0; exact absurd h0 (by decide)
  have hps : pathParts s = partsS s := if_neg fun e => by rw [e] at hs1; exact absurd hs1 (by decide)
  have hx := parts_ac p (by omega)
  have hy := parts_ac s (by omega)
  rw [hpp] at hx
  rw [hps] at hy
  have hlp := partsS_len p
  have hls := partsS_len s
  have hzs := partsS_size s
  have hg := gparts_ac (partsS p) (partsS s) (by omega) (by omega) (fun x hx => by have := ha x hx; rw [Bool.and_eq_true] at this; exact this.2) (fun x hx => by have := hzs x hx; omega)
  have he : fitsF p s = partsF (partsS p) (partsS s) := rfl
  rw [he]
  generalize partsF (partsS p) (partsS s) = b at hg
  clear ha hzs
  generalize partsS p = u at hx hg
  generalize partsS s = v at hy hg
  refine AC_walk ⟨TB, 23, 0, [], []⟩ (fn := Tryz.f70) TB_ok Tryz.func70 rfl rfl rfl rfl rfl (fun _ => rfl) (fun _ => rfl) ?_; intro E hna hX
  refine goT ?_
  refine ⟨_, hck, by kernel_rfl, fun _ => rfl, ?_⟩
  refine goT ?_
  refine ⟨_, hpc, by kernel_rfl, fun _ => rfl, ?_⟩
  refine goT ?_
  refine ⟨_, hx, by kernel_rfl, fun _ => rfl, ?_⟩
  refine goT ?_
  refine ⟨_, hy, by kernel_rfl, fun _ => rfl, ?_⟩
  refine goT ?_
  refine ⟨_, hg, by kernel_rfl, fun _ => rfl, ?_⟩
  refine goT ?_
  rfl
end Go.Proofs.YtdhikkdkjmeiiaaGreatDoor.Abs
