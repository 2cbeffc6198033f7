/- The law ListSays. -/
import Derived.Test.YtnfbomhhgjlacaaDoorRline
namespace Go.Proofs.YtnfbomhhgjlacaaDoor.Abs
open Go.RowKit Go.MapKept
set_option linter.unusedVariables false
set_option linter.unusedSimpArgs false
set_option maxRecDepth 100000
set_option maxHeartbeats 4000000
theorem metaF_second (r : RawT) : -34359738368 ≤ (metaF r).second ∧ (metaF r).second ≤ 34359738368 := by
  have p5 := pick_lt (n := r.c) (m := 17179869184) (by decide)
  unfold metaF
  dsimp only
  repeat' split
  all_goals (dsimp only; omega)
theorem entry_good {r : RawT} (h : RawGood r) : EntGood (entryF r) := by
  have p2 := pick_lt (n := r.a) (m := 4) (by decide)
  have p4 := pick_lt (n := r.c) (m := 40) (by decide)
  have p5 := pick_lt (n := r.c) (m := 150) (by decide)
  have hcs := clean_size r.s 40
  have h40 : (40 : Int).toNat = 40 := rfl
  have hds : (entData r).size ≤ 2000 := by
    unfold entData
    rw [repM_size]
    exact Nat.le_trans (Nat.mul_le_mul (show (pickF r.c 40).toNat ≤ 40 by omega) (show (cleanF r.s 40).size ≤ 40 by omega)) (by decide)
  have hts : (entTarget r).size ≤ 151 ∧ 1 ≤ (entTarget r).size := by
    unfold entTarget
    rw [ByteArray.size_append, repM_size, show (⟨#[117]⟩ : ByteArray).size = 1 from rfl, show (⟨#[116]⟩ : ByteArray).size = 1 from rfl]
    omega
  have htw : wP true (entTarget r).data.toList = true ∧ eP true (entTarget r).data.toList = false := by
    have hl : (entTarget r).data.toList = 116 :: List.replicate (pickF r.c 150).toNat 117 := by
      unfold entTarget repM
      rw [app_list, mkS_list, show (⟨#[116]⟩ : ByteArray).data.toList = [116] from rfl, show (⟨#[117]⟩ : ByteArray).data.toList = [117] from rfl]
      have hrep : ∀ n, Lib.repeatL ([117] : List UInt8) n = List.replicate n 117 := fun n => by
        induction n with
        | zero => rfl
        | succ n ih => rw [List.replicate_succ, ← ih]; rfl
      rw [hrep]
      rfl
    have h1 : ∀ n, wP false (List.replicate n 117) = true := fun n => by
      induction n with
      | zero => rfl
      | succ n ih => rw [List.replicate_succ]; exact ih
    have h2 : ∀ n, eP false (List.replicate n 117) = false := fun n => by
      induction n with
      | zero => rfl
      | succ n ih => rw [List.replicate_succ]; exact ih
    rw [hl]
    exact ⟨h1 _, h2 _⟩
  have ne : Lib.indexByte (⟨#[]⟩ : ByteArray).data.toList 0 < 0 := by decide
  unfold entryF
  refine ⟨entPath_good _ _, meta_goodM h, ⟨by show 1 ≤ entKind r; unfold entKind; omega, by show entKind r ≤ 4; unfold entKind; omega⟩, fun hk => if_neg hk, ?_, ?_, ?_, fun hk => ?_, fun hk => ?_⟩
  · constructor
    · intro he
      show entKind r < 3
      rcases Int.lt_or_le (entKind r) 3 with h3 | h3
      · exact h3
      · have he : (if 3 ≤ entKind r then entTarget r else ⟨#[]⟩) = ⟨#[]⟩ := he
        rw [if_pos h3] at he
        rw [he] at hts
        exact absurd hts.2 (by decide)
    · intro h3
      exact if_neg (by have h3 : entKind r < 3 := h3; omega)
  · show (if entKind r = 1 then entData r else ⟨#[]⟩).size ≤ 2000
    split
    · exact hds
    · exact Nat.zero_le _
  · show (if 3 ≤ entKind r then entTarget r else ⟨#[]⟩).size ≤ 400
    split
    · omega
    · exact Nat.zero_le _
  · have hk : entKind r = 4 := hk
    show pathChk (if 3 ≤ entKind r then entTarget r else ⟨#[]⟩) = 0
    rw [if_pos (by omega)]
    exact path_good (by omega) htw.1 htw.2
  · show Lib.indexByte (if 3 ≤ entKind r then entTarget r else ⟨#[]⟩).data.toList 0 < 0
    split
    · rw [idx_none _ _ (wP_zero _ _ htw.1)]
      decide
    · exact ne
theorem suf_app (Q P : ByteArray) : sufF (Q ++ P) P = true := by
  unfold sufF
  have h1 : (Q ++ P).size = Q.size + P.size := ByteArray.size_append ..
  rw [Bool.and_eq_true]
  refine ⟨decide_eq_true (by omega), decide_eq_true ?_⟩
  apply bytes_ext
  rw [ext_listE, List.take_of_length_le (by rw [size_list]; exact Nat.le_refl _), app_list, show (Q ++ P).size - P.size = Q.data.toList.length by rw [size_list]; omega]
  exact List.drop_left
theorem listSaysLaw_ac (r : RawT) (hr : RawGood r) : AC CX 6 [.agg (encRaw r)] (.v (.bool true)) := by
  have hen := entry_ac r hr
  have hg := entry_good hr
  have hsec : -34359738368 ≤ (entryF r).mt.second ∧ (entryF r).mt.second ≤ 34359738368 := metaF_second r
  generalize entryF r = x at *
  obtain ⟨s, R, Q, hli, hs1, hs2, hsz⟩ := line_ex x hg hsec.1 hsec.2
  have htx := metaText_ac x.mt.mode hg.mt.mode.1 hg.mt.mode.2
  have hrs := rowB_size x.mt.mode 3
  have hk := hg.kind
  obtain ⟨kN, hkN⟩ : ∃ k : Nat, x.kind = (k : Int) := ⟨x.kind.toNat, by omega⟩
  have hkr : kN ≤ 4 := by omega
  rw [show x.kind.toNat = kN by omega] at hs1
  have hkc := kc_size kN hkr
  have hx1 : s.extract 1 10 = rowB x.mt.mode 3 := by
    apply bytes_ext
    rw [ext_listE, hs1, app_list, app_list]
    have e1 : (kindsS.extract kN (kN + 1)).data.toList.length = 1 := by rw [size_list, hkc]
    have e2 : (rowB x.mt.mode 3).data.toList.length = 9 := by rw [size_list, hrs]
    rw [List.drop_take, List.drop_left' e1]
    exact List.take_left' e2
  have hb0 : byteAt s 0 = byteAt kindsS kN := by
    have e1 : (kindsS.extract kN (kN + 1)).data.toList.length = 1 := by rw [size_list, hkc]
    have e3 : kN < kindsS.data.toList.length := by rw [size_list]; exact Nat.lt_of_le_of_lt hkr (by decide)
    unfold byteAt
    rw [hs1, app_list, List.getD_eq_getElem?_getD, List.getElem?_append_left (by omega), ext_listE, List.getElem?_drop, List.getElem?_take, if_pos (by omega), List.getD_eq_getElem?_getD, Nat.add_zero]
  have hsuf := hasSuffix_ac s (⟨#[32]⟩ ++ (x.path ++ tailB x)) (by omega)
  have hsufT : sufF s (⟨#[32]⟩ ++ (x.path ++ tailB x)) = true := by rw [hs2]; exact suf_app _ _
  rw [hsufT] at hsuf
  have hs10 : 11 ≤ s.size := by rw [hs1, ByteArray.size_append, ByteArray.size_append, ByteArray.size_append, hkc, hrs, show (⟨#[32]⟩ : ByteArray).size = 1 from rfl]; omega
  have hb0' : byteAt s 0 = byteAt ⟨#[63, 45, 100, 108, 104]⟩ kN := hb0
  have hp4 := pathChk_size hg.path
  have ht4 := hg.tsize
  have q32 : (⟨#[32]⟩ : ByteArray).size = 1 := rfl
  have l1 : (⟨#[32, 45, 62, 32]⟩ : ByteArray).size = 4 := rfl
  have l2 : (⟨#[32, 45, 62, 32]⟩ ++ x.target).size ≤ 409 := by rw [ByteArray.size_append, l1]; omega
  have l3 : (⟨#[32, 108, 105, 110, 107, 32, 116, 111, 32]⟩ : ByteArray).size = 9 := rfl
  have l4 : (⟨#[32, 108, 105, 110, 107, 32, 116, 111, 32]⟩ ++ x.target).size ≤ 409 := by rw [ByteArray.size_append, l3]; omega
  have hpt : (x.path ++ tailB x).size ≤ 809 := by rw [ByteArray.size_append]; have := tail_size x ht4; omega
  clear hs1 hs2 hb0 hsec hkc hrs
  generalize rowB x.mt.mode 3 = tm at *
  obtain ⟨z, hz⟩ : ∃ z, z = s.extract 1 10 := ⟨_, rfl⟩
  rw [← hz] at hx1
  refine AC_walk ⟨TB, 72, 0, [], []⟩ (fn := Tryd.f6) TB_ok Tryd.func6 rfl rfl rfl rfl rfl (fun _ => rfl) (fun _ => rfl) ?_; intro E hna hX
  refine goT ?_
  refine ⟨_, hen, by kernel_rfl, fun _ => rfl, ?_⟩
  refine goT ?_
  refine ⟨_, hli, by kernel_rfl, fun _ => rfl, ?_⟩
  refine goT ?_
  refine ⟨_, htx, by kernel_rfl, fun _ => rfl, ?_⟩
  repeat (first | ((with_reducible show W _ _ _ _ _ _); first | refine W_seq ?_ | refine W_region hX ?_ | refine W_cond ?_ | refine W_skip ?_ | refine W_exit ?_ | refine W_ret ?_) | ((fail_if_success (with_reducible show W _ _ _ _ _ _)); show W _ _ _ _ _ _) | refine andA ?_ | refine condT ?_ | refine condF ?_ | refine exB ?_ | refine exL ?_ | refine Exists.intro _ (And.intro rfl ?_) | refine Exists.intro _ (And.intro (get_mapN (by assumption)) ?_) | ((fail_if_success (with_reducible show LoopEnd _ _ _ _ _ _ _)); show LoopEnd _ _ _ _ _ _ _) | ((fail_if_success (with_reducible show JoinEnd _ _ _ _ _)); show JoinEnd _ _ _ _ _) | ((fail_if_success (with_reducible show JoinG _ _ _ _ _)); show JoinG _ _ _ _ _))
  refine W_join True ⟨[(8, .v (.string (x.path ++ tailB x))), (7, .v (.int .i64 0)), (6, .v (.string tm)), (5, .v (.int .i64 0)), (4, .v (.string s)), (3, .ptr 1 0)], [.cells 23 (encRaw r), .cells 42 (encE x)]⟩ ?_ ?_
  · by_cases k3 : x.kind = 3
    · rw [show tailB x = ⟨#[32, 45, 62, 32]⟩ ++ x.target from if_pos k3]
      refine goT ?_
      exact ⟨trivial, Drops.to [8, 7, 6, 5, 4, 3] rfl⟩
    · by_cases k4 : x.kind = 4
      · rw [show tailB x = ⟨#[32, 108, 105, 110, 107, 32, 116, 111, 32]⟩ ++ x.target by unfold tailB; rw [if_neg k3, if_pos k4]]
        refine goT ?_
        exact ⟨trivial, Drops.to [8, 7, 6, 5, 4, 3] rfl⟩
      · rw [show x.path ++ tailB x = x.path by unfold tailB; rw [if_neg k3, if_neg k4]; apply bytes_ext; rw [app_list]; exact List.append_nil _]
        refine goT ?_
        exact ⟨trivial, Drops.to [8, 7, 6, 5, 4, 3] rfl⟩
  intro _
  generalize x.path ++ tailB x = en at *
  refine goT ?_
  refine W_draw hX (n := 31) (follows_mixed Tryd.checked) (ws := [[], [(0, 41)], [(1, 42)], [(2, 43)], [(2, 43), (3, 44)], [(2, 43), (4, 45)], [(2, 43), (5, 46)], [(6, 47)], [(6, 47), (7, 48)], [(6, 47), (8, 49)], [(6, 47), (9, 50)], [(6, 47), (10, 51)], [(11, 52)], [(11, 52), (12, 53)], [(11, 52)], [(11, 52), (13, 54), (14, 55)], [(11, 52), (15, 56)], [(11, 52), (16, 57)], [(17, 58)], [(17, 58)], [(17, 58), (19, 60)], [(17, 58), (18, 59), (20, 61)], [(17, 58), (21, 62)], [(21, 62), (22, 63)], [(23, 64)], [(23, 64), (24, 65)], [(23, 64)], [(23, 64), (26, 67)], [(23, 64), (27, 68)], [(23, 64), (25, 66), (28, 69)], [(23, 64), (29, 70)]]) (ds := [41, 42, 43, 44, 45, 46, 47, 48, 49, 50, 51, 52, 53, 54, 55, 56, 57, 58, 59, 60, 61, 62, 63, 64, 65, 66, 67, 68, 69, 70, 71]) (bi := []) (wa := [(0, 41), (1, 42), (2, 43), (3, 44), (4, 45), (5, 46), (6, 47), (7, 48), (8, 49), (9, 50), (10, 51), (11, 52), (12, 53), (13, 54), (14, 55), (15, 56), (16, 57), (17, 58), (18, 59), (19, 60), (20, 61), (21, 62), (22, 63), (23, 64), (24, 65), (25, 66), (26, 67), (27, 68), (28, 69), (29, 70), (30, 71)]) ⟨by kernel_rfl, by kernel_rfl, by kernel_rfl, by kernel_rfl, by decide, by kernel_rfl, by kernel_rfl, rfl, by decide, rfl⟩ ?_
  refine goT ?_
  rw [← hz, decide_eq_true hx1]
  refine goT ?_
  refine ⟨_, hsuf, by kernel_rfl, fun _ => rfl, ?_⟩
  refine goT ?_
  refine ⟨kN, hkN.symm, by show kN < 5; omega, ?_⟩
  refine goT ?_
  rw [decide_eq_true hb0']
  refine goT ?_
  rfl
end Go.Proofs.YtnfbomhhgjlacaaDoor.Abs
