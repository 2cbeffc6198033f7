/- Heads, walked: head.Sum, Write, Read. -/
import Derived.Test.YtnfbomhhgjlacaaDoorRfield
import Derived.Test.YtnfbomhhgjlacaaDoorRpen
namespace Go.Proofs.YtnfbomhhgjlacaaDoor.Abs
open Go.RowKit Go.MapKept
set_option linter.unusedVariables false
set_option linter.unusedSimpArgs false
set_option maxRecDepth 100000
set_option maxHeartbeats 4000000
theorem sum_ac (s : ByteArray) (hs : s.size = 512) : AC CX 14 [.v (.string s)] (.tup [.v (.int .i64 (sumK s.data.toList 512 : Nat)), .v (.int .i64 0)]) := by
  have hle := sumK_le s.data.toList
  have hsl := size_list s
  refine AC_walk ⟨TB, 28, 0, [], []⟩ (fn := Tryd.f14) TB_ok Tryd.func14 rfl rfl rfl rfl rfl (fun _ => rfl) (fun _ => rfl) ?_; intro E hna hX
  refine goT ?_
  refine W_loop (fun k : Nat => k ≤ 512) (fun k => 512 - k) (fun k => ⟨[(0, .v (.string s)), (4, .v (.int .i64 (sumK s.data.toList k : Nat))), (10, .v (.int .i64 (s.size : Nat))), (11, .v (.int .i64 k))], []⟩) 0 (Nat.zero_le _) (Drops.to [0, 4, 10, 11] rfl) ?_
  intro k hk
  have hlk := hle k
  refine goT ?_
  refine condB_intro (fun h1 => ?_) (fun h1 => ?_)
  · have e1 := of_decide_eq_true h1
    obtain ⟨u, hu⟩ := get_lt (l := s.data.toList) (k := k) (by omega)
    have hbu := byteAt_get hu
    have hul := u.toNat_lt
    have hby : byN s.data.toList k = u.toNat := by
      unfold byN
      rw [List.getD_eq_getElem?_getD, hu]
      rfl
    by_cases c1 : k < 148
    · have hs1 : sumK s.data.toList (k + 1) = sumK s.data.toList k + u.toNat := by rw [sumK, if_pos (.inl c1), hby]
      refine goT ?_
      exact LoopEnd_fin (k + 1) [0, 4, 10, 11] 0 hX (by omega) (by omega) rfl (by rw [hs1, Int.natCast_add, ← hbu]; rfl) rfl rfl trivial
    · by_cases c2 : 156 ≤ k
      · have hs1 : sumK s.data.toList (k + 1) = sumK s.data.toList k + u.toNat := by rw [sumK, if_pos (.inr c2), hby]
        refine goT ?_
        exact LoopEnd_fin (k + 1) [0, 4, 10, 11] 0 hX (by omega) (by omega) rfl (by rw [hs1, Int.natCast_add, ← hbu]; rfl) rfl rfl trivial
      · have hs1 : sumK s.data.toList (k + 1) = sumK s.data.toList k := by rw [sumK, if_neg (by omega), Nat.add_zero]
        refine goT ?_
        exact LoopEnd_fin (k + 1) [0, 4, 10, 11] 0 hX (by omega) (by omega) rfl (by rw [hs1]; rfl) rfl rfl trivial
  · have e1 := of_decide_eq_false h1
    obtain rfl : k = 512 := by omega
    refine goT ?_
    rfl
/-- take: bytes off the front. -/
theorem take_acb (a b : ByteArray) (n : Int) (hn : n = a.size) (e : Int) (hs : (a ++ b).size ≤ 100000) : ACB CX 47 [.ptr 0 0, .v (.int .i64 n)] [.cells 93 [.v (.string (a ++ b)), .v (.int .i64 e)]] (.v (.string a)) [.cells 93 [.v (.string b), .v (.int .i64 e)]] := by
  have hx1 : (a ++ b).extract 0 a.size = a := by
    apply bytes_ext
    rw [ext_listF, app_list, List.drop_zero]
    exact List.take_left' (size_list a)
  have hx2 : (a ++ b).extract a.size (a ++ b).size = b := by
    apply bytes_ext
    rw [ext_listF, List.take_of_length_le (by rw [size_list]; omega), app_list]
    exact List.drop_left' (size_list a)
  have hsz : (a ++ b).size = a.size + b.size := ByteArray.size_append ..
  subst hn
  generalize a ++ b = s at *
  refine ACB_walk ⟨TB, 22, 1, [], []⟩ (fn := Tryd.f47) TB_ok Tryd.func47 rfl rfl rfl rfl (fun i h => by cases h) rfl ?_; intro E hX
  refine goT ?_
  rw [hx1, hx2]
  refine goT ?_
  exact ⟨[], rfl⟩
theorem note_acb (s : ByteArray) (e : Int) : ACB CX 48 [.ptr 0 0, .v (.int .i64 e)] [.cells 93 [.v (.string s), .v (.int .i64 0)]] (.tup []) [.cells 93 [.v (.string s), .v (.int .i64 e)]] := by
  refine ACB_walk ⟨TB, 13, 1, [], []⟩ (fn := Tryd.f48) TB_ok Tryd.func48 rfl rfl rfl rfl (fun i h => by cases h) rfl ?_; intro E hX
  refine goT ?_
  exact ⟨[], rfl⟩
theorem text_acb (t b : ByteArray) (w : Nat) (o : Bool) (hw : w ≤ 512) (h1 : 1 ≤ w) (ht : t.size ≤ w) (hb : o = false → t.size < w) (h0 : (0 : UInt8) ∉ t.data.toList) (hs : (fldB t w ++ b).size ≤ 100000) : ACB CX 45 [.ptr 0 0, .v (.int .i64 w), .v (.bool o)] [.cells 93 [.v (.string (fldB t w ++ b)), .v (.int .i64 0)]] (.v (.string t)) [.cells 93 [.v (.string b), .v (.int .i64 0)]] := by
  have hta := take_acb (fldB t w) b w (by rw [fldB_size ht]) 0 hs
  have hrd := fieldRead_ac t w o hw h1 ht hb h0
  have hno := note_acb b 0
  generalize fldB t w ++ b = s at *
  refine ACB_walk ⟨TB, 21, 1, [], []⟩ (fn := Tryd.f45) TB_ok Tryd.func45 rfl rfl rfl rfl (fun i h => by cases h) rfl ?_; intro E hX
  refine goT ?_
  refine .inr ⟨[0], _, _, _, _, ⟨hta, by kernel_rfl, rfl, rfl, rfl, by decide, rfl, Nat.le_refl _, rfl, ballc rfl balln, ballc rfl balln, rfl, fun j hj => (by cases hj), fun j hj => (by cases hj)⟩, ?_⟩
  refine goT ?_
  refine ⟨_, hrd, by kernel_rfl, fun _ => rfl, ?_⟩
  refine goT ?_
  refine .inr ⟨[0], _, _, _, _, ⟨hno, by kernel_rfl, rfl, rfl, rfl, by decide, rfl, Nat.le_refl _, rfl, ballc rfl balln, ballc rfl balln, rfl, fun j hj => (by cases hj), fun j hj => (by cases hj)⟩, ?_⟩
  refine goT ?_
  exact ⟨[], rfl⟩
theorem number_acb (n w : Nat) (b : ByteArray) (hw : w = 8 ∨ w = 12) (hn : n < 8 ^ (w - 1)) (hs : (octS n w ++ b).size ≤ 100000) : ACB CX 46 [.ptr 0 0, .v (.int .i64 w)] [.cells 93 [.v (.string (octS n w ++ b)), .v (.int .i64 0)]] (.v (.int .i64 n)) [.cells 93 [.v (.string b), .v (.int .i64 0)]] := by
  have hsz := octS_size n w (by omega)
  have hta := take_acb (octS n w) b w (by rw [hsz]) 0 hs
  have hrd := octRead_ac (octS n w) (by omega)
  have hr : octRes (octS n w).data.toList = .tup [.v (.int .i64 (n : Int)), .v (.int .i64 0)] := by
    unfold octRes octS
    rw [mkS_list, octGo_oct hn]
  rw [hr] at hrd
  have hno := note_acb b 0
  generalize octS n w ++ b = s at *
  refine ACB_walk ⟨TB, 18, 1, [], []⟩ (fn := Tryd.f46) TB_ok Tryd.func46 rfl rfl rfl rfl (fun i h => by cases h) rfl ?_; intro E hX
  refine goT ?_
  refine .inr ⟨[0], _, _, _, _, ⟨hta, by kernel_rfl, rfl, rfl, rfl, by decide, rfl, Nat.le_refl _, rfl, ballc rfl balln, ballc rfl balln, rfl, fun j hj => (by cases hj), fun j hj => (by cases hj)⟩, ?_⟩
  refine goT ?_
  refine ⟨_, hrd, by kernel_rfl, fun _ => rfl, ?_⟩
  refine goT ?_
  refine .inr ⟨[0], _, _, _, _, ⟨hno, by kernel_rfl, rfl, rfl, rfl, by decide, rfl, Nat.le_refl _, rfl, ballc rfl balln, ballc rfl balln, rfl, fun j hj => (by cases hj), fun j hj => (by cases hj)⟩, ?_⟩
  refine goT ?_
  exact ⟨[], rfl⟩
theorem just_acb (a b : ByteArray) (hs : (a ++ b).size ≤ 100000) : ACB CX 49 [.ptr 0 0, .v (.string a)] [.cells 93 [.v (.string (a ++ b)), .v (.int .i64 0)]] (.tup []) [.cells 93 [.v (.string b), .v (.int .i64 0)]] := by
  have hta := take_acb a b a.size rfl 0 hs
  have haa : a = a := rfl
  generalize a ++ b = s at *
  refine ACB_walk ⟨TB, 12, 1, [], []⟩ (fn := Tryd.f49) TB_ok Tryd.func49 rfl rfl rfl rfl (fun i h => by cases h) rfl ?_; intro E hX
  refine goT ?_
  refine .inr ⟨[0], _, _, _, _, ⟨hta, by kernel_rfl, rfl, rfl, rfl, by decide, rfl, Nat.le_refl _, rfl, ballc rfl balln, ballc rfl balln, rfl, fun j hj => (by cases hj), fun j hj => (by cases hj)⟩, ?_⟩
  refine goT ?_
  rw [decide_eq_true haa]
  refine goT ?_
  exact ⟨[], rfl⟩
/-- head.Read: what is read of a block that is no written head, and of one that is. -/
def encHead0 : List AV := [.v (.string ⟨#[]⟩), .v (.string ⟨#[]⟩), .v (.string ⟨#[]⟩), .v (.int .i64 0), .v (.int .i64 0), .v (.int .i64 0), .v (.int .i64 0), .v (.int .i64 0), .v (.int .u8 0), .v (.string ⟨#[]⟩), .v (.string ⟨#[]⟩)]
theorem headReadBad_ac (s : ByteArray) (hs : s.size = 512) (hbad : octGo 0 ((s.data.toList.take 155).drop 148) ≠ some (sumK s.data.toList 512) ∨ byN s.data.toList 155 ≠ 32) : AC CX 15 [.v (.string s)] (.tup [.agg encHead0, .v (.int .i64 8)]) := by
  have hsu := sum_ac s hs
  have hex : (s.extract 148 155).size = 7 := by rw [← size_list, ext_listF, List.length_drop, List.length_take, size_list]; omega
  have hrd := octRead_ac (s.extract 148 155) (by omega)
  rw [ext_listF] at hrd
  unfold octRes at hrd
  obtain ⟨z, hz⟩ : ∃ z, z = s.extract 148 155 := ⟨_, rfl⟩
  rw [← hz] at hrd hex
  have h155 : byteAt s 155 = ((byN s.data.toList 155 : Nat) : Int) := rfl
  generalize byN s.data.toList 155 = b155 at *
  generalize sumK s.data.toList 512 = su at *
  generalize octGo 0 ((s.data.toList.take 155).drop 148) = og at *
  cases og with
  | none =>
    refine AC_walk ⟨TB, 101, 0, [], []⟩ (fn := Tryd.f15) TB_ok Tryd.func15 rfl rfl rfl rfl rfl (fun _ => rfl) (fun _ => rfl) ?_; intro E hna hX
    refine goT ?_
    refine ⟨_, hsu, by kernel_rfl, fun _ => rfl, ?_⟩
    refine goT ?_
    rw [← hz]
    refine ⟨_, hrd, by kernel_rfl, fun _ => rfl, ?_⟩
    refine goT ?_
    rfl
  | some n =>
    by_cases h1 : n = su
    · have h2 : ¬ b155 = 32 := by
        rcases hbad with h | h
        · exact absurd (congrArg some h1) h
        · exact h
      refine AC_walk ⟨TB, 101, 0, [], []⟩ (fn := Tryd.f15) TB_ok Tryd.func15 rfl rfl rfl rfl rfl (fun _ => rfl) (fun _ => rfl) ?_; intro E hna hX
      refine goT ?_
      refine ⟨_, hsu, by kernel_rfl, fun _ => rfl, ?_⟩
      refine goT ?_
      rw [← hz]
      refine ⟨_, hrd, by kernel_rfl, fun _ => rfl, ?_⟩
      refine goT ?_
      rfl
    · refine AC_walk ⟨TB, 101, 0, [], []⟩ (fn := Tryd.f15) TB_ok Tryd.func15 rfl rfl rfl rfl rfl (fun _ => rfl) (fun _ => rfl) ?_; intro E hna hX
      refine goT ?_
      refine ⟨_, hsu, by kernel_rfl, fun _ => rfl, ?_⟩
      refine goT ?_
      rw [← hz]
      refine ⟨_, hrd, by kernel_rfl, fun _ => rfl, ?_⟩
      refine goT ?_
      rfl
theorem headB_chain (h : HeadT) : headB h = fldB h.name 100 ++ (octS h.mode 8 ++ (octS h.uid 8 ++ (octS h.gid 8 ++ (octS h.size 12 ++ (octS h.time 12 ++ ((octS (hSum h) 7 ++ ⟨#[32]⟩) ++ (⟨#[h.type]⟩ ++ (fldB h.link 100 ++ (ustarB ++ (fldB h.user 32 ++ (fldB h.group 32 ++ (devB ++ (fldB h.pre 155 ++ (zB 12 ++ (⟨#[]⟩))))))))))))))) := by
  apply bytes_ext
  unfold headB hA hB
  simp only [app_list, List.append_assoc]
  rfl
theorem kind_in {c : UInt8} (h : c ∈ kindsB) : 0 ≤ Lib.indexByte (⟨#[48, 49, 50, 53, 120]⟩ : ByteArray).data.toList c := by
  unfold kindsB at h
  simp only [List.mem_cons, List.not_mem_nil, or_false] at h
  rcases h with rfl | rfl | rfl | rfl | rfl <;> decide
theorem headRead_ac (h : HeadT) (H : HeadOk h) : AC CX 15 [.v (.string (headB h))] (.tup [.agg (encHead h), .v (.int .i64 0)]) := by
  have hs := headB_size H
  have hsu := sum_ac (headB h) hs
  rw [headB_sum H] at hsu
  have hfl := headB_fld H
  have h155 : byteAt (headB h) 155 = 32 := by
    have := headB_155 H
    show ((byN (headB h).data.toList 155 : Nat) : Int) = 32
    omega
  have hsl := hSum_le h
  obtain ⟨z, hz⟩ : ∃ z, z = (headB h).extract 148 155 := ⟨_, rfl⟩
  have hzl : z.data.toList = octL (hSum h) 7 := by rw [hz, ext_listF, hfl]
  have hex : z.size = 7 := by rw [← size_list, hzl, octL_len _ _ (by decide)]
  have hrd := octRead_ac z (by omega)
  have hr : octRes z.data.toList = .tup [.v (.int .i64 (hSum h : Int)), .v (.int .i64 0)] := by
    unfold octRes
    rw [hzl, octGo_oct (by have : 8 ^ (7 - 1) = 262144 := rfl; omega)]
  rw [hr] at hrd
  have hki := indexByte_ac ⟨#[48, 49, 50, 53, 120]⟩ h.type
  have hki2 := kind_in H.type
  have hch := headB_chain h
  have hu := H.user.le
  have hg := H.group.le
  have p7 : 8 ^ (8 - 1) = 2097152 := rfl
  have p11 : 8 ^ (12 - 1) = 8589934592 := rfl
  have q1 := H.mode
  have q2 := H.uid
  have q3 := H.gid
  have q4 := H.size
  have q5 := H.time
  have hb0 : byteAt ⟨#[h.type]⟩ 0 = (h.type.toNat : Int) := rfl
  have w0 : (⟨#[]⟩ : ByteArray).size = 0 := rfl
  obtain ⟨t14, e14⟩ : ∃ t, zB 12 ++ ⟨#[]⟩ = t := ⟨_, rfl⟩
  have z14 : t14.size = 12 := by rw [← e14, ByteArray.size_append, zB_size 12, w0]
  have c14 := just_acb (zB 12) ⟨#[]⟩ (by rw [e14]; omega)
  rw [e14] at c14
  obtain ⟨t13, e13⟩ : ∃ t, fldB h.pre 155 ++ t14 = t := ⟨_, rfl⟩
  have z13 : t13.size = 167 := by rw [← e13, ByteArray.size_append, fldB_size H.pre.le, z14]
  have c13 := text_acb h.pre t14 155 true (by decide) (by decide) H.pre.le (by simp) H.pre.nz (by rw [e13]; omega)
  rw [e13] at c13
  obtain ⟨t12, e12⟩ : ∃ t, devB ++ t13 = t := ⟨_, rfl⟩
  have z12 : t12.size = 183 := by rw [← e12, ByteArray.size_append, z13]; rfl
  have c12 := just_acb devB t13 (by rw [e12]; omega)
  rw [e12] at c12
  obtain ⟨t11, e11⟩ : ∃ t, fldB h.group 32 ++ t12 = t := ⟨_, rfl⟩
  have z11 : t11.size = 215 := by rw [← e11, ByteArray.size_append, fldB_size (s := h.group) (w := 32) (by omega), z12]
  have c11 := text_acb h.group t12 32 false (by decide) (by decide) (by omega) (by omega) H.group.nz (by rw [e11]; omega)
  rw [e11] at c11
  obtain ⟨t10, e10⟩ : ∃ t, fldB h.user 32 ++ t11 = t := ⟨_, rfl⟩
  have z10 : t10.size = 247 := by rw [← e10, ByteArray.size_append, fldB_size (s := h.user) (w := 32) (by omega), z11]
  have c10 := text_acb h.user t11 32 false (by decide) (by decide) (by omega) (by omega) H.user.nz (by rw [e10]; omega)
  rw [e10] at c10
  obtain ⟨t9, e9⟩ : ∃ t, ustarB ++ t10 = t := ⟨_, rfl⟩
  have z9 : t9.size = 255 := by rw [← e9, ByteArray.size_append, z10]; rfl
  have c9 := just_acb ustarB t10 (by rw [e9]; omega)
  rw [e9] at c9
  obtain ⟨t8, e8⟩ : ∃ t, fldB h.link 100 ++ t9 = t := ⟨_, rfl⟩
  have z8 : t8.size = 355 := by rw [← e8, ByteArray.size_append, fldB_size H.link.le, z9]
  have c8 := text_acb h.link t9 100 true (by decide) (by decide) H.link.le (by simp) H.link.nz (by rw [e8]; omega)
  rw [e8] at c8
  obtain ⟨t7, e7⟩ : ∃ t, ⟨#[h.type]⟩ ++ t8 = t := ⟨_, rfl⟩
  have z7 : t7.size = 356 := by rw [← e7, ByteArray.size_append, z8]; rfl
  have c7 := take_acb ⟨#[h.type]⟩ t8 1 rfl 0 (by rw [e7]; omega)
  rw [e7] at c7
  obtain ⟨t6, e6⟩ : ∃ t, (octS (hSum h) 7 ++ ⟨#[32]⟩) ++ t7 = t := ⟨_, rfl⟩
  have z6 : t6.size = 364 := by rw [← e6, ByteArray.size_append, ByteArray.size_append, octS_size _ 7 (by decide), z7]; rfl
  have c6 := take_acb (octS (hSum h) 7 ++ ⟨#[32]⟩) t7 8 (by rw [ByteArray.size_append, octS_size _ 7 (by decide)]; rfl) 0 (by rw [e6]; omega)
  rw [e6] at c6
  obtain ⟨t5, e5⟩ : ∃ t, octS h.time 12 ++ t6 = t := ⟨_, rfl⟩
  have z5 : t5.size = 376 := by rw [← e5, ByteArray.size_append, octS_size _ 12 (by decide), z6]
  have c5 := number_acb h.time 12 t6 (.inr rfl) (by omega) (by rw [e5]; omega)
  rw [e5] at c5
  obtain ⟨t4, e4⟩ : ∃ t, octS h.size 12 ++ t5 = t := ⟨_, rfl⟩
  have z4 : t4.size = 388 := by rw [← e4, ByteArray.size_append, octS_size _ 12 (by decide), z5]
  have c4 := number_acb h.size 12 t5 (.inr rfl) (by omega) (by rw [e4]; omega)
  rw [e4] at c4
  obtain ⟨t3, e3⟩ : ∃ t, octS h.gid 8 ++ t4 = t := ⟨_, rfl⟩
  have z3 : t3.size = 396 := by rw [← e3, ByteArray.size_append, octS_size _ 8 (by decide), z4]
  have c3 := number_acb h.gid 8 t4 (.inl rfl) (by omega) (by rw [e3]; omega)
  rw [e3] at c3
  obtain ⟨t2, e2⟩ : ∃ t, octS h.uid 8 ++ t3 = t := ⟨_, rfl⟩
  have z2 : t2.size = 404 := by rw [← e2, ByteArray.size_append, octS_size _ 8 (by decide), z3]
  have c2 := number_acb h.uid 8 t3 (.inl rfl) (by omega) (by rw [e2]; omega)
  rw [e2] at c2
  obtain ⟨t1, e1⟩ : ∃ t, octS h.mode 8 ++ t2 = t := ⟨_, rfl⟩
  have z1 : t1.size = 412 := by rw [← e1, ByteArray.size_append, octS_size _ 8 (by decide), z2]
  have c1 := number_acb h.mode 8 t2 (.inl rfl) (by omega) (by rw [e1]; omega)
  rw [e1] at c1
  obtain ⟨t0, e0⟩ : ∃ t, fldB h.name 100 ++ t1 = t := ⟨_, rfl⟩
  have z0 : t0.size = 512 := by rw [← e0, ByteArray.size_append, fldB_size H.name.le, z1]
  have c0 := text_acb h.name t1 100 true (by decide) (by decide) H.name.le (by simp) H.name.nz (by rw [e0]; omega)
  rw [e0] at c0
  rw [e14, e13, e12, e11, e10, e9, e8, e7, e6, e5, e4, e3, e2, e1, e0] at hch
  rw [hch] at hsu hz h155 hs ⊢
  clear hfl hzl hr
  obtain ⟨su2, hs2⟩ : ∃ n, n = hSum h := ⟨_, rfl⟩
  rw [← hs2] at hrd
  generalize hSum h = su at *
  generalize Lib.indexByte (⟨#[48, 49, 50, 53, 120]⟩ : ByteArray).data.toList h.type = ik at *
  refine AC_walk ⟨TB, 101, 0, [], []⟩ (fn := Tryd.f15) TB_ok Tryd.func15 rfl rfl rfl rfl rfl (fun _ => rfl) (fun _ => rfl) ?_; intro E hna hX
  refine goT ?_
  refine ⟨_, hsu, by kernel_rfl, fun _ => rfl, ?_⟩
  refine goT ?_
  rw [← hz]
  refine ⟨_, hrd, by kernel_rfl, fun _ => rfl, ?_⟩
  refine goT ?_
  refine .inr ⟨[1], _, _, _, _, ⟨c0, by kernel_rfl, rfl, rfl, rfl, by decide, rfl, Nat.le_refl _, rfl, ballc rfl balln, ballc rfl balln, rfl, fun j hj => (by cases hj), fun j hj => (by cases hj)⟩, ?_⟩
  refine goT ?_
  refine .inr ⟨[1], _, _, _, _, ⟨c1, by kernel_rfl, rfl, rfl, rfl, by decide, rfl, Nat.le_refl _, rfl, ballc rfl balln, ballc rfl balln, rfl, fun j hj => (by cases hj), fun j hj => (by cases hj)⟩, ?_⟩
  refine goT ?_
  refine .inr ⟨[1], _, _, _, _, ⟨c2, by kernel_rfl, rfl, rfl, rfl, by decide, rfl, Nat.le_refl _, rfl, ballc rfl balln, ballc rfl balln, rfl, fun j hj => (by cases hj), fun j hj => (by cases hj)⟩, ?_⟩
  refine goT ?_
  refine .inr ⟨[1], _, _, _, _, ⟨c3, by kernel_rfl, rfl, rfl, rfl, by decide, rfl, Nat.le_refl _, rfl, ballc rfl balln, ballc rfl balln, rfl, fun j hj => (by cases hj), fun j hj => (by cases hj)⟩, ?_⟩
  refine goT ?_
  refine .inr ⟨[1], _, _, _, _, ⟨c4, by kernel_rfl, rfl, rfl, rfl, by decide, rfl, Nat.le_refl _, rfl, ballc rfl balln, ballc rfl balln, rfl, fun j hj => (by cases hj), fun j hj => (by cases hj)⟩, ?_⟩
  refine goT ?_
  refine .inr ⟨[1], _, _, _, _, ⟨c5, by kernel_rfl, rfl, rfl, rfl, by decide, rfl, Nat.le_refl _, rfl, ballc rfl balln, ballc rfl balln, rfl, fun j hj => (by cases hj), fun j hj => (by cases hj)⟩, ?_⟩
  refine goT ?_
  refine .inr ⟨[1], _, _, _, _, ⟨c6, by kernel_rfl, rfl, rfl, rfl, by decide, rfl, Nat.le_refl _, rfl, ballc rfl balln, ballc rfl balln, rfl, fun j hj => (by cases hj), fun j hj => (by cases hj)⟩, ?_⟩
  refine goT ?_
  refine .inr ⟨[1], _, _, _, _, ⟨c7, by kernel_rfl, rfl, rfl, rfl, by decide, rfl, Nat.le_refl _, rfl, ballc rfl balln, ballc rfl balln, rfl, fun j hj => (by cases hj), fun j hj => (by cases hj)⟩, ?_⟩
  refine goT ?_
  refine ⟨Nat.zero_lt_one, ?_⟩
  rw [hb0]
  refine goT ?_
  refine ⟨_, hki, by kernel_rfl, fun _ => rfl, ?_⟩
  refine goT ?_
  refine .inr ⟨[1], _, _, _, _, ⟨c8, by kernel_rfl, rfl, rfl, rfl, by decide, rfl, Nat.le_refl _, rfl, ballc rfl balln, ballc rfl balln, rfl, fun j hj => (by cases hj), fun j hj => (by cases hj)⟩, ?_⟩
  refine goT ?_
  refine .inr ⟨[1], _, _, _, _, ⟨c9, by kernel_rfl, rfl, rfl, rfl, by decide, rfl, Nat.le_refl _, rfl, ballc rfl balln, ballc rfl balln, rfl, fun j hj => (by cases hj), fun j hj => (by cases hj)⟩, ?_⟩
  refine goT ?_
  refine .inr ⟨[1], _, _, _, _, ⟨c10, by kernel_rfl, rfl, rfl, rfl, by decide, rfl, Nat.le_refl _, rfl, ballc rfl balln, ballc rfl balln, rfl, fun j hj => (by cases hj), fun j hj => (by cases hj)⟩, ?_⟩
  refine goT ?_
  refine .inr ⟨[1], _, _, _, _, ⟨c11, by kernel_rfl, rfl, rfl, rfl, by decide, rfl, Nat.le_refl _, rfl, ballc rfl balln, ballc rfl balln, rfl, fun j hj => (by cases hj), fun j hj => (by cases hj)⟩, ?_⟩
  refine goT ?_
  refine .inr ⟨[1], _, _, _, _, ⟨c12, by kernel_rfl, rfl, rfl, rfl, by decide, rfl, Nat.le_refl _, rfl, ballc rfl balln, ballc rfl balln, rfl, fun j hj => (by cases hj), fun j hj => (by cases hj)⟩, ?_⟩
  refine goT ?_
  refine .inr ⟨[1], _, _, _, _, ⟨c13, by kernel_rfl, rfl, rfl, rfl, by decide, rfl, Nat.le_refl _, rfl, ballc rfl balln, ballc rfl balln, rfl, fun j hj => (by cases hj), fun j hj => (by cases hj)⟩, ?_⟩
  refine goT ?_
  refine ⟨_, zeros_ac 12 (by decide), by kernel_rfl, fun _ => rfl, ?_⟩
  refine goT ?_
  refine .inr ⟨[1], _, _, _, _, ⟨c14, by kernel_rfl, rfl, rfl, rfl, by decide, rfl, Nat.le_refl _, rfl, ballc rfl balln, ballc rfl balln, rfl, fun j hj => (by cases hj), fun j hj => (by cases hj)⟩, ?_⟩
  refine goT ?_
  rfl
end Go.Proofs.YtnfbomhhgjlacaaDoor.Abs
