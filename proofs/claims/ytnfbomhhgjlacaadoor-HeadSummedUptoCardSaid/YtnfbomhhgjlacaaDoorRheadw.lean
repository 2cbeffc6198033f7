/- head.Write, walked. -/
import Derived.Test.YtnfbomhhgjlacaaDoorRhead
import Derived.Test.YtnfbomhhgjlacaaDoorRarr
namespace Go.Proofs.YtnfbomhhgjlacaaDoor.Abs
open Go.RowKit Go.MapKept
set_option linter.unusedVariables false
set_option linter.unusedSimpArgs false
set_option maxRecDepth 100000
set_option maxHeartbeats 4000000
theorem headB_cut (h : HeadT) (H : HeadOk h) : (rawB h).extract 0 148 ++ octS (hSum h) 7 ++ ⟨#[32]⟩ ++ (rawB h).extract 156 (rawB h).size = headB h := by
  have h1 : (hA h).data.toList.length = 148 := by rw [size_list, hA_size H]
  have hr : (rawB h).data.toList = (hA h).data.toList ++ (blankB.data.toList ++ (hB h).data.toList) := by
    unfold rawB
    rw [app_list, app_list, List.append_assoc]
  have a1 : ((rawB h).extract 0 148).data.toList = (hA h).data.toList := by
    rw [ext_listF, List.drop_zero, hr]
    exact List.take_left' h1
  have a2 : ((rawB h).extract 156 (rawB h).size).data.toList = (hB h).data.toList := by
    rw [ext_listF, List.take_of_length_le (by rw [size_list]; exact Nat.le_refl _), hr, ← List.append_assoc]
    refine List.drop_left' ?_
    rw [List.length_append, h1]
    rfl
  obtain ⟨x1, hx1⟩ : ∃ x, x = (rawB h).extract 0 148 := ⟨_, rfl⟩
  obtain ⟨x2, hx2⟩ : ∃ x, x = (rawB h).extract 156 (rawB h).size := ⟨_, rfl⟩
  rw [← hx1] at a1 ⊢
  rw [← hx2] at a2 ⊢
  apply bytes_ext
  unfold headB
  rw [app_list, app_list, app_list, app_list, app_list, app_list, a1, a2]
theorem octWrite_acS (n w : Nat) (h : w = 7 ∨ w = 8 ∨ w = 12) (hn : n ≤ mostN w) : AC CX 40 [.v (.int .i64 n), .v (.int .i64 w)] (.tup [.v (.string (octS n w)), .v (.int .i64 0)]) := octWrite_ac n w h hn
theorem rawB_chain (h : HeadT) : rawB h = (((((((((((((fldB h.name 100 ++ octS h.mode 8) ++ octS h.uid 8) ++ octS h.gid 8) ++ octS h.size 12) ++ octS h.time 12) ++ (blankB ++ ⟨#[h.type]⟩)) ++ fldB h.link 100) ++ ustarB) ++ fldB h.user 32) ++ fldB h.group 32) ++ devB) ++ fldB h.pre 155) ++ zB 12) := by
  apply bytes_ext
  unfold rawB hA hB
  simp only [app_list, List.append_assoc]
def penK (a b : ByteArray) (c d : ByteArray) : Nat → ByteArray
  | 0 => a
  | 1 => b
  | 2 => c
  | _ => d
set_option maxHeartbeats 20000000 in
theorem headWrite_ac (h : HeadT) (H : HeadOk h) : AC CX 11 [.agg (encHead h)] (.tup [.v (.string (headB h)), .v (.int .i64 0)]) := by
  have hki := indexByte_ac ⟨#[48, 49, 50, 53, 120]⟩ h.type
  have hki2 := kind_in H.type
  have hu := H.user.le
  have hg := H.group.le
  have m8 : mostN 8 = 2097151 := rfl
  have m7 : mostN 7 = 262143 := rfl
  have m12 : mostN 12 = 8589934591 := rfl
  have q1 := H.mode
  have q2 := H.uid
  have q3 := H.gid
  have q4 := H.size
  have q5 := H.time
  have qs := hSum_le h
  have f0 := fieldWrite_ac h.name 100 true (by decide) (by decide) H.name.le (by simp) H.name.nz
  have f1 := octWrite_acS h.mode 8 (by decide) (by omega)
  have f2 := octWrite_acS h.uid 8 (by decide) (by omega)
  have f3 := octWrite_acS h.gid 8 (by decide) (by omega)
  have f4 := octWrite_acS h.size 12 (by decide) (by omega)
  have f5 := octWrite_acS h.time 12 (by decide) (by omega)
  have f7 := fieldWrite_ac h.link 100 true (by decide) (by decide) H.link.le (by simp) H.link.nz
  have f9 := fieldWrite_ac h.user 32 false (by decide) (by decide) (by omega) (by omega) H.user.nz
  have f10 := fieldWrite_ac h.group 32 false (by decide) (by decide) (by omega) (by omega) H.group.nz
  have f12 := fieldWrite_ac h.pre 155 true (by decide) (by decide) H.pre.le (by simp) H.pre.nz
  have f13 := zeros_ac 12 (by decide)
  have fs := octWrite_acS (hSum h) 7 (by decide) (by omega)
  have hrz := rawB_size H
  have hsu := sum_ac (rawB h) hrz
  have hsum : sumK (rawB h).data.toList 512 = hSum h := rfl
  rw [hsum] at hsu
  have hcut := headB_cut h H
  have hch := rawB_chain h
  have yt : (⟨#[h.type]⟩ : ByteArray).size = 1 := rfl
  have yb : (⟨#[32, 32, 32, 32, 32, 32, 32, 32]⟩ : ByteArray).size = 8 := rfl
  have htb : bytesA ⟨#[h.type]⟩ = [[.v (.int .u8 (h.type.toNat : Int))]] := rfl
  have y0 : (fldB h.name 100).size = 100 := fldB_size H.name.le
  have y1 : (octS h.mode 8).size = 8 := octS_size _ 8 (by decide)
  have y2 : (octS h.uid 8).size = 8 := octS_size _ 8 (by decide)
  have y3 : (octS h.gid 8).size = 8 := octS_size _ 8 (by decide)
  have y4 : (octS h.size 12).size = 12 := octS_size _ 12 (by decide)
  have y5 : (octS h.time 12).size = 12 := octS_size _ 12 (by decide)
  have y6 : (blankB ++ ⟨#[h.type]⟩).size = 9 := by rw [ByteArray.size_append]; rfl
  have y7 : (fldB h.link 100).size = 100 := fldB_size H.link.le
  have y8 : (ustarB).size = 8 := rfl
  have y9 : (fldB h.user 32).size = 32 := fldB_size (s := h.user) (w := 32) (by omega)
  have y10 : (fldB h.group 32).size = 32 := fldB_size (s := h.group) (w := 32) (by omega)
  have y11 : (devB).size = 16 := rfl
  have y12 : (fldB h.pre 155).size = 155 := fldB_size H.pre.le
  have y13 : (zB 12).size = 12 := zB_size 12
  obtain ⟨u0, e0⟩ : ∃ u, fldB h.name 100 = u := ⟨_, rfl⟩
  have z0 : u0.size = 100 := by rw [← e0, y0]
  have c0 := put_new (fldB h.name 100) (by omega)
  rw [e0] at c0 f0 hch
  obtain ⟨u1, e1⟩ : ∃ u, u0 ++ octS h.mode 8 = u := ⟨_, rfl⟩
  have z1 : u1.size = 108 := by rw [← e1, ByteArray.size_append, z0, y1]
  have c1 := put_old u0 (octS h.mode 8) u1 e1 (by omega) (by omega)
  rw [e1] at hch
  obtain ⟨u2, e2⟩ : ∃ u, u1 ++ octS h.uid 8 = u := ⟨_, rfl⟩
  have z2 : u2.size = 116 := by rw [← e2, ByteArray.size_append, z1, y2]
  have c2 := put_old u1 (octS h.uid 8) u2 e2 (by omega) (by omega)
  rw [e2] at hch
  obtain ⟨u3, e3⟩ : ∃ u, u2 ++ octS h.gid 8 = u := ⟨_, rfl⟩
  have z3 : u3.size = 124 := by rw [← e3, ByteArray.size_append, z2, y3]
  have c3 := put_old u2 (octS h.gid 8) u3 e3 (by omega) (by omega)
  rw [e3] at hch
  obtain ⟨u4, e4⟩ : ∃ u, u3 ++ octS h.size 12 = u := ⟨_, rfl⟩
  have z4 : u4.size = 136 := by rw [← e4, ByteArray.size_append, z3, y4]
  have c4 := put_old u3 (octS h.size 12) u4 e4 (by omega) (by omega)
  rw [e4] at hch
  obtain ⟨u5, e5⟩ : ∃ u, u4 ++ octS h.time 12 = u := ⟨_, rfl⟩
  have z5 : u5.size = 148 := by rw [← e5, ByteArray.size_append, z4, y5]
  have c5 := put_old u4 (octS h.time 12) u5 e5 (by omega) (by omega)
  rw [e5] at hch
  obtain ⟨u6, e6⟩ : ∃ u, u5 ++ (blankB ++ ⟨#[h.type]⟩) = u := ⟨_, rfl⟩
  have z6 : u6.size = 157 := by rw [← e6, ByteArray.size_append, z5, y6]
  have c6 := put_old u5 ((blankB ++ ⟨#[h.type]⟩)) u6 e6 (by omega) (by omega)
  rw [e6] at hch
  obtain ⟨u7, e7⟩ : ∃ u, u6 ++ fldB h.link 100 = u := ⟨_, rfl⟩
  have z7 : u7.size = 257 := by rw [← e7, ByteArray.size_append, z6, y7]
  have c7 := put_old u6 (fldB h.link 100) u7 e7 (by omega) (by omega)
  rw [e7] at hch
  obtain ⟨u8, e8⟩ : ∃ u, u7 ++ ustarB = u := ⟨_, rfl⟩
  have z8 : u8.size = 265 := by rw [← e8, ByteArray.size_append, z7, y8]
  have c8 := put_old u7 (ustarB) u8 e8 (by omega) (by omega)
  rw [e8] at hch
  obtain ⟨u9, e9⟩ : ∃ u, u8 ++ fldB h.user 32 = u := ⟨_, rfl⟩
  have z9 : u9.size = 297 := by rw [← e9, ByteArray.size_append, z8, y9]
  have c9 := put_old u8 (fldB h.user 32) u9 e9 (by omega) (by omega)
  rw [e9] at hch
  obtain ⟨u10, e10⟩ : ∃ u, u9 ++ fldB h.group 32 = u := ⟨_, rfl⟩
  have z10 : u10.size = 329 := by rw [← e10, ByteArray.size_append, z9, y10]
  have c10 := put_old u9 (fldB h.group 32) u10 e10 (by omega) (by omega)
  rw [e10] at hch
  obtain ⟨u11, e11⟩ : ∃ u, u10 ++ devB = u := ⟨_, rfl⟩
  have z11 : u11.size = 345 := by rw [← e11, ByteArray.size_append, z10, y11]
  have c11 := put_old u10 (devB) u11 e11 (by omega) (by omega)
  rw [e11] at hch
  obtain ⟨u12, e12⟩ : ∃ u, u11 ++ fldB h.pre 155 = u := ⟨_, rfl⟩
  have z12 : u12.size = 500 := by rw [← e12, ByteArray.size_append, z11, y12]
  have c12 := put_old u11 (fldB h.pre 155) u12 e12 (by omega) (by omega)
  rw [e12] at hch
  obtain ⟨u13, e13⟩ : ∃ u, u12 ++ zB 12 = u := ⟨_, rfl⟩
  have z13 : u13.size = 512 := by rw [← e13, ByteArray.size_append, z12, y13]
  have c13 := put_old u12 (zB 12) u13 e13 (by omega) (by omega)
  rw [e13] at hch
  rw [hch] at hsu hrz hcut
  clear hch
  clear y0 y1 y2 y3 y4 y5 y6 y7 y8 y9 y10 y11 y12 y13 z0 z1 z2 z3 z4 z5 z6 z7 z8 z9 z10 z11 z12 q1 q2 q3 q4 q5 m7 m8 m12 hu hg qs
  generalize Lib.indexByte (⟨#[48, 49, 50, 53, 120]⟩ : ByteArray).data.toList h.type = ik at *
  generalize hSum h = su at *
  obtain ⟨w7, hw7⟩ : ∃ w, w = octS su 7 := ⟨_, rfl⟩
  have zw7 : w7.size = 7 := by rw [hw7]; exact octS_size _ 7 (by decide)
  rw [← hw7] at fs hcut
  obtain ⟨x1, hx1⟩ : ∃ x, x = u13.extract 0 148 := ⟨_, rfl⟩
  obtain ⟨x2, hx2⟩ : ∃ x, x = u13.extract 156 u13.size := ⟨_, rfl⟩
  rw [← hx1, ← hx2] at hcut
  have zx1 : x1.size = 148 := by rw [hx1, ← size_list, ext_listF, List.length_drop, List.length_take, size_list]; omega
  have zx2 : x2.size = 356 := by rw [hx2, ← size_list, ext_listF, List.length_drop, List.length_take, size_list]; omega
  rw [← hcut]
  refine AC_walk ⟨TB, 132, 0, [], []⟩ (fn := Tryd.f11) TB_ok Tryd.func11 rfl rfl rfl rfl rfl (fun _ => rfl) (fun _ => rfl) ?_; intro E hna hX
  refine goT ?_
  refine ⟨_, hki, by kernel_rfl, fun _ => rfl, ?_⟩
  refine goT ?_
  refine ⟨_, f0, by kernel_rfl, fun _ => rfl, ?_⟩
  refine goT ?_
  refine .inr ⟨[1], _, _, _, _, ⟨c0, by kernel_rfl, rfl, rfl, rfl, by decide, rfl, Nat.le_succ _, rfl, ballc rfl balln, ballc rfl (ballc (bytesA_closed _) balln), rfl, fun j hj => (by cases hj), fun j hj => (by cases hj)⟩, ?_⟩
  repeat (first | ((with_reducible show W _ _ _ _ _ _); first | refine W_seq ?_ | refine W_block ?_ | refine W_regionB hX 5 rfl ?_ | refine W_cond ?_ | refine W_skip ?_ | refine W_exit ?_ | refine W_ret ?_) | ((fail_if_success (with_reducible show W _ _ _ _ _ _)); show W _ _ _ _ _ _) | refine andA ?_ | refine condT ?_ | refine condF ?_ | refine exB ?_ | refine exL ?_ | refine Exists.intro _ (And.intro rfl ?_) | refine Exists.intro _ (And.intro (get_mapN (by assumption)) ?_) | ((fail_if_success (with_reducible show LoopEnd _ _ _ _ _ _ _)); show LoopEnd _ _ _ _ _ _ _) | ((fail_if_success (with_reducible show JoinEnd _ _ _ _ _)); show JoinEnd _ _ _ _ _) | ((fail_if_success (with_reducible show JoinG _ _ _ _ _)); show JoinG _ _ _ _ _))
  refine W_regionP hX [.n, .n, .n, .n, .n, .n, .y] rfl ?_
  refine goT ?_
  refine ⟨_, fun E => Y_arr3 rfl rfl rfl rfl (arr3_run _ _ _) rfl rfl rfl, ?_⟩
  refine goT ?_
  refine W_loop (fun k : Nat => k ≤ 3) (fun k => 3 - k) (fun k => ⟨[(1, .ptr 0 0), (4, .ptr 1 0), (33, .agg [.v (.int .i64 h.mode), .v (.int .i64 h.uid), .v (.int .i64 h.gid)]), (34, .v (.int .i64 k))], [.cells 28 (encHead h), .cells 83 [.ptr 1 0, .own 2 1 0 (penK u0 u1 u2 u3 k).size, .v (.int .i64 0)], .row 5 1 (bytesA (penK u0 u1 u2 u3 k))]⟩) 0 (Nat.zero_le _) (Drops.to [1, 4, 33, 34] rfl) ?_
  intro k hk
  obtain rfl | rfl | rfl | rfl : k = 0 ∨ k = 1 ∨ k = 2 ∨ k = 3 := by omega
  · repeat (first | ((with_reducible show W _ _ _ _ _ _); first | refine W_seq ?_ | refine W_block ?_ | refine W_regionB hX 7 rfl ?_ | refine W_cond ?_ | refine W_skip ?_ | refine W_exit ?_ | refine W_ret ?_) | ((fail_if_success (with_reducible show W _ _ _ _ _ _)); show W _ _ _ _ _ _) | refine andA ?_ | refine condT ?_ | refine condF ?_ | refine exB ?_ | refine exL ?_ | refine Exists.intro _ (And.intro rfl ?_) | refine Exists.intro _ (And.intro (get_mapN (by assumption)) ?_) | ((fail_if_success (with_reducible show LoopEnd _ _ _ _ _ _ _)); show LoopEnd _ _ _ _ _ _ _) | ((fail_if_success (with_reducible show JoinEnd _ _ _ _ _)); show JoinEnd _ _ _ _ _) | ((fail_if_success (with_reducible show JoinG _ _ _ _ _)); show JoinG _ _ _ _ _))
    refine W_regionP hX [.y] rfl ?_
    refine ⟨_, fun E => Y_arrIdx (us := [.int .i64 h.mode, .int .i64 h.uid, .int .i64 h.gid]) rfl rfl rfl (arr3_0 _ _ _), ?_⟩
    refine goT ?_
    refine ⟨_, f1, by kernel_rfl, fun _ => rfl, ?_⟩
    refine goT ?_
    refine .inr ⟨[1, 2], _, _, _, _, ⟨c1, by kernel_rfl, rfl, rfl, rfl, by decide, rfl, Nat.le_refl _, rfl, ballc rfl (ballc (bytesA_closed _) balln), ballc rfl (ballc (bytesA_closed _) balln), rfl, fun j _ => rfl, fun j hj => ⟨.inr rfl, .inl (by decide), .inl (by decide), trivial⟩⟩, ?_⟩
    refine goT ?_
    exact LoopEnd_fin 1 [1, 4, 33, 34] 3 hX (by decide) (by decide) rfl rfl rfl rfl ⟨rfl, rfl, bytesA_closed _, trivial⟩
  · repeat (first | ((with_reducible show W _ _ _ _ _ _); first | refine W_seq ?_ | refine W_block ?_ | refine W_regionB hX 7 rfl ?_ | refine W_cond ?_ | refine W_skip ?_ | refine W_exit ?_ | refine W_ret ?_) | ((fail_if_success (with_reducible show W _ _ _ _ _ _)); show W _ _ _ _ _ _) | refine andA ?_ | refine condT ?_ | refine condF ?_ | refine exB ?_ | refine exL ?_ | refine Exists.intro _ (And.intro rfl ?_) | refine Exists.intro _ (And.intro (get_mapN (by assumption)) ?_) | ((fail_if_success (with_reducible show LoopEnd _ _ _ _ _ _ _)); show LoopEnd _ _ _ _ _ _ _) | ((fail_if_success (with_reducible show JoinEnd _ _ _ _ _)); show JoinEnd _ _ _ _ _) | ((fail_if_success (with_reducible show JoinG _ _ _ _ _)); show JoinG _ _ _ _ _))
    refine W_regionP hX [.y] rfl ?_
    refine ⟨_, fun E => Y_arrIdx (us := [.int .i64 h.mode, .int .i64 h.uid, .int .i64 h.gid]) rfl rfl rfl (arr3_1 _ _ _), ?_⟩
    refine goT ?_
    refine ⟨_, f2, by kernel_rfl, fun _ => rfl, ?_⟩
    refine goT ?_
    refine .inr ⟨[1, 2], _, _, _, _, ⟨c2, by kernel_rfl, rfl, rfl, rfl, by decide, rfl, Nat.le_refl _, rfl, ballc rfl (ballc (bytesA_closed _) balln), ballc rfl (ballc (bytesA_closed _) balln), rfl, fun j _ => rfl, fun j hj => ⟨.inr rfl, .inl (by decide), .inl (by decide), trivial⟩⟩, ?_⟩
    refine goT ?_
    exact LoopEnd_fin 2 [1, 4, 33, 34] 3 hX (by decide) (by decide) rfl rfl rfl rfl ⟨rfl, rfl, bytesA_closed _, trivial⟩
  · repeat (first | ((with_reducible show W _ _ _ _ _ _); first | refine W_seq ?_ | refine W_block ?_ | refine W_regionB hX 7 rfl ?_ | refine W_cond ?_ | refine W_skip ?_ | refine W_exit ?_ | refine W_ret ?_) | ((fail_if_success (with_reducible show W _ _ _ _ _ _)); show W _ _ _ _ _ _) | refine andA ?_ | refine condT ?_ | refine condF ?_ | refine exB ?_ | refine exL ?_ | refine Exists.intro _ (And.intro rfl ?_) | refine Exists.intro _ (And.intro (get_mapN (by assumption)) ?_) | ((fail_if_success (with_reducible show LoopEnd _ _ _ _ _ _ _)); show LoopEnd _ _ _ _ _ _ _) | ((fail_if_success (with_reducible show JoinEnd _ _ _ _ _)); show JoinEnd _ _ _ _ _) | ((fail_if_success (with_reducible show JoinG _ _ _ _ _)); show JoinG _ _ _ _ _))
    refine W_regionP hX [.y] rfl ?_
    refine ⟨_, fun E => Y_arrIdx (us := [.int .i64 h.mode, .int .i64 h.uid, .int .i64 h.gid]) rfl rfl rfl (arr3_2 _ _ _), ?_⟩
    refine goT ?_
    refine ⟨_, f3, by kernel_rfl, fun _ => rfl, ?_⟩
    refine goT ?_
    refine .inr ⟨[1, 2], _, _, _, _, ⟨c3, by kernel_rfl, rfl, rfl, rfl, by decide, rfl, Nat.le_refl _, rfl, ballc rfl (ballc (bytesA_closed _) balln), ballc rfl (ballc (bytesA_closed _) balln), rfl, fun j _ => rfl, fun j hj => ⟨.inr rfl, .inl (by decide), .inl (by decide), trivial⟩⟩, ?_⟩
    refine goT ?_
    exact LoopEnd_fin 3 [1, 4, 33, 34] 3 hX (by decide) (by decide) rfl rfl rfl rfl ⟨rfl, rfl, bytesA_closed _, trivial⟩
  · repeat (first | ((with_reducible show W _ _ _ _ _ _); first | refine W_seq ?_ | refine W_block ?_ | refine W_regionB hX 10 rfl ?_ | refine W_cond ?_ | refine W_skip ?_ | refine W_exit ?_ | refine W_ret ?_) | ((fail_if_success (with_reducible show W _ _ _ _ _ _)); show W _ _ _ _ _ _) | refine andA ?_ | refine condT ?_ | refine condF ?_ | refine exB ?_ | refine exL ?_ | refine Exists.intro _ (And.intro rfl ?_) | refine Exists.intro _ (And.intro (get_mapN (by assumption)) ?_) | ((fail_if_success (with_reducible show LoopEnd _ _ _ _ _ _ _)); show LoopEnd _ _ _ _ _ _ _) | ((fail_if_success (with_reducible show JoinEnd _ _ _ _ _)); show JoinEnd _ _ _ _ _) | ((fail_if_success (with_reducible show JoinG _ _ _ _ _)); show JoinG _ _ _ _ _))
    refine W_regionP hX [.n, .n, .n, .n, .y] rfl ?_
    refine goT ?_
    refine ⟨_, fun E => Y_arr2 rfl rfl rfl (arr2_run _ _) rfl rfl, ?_⟩
    refine goT ?_
    refine W_loop (fun k : Nat => k ≤ 2) (fun k => 2 - k) (fun k => ⟨[(1, .ptr 0 0), (4, .ptr 1 0), (48, .agg [.v (.int .i64 h.size), .v (.int .i64 h.time)]), (49, .v (.int .i64 k))], [.cells 28 (encHead h), .cells 83 [.ptr 1 0, .own 2 1 0 (penK u3 u4 u5 u5 k).size, .v (.int .i64 0)], .row 5 1 (bytesA (penK u3 u4 u5 u5 k))]⟩) 0 (Nat.zero_le _) (Drops.to [1, 4, 48, 49] rfl) ?_
    intro k hk
    obtain rfl | rfl | rfl : k = 0 ∨ k = 1 ∨ k = 2 := by omega
    · repeat (first | ((with_reducible show W _ _ _ _ _ _); first | refine W_seq ?_ | refine W_block ?_ | refine W_regionB hX 12 rfl ?_ | refine W_cond ?_ | refine W_skip ?_ | refine W_exit ?_ | refine W_ret ?_) | ((fail_if_success (with_reducible show W _ _ _ _ _ _)); show W _ _ _ _ _ _) | refine andA ?_ | refine condT ?_ | refine condF ?_ | refine exB ?_ | refine exL ?_ | refine Exists.intro _ (And.intro rfl ?_) | refine Exists.intro _ (And.intro (get_mapN (by assumption)) ?_) | ((fail_if_success (with_reducible show LoopEnd _ _ _ _ _ _ _)); show LoopEnd _ _ _ _ _ _ _) | ((fail_if_success (with_reducible show JoinEnd _ _ _ _ _)); show JoinEnd _ _ _ _ _) | ((fail_if_success (with_reducible show JoinG _ _ _ _ _)); show JoinG _ _ _ _ _))
      refine W_regionP hX [.y] rfl ?_
      refine ⟨_, fun E => Y_arrIdx (us := [.int .i64 h.size, .int .i64 h.time]) rfl rfl rfl (arr2_0 _ _), ?_⟩
      refine goT ?_
      refine ⟨_, f4, by kernel_rfl, fun _ => rfl, ?_⟩
      refine goT ?_
      refine .inr ⟨[1, 2], _, _, _, _, ⟨c4, by kernel_rfl, rfl, rfl, rfl, by decide, rfl, Nat.le_refl _, rfl, ballc rfl (ballc (bytesA_closed _) balln), ballc rfl (ballc (bytesA_closed _) balln), rfl, fun j _ => rfl, fun j hj => ⟨.inr rfl, .inl (by decide), .inl (by decide), trivial⟩⟩, ?_⟩
      refine goT ?_
      exact LoopEnd_fin 1 [1, 4, 48, 49] 3 hX (by decide) (by decide) rfl rfl rfl rfl ⟨rfl, rfl, bytesA_closed _, trivial⟩
    · repeat (first | ((with_reducible show W _ _ _ _ _ _); first | refine W_seq ?_ | refine W_block ?_ | refine W_regionB hX 12 rfl ?_ | refine W_cond ?_ | refine W_skip ?_ | refine W_exit ?_ | refine W_ret ?_) | ((fail_if_success (with_reducible show W _ _ _ _ _ _)); show W _ _ _ _ _ _) | refine andA ?_ | refine condT ?_ | refine condF ?_ | refine exB ?_ | refine exL ?_ | refine Exists.intro _ (And.intro rfl ?_) | refine Exists.intro _ (And.intro (get_mapN (by assumption)) ?_) | ((fail_if_success (with_reducible show LoopEnd _ _ _ _ _ _ _)); show LoopEnd _ _ _ _ _ _ _) | ((fail_if_success (with_reducible show JoinEnd _ _ _ _ _)); show JoinEnd _ _ _ _ _) | ((fail_if_success (with_reducible show JoinG _ _ _ _ _)); show JoinG _ _ _ _ _))
      refine W_regionP hX [.y] rfl ?_
      refine ⟨_, fun E => Y_arrIdx (us := [.int .i64 h.size, .int .i64 h.time]) rfl rfl rfl (arr2_1 _ _), ?_⟩
      refine goT ?_
      refine ⟨_, f5, by kernel_rfl, fun _ => rfl, ?_⟩
      refine goT ?_
      refine .inr ⟨[1, 2], _, _, _, _, ⟨c5, by kernel_rfl, rfl, rfl, rfl, by decide, rfl, Nat.le_refl _, rfl, ballc rfl (ballc (bytesA_closed _) balln), ballc rfl (ballc (bytesA_closed _) balln), rfl, fun j _ => rfl, fun j hj => ⟨.inr rfl, .inl (by decide), .inl (by decide), trivial⟩⟩, ?_⟩
      refine goT ?_
      exact LoopEnd_fin 2 [1, 4, 48, 49] 3 hX (by decide) (by decide) rfl rfl rfl rfl ⟨rfl, rfl, bytesA_closed _, trivial⟩
    · repeat (first | ((with_reducible show W _ _ _ _ _ _); first | refine W_seq ?_ | refine W_block ?_ | refine W_regionB hX 15 rfl ?_ | refine W_cond ?_ | refine W_skip ?_ | refine W_exit ?_ | refine W_ret ?_) | ((fail_if_success (with_reducible show W _ _ _ _ _ _)); show W _ _ _ _ _ _) | refine andA ?_ | refine condT ?_ | refine condF ?_ | refine exB ?_ | refine exL ?_ | refine Exists.intro _ (And.intro rfl ?_) | refine Exists.intro _ (And.intro (get_mapN (by assumption)) ?_) | ((fail_if_success (with_reducible show LoopEnd _ _ _ _ _ _ _)); show LoopEnd _ _ _ _ _ _ _) | ((fail_if_success (with_reducible show JoinEnd _ _ _ _ _)); show JoinEnd _ _ _ _ _) | ((fail_if_success (with_reducible show JoinG _ _ _ _ _)); show JoinG _ _ _ _ _))
      refine W_drops (st' := ⟨[(1, .ptr 0 0), (4, .ptr 1 0)], [.cells 28 (encHead h), .cells 83 [.ptr 1 0, .own 2 1 0 u5.size, .v (.int .i64 0)], .row 5 1 (bytesA u5)]⟩) (Drops.to [1, 4] rfl) ?_
      refine goT ?_
      refine ⟨⟨#[h.type]⟩, htb.symm, ?_⟩
      refine goT ?_
      refine .inr ⟨[1, 2], _, _, _, _, ⟨c6, by kernel_rfl, rfl, rfl, rfl, by decide, rfl, Nat.le_refl _, rfl, ballc rfl (ballc (bytesA_closed _) balln), ballc rfl (ballc (bytesA_closed _) balln), rfl, fun j _ => rfl, fun j hj => ⟨.inr rfl, .inl (by decide), .inl (by decide), trivial⟩⟩, ?_⟩
      repeat (first | ((with_reducible show W _ _ _ _ _ _); first | refine W_seq ?_ | refine W_block ?_ | refine W_regionB hX 16 rfl ?_ | refine W_cond ?_ | refine W_skip ?_ | refine W_exit ?_ | refine W_ret ?_) | ((fail_if_success (with_reducible show W _ _ _ _ _ _)); show W _ _ _ _ _ _) | refine andA ?_ | refine condT ?_ | refine condF ?_ | refine exB ?_ | refine exL ?_ | refine Exists.intro _ (And.intro rfl ?_) | refine Exists.intro _ (And.intro (get_mapN (by assumption)) ?_) | ((fail_if_success (with_reducible show LoopEnd _ _ _ _ _ _ _)); show LoopEnd _ _ _ _ _ _ _) | ((fail_if_success (with_reducible show JoinEnd _ _ _ _ _)); show JoinEnd _ _ _ _ _) | ((fail_if_success (with_reducible show JoinG _ _ _ _ _)); show JoinG _ _ _ _ _))
      refine W_drops (st' := ⟨[(1, .ptr 0 0), (4, .ptr 1 0)], [.cells 28 (encHead h), .cells 83 [.ptr 1 0, .own 2 1 0 u6.size, .v (.int .i64 0)], .row 5 1 (bytesA u6)]⟩) (Drops.to [1, 4] rfl) ?_
      refine goT ?_
      refine ⟨_, f7, by kernel_rfl, fun _ => rfl, ?_⟩
      refine goT ?_
      refine .inr ⟨[1, 2], _, _, _, _, ⟨c7, by kernel_rfl, rfl, rfl, rfl, by decide, rfl, Nat.le_refl _, rfl, ballc rfl (ballc (bytesA_closed _) balln), ballc rfl (ballc (bytesA_closed _) balln), rfl, fun j _ => rfl, fun j hj => ⟨.inr rfl, .inl (by decide), .inl (by decide), trivial⟩⟩, ?_⟩
      repeat (first | ((with_reducible show W _ _ _ _ _ _); first | refine W_seq ?_ | refine W_block ?_ | refine W_regionB hX 17 rfl ?_ | refine W_cond ?_ | refine W_skip ?_ | refine W_exit ?_ | refine W_ret ?_) | ((fail_if_success (with_reducible show W _ _ _ _ _ _)); show W _ _ _ _ _ _) | refine andA ?_ | refine condT ?_ | refine condF ?_ | refine exB ?_ | refine exL ?_ | refine Exists.intro _ (And.intro rfl ?_) | refine Exists.intro _ (And.intro (get_mapN (by assumption)) ?_) | ((fail_if_success (with_reducible show LoopEnd _ _ _ _ _ _ _)); show LoopEnd _ _ _ _ _ _ _) | ((fail_if_success (with_reducible show JoinEnd _ _ _ _ _)); show JoinEnd _ _ _ _ _) | ((fail_if_success (with_reducible show JoinG _ _ _ _ _)); show JoinG _ _ _ _ _))
      refine W_drops (st' := ⟨[(1, .ptr 0 0), (4, .ptr 1 0)], [.cells 28 (encHead h), .cells 83 [.ptr 1 0, .own 2 1 0 u7.size, .v (.int .i64 0)], .row 5 1 (bytesA u7)]⟩) (Drops.to [1, 4] rfl) ?_
      clear c7 f7
      refine goT ?_
      refine .inr ⟨[1, 2], _, _, _, _, ⟨c8, by kernel_rfl, rfl, rfl, rfl, by decide, rfl, Nat.le_refl _, rfl, ballc rfl (ballc (bytesA_closed _) balln), ballc rfl (ballc (bytesA_closed _) balln), rfl, fun j _ => rfl, fun j hj => ⟨.inr rfl, .inl (by decide), .inl (by decide), trivial⟩⟩, ?_⟩
      repeat (first | ((with_reducible show W _ _ _ _ _ _); first | refine W_seq ?_ | refine W_block ?_ | refine W_regionB hX 18 rfl ?_ | refine W_cond ?_ | refine W_skip ?_ | refine W_exit ?_ | refine W_ret ?_) | ((fail_if_success (with_reducible show W _ _ _ _ _ _)); show W _ _ _ _ _ _) | refine andA ?_ | refine condT ?_ | refine condF ?_ | refine exB ?_ | refine exL ?_ | refine Exists.intro _ (And.intro rfl ?_) | refine Exists.intro _ (And.intro (get_mapN (by assumption)) ?_) | ((fail_if_success (with_reducible show LoopEnd _ _ _ _ _ _ _)); show LoopEnd _ _ _ _ _ _ _) | ((fail_if_success (with_reducible show JoinEnd _ _ _ _ _)); show JoinEnd _ _ _ _ _) | ((fail_if_success (with_reducible show JoinG _ _ _ _ _)); show JoinG _ _ _ _ _))
      refine W_drops (st' := ⟨[(1, .ptr 0 0), (4, .ptr 1 0)], [.cells 28 (encHead h), .cells 83 [.ptr 1 0, .own 2 1 0 u8.size, .v (.int .i64 0)], .row 5 1 (bytesA u8)]⟩) (Drops.to [1, 4] rfl) ?_
      clear c8 
      refine goT ?_
      refine ⟨_, f9, by kernel_rfl, fun _ => rfl, ?_⟩
      refine goT ?_
      refine .inr ⟨[1, 2], _, _, _, _, ⟨c9, by kernel_rfl, rfl, rfl, rfl, by decide, rfl, Nat.le_refl _, rfl, ballc rfl (ballc (bytesA_closed _) balln), ballc rfl (ballc (bytesA_closed _) balln), rfl, fun j _ => rfl, fun j hj => ⟨.inr rfl, .inl (by decide), .inl (by decide), trivial⟩⟩, ?_⟩
      repeat (first | ((with_reducible show W _ _ _ _ _ _); first | refine W_seq ?_ | refine W_block ?_ | refine W_regionB hX 19 rfl ?_ | refine W_cond ?_ | refine W_skip ?_ | refine W_exit ?_ | refine W_ret ?_) | ((fail_if_success (with_reducible show W _ _ _ _ _ _)); show W _ _ _ _ _ _) | refine andA ?_ | refine condT ?_ | refine condF ?_ | refine exB ?_ | refine exL ?_ | refine Exists.intro _ (And.intro rfl ?_) | refine Exists.intro _ (And.intro (get_mapN (by assumption)) ?_) | ((fail_if_success (with_reducible show LoopEnd _ _ _ _ _ _ _)); show LoopEnd _ _ _ _ _ _ _) | ((fail_if_success (with_reducible show JoinEnd _ _ _ _ _)); show JoinEnd _ _ _ _ _) | ((fail_if_success (with_reducible show JoinG _ _ _ _ _)); show JoinG _ _ _ _ _))
      refine W_drops (st' := ⟨[(1, .ptr 0 0), (4, .ptr 1 0)], [.cells 28 (encHead h), .cells 83 [.ptr 1 0, .own 2 1 0 u9.size, .v (.int .i64 0)], .row 5 1 (bytesA u9)]⟩) (Drops.to [1, 4] rfl) ?_
      clear c9 f9
      refine goT ?_
      refine ⟨_, f10, by kernel_rfl, fun _ => rfl, ?_⟩
      refine goT ?_
      refine .inr ⟨[1, 2], _, _, _, _, ⟨c10, by kernel_rfl, rfl, rfl, rfl, by decide, rfl, Nat.le_refl _, rfl, ballc rfl (ballc (bytesA_closed _) balln), ballc rfl (ballc (bytesA_closed _) balln), rfl, fun j _ => rfl, fun j hj => ⟨.inr rfl, .inl (by decide), .inl (by decide), trivial⟩⟩, ?_⟩
      repeat (first | ((with_reducible show W _ _ _ _ _ _); first | refine W_seq ?_ | refine W_block ?_ | refine W_regionB hX 20 rfl ?_ | refine W_cond ?_ | refine W_skip ?_ | refine W_exit ?_ | refine W_ret ?_) | ((fail_if_success (with_reducible show W _ _ _ _ _ _)); show W _ _ _ _ _ _) | refine andA ?_ | refine condT ?_ | refine condF ?_ | refine exB ?_ | refine exL ?_ | refine Exists.intro _ (And.intro rfl ?_) | refine Exists.intro _ (And.intro (get_mapN (by assumption)) ?_) | ((fail_if_success (with_reducible show LoopEnd _ _ _ _ _ _ _)); show LoopEnd _ _ _ _ _ _ _) | ((fail_if_success (with_reducible show JoinEnd _ _ _ _ _)); show JoinEnd _ _ _ _ _) | ((fail_if_success (with_reducible show JoinG _ _ _ _ _)); show JoinG _ _ _ _ _))
      refine W_drops (st' := ⟨[(1, .ptr 0 0), (4, .ptr 1 0)], [.cells 28 (encHead h), .cells 83 [.ptr 1 0, .own 2 1 0 u10.size, .v (.int .i64 0)], .row 5 1 (bytesA u10)]⟩) (Drops.to [1, 4] rfl) ?_
      clear c10 f10
      refine goT ?_
      refine .inr ⟨[1, 2], _, _, _, _, ⟨c11, by kernel_rfl, rfl, rfl, rfl, by decide, rfl, Nat.le_refl _, rfl, ballc rfl (ballc (bytesA_closed _) balln), ballc rfl (ballc (bytesA_closed _) balln), rfl, fun j _ => rfl, fun j hj => ⟨.inr rfl, .inl (by decide), .inl (by decide), trivial⟩⟩, ?_⟩
      repeat (first | ((with_reducible show W _ _ _ _ _ _); first | refine W_seq ?_ | refine W_block ?_ | refine W_regionB hX 21 rfl ?_ | refine W_cond ?_ | refine W_skip ?_ | refine W_exit ?_ | refine W_ret ?_) | ((fail_if_success (with_reducible show W _ _ _ _ _ _)); show W _ _ _ _ _ _) | refine andA ?_ | refine condT ?_ | refine condF ?_ | refine exB ?_ | refine exL ?_ | refine Exists.intro _ (And.intro rfl ?_) | refine Exists.intro _ (And.intro (get_mapN (by assumption)) ?_) | ((fail_if_success (with_reducible show LoopEnd _ _ _ _ _ _ _)); show LoopEnd _ _ _ _ _ _ _) | ((fail_if_success (with_reducible show JoinEnd _ _ _ _ _)); show JoinEnd _ _ _ _ _) | ((fail_if_success (with_reducible show JoinG _ _ _ _ _)); show JoinG _ _ _ _ _))
      refine W_drops (st' := ⟨[(1, .ptr 0 0), (4, .ptr 1 0)], [.cells 28 (encHead h), .cells 83 [.ptr 1 0, .own 2 1 0 u11.size, .v (.int .i64 0)], .row 5 1 (bytesA u11)]⟩) (Drops.to [1, 4] rfl) ?_
      clear c11 
      refine goT ?_
      refine ⟨_, f12, by kernel_rfl, fun _ => rfl, ?_⟩
      refine goT ?_
      refine .inr ⟨[1, 2], _, _, _, _, ⟨c12, by kernel_rfl, rfl, rfl, rfl, by decide, rfl, Nat.le_refl _, rfl, ballc rfl (ballc (bytesA_closed _) balln), ballc rfl (ballc (bytesA_closed _) balln), rfl, fun j _ => rfl, fun j hj => ⟨.inr rfl, .inl (by decide), .inl (by decide), trivial⟩⟩, ?_⟩
      repeat (first | ((with_reducible show W _ _ _ _ _ _); first | refine W_seq ?_ | refine W_block ?_ | refine W_regionB hX 22 rfl ?_ | refine W_cond ?_ | refine W_skip ?_ | refine W_exit ?_ | refine W_ret ?_) | ((fail_if_success (with_reducible show W _ _ _ _ _ _)); show W _ _ _ _ _ _) | refine andA ?_ | refine condT ?_ | refine condF ?_ | refine exB ?_ | refine exL ?_ | refine Exists.intro _ (And.intro rfl ?_) | refine Exists.intro _ (And.intro (get_mapN (by assumption)) ?_) | ((fail_if_success (with_reducible show LoopEnd _ _ _ _ _ _ _)); show LoopEnd _ _ _ _ _ _ _) | ((fail_if_success (with_reducible show JoinEnd _ _ _ _ _)); show JoinEnd _ _ _ _ _) | ((fail_if_success (with_reducible show JoinG _ _ _ _ _)); show JoinG _ _ _ _ _))
      refine W_drops (st' := ⟨[(1, .ptr 0 0), (4, .ptr 1 0)], [.cells 28 (encHead h), .cells 83 [.ptr 1 0, .own 2 1 0 u12.size, .v (.int .i64 0)], .row 5 1 (bytesA u12)]⟩) (Drops.to [1, 4] rfl) ?_
      clear c12 f12
      refine goT ?_
      refine ⟨_, f13, by kernel_rfl, fun _ => rfl, ?_⟩
      refine goT ?_
      refine .inr ⟨[1, 2], _, _, _, _, ⟨c13, by kernel_rfl, rfl, rfl, rfl, by decide, rfl, Nat.le_refl _, rfl, ballc rfl (ballc (bytesA_closed _) balln), ballc rfl (ballc (bytesA_closed _) balln), rfl, fun j _ => rfl, fun j hj => ⟨.inr rfl, .inl (by decide), .inl (by decide), trivial⟩⟩, ?_⟩
      repeat (first | ((with_reducible show W _ _ _ _ _ _); first | refine W_seq ?_ | refine W_block ?_ | refine W_regionB hX 23 rfl ?_ | refine W_cond ?_ | refine W_skip ?_ | refine W_exit ?_ | refine W_ret ?_) | ((fail_if_success (with_reducible show W _ _ _ _ _ _)); show W _ _ _ _ _ _) | refine andA ?_ | refine condT ?_ | refine condF ?_ | refine exB ?_ | refine exL ?_ | refine Exists.intro _ (And.intro rfl ?_) | refine Exists.intro _ (And.intro (get_mapN (by assumption)) ?_) | ((fail_if_success (with_reducible show LoopEnd _ _ _ _ _ _ _)); show LoopEnd _ _ _ _ _ _ _) | ((fail_if_success (with_reducible show JoinEnd _ _ _ _ _)); show JoinEnd _ _ _ _ _) | ((fail_if_success (with_reducible show JoinG _ _ _ _ _)); show JoinG _ _ _ _ _))
      refine W_drops (st' := ⟨[(1, .ptr 0 0), (4, .ptr 1 0)], [.cells 28 (encHead h), .cells 83 [.ptr 1 0, .own 2 1 0 u13.size, .v (.int .i64 0)], .row 5 1 (bytesA u13)]⟩) (Drops.to [1, 4] rfl) ?_
      clear c13 f13
      refine goT ?_
      refine .inr ⟨[1, 2], _, _, _, _, ⟨string_acb 83 [.v (.int .i64 0)] u13 (by omega), by kernel_rfl, rfl, rfl, rfl, by decide, rfl, Nat.le_refl _, rfl, ballc rfl (ballc (bytesA_closed _) balln), ballc trivial (ballc trivial balln), rfl, fun j _ => rfl, fun j hj => ⟨.inr rfl, .inl (by decide), .inl (by decide), trivial⟩⟩, ?_⟩
      refine goT ?_
      refine ⟨_, hsu, by kernel_rfl, fun _ => rfl, ?_⟩
      refine goT ?_
      refine ⟨_, fs, by kernel_rfl, fun _ => rfl, ?_⟩
      refine goT ?_
      refine W_drops (st' := ⟨[(9, .v (.string u13)), (12, .v (.string w7))], []⟩) (Drops.fin [9, 12] 0 (by rw [hX.np]; exact Nat.zero_le _) rfl rfl rfl trivial) ?_
      have g1 : (u13.extract 0 148).size = 148 := by rw [← hx1]; exact zx1
      have g2 : (u13.extract 156 u13.size).size = 356 := by rw [← hx2]; exact zx2
      have g3 : (u13.extract 0 148 ++ w7).size = 155 := by rw [ByteArray.size_append, g1, zw7]
      have g4 : (u13.extract 0 148 ++ w7 ++ ⟨#[32]⟩).size = 156 := by rw [ByteArray.size_append, g3]; rfl
      have g5 : (⟨#[32]⟩ : ByteArray).size = 1 := rfl
      clear hcut c0 c1 c2 c3 c4 c5 c6 f0 f1 f2 f3 f4 f5 hki hki2 hsu fs
      refine W_draw hX (n := 8) (follows_mixed Tryd.checked) (ws := [[], [(0, 124)], [], [(1, 125), (2, 126)], [(3, 127)], [], [(5, 129)], [(4, 128), (6, 130)]]) (ds := [124, 125, 126, 127, 128, 129, 130, 131]) (bi := []) (wa := [(0, 124), (1, 125), (2, 126), (3, 127), (4, 128), (5, 129), (6, 130), (7, 131)]) ⟨by kernel_rfl, by kernel_rfl, by kernel_rfl, by kernel_rfl, by decide, by kernel_rfl, by kernel_rfl, rfl, by decide, rfl⟩ ?_
      refine goT ?_
      rw [← hx1, ← hx2]
      refine goT ?_
      rfl
end Go.Proofs.YtnfbomhhgjlacaaDoor.Abs
