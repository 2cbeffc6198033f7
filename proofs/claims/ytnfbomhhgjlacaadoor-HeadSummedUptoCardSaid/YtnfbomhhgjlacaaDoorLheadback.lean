/- The laws of heads. -/
import Derived.Test.YtnfbomhhgjlacaaDoorRheadw
import Derived.Test.YtnfbomhhgjlacaaDoorRtree3
namespace Go.Proofs.YtnfbomhhgjlacaaDoor.Abs
open Go.RowKit Go.MapKept
set_option linter.unusedVariables false
set_option linter.unusedSimpArgs false
set_option maxRecDepth 100000
set_option maxHeartbeats 4000000
theorem cleanF_free' (s : ByteArray) (m : Int) : (0 : UInt8) ∉ (cleanF s m).data.toList := by
  unfold cleanF
  rw [ByteArray.data_extract, Array.toList_extract, List.extract_eq_take_drop]
  intro h
  have h2 := List.mem_of_mem_drop (List.mem_of_mem_take h)
  rw [mkS_list] at h2
  exact noz_free _ h2
def kindB (k : Nat) : UInt8 := kindsB.getD k 48
def headOfF (r : RawT) : HeadT := ⟨⟨#[110]⟩ ++ cleanF r.s 90, cleanF r.s 150, cleanF r.s 100, (pickF r.b 2097152).toNat, (pickF r.c 2097152).toNat, (pickF r.b 2097152).toNat, (pickF r.c 8589934592).toNat, (pickF r.b 8589934592).toNat, kindB (pickF r.a 5).toNat, cleanF r.s 31, cleanF r.s 20⟩
theorem headOf_ok (r : RawT) : HeadOk (headOfF r) := by
  have c1 := clean_size r.s 90
  have c2 := clean_size r.s 150
  have c3 := clean_size r.s 100
  have c4 := clean_size r.s 31
  have c5 := clean_size r.s 20
  have p1 := pick_lt (n := r.b) (m := 2097152) (by decide)
  have p2 := pick_lt (n := r.c) (m := 2097152) (by decide)
  have p3 := pick_lt (n := r.c) (m := 8589934592) (by decide)
  have p4 := pick_lt (n := r.b) (m := 8589934592) (by decide)
  have p5 := pick_lt (n := r.a) (m := 5) (by decide)
  have n1 : (90 : Int).toNat = 90 := rfl
  have n2 : (150 : Int).toNat = 150 := rfl
  have n3 : (100 : Int).toNat = 100 := rfl
  have n4 : (31 : Int).toNat = 31 := rfl
  have n5 : (20 : Int).toNat = 20 := rfl
  refine ⟨⟨?_, ?_⟩, ⟨by show (cleanF r.s 150).size ≤ _; omega, cleanF_free' _ _⟩, ⟨by show (cleanF r.s 100).size ≤ _; omega, cleanF_free' _ _⟩, ⟨by show (cleanF r.s 31).size ≤ _; omega, cleanF_free' _ _⟩, ⟨by show (cleanF r.s 20).size ≤ _; omega, cleanF_free' _ _⟩, by show (pickF r.b 2097152).toNat ≤ _; omega, by show (pickF r.c 2097152).toNat ≤ _; omega, by show (pickF r.b 2097152).toNat ≤ _; omega, by show (pickF r.c 8589934592).toNat ≤ _; omega, by show (pickF r.b 8589934592).toNat ≤ _; omega, ?_⟩
  · show ((⟨#[110]⟩ : ByteArray) ++ cleanF r.s 90).size ≤ 100
    rw [ByteArray.size_append, show (⟨#[110]⟩ : ByteArray).size = 1 from rfl]
    omega
  · show (0 : UInt8) ∉ ((⟨#[110]⟩ : ByteArray) ++ cleanF r.s 90).data.toList
    rw [app_list, show (⟨#[110]⟩ : ByteArray).data.toList = [110] from rfl]
    intro h
    rcases List.mem_append.1 h with h | h
    · exact absurd h (by decide)
    · exact cleanF_free' _ _ h
  · show kindB (pickF r.a 5).toNat ∈ kindsB
    obtain ⟨k, hk⟩ : ∃ k, k = (pickF r.a 5).toNat := ⟨_, rfl⟩
    rw [← hk]
    have : k < 5 := by omega
    match k, this with
    | 0, _ => decide
    | 1, _ => decide
    | 2, _ => decide
    | 3, _ => decide
    | 4, _ => decide
theorem headOf_ac (r : RawT) (h : RawGood r) : AC CX 12 [.agg (encRaw r)] (.agg (encHead (headOfF r))) := by
  obtain ⟨ha, hb, hc, hs⟩ := h
  have k1 := clean_ac r.s 90 (by omega) (by decide)
  have k2 := clean_ac r.s 150 (by omega) (by decide)
  have k3 := clean_ac r.s 100 (by omega) (by decide)
  have k4 := clean_ac r.s 31 (by omega) (by decide)
  have k5 := clean_ac r.s 20 (by omega) (by decide)
  have m1 := picked_ac r.b 2097152 hb (by decide)
  have m2 := picked_ac r.c 2097152 hc (by decide)
  have m3 := picked_ac r.c 8589934592 hc (by decide)
  have m4 := picked_ac r.b 8589934592 hb (by decide)
  have m5 := picked_ac r.a 5 ha (by decide)
  have p1 := pick_lt (n := r.b) (m := 2097152) (by decide)
  have p2 := pick_lt (n := r.c) (m := 2097152) (by decide)
  have p3 := pick_lt (n := r.c) (m := 8589934592) (by decide)
  have p4 := pick_lt (n := r.b) (m := 8589934592) (by decide)
  have p5 := pick_lt (n := r.a) (m := 5) (by decide)
  have hz1 : (cleanF r.s 90).size ≤ 90 := by have := clean_size r.s 90; have n1 : (90 : Int).toNat = 90 := rfl; omega
  have hz2 : (⟨#[110]⟩ : ByteArray).size = 1 := rfl
  unfold headOfF encHead
  dsimp only
  rw [Int.toNat_of_nonneg p1.1, Int.toNat_of_nonneg p2.1, Int.toNat_of_nonneg p3.1, Int.toNat_of_nonneg p4.1]
  have hkb : byteAt ⟨#[48, 49, 50, 53, 120]⟩ (pickF r.a 5).toNat = ((kindB (pickF r.a 5).toNat).toNat : Int) := by
    unfold byteAt kindB
    obtain ⟨k, hk⟩ : ∃ k, k = (pickF r.a 5).toNat := ⟨_, rfl⟩
    rw [← hk]
    have : k < 5 := by omega
    match k, this with
    | 0, _ => rfl
    | 1, _ => rfl
    | 2, _ => rfl
    | 3, _ => rfl
    | 4, _ => rfl
  have hkn : ((pickF r.a 5).toNat : Int) = pickF r.a 5 := Int.toNat_of_nonneg p5.1
  have hk5 : (pickF r.a 5).toNat < 5 := by omega
  generalize cleanF r.s 90 = s1 at *
  generalize cleanF r.s 150 = s2 at *
  generalize cleanF r.s 100 = s3 at *
  generalize cleanF r.s 31 = s4 at *
  generalize cleanF r.s 20 = s5 at *
  generalize pickF r.b 2097152 = i1 at *
  generalize pickF r.c 2097152 = i2 at *
  generalize pickF r.c 8589934592 = i3 at *
  generalize pickF r.b 8589934592 = i4 at *
  generalize (pickF r.a 5).toNat = q5 at *
  generalize pickF r.a 5 = i5 at *
  refine AC_walk ⟨TB, 39, 0, [], []⟩ (fn := Tryd.f12) TB_ok Tryd.func12 rfl rfl rfl rfl rfl (fun _ => rfl) (fun _ => rfl) ?_; intro E hna hX
  refine goT ?_
  refine W_draw hX (n := 36) (follows_mixed Tryd.checked) (ws := [[], [(0, 3)], [(1, 4)], [(2, 5)], [], [(4, 7)], [(2, 5), (5, 8)], [], [(7, 10)], [(6, 9), (8, 11)], [], [(10, 13)], [(9, 12), (11, 14)], [], [(13, 16)], [(12, 15), (14, 17)], [], [(16, 19)], [(15, 18), (17, 20)], [], [(19, 22)], [(18, 21), (20, 23)], [], [(22, 25)], [(21, 24), (23, 26)], [], [(25, 28)], [(24, 27), (26, 29)], [(27, 30)], [], [(29, 32)], [(27, 30), (30, 33)], [], [(32, 35)], [(31, 34), (33, 36)], [(3, 6), (6, 9), (9, 12), (12, 15), (15, 18), (18, 21), (21, 24), (24, 27), (28, 31), (31, 34), (34, 37)]]) (ds := [3, 4, 5, 6, 7, 8, 9, 10, 11, 12, 13, 14, 15, 16, 17, 18, 19, 20, 21, 22, 23, 24, 25, 26, 27, 28, 29, 30, 31, 32, 33, 34, 35, 36, 37, 38]) (bi := []) (wa := [(0, 3), (1, 4), (2, 5), (3, 6), (4, 7), (5, 8), (6, 9), (7, 10), (8, 11), (9, 12), (10, 13), (11, 14), (12, 15), (13, 16), (14, 17), (15, 18), (16, 19), (17, 20), (18, 21), (19, 22), (20, 23), (21, 24), (22, 25), (23, 26), (24, 27), (25, 28), (26, 29), (27, 30), (28, 31), (29, 32), (30, 33), (31, 34), (32, 35), (33, 36), (34, 37), (35, 38)]) ⟨by kernel_rfl, by kernel_rfl, by kernel_rfl, by kernel_rfl, by decide, by kernel_rfl, by kernel_rfl, rfl, by decide, rfl⟩ ?_
  refine goT ?_
  refine ⟨_, k1, by kernel_rfl, fun _ => rfl, ?_⟩
  refine goT ?_
  refine ⟨_, k2, by kernel_rfl, fun _ => rfl, ?_⟩
  refine goT ?_
  refine ⟨_, k3, by kernel_rfl, fun _ => rfl, ?_⟩
  refine goT ?_
  refine ⟨_, m1, by kernel_rfl, fun _ => rfl, ?_⟩
  refine goT ?_
  refine ⟨_, m2, by kernel_rfl, fun _ => rfl, ?_⟩
  refine goT ?_
  refine ⟨_, m1, by kernel_rfl, fun _ => rfl, ?_⟩
  refine goT ?_
  refine ⟨_, m3, by kernel_rfl, fun _ => rfl, ?_⟩
  refine goT ?_
  refine ⟨_, m4, by kernel_rfl, fun _ => rfl, ?_⟩
  refine goT ?_
  refine ⟨_, m5, by kernel_rfl, fun _ => rfl, ?_⟩
  refine goT ?_
  refine ⟨q5, hkn, hk5, ?_⟩
  rw [hkb]
  refine goT ?_
  refine ⟨_, k4, by kernel_rfl, fun _ => rfl, ?_⟩
  refine goT ?_
  refine ⟨_, k5, by kernel_rfl, fun _ => rfl, ?_⟩
  refine goT ?_
  rfl
theorem headBackLaw_ac (r : RawT) (hr : RawGood r) : AC CX 4 [.agg (encRaw r)] (.v (.bool true)) := by
  have h1 := headOf_ac r hr
  have H := headOf_ok r
  have h2 := headWrite_ac _ H
  have h3 := headRead_ac _ H
  have hz := headB_size H
  generalize headOfF r = h at *
  refine AC_walk ⟨TB, 36, 0, [], []⟩ (fn := Tryd.f4) TB_ok Tryd.func4 rfl rfl rfl rfl rfl (fun _ => rfl) (fun _ => rfl) ?_; intro E hna hX
  refine goT ?_
  refine ⟨_, h1, by kernel_rfl, fun _ => rfl, ?_⟩
  refine goT ?_
  refine ⟨_, h2, by kernel_rfl, fun _ => rfl, ?_⟩
  refine goT ?_
  refine ⟨_, h3, by kernel_rfl, fun _ => rfl, ?_⟩
  refine goT ?_
  refine condT ?_ (by simp)
  refine condT ?_ (by simp)
  refine condT ?_ (by simp)
  refine condT ?_ (by simp)
  refine goT ?_
  rw [show decide (((headB h).size : Int) = 512) = true by rw [hz]; rfl]
  refine goT ?_
  rfl
end Go.Proofs.YtnfbomhhgjlacaaDoor.Abs
