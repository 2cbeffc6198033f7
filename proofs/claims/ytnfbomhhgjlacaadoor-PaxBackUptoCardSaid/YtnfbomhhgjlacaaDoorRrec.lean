/- Records: what they are written as; record.Check, Write. -/
import Derived.Test.YtnfbomhhgjlacaaDoorRdec
namespace Go.Proofs.YtnfbomhhgjlacaaDoor.Abs
open Go.RowKit Go.MapKept
set_option linter.unusedVariables false
set_option linter.unusedSimpArgs false
set_option maxRecDepth 100000
set_option maxHeartbeats 4000000
structure RecT where
  key : ByteArray
  val : ByteArray
deriving DecidableEq
def encRec (r : RecT) : List AV := [.v (.string r.key), .v (.string r.val)]
/-- A record that may be. -/
structure RecOk (r : RecT) : Prop where
  k1 : 1 ≤ r.key.size
  k2 : r.key.size ≤ 60
  v2 : r.val.size ≤ 500
  asc : ∀ b ∈ r.key.data.toList, b.toNat < 128
  key : ∀ b ∈ r.key.data.toList, b ≠ 61 ∧ b ≠ 10
  val : (0 : UInt8) ∉ r.val.data.toList
theorem any_none (K : List UInt8) (h : ∀ b ∈ K, b ≠ 61 ∧ b ≠ 10) : Lib.containsAny K [61, 10] = false := by
  unfold Lib.containsAny
  rw [Lib.indexAny_none]
  · rfl
  · intro j b _ hb
    have := h b (List.mem_of_getElem? hb)
    simp [this.1, this.2]
/-- What is behind the number. -/
def restB (r : RecT) : ByteArray := ⟨#[32]⟩ ++ r.key ++ ⟨#[61]⟩ ++ r.val ++ ⟨#[10]⟩
theorem restB_size (r : RecT) : (restB r).size = r.key.size + r.val.size + 3 := by
  unfold restB
  simp only [ByteArray.size_append]
  have a : (⟨#[32]⟩ : ByteArray).size = 1 := rfl
  have b : (⟨#[61]⟩ : ByteArray).size = 1 := rfl
  have c : (⟨#[10]⟩ : ByteArray).size = 1 := rfl
  omega
theorem restB_list (r : RecT) : (restB r).data.toList = 32 :: (r.key.data.toList ++ 61 :: (r.val.data.toList ++ [10])) := by
  unfold restB
  simp [app_list]
/-- How many digits tell the length of a record whose rest has L bytes. -/
def recJ (L : Nat) : Nat → Nat → Nat
  | 0, j => j
  | t + 1, j => if j = (Lib.decDigits (L + j)).length then j else recJ L t (j + 1)
def recN (L : Nat) : Nat := L + recJ L 4 1
def recB (r : RecT) : ByteArray := mkS (Lib.decDigits (recN (restB r).size)) ++ restB r
theorem recJ_is (L : Nat) (hL : L ≤ 900) : ∀ t j, t + j = 5 → 1 ≤ j → j ≤ (Lib.decDigits (L + j)).length → (Lib.decDigits (L + recJ L t j)).length = recJ L t j ∧ 1 ≤ recJ L t j ∧ recJ L t j ≤ 4
  | 0, j, h5, h1, h2 => by
    have hd : (Lib.decDigits (L + j)).length ≤ 4 := dd_len 3 _ (show L + j < 10000 by omega)
    omega
  | t + 1, j, h5, h1, h2 => by
    have hd : (Lib.decDigits (L + j)).length ≤ 4 := dd_len 3 _ (show L + j < 10000 by omega)
    have hm := dd_mono (L + (j + 1)) (L + j) (by omega)
    rw [recJ]
    split
    · rename_i h
      exact ⟨h.symm, h1, by omega⟩
    · exact recJ_is L hL t (j + 1) (by omega) (by omega) (by omega)
theorem recN_is {L : Nat} (hL : L ≤ 900) : (Lib.decDigits (recN L)).length + L = recN L ∧ L + 1 ≤ recN L ∧ recN L ≤ L + 4 := by
  have := recJ_is L hL 4 1 (by omega) (by omega) (List.length_pos_iff.2 (dd_ne _))
  unfold recN
  omega
theorem RecOk.rest {r : RecT} (h : RecOk r) : (restB r).size ≤ 563 ∧ 4 ≤ (restB r).size := by
  have := restB_size r
  have := h.k1
  have := h.k2
  have := h.v2
  omega
theorem recB_size {r : RecT} (h : RecOk r) : (recB r).size = recN (restB r).size ∧ (recB r).size ≤ 567 ∧ 5 ≤ (recB r).size := by
  have h1 := recN_is (L := (restB r).size) (by have := h.rest; omega)
  have h2 := h.rest
  unfold recB
  rw [ByteArray.size_append, mkS_size]
  omega
theorem recCheck_ac (r : RecT) (h : RecOk r) : AC CX 83 [.agg (encRec r)] (.v (.int .i64 0)) := by
  obtain ⟨h1, h2, h3, h4, h5, h6⟩ := h
  have hca := containsAny_ac r.key ⟨#[61, 10]⟩ (by omega) (by decide) h4 (by decide)
  rw [show (⟨#[61, 10]⟩ : ByteArray).data.toList = [61, 10] from rfl, any_none _ h5] at hca
  have hix := indexByte_ac r.val 0
  rw [idx_none _ _ h6] at hix
  refine AC_walk ⟨TB, 28, 0, [], []⟩ (fn := Tryd.f83) TB_ok Tryd.func83 rfl rfl rfl rfl rfl (fun _ => rfl) (fun _ => rfl) ?_; intro E hna hX
  refine goT ?_
  refine ⟨_, hca, by kernel_rfl, fun _ => rfl, ?_⟩
  refine goT ?_
  refine ⟨_, hix, by kernel_rfl, fun _ => rfl, ?_⟩
  refine goT ?_
  rfl
theorem recWrite_ac (r : RecT) (h : RecOk r) : AC CX 32 [.agg (encRec r)] (.tup [.v (.string (recB r)), .v (.int .i64 0)]) := by
  have hch := recCheck_ac r h
  have hrs := h.rest
  have hsz := restB_size r
  have h2 := h.k2
  have h3 := h.v2
  have s1 : (⟨#[32]⟩ : ByteArray).size = 1 := rfl
  have s2 : (⟨#[61]⟩ : ByteArray).size = 1 := rfl
  have s3 : (⟨#[10]⟩ : ByteArray).size = 1 := rfl
  refine AC_walk ⟨TB, 37, 0, [], []⟩ (fn := Tryd.f32) TB_ok Tryd.func32 rfl rfl rfl rfl rfl (fun _ => rfl) (fun _ => rfl) ?_; intro E hna hX
  refine goT ?_
  refine ⟨_, hch, by kernel_rfl, fun _ => rfl, ?_⟩
  refine goT ?_
  have hN := recN_is (L := (restB r).size) (by omega)
  have hrb : (⟨#[32]⟩ : ByteArray) ++ r.key ++ ⟨#[61]⟩ ++ r.val ++ ⟨#[10]⟩ = restB r := rfl
  have hsb : ((⟨#[32]⟩ : ByteArray) ++ r.key ++ ⟨#[61]⟩ ++ r.val ++ ⟨#[10]⟩).size = (restB r).size := rfl
  refine W_loop (fun j : Nat => 1 ≤ j ∧ j ≤ 4 ∧ j ≤ (Lib.decDigits ((restB r).size + j)).length ∧ recJ (restB r).size 4 1 = recJ (restB r).size (5 - j) j) (fun j => 5 - j) (fun j => ⟨[(5, .v (.string (restB r))), (6, .v (.int .i64 (((restB r).size : Int) + (j : Int))))], [BoxC.cells 70 (encRec r)]⟩) 1 ⟨Nat.le_refl _, by decide, List.length_pos_iff.2 (dd_ne _), rfl⟩ (Drops.to [5, 6] rfl) ?_
  rintro j ⟨j1, j4, j2, j3⟩
  have hd : (Lib.decDigits ((restB r).size + j)).length ≤ 4 := dd_len 3 _ (show _ < 10000 by omega)
  refine goT ?_
  have hj : (((restB r).size : Int) + (j : Int)) = (((restB r).size + j : Nat) : Int) := by omega
  rw [hj]
  refine ⟨_, itoa_ac ((restB r).size + j) (by omega), by kernel_rfl, fun _ => rfl, ?_⟩
  have hms : (mkS (Lib.decDigits ((restB r).size + j))).size = (Lib.decDigits ((restB r).size + j)).length := mkS_size _
  refine goT ?_
  refine condB_intro (fun h1 => ?_) (fun h1 => ?_)
  · have e1 : ¬ j = (Lib.decDigits ((restB r).size + j)).length := fun e => by
      rw [decide_eq_true (by omega)] at h1
      cases h1
    have hm := dd_mono ((restB r).size + (j + 1)) ((restB r).size + j) (by omega)
    refine goT ?_
    exact LoopEnd_fin (j + 1) [5, 6] 1 hX ⟨by omega, by omega, by omega, by rw [j3, show 5 - j = (5 - (j + 1)) + 1 by omega, recJ, if_neg e1]⟩ (by omega) rfl (by rw [show (((restB r).size + j : Nat) : Int) + 1 = ((restB r).size : Int) + ((j + 1 : Nat) : Int) by omega]; rfl) rfl rfl ⟨rfl, trivial⟩
  · have e1 : j = (Lib.decDigits ((restB r).size + j)).length := by
      have h1 := h1
      simp only [Bool.not_eq_false', decide_eq_true_eq] at h1
      omega
    have hr : recN (restB r).size = (restB r).size + j := by
      unfold recN
      rw [j3, show 5 - j = (4 - j) + 1 by omega, recJ, if_pos e1]
    refine goT ?_
    refine ⟨_, itoa_ac ((restB r).size + j) (by omega), by kernel_rfl, fun _ => rfl, ?_⟩
    refine goT ?_
    unfold recB
    rw [hr]
    rfl
theorem recB_list (r : RecT) : (recB r).data.toList = Lib.decDigits (recN (restB r).size) ++ 32 :: (r.key.data.toList ++ 61 :: (r.val.data.toList ++ [10])) := by
  unfold recB
  rw [app_list, mkS_list, restB_list]
theorem ext_list (s : ByteArray) (a b : Nat) : (s.extract a b).data.toList = (s.data.toList.take b).drop a := by
  rw [ByteArray.data_extract, Array.toList_extract, List.extract_eq_take_drop, List.drop_take]
/-- record.Read of a record and what is behind it. -/
theorem recRead_ac (r : RecT) (h : RecOk r) (m : ByteArray) (hm : m.size ≤ 100000000) : AC CX 84 [.v (.string (recB r ++ m))] (.tup [.agg (encRec r), .v (.string m), .v (.int .i64 0)]) := by
  have hN := recN_is (L := (restB r).size) (by have := h.rest; omega)
  have hsz := recB_size h
  have hrs := h.rest
  have hwr := recWrite_ac r h
  have hch := recCheck_ac r h
  have hk1 := h.k1
  have hk2 := h.k2
  have hv2 := h.v2
  have hrz := restB_size r
  obtain ⟨n, hn⟩ : ∃ n, n = recN (restB r).size := ⟨_, rfl⟩
  have hdl := dd_len 3 n (by omega)
  have hdp := List.length_pos_iff.2 (dd_ne n)
  have hdd := dd_digit n
  have hl : (recB r ++ m).data.toList = Lib.decDigits n ++ 32 :: (r.key.data.toList ++ 61 :: (r.val.data.toList ++ 10 :: m.data.toList)) := by
    rw [app_list, recB_list, ← hn]
    simp
  have hss : (recB r ++ m).size = n + m.size := by rw [ByteArray.size_append, hsz.1, hn]
  have hc1 : Lib.cut (recB r ++ m).data.toList (⟨#[32]⟩ : ByteArray).data.toList = ((mkS (Lib.decDigits n)).data.toList, (mkS (r.key.data.toList ++ 61 :: (r.val.data.toList ++ 10 :: m.data.toList))).data.toList, true) := by
    unfold Lib.cut
    rw [mkS_list, mkS_list, show (⟨#[32]⟩ : ByteArray).data.toList = [32] from rfl, Lib.index_one, hl, idx_at _ _ _ (fun h => absurd (dd_digit n 32 h).1 (by decide)), if_pos (by omega)]
    simp [List.drop_append]
  have hcut := cutAt_ac (recB r ++ m) ⟨#[32]⟩ _ _ true (by omega) hc1
  have hcs : (mkS (Lib.decDigits n)).size = (Lib.decDigits n).length := mkS_size _
  have htr := trimDig_ac (mkS (Lib.decDigits n)) (by omega) (by rw [mkS_list]; exact dd_digit n)
  have hat := atoi_ac (mkS (Lib.decDigits n)) n (by omega) (by rw [mkS_list]; exact atoi_dd n)
  have hnl : (Lib.decDigits n).length + (restB r).size = n := by rw [hn]; exact hN.1
  have hb10 : byteAt (recB r ++ m) (n - 1) = 10 := by
    unfold byteAt
    have e1 : Lib.decDigits n ++ 32 :: (r.key.data.toList ++ 61 :: (r.val.data.toList ++ 10 :: m.data.toList)) = (Lib.decDigits n ++ 32 :: (r.key.data.toList ++ 61 :: r.val.data.toList)) ++ 10 :: m.data.toList := by simp
    have e2 : (Lib.decDigits n ++ 32 :: (r.key.data.toList ++ 61 :: r.val.data.toList)).length = n - 1 := by
      simp only [List.length_append, List.length_cons, size_list]; omega
    rw [hl, e1, ← e2, List.getD_eq_getElem?_getD, List.getElem?_append_right (Nat.le_refl _), Nat.sub_self]
    rfl
  have hmid : (recB r ++ m).extract ((Lib.decDigits n).length + 1) (n - 1) = r.key ++ ⟨#[61]⟩ ++ r.val := by
    apply bytes_ext
    have e1 : Lib.decDigits n ++ 32 :: (r.key.data.toList ++ 61 :: (r.val.data.toList ++ 10 :: m.data.toList)) = (Lib.decDigits n ++ [32]) ++ ((r.key.data.toList ++ 61 :: r.val.data.toList) ++ 10 :: m.data.toList) := by simp
    rw [ext_list, hl, e1, List.drop_take, List.drop_left' (by simp), List.take_left' (by simp only [List.length_append, List.length_cons, size_list]; omega), app_list, app_list]
    simp
  have hc2 : Lib.cut (r.key ++ ⟨#[61]⟩ ++ r.val).data.toList (⟨#[61]⟩ : ByteArray).data.toList = (r.key.data.toList, r.val.data.toList, true) := by
    unfold Lib.cut
    rw [show (⟨#[61]⟩ : ByteArray).data.toList = [61] from rfl, Lib.index_one, app_list, app_list, show r.key.data.toList ++ (⟨#[61]⟩ : ByteArray).data.toList ++ r.val.data.toList = r.key.data.toList ++ 61 :: r.val.data.toList by simp, idx_at _ _ _ (fun h' => (h.key 61 h').1 rfl), if_pos (by omega)]
    simp [List.drop_append]
  have hks : (r.key ++ ⟨#[61]⟩ ++ r.val : ByteArray).size = r.key.size + r.val.size + 1 := by
    rw [ByteArray.size_append, ByteArray.size_append, show (⟨#[61]⟩ : ByteArray).size = 1 from rfl]; omega
  have hcut2 := cutAt_ac (r.key ++ ⟨#[61]⟩ ++ r.val) ⟨#[61]⟩ _ _ true (by omega) hc2
  have hfr : (recB r ++ m).extract 0 n = recB r := by
    apply bytes_ext
    rw [ext_list, app_list, List.drop_zero]
    exact List.take_left' (by rw [size_list, hsz.1, hn])
  have hbk : (recB r ++ m).extract n (recB r ++ m).size = m := by
    apply bytes_ext
    rw [ext_list, List.take_of_length_le (by rw [size_list]; omega), app_list]
    exact List.drop_left' (by rw [size_list, hsz.1, hn])
  have hb0 : ¬ byteAt (mkS (Lib.decDigits n)) 0 = 48 := by
    obtain ⟨b, r', hb, hne⟩ := dd_head n (by omega)
    intro e
    unfold byteAt at e
    rw [mkS_list, hb] at e
    apply hne
    apply UInt8.toNat_inj.1
    have : (48 : UInt8).toNat = 48 := rfl
    have e' : ((b.toNat : Nat) : Int) = 48 := e
    omega
  rw [← hmid, ← hcs] at hcut2
  have hfr2 := hfr.symm
  clear hl hN hc2 hdd hrz hmid hks
  generalize mkS (Lib.decDigits n) = c at *
  generalize mkS (r.key.data.toList ++ 61 :: (r.val.data.toList ++ 10 :: m.data.toList)) = q at *
  refine AC_walk ⟨TB, 132, 0, [], []⟩ (fn := Tryd.f84) TB_ok Tryd.func84 rfl rfl rfl rfl rfl (fun _ => rfl) (fun _ => rfl) ?_; intro E hna hX
  refine goT ?_
  refine ⟨_, hcut, by kernel_rfl, fun _ => rfl, ?_⟩
  refine goT ?_
  refine ⟨_, htr, by kernel_rfl, fun _ => rfl, ?_⟩
  refine goT ?_
  refine ⟨_, hat, by kernel_rfl, fun _ => rfl, ?_⟩
  refine goT ?_
  refine ⟨n - 1, by omega, by omega, ?_⟩
  refine goT ?_
  refine ⟨n - 1, by omega, ⟨by show c.size + 1 ≤ n - 1; omega, by omega⟩, ?_⟩
  refine goT ?_
  refine ⟨_, hcut2, by kernel_rfl, fun _ => rfl, ?_⟩
  refine goT ?_
  refine ⟨_, hch, by kernel_rfl, fun _ => rfl, ?_⟩
  refine goT ?_
  refine ⟨_, hwr, by kernel_rfl, fun _ => rfl, ?_⟩
  refine goT ?_
  refine W_drops (st' := ⟨[(0, .v (.string (recB r ++ m))), (2, .ptr 0 0), (9, .v (.int .i64 n)), (13, .ptr 1 0)], [.cells 70 [.v (.string ⟨#[]⟩), .v (.string ⟨#[]⟩)], .cells 70 (encRec r)]⟩) (Drops.to [0, 2, 9, 13] rfl) ?_
  refine W_drawS hX (n := 5) (follows_mixed Tryd.checked) 5 [.agg (encRec r), .v (.string (recB r ++ m)), .v (.int .i64 n), .v (.string m), .junk] [[.cells 70 [.v (.string ⟨#[]⟩), .v (.string ⟨#[]⟩)], .cells 70 (encRec r)], [.cells 70 (encRec r), .cells 70 (encRec r)]] [4] [[0], [0, 1], [0, 1], [0, 1], []] (ws := [[], [], [], [(1, 129), (2, 130)], [(0, 128)]]) (ds := [128, 129, 130, 131]) (wa := [(0, 128), (1, 129), (2, 130), (3, 131)]) ⟨by kernel_rfl, by kernel_rfl, by kernel_rfl, by kernel_rfl, by decide, by kernel_rfl, by kernel_rfl, by kernel_rfl, by decide, by kernel_rfl, by kernel_rfl⟩ rfl rfl rfl rfl rfl ?_ ?_
  · refine ⟨⟨rfl, True.intro⟩, ⟨rfl, rfl, True.intro⟩, ⟨rfl, rfl, True.intro⟩, ⟨?_, ?_, True.intro⟩, rfl, True.intro⟩
    · exact ⟨n, rfl, ⟨by omega, Nat.le_refl _⟩, by show AV.v (.string m) = _; rw [hbk]⟩
    · exact ⟨n, rfl, ⟨by omega, Nat.le_refl _⟩, by show AV.v (.string m) = _; rw [hbk]⟩
  refine goT ?_
  rfl
end Go.Proofs.YtnfbomhhgjlacaaDoor.Abs
