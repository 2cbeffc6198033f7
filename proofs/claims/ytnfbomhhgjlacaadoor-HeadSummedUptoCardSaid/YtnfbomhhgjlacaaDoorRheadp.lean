/- Heads of members: plain facts. -/
import Derived.Test.YtnfbomhhgjlacaaDoorRoct
namespace Go.Proofs.YtnfbomhhgjlacaaDoor.Abs
open Go.RowKit Go.MapKept
set_option linter.unusedVariables false
set_option linter.unusedSimpArgs false
set_option maxRecDepth 100000
set_option maxHeartbeats 4000000
structure HeadT where
  name : ByteArray
  pre : ByteArray
  link : ByteArray
  mode : Nat
  uid : Nat
  gid : Nat
  size : Nat
  time : Nat
  type : UInt8
  user : ByteArray
  group : ByteArray
deriving DecidableEq
def encHead (h : HeadT) : List AV := [.v (.string h.name), .v (.string h.pre), .v (.string h.link), .v (.int .i64 h.mode), .v (.int .i64 h.uid), .v (.int .i64 h.gid), .v (.int .i64 h.size), .v (.int .i64 h.time), .v (.int .u8 (h.type.toNat : Int)), .v (.string h.user), .v (.string h.group)]
/-- The types that heads may have. -/
def kindsB : List UInt8 := [48, 49, 50, 53, 120]
structure TextOk (s : ByteArray) (w : Nat) : Prop where
  le : s.size ≤ w
  nz : (0 : UInt8) ∉ s.data.toList
structure HeadOk (h : HeadT) : Prop where
  name : TextOk h.name 100
  pre : TextOk h.pre 155
  link : TextOk h.link 100
  user : TextOk h.user 31
  group : TextOk h.group 31
  mode : h.mode ≤ 2097151
  uid : h.uid ≤ 2097151
  gid : h.gid ≤ 2097151
  size : h.size ≤ 8589934591
  time : h.time ≤ 8589934591
  type : h.type ∈ kindsB
def zB (n : Nat) : ByteArray := mkS (List.replicate n 0)
theorem zB_size (n : Nat) : (zB n).size = n := by unfold zB; rw [mkS_size, List.length_replicate]
theorem zB_list (n : Nat) : (zB n).data.toList = List.replicate n 0 := mkS_list _
/-- A text in a field. -/
def fldB (s : ByteArray) (w : Nat) : ByteArray := s ++ zB (w - s.size)
theorem fldB_size {s : ByteArray} {w : Nat} (h : s.size ≤ w) : (fldB s w).size = w := by
  unfold fldB
  rw [ByteArray.size_append, zB_size]
  omega
theorem fldB_list (s : ByteArray) (w : Nat) : (fldB s w).data.toList = s.data.toList ++ List.replicate (w - s.size) 0 := by
  unfold fldB
  rw [app_list, zB_list]
def octS (n w : Nat) : ByteArray := mkS (octL n w)
theorem octS_size (n w : Nat) (h : 1 ≤ w) : (octS n w).size = w := by
  unfold octS octL
  rw [mkS_size, List.length_append, octD_len]
  simp
  omega
theorem octGo_is : ∀ (l : List UInt8) (acc n : Nat), octGo acc l = some n → n / 8 ^ (l.length - 1) = acc ∧ l = octD n (l.length - 1) ++ [0]
  | [], acc, n, h => by cases h
  | [b], acc, n, h => by
    unfold octGo at h
    split at h
    · rename_i hb
      injection h with h
      subst h; subst hb
      exact ⟨by simp, rfl⟩
    · cases h
  | b :: c :: l, acc, n, h => by
    rw [octGo] at h
    split at h
    · rename_i hb
      obtain ⟨h1, h2⟩ := octGo_is (c :: l) _ n h
      have hk : (b :: c :: l).length - 1 = ((c :: l).length - 1) + 1 := by simp
      rw [hk, octD_cons, List.cons_append, ← h2, h1, Nat.pow_succ, ← Nat.div_div_eq_div_mul, h1]
      refine ⟨by omega, ?_⟩
      congr 1
      apply UInt8.toNat_inj.1
      rw [of48' (show (8 * acc + (b.toNat - 48)) % 8 < 10 by omega)]
      omega
    · cases h
theorem octGo_d : ∀ (k n acc : Nat), n / 8 ^ k = acc → octGo acc (octD n k ++ [0]) = some n
  | 0, n, acc, h => by simp [octD, octGo]; simpa using h.symm
  | k + 1, n, acc, h => by
    rw [octD_cons, List.cons_append]
    have hd : n / 8 ^ k % 8 < 8 := Nat.mod_lt _ (by decide)
    have h2 : n / 8 ^ k = 8 * acc + n / 8 ^ k % 8 := by
      rw [← h, Nat.pow_succ, ← Nat.div_div_eq_div_mul]
      omega
    have ih := octGo_d k n _ h2
    cases e : octD n k ++ [0] with
    | nil => simp at e
    | cons c l =>
      rw [octGo, of48' (show n / 8 ^ k % 8 < 10 by omega), if_pos (by omega), ← e, Nat.add_sub_cancel_left]
      exact ih
theorem octGo_oct {n w : Nat} (h : n < 8 ^ (w - 1)) : octGo 0 (octL n w) = some n := octGo_d (w - 1) n 0 (Nat.div_eq_of_lt h)
/-- The head up to its sum, and behind it. -/
def hA (h : HeadT) : ByteArray := fldB h.name 100 ++ octS h.mode 8 ++ octS h.uid 8 ++ octS h.gid 8 ++ octS h.size 12 ++ octS h.time 12
def ustarB : ByteArray := ⟨#[117, 115, 116, 97, 114, 0, 48, 48]⟩
def devB : ByteArray := ⟨#[48, 48, 48, 48, 48, 48, 48, 0, 48, 48, 48, 48, 48, 48, 48, 0]⟩
def blankB : ByteArray := ⟨#[32, 32, 32, 32, 32, 32, 32, 32]⟩
def hB (h : HeadT) : ByteArray := ⟨#[h.type]⟩ ++ (fldB h.link 100 ++ (ustarB ++ (fldB h.user 32 ++ (fldB h.group 32 ++ (devB ++ (fldB h.pre 155 ++ zB 12))))))
theorem hA_size {h : HeadT} (H : HeadOk h) : (hA h).size = 148 := by
  unfold hA
  simp only [ByteArray.size_append, fldB_size H.name.le, octS_size _ 8 (by decide), octS_size _ 12 (by decide)]
theorem hB_size {h : HeadT} (H : HeadOk h) : (hB h).size = 356 := by
  have hu := H.user.le
  have hg := H.group.le
  have f1 := fldB_size H.link.le
  have f2 := fldB_size H.pre.le
  have f3 := fldB_size (s := h.user) (w := 32) (by omega)
  have f4 := fldB_size (s := h.group) (w := 32) (by omega)
  have f5 := zB_size 12
  have a : (⟨#[h.type]⟩ : ByteArray).size = 1 := rfl
  have b : ustarB.size = 8 := rfl
  have c : devB.size = 16 := rfl
  unfold hB
  generalize ustarB = x1 at *
  generalize devB = x2 at *
  generalize fldB h.link 100 = x3 at *
  generalize fldB h.pre 155 = x4 at *
  generalize fldB h.user 32 = x5 at *
  generalize fldB h.group 32 = x6 at *
  generalize zB 12 = x7 at *
  rw [ByteArray.size_append, ByteArray.size_append, ByteArray.size_append, ByteArray.size_append, ByteArray.size_append, ByteArray.size_append, ByteArray.size_append]
  omega
/-- Byte i of a row. -/
def byN (l : List UInt8) (i : Nat) : Nat := (l.getD i 0).toNat
/-- The sum of the first k bytes; those of the sum's own field as blanks. -/
def sumK (l : List UInt8) : Nat → Nat
  | 0 => 256
  | k + 1 => sumK l k + (if k < 148 ∨ 156 ≤ k then byN l k else 0)
theorem sumK_le (l : List UInt8) : ∀ k, sumK l k ≤ 256 + 255 * k
  | 0 => by simp [sumK]
  | k + 1 => by
    have := sumK_le l k
    have h : byN l k ≤ 255 := by unfold byN; have := (l.getD k 0).toNat_lt; omega
    rw [sumK]
    split <;> omega
theorem sumK_ge (l : List UInt8) : ∀ k, 256 ≤ sumK l k
  | 0 => by simp [sumK]
  | k + 1 => by have := sumK_ge l k; rw [sumK]; omega
theorem sumK_same {l m : List UInt8} : ∀ k, (∀ i, i < k → (i < 148 ∨ 156 ≤ i) → byN l i = byN m i) → sumK l k = sumK m k
  | 0, _ => rfl
  | k + 1, h => by
    rw [sumK, sumK, sumK_same k (fun i hi => h i (by omega))]
    split
    · rename_i hk; rw [h k (by omega) hk]
    · rfl
theorem sumK_other {l m : List UInt8} {j : Nat} (hj : j < 148 ∨ 156 ≤ j) (hne : byN l j ≠ byN m j) (h : ∀ i, i ≠ j → byN l i = byN m i) : ∀ k, j < k → sumK l k ≠ sumK m k
  | 0, hk => by omega
  | k + 1, hk => by
    rw [sumK, sumK]
    by_cases e : k = j
    · subst e
      rw [sumK_same (l := l) (m := m) k (fun i hi _ => h i (by omega)), if_pos hj, if_pos hj]
      omega
    · have := sumK_other hj hne h k (by omega)
      rw [h k e]
      omega
def rawB (h : HeadT) : ByteArray := hA h ++ blankB ++ hB h
def hSum (h : HeadT) : Nat := sumK (rawB h).data.toList 512
/-- A head, written. -/
def headB (h : HeadT) : ByteArray := hA h ++ octS (hSum h) 7 ++ ⟨#[32]⟩ ++ hB h
theorem hSum_le (h : HeadT) : hSum h ≤ 131000 := by
  have := sumK_le (rawB h).data.toList 512
  unfold hSum
  omega
theorem rawB_size {h : HeadT} (H : HeadOk h) : (rawB h).size = 512 := by
  unfold rawB
  simp only [ByteArray.size_append, hA_size H, hB_size H]
  rfl
theorem headB_size {h : HeadT} (H : HeadOk h) : (headB h).size = 512 := by
  unfold headB
  simp only [ByteArray.size_append, hA_size H, hB_size H, octS_size _ 7 (by decide)]
  rfl
theorem byN_mid {a b b' c : List UInt8} (hb : b.length = b'.length) {i : Nat} (hi : i < a.length ∨ a.length + b.length ≤ i) : byN (a ++ (b ++ c)) i = byN (a ++ (b' ++ c)) i := by
  unfold byN
  rw [List.getD_eq_getElem?_getD, List.getD_eq_getElem?_getD]
  rcases hi with hi | hi
  · rw [List.getElem?_append_left hi, List.getElem?_append_left hi]
  · rw [List.getElem?_append_right (by omega), List.getElem?_append_right (by omega), List.getElem?_append_right (by omega), List.getElem?_append_right (by omega), hb]
theorem headB_sum {h : HeadT} (H : HeadOk h) : sumK (headB h).data.toList 512 = hSum h := by
  unfold hSum
  refine sumK_same 512 fun i hi ho => ?_
  have e1 : (headB h).data.toList = (hA h).data.toList ++ (((octS (hSum h) 7).data.toList ++ [32]) ++ (hB h).data.toList) := by
    unfold headB
    simp only [app_list, List.append_assoc]
  have e2 : (rawB h).data.toList = (hA h).data.toList ++ (blankB.data.toList ++ (hB h).data.toList) := by
    unfold rawB
    simp only [app_list, List.append_assoc]
  have e3 : ((octS (hSum h) 7).data.toList ++ [32]).length = 8 := by
    rw [List.length_append, size_list, octS_size _ 7 (by decide)]
    rfl
  have e4 : (hA h).data.toList.length = 148 := by rw [size_list, hA_size H]
  rw [e1, e2]
  exact byN_mid (by rw [e3]; rfl) (by rw [e3, e4]; exact ho)
theorem byN_get {l : List UInt8} {i : Nat} (h : i < l.length) : (byN l i : Nat) = (l[i]).toNat := by
  unfold byN
  rw [List.getD_eq_getElem?_getD, List.getElem?_eq_getElem h]
  rfl
theorem slice_eq {l m : List UInt8} {a b : Nat} (hl : b ≤ l.length) (hm : b ≤ m.length) (h : ∀ j, a ≤ j → j < b → byN l j = byN m j) : (l.take b).drop a = (m.take b).drop a := by
  apply List.ext_getElem
  · rw [List.length_drop, List.length_drop, List.length_take, List.length_take]
    omega
  · intro j h1 h2
    rw [List.length_drop, List.length_take] at h1 h2
    rw [List.getElem_drop, List.getElem_drop, List.getElem_take, List.getElem_take]
    apply UInt8.toNat_inj.1
    rw [← byN_get, ← byN_get]
    exact h (a + j) (by omega) (by omega)
theorem headB_list (h : HeadT) : (headB h).data.toList = (hA h).data.toList ++ (octL (hSum h) 7 ++ (32 :: (hB h).data.toList)) := by
  unfold headB octS
  simp only [app_list, mkS_list, List.append_assoc]
  rfl
theorem octL_len (n w : Nat) (h : 1 ≤ w) : (octL n w).length = w := by
  unfold octL
  rw [List.length_append, octD_len]
  simp
  omega
theorem headB_fld {h : HeadT} (H : HeadOk h) : ((headB h).data.toList.take 155).drop 148 = octL (hSum h) 7 := by
  have e4 : (hA h).data.toList.length = 148 := by rw [size_list, hA_size H]
  rw [headB_list, List.drop_take, ← e4, List.drop_left, e4]
  exact List.take_left' (octL_len _ _ (by decide))
theorem headB_155 {h : HeadT} (H : HeadOk h) : byN (headB h).data.toList 155 = 32 := by
  have e4 : (hA h).data.toList.length = 148 := by rw [size_list, hA_size H]
  have e5 := octL_len (hSum h) 7 (by decide)
  unfold byN
  rw [headB_list, List.getD_eq_getElem?_getD, List.getElem?_append_right (by omega), List.getElem?_append_right (by omega), e4, e5]
  rfl
/-- A written head of which one byte is another one has not its sum. -/
theorem head_turn {h : HeadT} (H : HeadOk h) {l : List UInt8} {i : Nat} (hl : l.length = 512) (hi : i < 512) (hne : byN l i ≠ byN (headB h).data.toList i) (hs : ∀ j, j ≠ i → byN l j = byN (headB h).data.toList j) : octGo 0 ((l.take 155).drop 148) ≠ some (sumK l 512) ∨ byN l 155 ≠ 32 := by
  have hsum := headB_sum H
  have hfl := headB_fld H
  have hlen : (headB h).data.toList.length = 512 := by rw [size_list, headB_size H]
  have hle := hSum_le h
  by_cases h1 : i < 148 ∨ 156 ≤ i
  · left
    rw [slice_eq (m := (headB h).data.toList) (by omega) (by omega) (fun j h2 h3 => hs j (by omega)), hfl, octGo_oct (by have : 8 ^ (7 - 1) = 262144 := rfl; omega)]
    intro e
    injection e with e
    exact sumK_other h1 hne hs 512 hi (by rw [hsum, e])
  · by_cases h2 : i = 155
    · right
      subst h2
      rw [headB_155 H] at hne
      exact hne
    · left
      intro e
      have hs2 : sumK l 512 = hSum h := by
        rw [← hsum]
        exact sumK_same 512 fun j _ hj => hs j (by omega)
      rw [hs2] at e
      have h3 := (octGo_is _ _ _ e).2
      have h4 : ((l.take 155).drop 148).length = 7 := by rw [List.length_drop, List.length_take]; omega
      rw [h4] at h3
      have h5 : (l.take 155).drop 148 = ((headB h).data.toList.take 155).drop 148 := by rw [hfl]; exact h3
      have h6 := congrArg (fun q => q.getD (i - 148) 0) h5
      apply hne
      unfold byN
      have h7 : ∀ m : List UInt8, ((m.take 155).drop 148).getD (i - 148) 0 = m.getD i 0 := fun m => by
        rw [List.getD_eq_getElem?_getD, List.getD_eq_getElem?_getD, List.getElem?_drop, List.getElem?_take, if_pos (by omega)]
        congr 2
        omega
      have h6 : ((l.take 155).drop 148).getD (i - 148) 0 = (((headB h).data.toList.take 155).drop 148).getD (i - 148) 0 := h6
      rw [h7, h7] at h6
      rw [h6]
end Go.Proofs.YtnfbomhhgjlacaaDoor.Abs
