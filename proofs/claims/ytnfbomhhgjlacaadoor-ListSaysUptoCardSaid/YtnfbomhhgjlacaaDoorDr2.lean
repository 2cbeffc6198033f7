/- Walks by computing: one operation. -/
import Derived.Test.YtnfbomhhgjlacaaDoorDr1
namespace Go.Proofs.YtnfbomhhgjlacaaDoor.Abs
open Go.RowKit Go.MapKept
set_option linter.unusedVariables false
set_option linter.unusedSimpArgs false
def leB {α : Type} : Nat → List α → Bool
  | 0, _ => true
  | _ + 1, [] => false
  | n + 1, _ :: l => leB n l
theorem leB_le {α : Type} : ∀ {n : Nat} {l : List α}, leB n l = true → n ≤ l.length
  | 0, _, _ => Nat.zero_le _
  | n + 1, x :: l, h => by have := leB_le (n := n) (l := l) h; simp; omega
def takeO {α : Type} : Nat → List α → Option (List α)
  | 0, _ => some []
  | _ + 1, [] => none
  | n + 1, x :: l => match takeO n l with
    | some m => some (x :: m)
    | none => none
theorem takeO_some {α : Type} : ∀ {n : Nat} {l m : List α}, takeO n l = some m → l.take n = m ∧ m.length = n
  | 0, l, m, h => by injection h with h; subst h; simp
  | n + 1, x :: l, m, h => by
    rw [takeO] at h
    split at h
    · rename_i m' hm
      injection h with h
      subst h
      obtain ⟨h1, h2⟩ := takeO_some hm
      exact ⟨by rw [List.take_succ_cons, h1], by simp [h2]⟩
    · cases h
def dropF {α : Type} : Nat → List α → List α
  | 0, l => l
  | _ + 1, [] => []
  | n + 1, _ :: l => dropF n l
theorem dropF_eq {α : Type} : ∀ (n : Nat) (l : List α), dropF n l = l.drop n
  | 0, l => by simp [dropF]
  | n + 1, [] => by simp [dropF]
  | n + 1, x :: l => by rw [dropF, dropF_eq n l]; simp
def allB {α : Type} (p : α → Bool) : List α → Bool
  | [] => true
  | x :: l => match p x with
    | true => allB p l
    | false => false
theorem allB_mem {α : Type} {p : α → Bool} : ∀ {l : List α}, allB p l = true → ∀ x ∈ l, p x = true
  | y :: l, h, x, hx => by
    rw [allB] at h
    split at h
    · rename_i hy
      rcases List.mem_cons.1 hx with rfl | hx
      · exact hy
      · exact allB_mem h x hx
    · cases h
/-- It says nothing of boxes. -/
def clos : Nat → AV → Bool
  | 0, _ => false
  | d + 1, .agg l => allB (clos d) l
  | d + 1, .tup l => allB (clos d) l
  | d + 1, .fn _ l => allB (clos d) l
  | _, .ptr _ _ => false
  | _, .own _ _ _ _ => false
  | _, .mp _ => false
  | _, .v _ => true
  | _, .row _ _ => true
  | _, .eptr _ => true
  | _, .junk => true
theorem clos_avoids (i : Nat) : ∀ {d : Nat} {x : AV}, clos d x = true → x.avoids i = true
  | 0, _, h => by simp [clos] at h
  | d + 1, .agg l, h => by
    simp only [AV.avoids]
    exact avoidsL_mem fun x hx => clos_avoids i (allB_mem h x hx)
  | d + 1, .tup l, h => by
    simp only [AV.avoids]
    exact avoidsL_mem fun x hx => clos_avoids i (allB_mem h x hx)
  | d + 1, .fn _ l, h => by
    simp only [AV.avoids]
    exact avoidsL_mem fun x hx => clos_avoids i (allB_mem h x hx)
  | d + 1, .v _, _ => by simp [AV.avoids]
  | d + 1, .row _ _, _ => by simp [AV.avoids]
  | d + 1, .eptr _, _ => by simp [AV.avoids]
  | d + 1, .junk, _ => by simp [AV.avoids]
theorem closL_avoids {d : Nat} {l : List AV} (h : allB (clos d) l = true) (i : Nat) : AV.avoidsL i l = true := avoidsL_mem fun x hx => clos_avoids i (allB_mem h x hx)
/-- It leads to no memory. -/
def flatD : Nat → AV → Bool
  | 0, _ => false
  | d + 1, .agg l => allB (flatD d) l
  | d + 1, .tup l => allB (flatD d) l
  | _, .v _ => true
  | _, _ => false
theorem flatL_mem : ∀ {l : List AV}, (∀ x ∈ l, x.flat = true) → AV.flatL l = true
  | [], _ => rfl
  | x :: l, h => by
    simp only [AV.flatL, Bool.and_eq_true]
    exact ⟨h x (List.mem_cons_self ..), flatL_mem fun y hy => h y (List.mem_cons_of_mem _ hy)⟩
theorem flatD_flat : ∀ {d : Nat} {x : AV}, flatD d x = true → x.flat = true
  | 0, _, h => by simp [flatD] at h
  | d + 1, .agg l, h => by
    simp only [AV.flat]
    exact flatL_mem fun x hx => flatD_flat (allB_mem h x hx)
  | d + 1, .tup l, h => by
    simp only [AV.flat]
    exact flatL_mem fun x hx => flatD_flat (allB_mem h x hx)
  | d + 1, .v _, _ => by simp [AV.flat]
  | d + 1, .row _ _, h => by simp [flatD] at h
  | d + 1, .eptr _, h => by simp [flatD] at h
  | d + 1, .fn _ _, h => by simp [flatD] at h
  | d + 1, .ptr _ _, h => by simp [flatD] at h
  | d + 1, .own _ _ _ _, h => by simp [flatD] at h
  | d + 1, .mp _, h => by simp [flatD] at h
  | d + 1, .junk, h => by simp [flatD] at h
/-- If the test is met. -/
def whenB (b : Bool) (A : Prop) : Prop := match b with
  | true => A
  | false => False
theorem whenB_dest {b : Bool} {A : Prop} (h : whenB b A) : b = true ∧ A := by
  cases b
  · exact h.elim
  · exact ⟨rfl, h⟩
def mapLk (st : St) : List Operand → List AV
  | [] => []
  | x :: l => lk st x :: mapLk st l
theorem mapLk_eq (st : St) : ∀ l, mapLk st l = l.map st.look
  | [] => rfl
  | x :: l => by rw [mapLk, lk_eq, mapLk_eq st l]; rfl
def mapLk2 (st : St) : List (Nat × Operand) → List (Nat × AV)
  | [] => []
  | p :: l => (p.1, lk st p.2) :: mapLk2 st l
theorem mapLk2_eq (st : St) : ∀ l, mapLk2 st l = l.map fun p => (p.1, st.look p.2)
  | [] => rfl
  | p :: l => by rw [mapLk2, lk_eq, mapLk2_eq st l]; rfl
/-- A bound of a slice expression. -/
def bndR (st : St) (x : Option Operand) (dflt : Nat) (K : Nat → Prop) : Prop := match x with
  | none => K dflt
  | some y => match lk st y with
    | .v (.int _ i) => ∃ n : Nat, (n : Int) = i ∧ K n
    | _ => False
theorem bndR_dest {st : St} {x : Option Operand} {dflt : Nat} {K : Nat → Prop} (h : bndR st x dflt K) : ∃ n, Bnd st x dflt n ∧ K n := by
  unfold bndR at h
  split at h
  · exact ⟨dflt, .inl ⟨rfl, rfl⟩, h⟩
  · rename_i y
    split at h
    · rename_i k i hy
      obtain ⟨n, rfl, hK⟩ := h
      exact ⟨n, .inr ⟨y, k, rfl, lk_look hy⟩, hK⟩
    · exact h.elim
def strOwn (els : List (List AV)) (K : AV → Prop) : Prop := ∃ t, els = bytesA t ∧ K (.v (.string t))
def convR (T : Tab) (st : St) (s d : TypeId) (x : AV) (K : AV → Prop) : Prop := match x with
  | .v (.int k n) => optR (look1 s T.int) fun _ => optR (look1 d T.int) fun k2 => intR k2 n K
  | .v (.string t) => match look1 d T.byt with
    | some _ => optR (look1 s T.stg) fun _ => K (.row 1 (bytesA t))
    | none => optR (look1 s T.stg) fun _ => optR (look1 d T.stg) fun _ => K (.v (.string t))
  | .row sz els => whenB (Nat.beq sz 1) <| optR (look1 s T.byt) fun _ => optR (look1 d T.stg) fun _ =>
      strOwn els K
  | .own i sz off n => whenB (Nat.beq sz 1) <| whenB (Nat.beq off 0) <| optR (look1 s T.byt) fun _ => optR (look1 d T.stg) fun _ => match nthA st.boxes i with
    | some (.row _ sz' els) => whenB (Nat.beq sz' 1) (els.length = n ∧ strOwn els K)
    | _ => False
  | _ => False
def byteAt (s : ByteArray) (n : Nat) : Int := ((s.data.toList.getD n 0).toNat : Int)
def idxR (T : Tab) (ty : TypeId) (x z : AV) (K : AV → Prop) : Prop := match x, z with
  | .v (.string s), .v (.int _ i) => optR (look1 ty T.stg) fun _ => ∃ n : Nat, (n : Int) = i ∧ n < s.size ∧ K (.v (.int .u8 (byteAt s n)))
  | _, _ => False
def fldR (T : Tab) (t f : Nat) (x : AV) (K : AV → Prop) : Prop := match x with
  | .agg l => optR (look1 t T.fld) fun fs => optR (nthA fs f) fun q => match q with
    | (k, _, false) => optR (nthA l k) K
    | (k, n, true) => K (.agg ((dropF k l).take n))
  | _ => False
def fadR (T : Tab) (t f : Nat) (x : AV) (K : AV → Prop) : Prop := optR (look1 t T.fld) fun fs => optR (nthA fs f) fun q => match q with
  | (k, n, _) => match n with
    | 0 => False
    | _ + 1 => match x with
      | .eptr l => whenB (leB k l) (K (.eptr (dropF k l)))
      | .ptr i off => K (.ptr i (off + k))
      | _ => False
def iadR (T : Tab) (t : Nat) (x z : AV) (K : AV → Prop) : Prop := match z with
  | .v (.int _ i) => optR (look1 t T.elm) fun q => match x with
    | .row sz els => whenB (Nat.beq q sz) <| ∃ n : Nat, (n : Int) = i ∧ ∃ l, els[n]? = some l ∧ K (.eptr l)
    | .own b sz off len => whenB (Nat.beq q sz) <| ∃ n : Nat, (n : Int) = i ∧ n < len ∧ K (.ptr b ((off + n) * sz))
    | _ => False
  | _ => False
def loadRow (n : Nat) (r : Bool) (els : List (List AV)) (sz off : Nat) (K : AV → Prop) : Prop :=
  ∃ j k l, off = j * sz + k ∧ els[j]? = some l ∧ (∀ q ∈ els, q.length = sz) ∧ match r with
    | true => match n with
      | 0 => False
      | _ + 1 => optR (takeO n (dropF k l)) fun m => K (.agg m)
    | false => optR (nthA l k) K
def lodR (T : Tab) (st : St) (t : Nat) (x : AV) (K : AV → Prop) : Prop := optR (look1 t T.lod) fun q => match q with
  | (n, r) => match x with
    | .eptr l => (match r with
      | true => optR (takeO n l) fun m => whenB (allB (clos 3) m) (K (.agg m))
      | false => match l with
        | [] => False
        | x :: _ => whenB (clos 3 x) (K x))
    | .ptr i off => (match nthA st.boxes i with
      | some (.cells _ cs) => (match r with
        | true => (match n with
          | 0 => False
          | _ + 1 => optR (takeO n (dropF off cs)) fun m => K (.agg m))
        | false => optR (nthA cs off) K)
      | some (.row _ sz els) => loadRow n r els sz off K
      | _ => False)
    | _ => False
/-- What a slice expression of a row reads. -/
structure SlcEq (els : List (List AV)) (l h : Nat) (r : List (List AV)) : Prop where
  eq : (els.take h).drop l = r
def slcR (T : Tab) (st : St) (t : Nat) (x : AV) (lo hi : Option Operand) (K : AV → Prop) : Prop := match x with
  | .v (.string s) => optR (look1 t T.stg) fun _ => bndR st lo 0 fun l => bndR st hi s.size fun h => (l ≤ h ∧ h ≤ s.size) ∧ K (.v (.string (s.extract l h)))
  | .row sz els => optR (look1 t T.elm) fun q => whenB (Nat.beq q sz) <| bndR st lo 0 fun l => bndR st hi els.length fun h => (l ≤ h ∧ h ≤ els.length) ∧ ∃ r, SlcEq els l h r ∧ K (.row sz r)
  | .own i sz off len => optR (look1 t T.elm) fun q => whenB (Nat.beq q sz) <| bndR st lo 0 fun l => bndR st hi len fun h => (l ≤ h ∧ h ≤ len ∧ (l = 0 ∨ l < len)) ∧ K (.own i sz (off + l) (h - l))
  | _ => False
def lupR (T : Tab) (st : St) (t : Nat) (x y : AV) (ok : Bool) (K : AV → Prop) : Prop := match x, y with
  | .mp i, .v k => optR (look1 t T.mpi) fun q => match nthA st.boxes i with
    | some (.map d kvs) => d = q.1 ∧ IsKey d k ∧ match ok with
      | true => ∃ r f, (kvFind k kvs).getD (zeroA q.2) = r ∧ (kvFind k kvs).isSome = f ∧ K (.tup [r, .v (.bool f)])
      | false => ∃ r, (kvFind k kvs).getD (zeroA q.2) = r ∧ K r
    | _ => False
  | _, _ => False
def lenR (T : Tab) (t : Nat) (x : AV) (K : AV → Prop) : Prop := match x with
  | .row _ els => optR (look1 t T.slc) fun _ => ∃ n : Nat, els.length = n ∧ K (.v (.int .i64 (n : Int)))
  | .own _ _ _ len => optR (look1 t T.slc) fun _ => K (.v (.int .i64 (len : Int)))
  | .v (.string s) => optR (look1 t T.stg) fun _ => K (.v (.int .i64 (s.size : Int)))
  | .v (.slice none 0 0) => optR (look1 t T.slc) fun _ => K (.v (.int .i64 0))
  | _ => False
def apnR (T : Tab) (t : Nat) (x y : AV) (K : AV → Prop) : Prop := match x, y with
  | .v (.slice none 0 0), .row sz els => optR (look1 t T.app) fun q => whenB (Nat.beq q.2.1 sz) <| els.length * q.2.2 ≤ 140737488355328 ∧ els.length ≤ maxLen ∧ K (.row sz els)
  | _, _ => False
def lenIs {α : Type} : Nat → List α → Bool
  | 0, [] => true
  | n + 1, _ :: l => lenIs n l
  | _, _ => false
theorem lenIs_eq {α : Type} : ∀ {n : Nat} {l : List α}, lenIs n l = true → l.length = n
  | 0, [], _ => rfl
  | 0, _ :: _, h => by cases h
  | n + 1, _ :: l, h => by have := lenIs_eq (n := n) (l := l) h; simp [this]
  | n + 1, [], h => by cases h
def ovw {α : Type} : Nat → List α → List α → List α
  | 0, [], cs => cs
  | 0, x :: m, [] => x :: m
  | 0, x :: m, _ :: cs => x :: ovw 0 m cs
  | _ + 1, m, [] => m
  | n + 1, m, c :: cs => c :: ovw n m cs
theorem ovw_zero {α : Type} : ∀ (m cs : List α), m.length ≤ cs.length → ovw 0 m cs = m ++ cs.drop m.length
  | [], cs, _ => by simp [ovw]
  | x :: m, [], h => by simp at h
  | x :: m, c :: cs, h => by rw [ovw, ovw_zero m cs (by simpa using h)]; simp
theorem ovw_eq {α : Type} : ∀ (off : Nat) (m cs : List α), off + m.length ≤ cs.length → ovw off m cs = cs.take off ++ m ++ cs.drop (off + m.length)
  | 0, m, cs, h => by rw [ovw_zero m cs (by omega)]; simp
  | n + 1, m, [], h => by simp at h
  | n + 1, m, c :: cs, h => by
    rw [ovw, ovw_eq n m cs (by simp at h; omega)]
    simp [show n + 1 + m.length = (n + m.length) + 1 by omega]
def fillF (place : Nat → Option (Nat × Nat)) : List (Nat × AV) → List AV → Option (List AV)
  | [], cells => some cells
  | p :: rest, cells => match place p.1 with
    | none => none
    | some q => match p.2.whole with
      | false => none
      | true => match lenIs q.2 p.2.cellsA with
        | false => none
        | true => match leB (q.1 + q.2) cells with
          | false => none
          | true => fillF place rest (ovw q.1 p.2.cellsA cells)
theorem fillF_eq {place : Nat → Option (Nat × Nat)} : ∀ {parts : List (Nat × AV)} {cells r : List AV}, fillF place parts cells = some r → fillA place cells parts = some r
  | [], cells, r, h => h
  | p :: rest, cells, r, h => by
    rw [fillF] at h
    split at h
    · cases h
    · rename_i q hq
      split at h
      · cases h
      · rename_i h1
        split at h
        · cases h
        · rename_i h2
          split at h
          · cases h
          · rename_i h3
            have h2 := lenIs_eq h2
            have h3 := leB_le h3
            rw [ovw_eq _ _ _ (by omega)] at h
            unfold fillA
            rw [hq]
            simp only []
            rw [if_pos ⟨h1, h2, h3⟩, ← h2]
            exact fillF_eq h
def chunkO {α : Type} (sz : Nat) : Nat → List α → Option (List (List α))
  | 0, [] => some []
  | 0, _ :: _ => none
  | n + 1, l => match takeO sz l with
    | none => none
    | some m => match chunkO sz n (dropF sz l) with
      | none => none
      | some ls => some (m :: ls)
theorem chunkO_some {α : Type} {sz : Nat} : ∀ {n : Nat} {l : List α} {ls : List (List α)}, chunkO sz n l = some ls → l = ls.flatten ∧ (∀ m ∈ ls, m.length = sz) ∧ ls.length = n
  | 0, [], ls, h => by injection h with h; subst h; simp
  | 0, _ :: _, ls, h => by cases h
  | n + 1, l, ls, h => by
    rw [chunkO] at h
    split at h
    · cases h
    · rename_i m hm
      split at h
      · cases h
      · rename_i ls' hls
        injection h with h
        subst h
        obtain ⟨h1, h2⟩ := takeO_some hm
        obtain ⟨h3, h4, h5⟩ := chunkO_some hls
        rw [dropF_eq] at h3
        refine ⟨?_, ?_, by simp [h5]⟩
        · rw [List.flatten_cons, ← h1, ← h3, List.take_append_drop]
        · intro q hq
          rcases List.mem_cons.1 hq with rfl | hq
          · exact h2
          · exact h4 q hq
def zeroL (zs : List Value) : Nat → List AV
  | 0 => []
  | n + 1 => zs.map .v ++ zeroL zs n
theorem zeroL_eq {zs : List Value} {sz : Nat} (hz : zs.length = sz) (h0 : 0 < sz) : ∀ n, (List.range (n * sz)).map (fun i => AV.v (zs[i % sz]!)) = zeroL zs n
  | 0 => by simp [zeroL]
  | n + 1 => by
    rw [zeroL, ← zeroL_eq hz h0 n, show (n + 1) * sz = sz + n * sz by rw [Nat.succ_mul]; omega, List.range_add, List.map_append, List.map_map]
    congr 1
    · apply List.ext_getElem
      · simp [hz]
      · intro i h1 h2
        simp at h1
        simp [Nat.mod_eq_of_lt h1, hz, h1]
    · apply List.map_congr_left
      intro i _
      simp [Nat.add_mod_left]
def bslR (T : Tab) (t len : Nat) (parts : List (Nat × AV)) (K : AV → Prop) : Prop := optR (look1 t T.sls) fun q => match q with
  | (_, sz, zs) => whenB (lenIs sz zs) <| whenB (Nat.blt 0 len) <| whenB (Nat.blt 0 sz) <| whenB (Nat.ble (len * sz) 16777216) <|
    optR (fillF (fun i => some (i * sz, sz)) parts (zeroL zs len)) fun flat => optR (chunkO sz len flat) fun els => whenB (allB (allB (clos 3)) els) (K (.row sz els))
def valsOf : List AV → Option (List Value)
  | [] => some []
  | .v u :: l => match valsOf l with
    | some us => some (u :: us)
    | none => none
  | _ :: _ => none
theorem valsOf_rep {β : BMap} {ok : Nat → Prop} {w : World} : ∀ {l : List AV} {us cs : List Value}, valsOf l = some us → AV.repCells β ok w l cs → cs = us
  | [], us, cs, h, hr => by injection h with h; subst h; exact hr
  | .v u :: l, us, cs, h, hr => by
    rw [valsOf] at h
    split at h
    · rename_i us' hus
      injection h with h
      subst h
      obtain ⟨v, rest, rfl, _, hv, hr'⟩ := hr
      rw [show v = u from hv, valsOf_rep hus hr']
    · cases h
theorem look_agg {C : Ctx} {E' : Env} {β : BMap} {st : St} {a : Act} {w : World} (H : Holds C E' β st a w) {y : Operand} {l : List AV} {us : List Value} (h : st.look y = .agg l) (hu : valsOf l = some us) : a.eval y = .agg us.toArray := by
  have := H.look y
  rw [h] at this
  obtain ⟨cs, h1, h2⟩ := this
  rw [h1, valsOf_rep hu h2]
/-- One operation that lays no box and turns none. -/
def opR (C : Ctx) (T : Tab) (st : St) (o : Oper) (K : AV → Prop) : Prop := match o.op with
  | .move y => K (lk st y)
  | .assign y => K (lk st y)
  | .pick c y z => match lk st c with
    | .v (.bool b) => condB b (K (lk st y)) (K (lk st z))
    | _ => False
  | .binOp bo ty y z _ => match lk st y, lk st z with
    | .v u, .v u' => binR T ty bo u u' K
    | .agg l, .agg m => optR (look1 ty T.seq) fun ks => optR (valsOf l) fun us => optR (valsOf m) fun vs => optR (eqCells ks us vs) fun r => (match bo with
      | .eql => K (.v (.bool r))
      | .neq => K (.v (.bool (!r)))
      | _ => False)
    | _, _ => False
  | .unOp uo _ y => match lk st y with
    | .v u => unR uo u K
    | _ => False
  | .convert s d y => convR T st s d (lk st y) K
  | .extract y ix => match lk st y with
    | .tup l => optR (nthA l ix) K
    | _ => False
  | .field t y f => fldR T t f (lk st y) K
  | .fieldAddr t y f => fadR T t f (lk st y) K
  | .nilCheck y => match lk st y with
    | .ptr i off => K (.ptr i off)
    | .eptr l => K (.eptr l)
    | _ => False
  | .indexAddr t y z => iadR T t (lk st y) (lk st z) K
  | .index t y z => idxR T t (lk st y) (lk st z) K
  | .load t y => lodR T st t (lk st y) K
  | .slice t y lo hi none => slcR T st t (lk st y) lo hi K
  | .makeFunc f first caps => match first.toList with
    | [] => K (.fn f (mapLk st caps.toList))
    | _ :: _ => False
  | .build t parts => optR (look1 t T.str) fun q => optR (fillF (fun i => nthA q.1 i) (mapLk2 st parts.toList) (q.2.map .v)) fun r => K (.agg r)
  | .buildSlice t len parts => bslR T t len (mapLk2 st parts.toList) K
  | .lookup t x y ok => lupR T st t (lk st x) (lk st y) ok K
  | .call { callee := .builtin .len, args := args, argTypes := ts } => match args.toList, ts.toList with
    | [y], [t] => lenR T t (lk st y) K
    | _, _ => False
  | .call { callee := .builtin .min, args := args, argTypes := ts } => match args.toList, ts.toList with
    | [x, y], [_, _] => (match lk st x, lk st y with
      | .v (.int k a), .v (.int _ b) => ∃ r : Int, (if b < a then b else a) = r ∧ K (.v (.int k r))
      | _, _ => False)
    | _, _ => False
  | .call { callee := .builtin .max, args := args, argTypes := ts } => match args.toList, ts.toList with
    | [x, y], [_, _] => (match lk st x, lk st y with
      | .v (.int k a), .v (.int _ b) => ∃ r : Int, (if b > a then b else a) = r ∧ K (.v (.int k r))
      | _, _ => False)
    | _, _ => False
  | .call { callee := .builtin .append, args := args, argTypes := ts } => match args.toList, ts.toList with
    | [x, y], [t, t'] => whenB (Nat.beq t t') (apnR T t (lk st x) (lk st y) K)
    | _, _ => False
  | _ => False
section
variable {C : Ctx} {T : Tab} (hT : TabOk C.P T) {E : Env} {st : St} {o : Oper} {K : AV → Prop}
theorem beq_eq {a b : Nat} (h : Nat.beq a b = true) : a = b := Nat.eq_of_beq_eq_true h
include hT
theorem convR_sound {s d : TypeId} {y : Operand} (ho : o.op = .convert s d y) (h : convR T st s d (lk st y) K) : ∃ x, Yields C E st o x none ∧ K x := by
  unfold convR at h
  split at h
  · rename_i k n hy
    obtain ⟨k1, hs, h0⟩ := optR_dest h
    obtain ⟨k2, hd, h'⟩ := optR_dest h0
    have hs := AllP_mem hT.int _ (look1_mem hs)
    have hd := AllP_mem hT.int _ (look1_mem hd)
    refine ⟨_, Y_conv ho (lk_look hy) fun w => ?_, intR_dest h'⟩
    have h1 := run_underlying (w := w) hs
    have h2 := run_underlying (w := w) hd
    simp [convert, h1, h2, Conv.intToInt, Result.andThen]
  · rename_i t hy
    split at h
    · rename_i e he
      obtain ⟨_, hs, h'⟩ := optR_dest h
      obtain ⟨h1, h2⟩ := AllP_mem hT.byt _ (look1_mem he)
      exact ⟨_, Y_strBytes ho (lk_look hy) (AllP_mem hT.stg _ (look1_mem hs)) h1 h2, h'⟩
    · obtain ⟨_, hs, h0⟩ := optR_dest h
      obtain ⟨_, hd, h'⟩ := optR_dest h0
      have hs := AllP_mem hT.stg _ (look1_mem hs)
      have hd := AllP_mem hT.stg _ (look1_mem hd)
      refine ⟨_, Y_conv ho (lk_look hy) fun w => ?_, h'⟩
      have h1 := run_underlying (w := w) hs
      have h2 := run_underlying (w := w) hd
      simp [convert, h1, h2, Result.andThen]
  · rename_i sz els hy
    obtain ⟨hq, h3⟩ := whenB_dest h
    have hq := beq_eq hq
    subst hq
    obtain ⟨e, he, h4⟩ := optR_dest h3
    obtain ⟨_, hd, h5⟩ := optR_dest h4
    obtain ⟨h1, h2⟩ := AllP_mem hT.byt _ (look1_mem he)
    obtain ⟨t, rfl, h6⟩ := h5
    exact ⟨_, Y_bytesStr ho (lk_look hy) h1 h2 (AllP_mem hT.stg _ (look1_mem hd)), h6⟩
  · rename_i i sz off n hy
    obtain ⟨hq, h3⟩ := whenB_dest h
    have hq := beq_eq hq
    subst hq
    obtain ⟨hq, h4⟩ := whenB_dest h3
    have hq := beq_eq hq
    subst hq
    obtain ⟨e, he, h5⟩ := optR_dest h4
    obtain ⟨_, hd, h6⟩ := optR_dest h5
    obtain ⟨h1, h2⟩ := AllP_mem hT.byt _ (look1_mem he)
    split at h6
    · rename_i tb sz' els hb
      obtain ⟨hq, hn, t, rfl, h7⟩ := whenB_dest h6
      have hq := beq_eq hq
      subst hq
      rw [nthA_eq] at hb
      refine ⟨_, Y_bytesStr' ho ?_ h1 h2 (AllP_mem hT.stg _ (look1_mem hd)), h7⟩
      rw [lk_look hy]
      exact sees_own hb hn fun i => by unfold bytesA; exact avoidsLL_map (fun _ => rfl) _
    · exact h6.elim
  · exact h.elim
omit hT in
theorem byteAt_at {s : ByteArray} {n : Nat} (h : n < s.size) : s[n]? = some s[n] ∧ byteAt s n = (s[n].toNat : Int) := by
  have h' : n < s.data.size := h
  refine ⟨by simp [h], ?_⟩
  unfold byteAt
  rw [List.getD_eq_getElem?_getD, List.getElem?_eq_getElem (by simpa using h')]
  simp
  rfl
theorem idxR_sound {t : TypeId} {y z : Operand} (ho : o.op = .index t y z) (h : idxR T t (lk st y) (lk st z) K) : ∃ x, Yields C E st o x none ∧ K x := by
  unfold idxR at h
  split at h
  · rename_i s k i hy hz
    obtain ⟨_, ht, n, rfl, hn, h2⟩ := optR_dest h
    have ht := AllP_mem hT.stg _ (look1_mem ht)
    refine ⟨_, Y_index ho (lk_look hy) (lk_look hz) fun w => ?_, h2⟩
    obtain ⟨e1, e2⟩ := byteAt_at hn
    have h1 := run_underlying (w := w) ht
    simp [Instr.index, asIntOf, h1, Result.andThen, e1, e2]
  · exact h.elim
theorem fldR_sound {t f : Nat} {y : Operand} (ho : o.op = .field t y f) (h : fldR T t f (lk st y) K) : ∃ x, Yields C E st o x none ∧ K x := by
  unfold fldR at h
  split at h
  · rename_i l hy
    obtain ⟨fs, h1, h2⟩ := optR_dest h
    obtain ⟨q, h3, h4⟩ := optR_dest h2
    have hf := hT.fld_at h1 h3
    split at h4
    · obtain ⟨x, h5, h6⟩ := optR_dest h4
      rw [nthA_eq] at h5
      exact ⟨_, Y_field1 ho (lk_look hy) hf h5, h6⟩
    · rw [dropF_eq] at h4
      exact ⟨_, Y_fieldA ho (lk_look hy) hf rfl, h4⟩
  · exact h.elim
theorem fadR_sound {t f : Nat} {y : Operand} (ho : o.op = .fieldAddr t y f) (h : fadR T t f (lk st y) K) : ∃ x, Yields C E st o x none ∧ K x := by
  unfold fadR at h
  obtain ⟨fs, h1, h2⟩ := optR_dest h
  obtain ⟨q, h3, h4⟩ := optR_dest h2
  have hf := hT.fld_at h1 h3
  obtain ⟨k, n, r⟩ := q
  cases n with
  | zero => exact h4.elim
  | succ n =>
    simp only [] at h4
    split at h4
    · rename_i l hy
      obtain ⟨h5, h6⟩ := whenB_dest h4
      rw [dropF_eq] at h6
      exact ⟨_, Y_fieldAddrE ho (lk_look hy) hf (by omega) (leB_le h5) rfl, h6⟩
    · rename_i i off hy
      exact ⟨_, Y_fieldAddrP ho (lk_look hy) hf (by omega) rfl, h4⟩
    · exact h4.elim
theorem iadR_sound {t : Nat} {y z : Operand} (ho : o.op = .indexAddr t y z) (h : iadR T t (lk st y) (lk st z) K) : ∃ x, Yields C E st o x none ∧ K x := by
  unfold iadR at h
  split at h
  · rename_i k i hz
    obtain ⟨q, h1, h2⟩ := optR_dest h
    have he := hT.elm_at h1
    split at h2
    · rename_i sz els hy
      obtain ⟨hq, n, rfl, l, h4, h5⟩ := whenB_dest h2
      have hq := beq_eq hq
      subst hq
      exact ⟨_, Y_indexAddrR ho (lk_look hy) (lk_look hz) he (by omega) (by rw [Int.toNat_natCast]; exact h4), h5⟩
    · rename_i b sz off len hy
      obtain ⟨hq, n, rfl, h4, h5⟩ := whenB_dest h2
      have hq := beq_eq hq
      subst hq
      exact ⟨_, Y_indexAddrO ho (lk_look hy) (lk_look hz) he (by omega) (by omega) (by rw [Int.toNat_natCast]), h5⟩
    · exact h2.elim
  · exact h.elim
theorem lodR_sound {t : Nat} {y : Operand} (ho : o.op = .load t y) (h : lodR T st t (lk st y) K) : ∃ x, Yields C E st o x none ∧ K x := by
  unfold lodR at h
  obtain ⟨⟨n, r⟩, h1, h2⟩ := optR_dest h
  have hi := hT.lod_at h1
  simp only [] at h2
  split at h2
  · rename_i l hy
    cases r with
    | true =>
      obtain ⟨m, h3, h4⟩ := optR_dest h2
      obtain ⟨h5, h6⟩ := takeO_some h3
      obtain ⟨h7, h8⟩ := whenB_dest h4
      exact ⟨_, Y_loadA ho (lk_look hy) hi h5 h6 (closL_avoids h7), h8⟩
    | false =>
      cases l with
      | nil => exact h2.elim
      | cons x l =>
        obtain ⟨h7, h8⟩ := whenB_dest h2
        exact ⟨_, Y_load1 ho (lk_look hy) hi rfl (fun i => clos_avoids i h7), h8⟩
  · rename_i i off hy
    split at h2
    · rename_i tb cs hb
      rw [nthA_eq] at hb
      cases r with
      | true =>
        cases n with
        | zero => exact h2.elim
        | succ n =>
          obtain ⟨m, h3, h4⟩ := optR_dest h2
          obtain ⟨h5, h6⟩ := takeO_some h3
          rw [dropF_eq] at h5
          exact ⟨_, Y_loadPA ho (lk_look hy) hi hb h5 h6 (by omega), h4⟩
      | false =>
        obtain ⟨x, h3, h4⟩ := optR_dest h2
        rw [nthA_eq] at h3
        exact ⟨_, Y_loadP1 ho (lk_look hy) hi hb h3, h4⟩
    · rename_i tb sz els hb
      rw [nthA_eq] at hb
      obtain ⟨j, k, l, e1, e2, e3, h4⟩ := h2
      have e4 := e3 l (List.mem_of_getElem? e2)
      cases r with
      | true =>
        cases n with
        | zero => exact h4.elim
        | succ n =>
          obtain ⟨m, h5, h6⟩ := optR_dest h4
          obtain ⟨h7, h8⟩ := takeO_some h5
          rw [dropF_eq] at h7
          exact ⟨_, Y_loadRA ho (lk_look hy) hi hb e1 e2 e4 e3 h7 h8 (by omega), h6⟩
      | false =>
        obtain ⟨x, h5, h6⟩ := optR_dest h4
        rw [nthA_eq] at h5
        exact ⟨_, Y_loadR1 ho (lk_look hy) hi hb e1 e2 e4 e3 h5, h6⟩
    · exact h2.elim
  · exact h2.elim
theorem slcR_sound {t : Nat} {y : Operand} {lo hi : Option Operand} (ho : o.op = .slice t y lo hi none) (h : slcR T st t (lk st y) lo hi K) : ∃ x, Yields C E st o x none ∧ K x := by
  unfold slcR at h
  split at h
  · rename_i s hy
    obtain ⟨_, ht, h2⟩ := optR_dest h
    have ht := AllP_mem hT.stg _ (look1_mem ht)
    obtain ⟨l, hl, h3⟩ := bndR_dest h2
    obtain ⟨u, hu, h4, h5⟩ := bndR_dest h3
    exact ⟨_, Y_sliceS ho (lk_look hy) ht hl hu h4.1 h4.2 rfl, h5⟩
  · rename_i sz els hy
    obtain ⟨q, ht, h1⟩ := optR_dest h
    have ht := hT.elm_at ht
    obtain ⟨hq, h2⟩ := whenB_dest h1
    have hq := beq_eq hq
    subst hq
    obtain ⟨l, hl, h3⟩ := bndR_dest h2
    obtain ⟨u, hu, h4, r, h5, h6⟩ := bndR_dest h3
    exact ⟨_, Y_sliceR ho (lk_look hy) ht hl hu h4.1 h4.2 h5.eq, h6⟩
  · rename_i i sz off len hy
    obtain ⟨q, ht, h1⟩ := optR_dest h
    have ht := hT.elm_at ht
    obtain ⟨hq, h2⟩ := whenB_dest h1
    have hq := beq_eq hq
    subst hq
    obtain ⟨l, hl, h3⟩ := bndR_dest h2
    obtain ⟨u, hu, h4, h5⟩ := bndR_dest h3
    exact ⟨_, Y_sliceO ho (lk_look hy) ht hl hu h4.1 h4.2.1 h4.2.2 rfl rfl, h5⟩
  · exact h.elim
theorem lupR_sound {t : Nat} {x y : Operand} {ok : Bool} (ho : o.op = .lookup t x y ok) (h : lupR T st t (lk st x) (lk st y) ok K) : ∃ x, Yields C E st o x none ∧ K x := by
  unfold lupR at h
  split at h
  · rename_i i k hx hy
    obtain ⟨q, ht, h1⟩ := optR_dest h
    obtain ⟨h2, h3⟩ := AllP_mem hT.mpi _ (look1_mem ht)
    split at h1
    · rename_i d kvs hb
      rw [nthA_eq] at hb
      obtain ⟨hd, hk, h4⟩ := h1
      subst hd
      cases ok with
      | true =>
        obtain ⟨r, f, h5, h6, h7⟩ := h4
        exact ⟨_, Y_lookup2 ho (lk_look hx) (lk_look hy) hb h2 hk h3 h5 h6, h7⟩
      | false =>
        obtain ⟨r, h5, h7⟩ := h4
        exact ⟨_, Y_lookup ho (lk_look hx) (lk_look hy) hb h2 hk h3 h5, h7⟩
    · exact h1.elim
  · exact h.elim
theorem lenR_sound {t : Nat} {y : Operand} (ho : o.op = .call { callee := .builtin .len, args := #[y], argTypes := #[t] }) (h : lenR T t (lk st y) K) : ∃ x, Yields C E st o x none ∧ K x := by
  unfold lenR at h
  split at h
  · rename_i sz els hy
    obtain ⟨e, ht, n, hn, h1⟩ := optR_dest h
    have ht := AllP_mem hT.slc _ (look1_mem ht)
    exact ⟨_, Y_lenR ho (lk_look hy) ht (by rw [hn]), h1⟩
  · rename_i b sz off len hy
    obtain ⟨e, ht, h1⟩ := optR_dest h
    have ht := AllP_mem hT.slc _ (look1_mem ht)
    exact ⟨_, Y_lenO ho (lk_look hy) ht rfl, h1⟩
  · rename_i s hy
    obtain ⟨_, ht, h1⟩ := optR_dest h
    have ht := AllP_mem hT.stg _ (look1_mem ht)
    refine ⟨_, Y_builtin1 ho (lk_look hy) fun w cs => ?_, h1⟩
    have h2 := run_underlying (w := w) ht
    simp [builtin, Builtin.len_, h2, goInt, Result.andThen]
  · rename_i hy
    obtain ⟨e, ht, h1⟩ := optR_dest h
    have ht := AllP_mem hT.slc _ (look1_mem ht)
    refine ⟨_, Y_builtin1 ho (lk_look hy) fun w cs => ?_, h1⟩
    have h2 := run_underlying (w := w) ht
    simp [builtin, Builtin.len_, h2, goInt, Result.andThen]
  · exact h.elim
theorem apnR_sound {t : Nat} {x y : Operand} (ho : o.op = .call { callee := .builtin .append, args := #[x, y], argTypes := #[t, t] }) (h : apnR T t (lk st x) (lk st y) K) : ∃ x, Yields C E st o x none ∧ K x := by
  unfold apnR at h
  split at h
  · rename_i sz els hx hy
    obtain ⟨q, ht, h1⟩ := optR_dest h
    have ht := hT.app_at ht
    obtain ⟨hq, h2, h3, h4⟩ := whenB_dest h1
    have hq := beq_eq hq
    obtain ⟨e, sz', by_⟩ := q
    simp only [] at hq h2
    subst hq
    exact ⟨_, Y_appendNil ho (lk_look hx) (lk_look hy) ht h2 h3, h4⟩
  · exact h.elim
theorem bslR_sound {t len : Nat} {parts : Array (Nat × Operand)} (ho : o.op = .buildSlice t len parts) (h : bslR T t len (mapLk2 st parts.toList) K) : ∃ x, Yields C E st o x none ∧ K x := by
  unfold bslR at h
  obtain ⟨⟨e, sz, zs⟩, h1, h2⟩ := optR_dest h
  have hin := AllP_mem hT.sls _ (look1_mem h1)
  obtain ⟨h3, h4⟩ := whenB_dest h2
  obtain ⟨h5, h6⟩ := whenB_dest h4
  obtain ⟨h7, h8⟩ := whenB_dest h6
  obtain ⟨h9, h10⟩ := whenB_dest h8
  obtain ⟨flat, h11, h12⟩ := optR_dest h10
  obtain ⟨els, h13, h14⟩ := optR_dest h12
  obtain ⟨h15, h16⟩ := whenB_dest h14
  have h0 : 0 < len := by simpa using h5
  have h7 : 0 < sz := by simpa using h7
  have hz := lenIs_eq h3
  obtain ⟨e1, e2, e3⟩ := chunkO_some h13
  have hf := fillF_eq h11
  rw [e1, mapLk2_eq, ← zeroL_eq hz h7] at hf
  refine ⟨_, Y_buildSlice ho hin h0 (by have := Nat.le_of_ble_eq_true h9; omega) hf e2 e3 (fun i => ?_), h16⟩
  have key : ∀ l ∈ els, AV.avoidsL i l = true := fun l hl => closL_avoids (allB_mem h15 l hl) i
  rw [← avoidsL_flatten]
  exact avoidsL_mem fun x hx => by
    obtain ⟨l, hl, hx⟩ := List.mem_flatten.1 hx
    exact clos_avoids i (allB_mem (allB_mem h15 l hl) x hx)
theorem opR_sound (h : opR C T st o K) : ∃ x, Yields C E st o x none ∧ K x := by
  unfold opR at h
  split at h
  · rename_i y ho; exact ⟨_, Y_move (.inl ho) rfl, by rw [← lk_eq]; exact h⟩
  · rename_i y ho; exact ⟨_, Y_move (.inr ho) rfl, by rw [← lk_eq]; exact h⟩
  · rename_i c y z ho
    split at h
    · rename_i b hc
      refine condB_dest h (fun hb h' => ?_) (fun hb h' => ?_)
      · subst hb; exact ⟨_, Y_pick (b := true) ho (lk_look hc) rfl, by show K (st.look y); rw [← lk_eq]; exact h'⟩
      · subst hb; exact ⟨_, Y_pick (b := false) ho (lk_look hc) rfl, by show K (st.look z); rw [← lk_eq]; exact h'⟩
    · exact h.elim
  · rename_i bo ty y z tr ho
    split at h
    · rename_i u u' hy hz
      obtain ⟨r, h1, h2⟩ := binR_dest hT h
      exact ⟨_, Y_bin ho (lk_look hy) (lk_look hz) h1, h2⟩
    · rename_i l m hy hz
      obtain ⟨ks, h1, h2⟩ := optR_dest h
      obtain ⟨us, h3, h4⟩ := optR_dest h2
      obtain ⟨vs, h5, h6⟩ := optR_dest h4
      obtain ⟨r, h7, h8⟩ := optR_dest h6
      have hs := AllP_mem hT.seq _ (look1_mem h1)
      split at h8
      · refine ⟨.v (.bool r), Y_of fun E' β a w H => ⟨.bool r, ?_, rfl, fun i _ => avoids_v i⟩, h8⟩
        simp only [execOp, ho, look_agg H (lk_look hy) h3, look_agg H (lk_look hz) h5, Sem.run_bind]
        have := bin_struct hs h7 (x := y) (y := z) w
        simp only [Sem.run_bind] at this
        rw [this]
        rfl
      · refine ⟨.v (.bool (!r)), Y_of fun E' β a w H => ⟨.bool (!r), ?_, rfl, fun i _ => avoids_v i⟩, h8⟩
        simp only [execOp, ho, look_agg H (lk_look hy) h3, look_agg H (lk_look hz) h5, Sem.run_bind]
        have := bin_structN hs h7 (x := y) (y := z) w
        simp only [Sem.run_bind] at this
        rw [this]
        rfl
      · exact h8.elim
    · exact h.elim
  · rename_i uo ty y ho
    split at h
    · rename_i u hy
      obtain ⟨r, h1, h2⟩ := unR_dest h
      exact ⟨_, Y_un ho (lk_look hy) h1, h2⟩
    · exact h.elim
  · rename_i s d y ho; exact convR_sound hT ho h
  · rename_i y ix ho
    split at h
    · rename_i l hy
      obtain ⟨x, h1, h2⟩ := optR_dest h
      rw [nthA_eq] at h1
      exact ⟨_, Y_extract ho (lk_look hy) h1, h2⟩
    · exact h.elim
  · rename_i t y f ho; exact fldR_sound hT ho h
  · rename_i t y f ho; exact fadR_sound hT ho h
  · rename_i y ho
    split at h
    · rename_i i off hy; exact ⟨_, Y_nilCheckP ho (lk_look hy), h⟩
    · rename_i l hy; exact ⟨_, Y_nilCheckE ho (lk_look hy), h⟩
    · exact h.elim
  · rename_i t y z ho; exact iadR_sound hT ho h
  · rename_i t y z ho; exact idxR_sound hT ho h
  · rename_i t y ho; exact lodR_sound hT ho h
  · rename_i t y lo hi ho; exact slcR_sound hT ho h
  · rename_i f first caps ho
    split at h
    · rename_i hf
      have hf : first = #[] := by cases first; simpa using hf
      subst hf
      exact ⟨_, Y_makeFunc ho (mapLk_eq st _).symm, h⟩
    · exact h.elim
  · rename_i t parts ho
    obtain ⟨⟨pl, zs⟩, h1, h2⟩ := optR_dest h
    have hs := AllP_mem hT.str _ (look1_mem h1)
    obtain ⟨r, h3, h4⟩ := optR_dest h2
    have hf := fillF_eq h3
    rw [mapLk2_eq] at hf
    rw [show (fun i => nthA pl i) = fun i => pl[i]? from funext fun i => nthA_eq pl i] at hf
    exact ⟨_, Y_build ho hs hf, h4⟩
  · rename_i t len parts ho; exact bslR_sound hT ho h
  · rename_i t x y ok ho; exact lupR_sound hT ho h
  · rename_i args ts ho
    split at h
    · rename_i y t ha ht
      have ha : args = #[y] := by cases args; simpa using ha
      have ht : ts = #[t] := by cases ts; simpa using ht
      subst ha; subst ht
      exact lenR_sound hT ho h
    · exact h.elim
  · rename_i args ts ho
    split at h
    · rename_i x y t t' ha ht
      have ha : args = #[x, y] := by cases args; simpa using ha
      have ht : ts = #[t, t'] := by cases ts; simpa using ht
      subst ha; subst ht
      split at h
      · rename_i k a k' b hx hy
        obtain ⟨r, rfl, h1⟩ := h
        refine ⟨_, Y_builtin2 ho (lk_look hx) (lk_look hy) fun w cs => ?_, h1⟩
        simp [builtin, run_min_int2 w #[t, t'] o.type k k' a b, Result.andThen]
      · exact h.elim
    · exact h.elim
  · rename_i args ts ho
    split at h
    · rename_i x y t t' ha ht
      have ha : args = #[x, y] := by cases args; simpa using ha
      have ht : ts = #[t, t'] := by cases ts; simpa using ht
      subst ha; subst ht
      split at h
      · rename_i k a k' b hx hy
        obtain ⟨r, rfl, h1⟩ := h
        refine ⟨_, Y_builtin2 ho (lk_look hx) (lk_look hy) fun w cs => ?_, h1⟩
        simp [builtin, run_max_int2 w #[t, t'] o.type k k' a b, Result.andThen]
      · exact h.elim
    · exact h.elim
  · rename_i args ts ho
    split at h
    · rename_i x y t t' ha ht
      have ha : args = #[x, y] := by cases args; simpa using ha
      have ht : ts = #[t, t'] := by cases ts; simpa using ht
      subst ha; subst ht
      obtain ⟨hq, h1⟩ := whenB_dest h
      have hq := beq_eq hq
      subst hq
      exact apnR_sound hT ho h1
    · exact h.elim
  · exact h.elim
end
end Go.Proofs.YtnfbomhhgjlacaaDoor.Abs
