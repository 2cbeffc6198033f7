/- Walks by computing: a region's operations, one behind the other. -/
import Derived.Test.YtnfbomhhgjlacaaDoorDr2
namespace Go.Proofs.YtnfbomhhgjlacaaDoor.Abs
open Go.RowKit Go.MapKept
set_option linter.unusedVariables false
set_option linter.unusedSimpArgs false
def headV (u : Value) (K : Value → Prop) : Prop := match u with
  | .int k n => K (.int k n)
  | .bool b => K (.bool b)
  | .string s => K (.string s)
  | .slice a l c => K (.slice a l c)
  | .pointer a => K (.pointer a)
  | .map r => K (.map r)
  | .agg c => K (.agg c)
  | .tuple c => K (.tuple c)
  | u => K u
theorem headV_iff {u : Value} {K : Value → Prop} : headV u K ↔ K u := by cases u <;> exact Iff.rfl
def headA (x : AV) (K : AV → Prop) : Prop := match x with
  | .v u => headV u fun u => K (.v u)
  | .row sz els => K (.row sz els)
  | .eptr l => K (.eptr l)
  | .fn f l => K (.fn f l)
  | .ptr i off => K (.ptr i off)
  | .own i sz off n => K (.own i sz off n)
  | .mp i => K (.mp i)
  | .agg l => K (.agg l)
  | .tup l => K (.tup l)
  | .junk => K .junk
theorem headA_iff {x : AV} {K : AV → Prop} : headA x K ↔ K x := by
  cases x with
  | v u => exact headV_iff (K := fun u => K (.v u))
  | _ => exact Iff.rfl
def forceS : List AV → (List AV → Prop) → Prop
  | [], K => K []
  | x :: l, K => headA x fun x => forceS l fun l => K (x :: l)
theorem forceS_iff : ∀ {l : List AV} {K : List AV → Prop}, forceS l K ↔ K l
  | [], K => Iff.rfl
  | x :: l, K => by rw [forceS, headA_iff, forceS_iff]
def forceA (x : AV) (K : AV → Prop) : Prop := match x with
  | .agg l => forceS l fun l => K (.agg l)
  | .tup l => forceS l fun l => K (.tup l)
  | .fn f l => forceS l fun l => K (.fn f l)
  | x => headA x K
theorem forceA_iff {x : AV} {K : AV → Prop} : forceA x K ↔ K x := by
  cases x with
  | agg l => exact forceS_iff (K := fun l => K (.agg l))
  | tup l => exact forceS_iff (K := fun l => K (.tup l))
  | fn f l => exact forceS_iff (K := fun l => K (.fn f l))
  | v u => exact headA_iff (x := .v u)
  | _ => exact Iff.rfl
def forceB (b : BoxC) (K : BoxC → Prop) : Prop := match b with
  | .none => K .none
  | .cells t cs => forceS cs fun cs => K (.cells t cs)
  | .row t sz els => K (.row t sz els)
  | .map d kvs => K (.map d kvs)
theorem forceB_iff {x : BoxC} {K : BoxC → Prop} : forceB x K ↔ K x := by
  cases x with
  | cells t cs => exact forceS_iff (K := fun cs => K (.cells t cs))
  | _ => exact Iff.rfl
def forceBs : List BoxC → (List BoxC → Prop) → Prop
  | [], K => K []
  | x :: l, K => forceB x fun x => forceBs l fun l => K (x :: l)
theorem forceBs_iff : ∀ {l : List BoxC} {K : List BoxC → Prop}, forceBs l K ↔ K l
  | [], K => Iff.rfl
  | x :: l, K => by rw [forceBs, forceB_iff, forceBs_iff]
def forceSl : List (Nat × AV) → (List (Nat × AV) → Prop) → Prop
  | [], K => K []
  | p :: l, K => match p with
    | (t, x) => headA x fun x => forceSl l fun l => K ((t, x) :: l)
theorem forceSl_iff : ∀ {l : List (Nat × AV)} {K : List (Nat × AV) → Prop}, forceSl l K ↔ K l
  | [], K => Iff.rfl
  | (t, x) :: l, K => by rw [forceSl, headA_iff, forceSl_iff]
def forceSt (st : St) (K : St → Prop) : Prop := match st with
  | ⟨sl, bs⟩ => forceSl sl fun sl => forceBs bs fun bs => K ⟨sl, bs⟩
theorem forceSt_iff {st : St} {K : St → Prop} : forceSt st K ↔ K st := by
  show forceSl _ _ ↔ _
  rw [forceSl_iff, forceBs_iff]
def dropR (d : Nat) : List (Nat × AV) → (List (Nat × AV) → Prop) → Prop
  | [], K => K []
  | p :: l, K => match Nat.beq p.1 d with
    | true => dropR d l K
    | false => dropR d l fun l => K (p :: l)
theorem dropR_iff {d : Nat} : ∀ {l : List (Nat × AV)} {K : List (Nat × AV) → Prop}, dropR d l K ↔ K (l.filter fun p => p.1 != d)
  | [], K => Iff.rfl
  | p :: l, K => by
    rw [dropR]
    by_cases e : p.1 = d
    · have e1 : Nat.beq p.1 d = true := by rw [e]; simp
      rw [e1]
      show dropR d l K ↔ _
      rw [dropR_iff, List.filter_cons_of_neg (by simp [e])]
    · have e1 : Nat.beq p.1 d = false := by
        cases hq : Nat.beq p.1 d with
        | false => rfl
        | true => exact absurd (Nat.eq_of_beq_eq_true hq) e
      rw [e1]
      show dropR d l (fun l => K (p :: l)) ↔ _
      rw [dropR_iff, List.filter_cons_of_pos (by simp [e])]
def setR (b : BoxC) : Nat → List BoxC → (List BoxC → Prop) → Prop
  | _, [], K => K []
  | 0, _ :: l, K => K (b :: l)
  | n + 1, c :: l, K => setR b n l fun l => K (c :: l)
theorem setR_iff {b : BoxC} : ∀ {n : Nat} {l : List BoxC} {K : List BoxC → Prop}, setR b n l K ↔ K (l.set n b)
  | n, [], K => by simp [setR]
  | 0, _ :: l, K => Iff.rfl
  | n + 1, c :: l, K => by rw [setR, setR_iff]; rfl
def snocR (b : BoxC) : List BoxC → (List BoxC → Prop) → Prop
  | [], K => K [b]
  | c :: l, K => snocR b l fun l => K (c :: l)
theorem snocR_iff {b : BoxC} : ∀ {l : List BoxC} {K : List BoxC → Prop}, snocR b l K ↔ K (l ++ [b])
  | [], K => Iff.rfl
  | c :: l, K => by rw [snocR, snocR_iff]; rfl
def blenR (bs : List BoxC) (K : Nat → Prop) : Prop := match bs with
  | [] => K 0
  | [_] => K 1
  | [_, _] => K 2
  | [_, _, _] => K 3
  | [_, _, _, _] => K 4
  | [_, _, _, _, _] => K 5
  | [_, _, _, _, _, _] => K 6
  | [_, _, _, _, _, _, _] => K 7
  | [_, _, _, _, _, _, _, _] => K 8
  | [_, _, _, _, _, _, _, _, _] => K 9
  | [_, _, _, _, _, _, _, _, _, _] => K 10
  | l => K l.length
theorem blenR_iff {bs : List BoxC} {K : Nat → Prop} : blenR bs K ↔ K bs.length := by unfold blenR; split <;> exact Iff.rfl
/-- What is fixed for a function's walk. -/
structure RX where
  T : Tab
  nt : Nat
  np : Nat
  free : List Nat
  own : List Nat
structure RXok (X : RX) (C : Ctx) (E : Env) : Prop where
  T : TabOk C.P X.T
  nt : E.nt = X.nt
  np : E.npin = X.np
  free : ∀ i ∈ X.free, E.pin i = none
def putR (X : RX) (d : Option Nat) (x : AV) (st : St) (K : St → Prop) : Prop := match d with
  | none => K st
  | some d => match Nat.blt d X.nt with
    | true => forceA x fun x => match st with
      | ⟨sl, bs⟩ => dropR d sl fun l => K ⟨(d, x) :: l, bs⟩
    | false => False
def dstL : List Oper → Nat → Option Nat
  | [], _ => none
  | o :: _, 0 => o.dst
  | _ :: l, n + 1 => dstL l n
theorem dstL_eq : ∀ (l : List Oper) (n : Nat), dstL l n = (l[n]?).bind (·.dst)
  | [], n => by simp [dstL]
  | o :: l, 0 => rfl
  | o :: l, n + 1 => by rw [dstL, dstL_eq l n]; simp
/-- The guard: met, or not. -/
def guardR (ops : List Oper) (o : Oper) (st : St) (A B : Prop) : Prop := match o.guard with
  | none => A
  | some q => match dstL ops q.1 with
    | none => False
    | some d => match lkS d st.slots with
      | .v (.bool c) => (match q.2 with
        | true => condB c A B
        | false => condB c B A)
      | .v (.tuple u) => (match u.toList with
        | [] => B
        | _ :: _ => False)
      | _ => False
theorem guardR_dest {ops : Array Oper} {o : Oper} {st : St} {A B R : Prop} (h : guardR ops.toList o st A B) (h1 : Wanted ops o st → A → R) (h2 : Unwanted ops o st → B → R) : R := by
  unfold guardR at h
  split at h
  · rename_i hg; exact h1 (.inl hg) h
  · rename_i q hg
    obtain ⟨j, b⟩ := q
    split at h
    · exact h.elim
    · rename_i d hd
      rw [dstL_eq] at hd
      replace hd : (ops[j]?).bind (·.dst) = some d := by rw [← Array.getElem?_toList]; exact hd
      split at h
      · rename_i c hc
        have hc : st.look (.tmp d) = .v (.bool c) := by rw [← lk_eq]; exact hc
        cases b with
        | true =>
          refine condB_dest h (fun e h' => h1 (.inr ⟨j, true, d, hg, hd, by rw [hc, e]⟩) h') (fun e h' => h2 ⟨j, true, d, hg, hd, .inl (by rw [hc, e]; rfl)⟩ h')
        | false =>
          refine condB_dest h (fun e h' => h2 ⟨j, false, d, hg, hd, .inl (by rw [hc, e]; rfl)⟩ h') (fun e h' => h1 (.inr ⟨j, false, d, hg, hd, by rw [hc, e]⟩) h')
      · rename_i u hc
        split at h
        · rename_i hu
          have hu : u = #[] := by cases u; simpa using hu
          subst hu
          exact h2 ⟨j, b, d, hg, hd, .inr (by rw [← lk_eq]; exact hc)⟩ h
        · exact h.elim
      · exact h.elim
def ClosedE (els : List (List AV)) : Prop := ∀ j, avoidsLL j els = true
def ClosedK (kvs : List (Value × AV)) : Prop := ∀ j, avoidsKV j kvs = true
/-- All boxes but number i (the first one has number k) say nothing of others. -/
def othersR (i : Nat) : Nat → List BoxC → Prop
  | _, [] => True
  | k, b :: bs => match Nat.beq k i with
    | true => othersR i (k + 1) bs
    | false => match b with
      | .row _ _ els => ClosedE els ∧ othersR i (k + 1) bs
      | .map _ kvs => ClosedK kvs ∧ othersR i (k + 1) bs
      | _ => othersR i (k + 1) bs
theorem othersR_all {i : Nat} : ∀ {bs : List BoxC} {k : Nat}, othersR i k bs → AllBut [i] (silent i) k bs
  | [], _, _ => trivial
  | b :: bs, k, h => by
    rw [othersR.eq_def] at h
    simp only [] at h
    split at h
    · rename_i hk
      exact ⟨.inl (by simpa using Nat.eq_of_beq_eq_true hk), othersR_all h⟩
    · cases b with
      | row t sz els => exact ⟨.inr (h.1 i), othersR_all h.2⟩
      | map d kvs => exact ⟨.inr (h.1 i), othersR_all h.2⟩
      | none => exact ⟨.inr rfl, othersR_all h⟩
      | cells t cs => exact ⟨.inr rfl, othersR_all h⟩
def strRow (n : Nat) (m : List AV) (els : List (List AV)) (sz off : Nat) (K : List (List AV) → Prop) : Prop :=
  ∃ j k l els', off = j * sz + k ∧ els[j]? = some l ∧ k + n ≤ sz ∧ els.set j (l.take k ++ m ++ l.drop (k + n)) = els' ∧ K els'
def boxesR (st : St) (b : BoxC) (i : Nat) (K : St → Prop) : Prop := match st with
  | ⟨sl, bs⟩ => setR b i bs fun bs => K ⟨sl, bs⟩
theorem boxesR_iff {st : St} {b : BoxC} {i : Nat} {K : St → Prop} : boxesR st b i K ↔ K (st.setBox i b) := by
  cases st
  exact setR_iff
def stoR (X : RX) (st : St) (t : Nat) (x y : AV) (K : St → Prop) : Prop := match x with
  | .ptr i off => optR (look1 t X.T.lod) fun q => whenB y.whole <| whenB (lenIs q.1 y.cellsA) <| match nthA st.boxes i with
    | some (.cells tb cs) => whenB (leB (off + q.1) cs) <| forceS (ovw off y.cellsA cs) fun cs => boxesR st (.cells tb cs) i K
    | some (.row tb sz els) => strRow q.1 y.cellsA els sz off fun els => boxesR st (.row tb sz els) i K
    | _ => False
  | _ => False
/-- What a map holds behind an update. -/
structure KvIs (k : Value) (z : AV) (kvs kvs' : List (Value × AV)) : Prop where
  eq : kvSet k z kvs = kvs'
def mapR (X : RX) (st : St) (t : Nat) (x y z : AV) (K : St → Prop) : Prop := match x, y with
  | .mp i, .v k => optR (look1 t X.T.mpi) fun q => match nthA st.boxes i with
    | some (.map d kvs) => d = q.1 ∧ IsKey d k ∧ ∃ kvs', KvIs k z kvs kvs' ∧ boxesR st (.map d kvs') i K
    | _ => False
  | _, _ => False
def newR (X : RX) (o : Oper) (st : St) (x : AV) (bc : BoxC) (K : St → Prop) : Prop :=
  match o.dst with
  | none => False
  | some d => match st with
    | ⟨sl, bs⟩ => snocR bc bs fun bs => putR X (some d) x ⟨sl, bs⟩ K
def boxR (X : RX) (o : Oper) (st : St) (e : Nat) (x : AV) (K : St → Prop) : Prop :=
  whenB x.whole <| forceS x.cellsA fun cs => blenR st.boxes fun n => newR X o st (.ptr n 0) (.cells e cs) K
def alcR (X : RX) (o : Oper) (st : St) (e : Nat) (K : St → Prop) : Prop := optR (look1 e X.T.zer) fun z =>
  forceS (z.cells.toList.map .v) fun cs => blenR st.boxes fun n => newR X o st (.ptr n 0) (.cells e cs) K
def mmpR (X : RX) (o : Oper) (st : St) (t : Nat) (K : St → Prop) : Prop := optR (look1 t X.T.mpi) fun q => blenR st.boxes fun n => newR X o st (.mp n) (.map q.1 []) K
def mslR (X : RX) (o : Oper) (st : St) (t : Nat) (y z : AV) (K : St → Prop) : Prop := match y, z with
  | .v (.int _ a), .v (.int _ c) => optR (look1 t X.T.app) fun q => match q with
    | (e, sz, by_) => (a = 0 ∧ (0 ≤ c ∧ (by_ : Int) * c ≤ 281474976710656 ∧ c ≤ 9223372036854775807) ∧ blenR st.boxes fun n => newR X o st (.own n sz 0 0) (.row e sz []) K) ∨
      ∃ m : Nat, (m : Int) = a ∧ a = c ∧ (by_ * m ≤ 281474976710656 ∧ m ≤ maxLen) ∧ whenB (Nat.beq sz 1) (optR (look1 e X.T.zer) fun zv => whenB (zv.oneCell') (∃ els, List.replicate m [AV.v zv] = els ∧ blenR st.boxes fun n => newR X o st (.own n 1 0 m) (.row e 1 els) K))
  | _, _ => False
def apoR (X : RX) (o : Oper) (st : St) (t : Nat) (x y : AV) (K : St → Prop) : Prop := match x, y with
  | .own i sz off n, .row sz2 els2 => whenB (Nat.beq off 0) <| whenB (Nat.beq sz2 sz) <| optR (look1 t X.T.app) fun q => match nthA st.boxes i with
    | some (.row tb sz' els) => whenB (Nat.beq sz' sz) <| whenB (Nat.beq q.1 tb) <| whenB (Nat.beq q.2.1 sz) <| whenB (Nat.ble X.np i || X.free.contains i) <|
      els.length = n ∧ ((n + els2.length) * q.2.2 ≤ 140737488355328 ∧ n + els2.length ≤ maxLen) ∧ othersR i 0 st.boxes ∧ ClosedE els2 ∧ ClosedE els ∧ ∃ m els', n + els2.length = m ∧ els ++ els2 = els' ∧
      match o.dst with
      | none => False
      | some d => forceSt (((st.noBox i).setBox i (.row tb sz els')).put d (.own i sz 0 m)) fun st => whenB (Nat.blt d X.nt) (K st)
    | _ => False
  | _, _ => False
/-- As what is only read. -/
def view1 (st : St) : AV → AV
  | .own i sz _ _ => match nthA st.boxes i with
    | some (.row _ _ els) => .row sz els
    | _ => .junk
  | .ptr i off => match nthA st.boxes i with
    | some (.cells _ cs) => .eptr (dropF off cs)
    | _ => .junk
  | x => x
def view1Ok (st : St) : AV → Prop
  | .own i sz off n => match nthA st.boxes i with
    | some (.row _ sz' els) => whenB (Nat.beq sz' sz) (whenB (Nat.beq off 0) (els.length = n ∧ ClosedE els))
    | _ => False
  | .ptr i off => match nthA st.boxes i with
    | some (.cells _ cs) => whenB (allB (clos 3) (dropF off cs)) True
    | _ => False
  | x => whenB (clos 3 x) True
def viewC (st : St) : List AV → List AV
  | [] => []
  | x :: l => view1 st x :: viewC st l
def viewCOk (st : St) : List AV → Prop
  | [] => True
  | x :: l => view1Ok st x ∧ viewCOk st l
def viewA (st : St) : AV → AV
  | .fn f l => .fn f (viewC st l)
  | x => view1 st x
def viewOk (st : St) : AV → Prop
  | .fn _ l => viewCOk st l
  | x => view1Ok st x
def viewL (st : St) : List AV → List AV
  | [] => []
  | x :: l => viewA st x :: viewL st l
def viewLOk (st : St) : List AV → Prop
  | [] => True
  | x :: l => viewOk st x ∧ viewLOk st l
/-- What a call that is handed boxes wants beside its contract. -/
structure CallB (X : RX) (C : Ctx) (st : St) (f : Nat) (c : AV) (l : List AV) (s : List Nat) (args : List AV) (bin : List BoxC) (x : AV) (bout : List BoxC) : Prop where
  ac : ACB C f args bin x bout
  fok : FnOk C.P f = true
  hc : c = (AV.fn (.func f) (dropF l.length args)).ren (renOf s st.boxes.length)
  hl : l = AV.renL (renOf s st.boxes.length) (args.take l.length)
  len : s.length = bin.length
  nd : s.Nodup
  bx : s.map (fun j => st.boxes[j]?) = bin.map (fun b => some (b.ren (renOf s st.boxes.length)))
  le : bin.length ≤ bout.length
  live : bin.all (·.live) = true
  lim : ∀ b ∈ bin, boxLim bin.length b
  limo : ∀ b ∈ bout, boxLim bout.length b
  hx : Nat.ble x.maxB bout.length = true
  pin : ∀ j ∈ rowsOf s bin, (Nat.ble X.np j || X.free.contains j) = true
  av : ∀ j ∈ rowsOf s bin, AllBut s (silent j) 0 st.boxes
def calR (X : RX) (C : Ctx) (st : St) (d : Option Nat) (c : AV) (l : List AV) (K : St → Prop) : Prop := match c with
  | .fn (.func f) caps => match allB (clos 3) l, allB (clos 3) caps with
    | true, true => ∃ x, AC C f (l ++ caps) x ∧ FnOk C.P f = true ∧ (∀ i, x.avoids i = true) ∧ putR X d x st K
    | _, _ => (∃ x, AC C f (viewL st l ++ viewL st caps) x ∧ FnOk C.P f = true ∧ (viewLOk st l ∧ viewLOk st caps) ∧ whenB (flatD 4 x) (putR X d x st K)) ∨
      ∃ s args bin x bout, CallB X C st f c l s args bin x bout ∧ (match d with
        | none => forceSt (st.called s bin bout) K
        | some t => whenB (Nat.blt t X.nt) (forceSt ((st.called s bin bout).put t (x.ren (renOf s st.boxes.length))) K))
  | _ => False
def isNilV : AV → Bool
  | .v (.slice none 0 0) => true
  | _ => false
theorem isNilV_eq {x : AV} (h : isNilV x = true) : x = .v (.slice none 0 0) := by
  unfold isNilV at h
  split at h
  · rfl
  · cases h
def hasN (d : Nat) : List Nat → Bool
  | [] => false
  | k :: l => match Nat.beq k d with
    | true => true
    | false => hasN d l
def ownD (l : List Nat) : Option Nat → Bool
  | none => false
  | some d => hasN d l
def bsoR (X : RX) (o : Oper) (st : St) (t len : Nat) (parts : List (Nat × AV)) (K : St → Prop) : Prop := optR (look1 t X.T.sls) fun q => match q with
  | (e, sz, zs) => whenB (lenIs sz zs) <| whenB (Nat.blt 0 sz) <| whenB (Nat.ble (len * sz) 16777216) <|
    optR (fillF (fun i => some (i * sz, sz)) parts (zeroL zs len)) fun flat => optR (chunkO sz len flat) fun els => whenB (allB (allB (clos 3)) els) (blenR st.boxes fun n => newR X o st (.own n sz 0 len) (.row e sz els) K)
def nilR (X : RX) (o : Oper) (st : St) (bo : BinOp) (t : Nat) (els : List (List AV)) (z : AV) (K : St → Prop) : Prop := whenB (isNilV z) <| optR (look1 t X.T.slc) fun _ => match o.dst with
  | none => False
  | some d => match bo with
    | .eql => ∀ b : Bool, (els ≠ [] → b = false) → putR X (some d) (.v (.bool b)) st K
    | .neq => ∀ b : Bool, (els ≠ [] → b = false) → putR X (some d) (.v (.bool (!b))) st K
    | _ => False
/-- One operation, and what goes on behind it. -/
def stepR (X : RX) (C : Ctx) (o : Oper) (st : St) (K : St → Prop) : Prop := match o.op with
  | .store t x y => (match o.dst with
    | none => stoR X st t (lk st x) (lk st y) K
    | some _ => False)
  | .mapUpdate t x y z => (match o.dst with
    | none => mapR X st t (lk st x) (lk st y) (lk st z) K
    | some _ => False)
  | .box e y => boxR X o st e (lk st y) K
  | .alloc e => alcR X o st e K
  | .makeMap t none => mmpR X o st t K
  | .makeSlice t y z => mslR X o st t (lk st y) (lk st z) K
  | .buildSlice t len parts => match ownD X.own o.dst with
    | true => bsoR X o st t len (mapLk2 st parts.toList) K
    | false => bslR X.T t len (mapLk2 st parts.toList) fun x => putR X o.dst x st K
  | .binOp bo t y z tr => match lk st y with
    | .row sz els => nilR X o st bo t els (lk st z) K
    | _ => opR C X.T st o fun x => putR X o.dst x st K
  | .call { callee := .builtin .append, args := args, argTypes := ts } => match args.toList, ts.toList with
    | [x, y], [t, t'] => whenB (Nat.beq t t') <| match isNilV (lk st x) with
      | true => apnR X.T t (lk st x) (lk st y) fun x => putR X o.dst x st K
      | false => apoR X o st t (lk st x) (lk st y) K
    | _, _ => False
  | .call { callee := .value c, args := args, argTypes := _ } => forceS (mapLk st args.toList) fun l => calR X C st o.dst (lk st c) l K
  | _ => opR C X.T st o fun x => putR X o.dst x st K
def runR (X : RX) (C : Ctx) (ops : List Oper) : List Oper → St → (St → Prop) → Prop
  | [], st, K => K st
  | o :: rest, st, K => guardR ops o st (stepR X C o st fun st => runR X C ops rest st K) (putR X o.dst (.v undef) st fun st => runR X C ops rest st K)
section
variable {X : RX} {C : Ctx} {E : Env} (hX : RXok X C E) {ops : Array Oper} {rest : List Oper} {o : Oper} {Q : AQ} {st : St} {K : St → Prop}
theorem putR_none {x : AV} (hd : o.dst = none) (h : putR X o.dst x st K) : K st := by rw [hd] at h; exact h
theorem putR_some {d : Nat} {x : AV} (h : putR X (some d) x st K) : d < X.nt ∧ K (st.put d x) := by
  unfold putR at h
  simp only [] at h
  split at h
  · rename_i hb
    rw [forceA_iff] at h
    cases st
    simp only [dropR_iff] at h
    exact ⟨by simpa using hb, h⟩
  · exact h.elim
include hX
/-- A value for the operation's slot. -/
theorem AL_val {x : AV} (hw : Wanted ops o st) (hy : Yields C E st o x none) (h : putR X o.dst x st K) (hK : ∀ st, K st → AL C E ops rest Q st) : AL C E ops (o :: rest) Q st := by
  cases hd : o.dst with
  | none => exact AL_y0 hw hd hy (hK _ (putR_none hd h))
  | some d =>
    rw [hd] at h
    obtain ⟨h1, h2⟩ := putR_some h
    exact AL_y hw hd (by rw [hX.nt]; exact h1) hy (hK _ h2)
theorem AL_skp (hw : Unwanted ops o st) (h : putR X o.dst (.v undef) st K) (hK : ∀ st, K st → AL C E ops rest Q st) : AL C E ops (o :: rest) Q st := by
  cases hd : o.dst with
  | none => exact AL_skip0 hw hd (hK _ (putR_none hd h))
  | some d =>
    rw [hd] at h
    obtain ⟨h1, h2⟩ := putR_some h
    exact AL_skip hw hd (by rw [hX.nt]; exact h1) (hK _ h2)
theorem AL_new {x : AV} {bc : BoxC} (hw : Wanted ops o st) (hy : Yields C E st.ext o x (some (st.boxes.length, bc))) (h : newR X o st x bc K) (hK : ∀ st, K st → AL C E ops rest Q st) : AL C E ops (o :: rest) Q st := by
  unfold newR at h
  cases hd : o.dst with
  | none => rw [hd] at h; exact h.elim
  | some d =>
    rw [hd] at h
    cases st
    simp only [snocR_iff] at h
    obtain ⟨h1, h2⟩ := putR_some h
    exact AL_b hw hd (by rw [hX.nt]; exact h1) hy (hK _ h2)
theorem stoR_sound {t : Nat} {x y : Operand} (hw : Wanted ops o st) (ho : o.op = .store t x y) (hd : o.dst = none) (h : stoR X st t (lk st x) (lk st y) K) (hK : ∀ st, K st → AL C E ops rest Q st) : AL C E ops (o :: rest) Q st := by
  unfold stoR at h
  split at h
  · rename_i i off hx
    obtain ⟨⟨n, r⟩, h1, h2⟩ := optR_dest h
    have hin := hX.T.lod_at h1
    obtain ⟨h3, h4⟩ := whenB_dest h2
    obtain ⟨h5, h6⟩ := whenB_dest h4
    rw [lk_eq] at h3 h5
    have h5 := lenIs_eq h5
    split at h6
    · rename_i tb cs hb
      rw [nthA_eq] at hb
      obtain ⟨h7, h8⟩ := whenB_dest h6
      have h7 := leB_le h7
      rw [forceS_iff, boxesR_iff, lk_eq] at h8
      have h5' : (st.look y).cellsA.length = n := h5
      have h7' : off + n ≤ cs.length := h7
      rw [ovw_eq _ _ _ (by rw [h5']; exact h7'), h5'] at h8
      exact AL_store hw ho hd (lk_look hx) hb hin h3 rfl h5' h7' rfl (hK _ h8)
    · rename_i tb sz els hb
      rw [nthA_eq] at hb
      obtain ⟨j, k, l, els', e1, e2, e3, e4, h8⟩ := h6
      rw [boxesR_iff] at h8
      subst e4
      rw [lk_eq] at h8
      exact AL_storeRow hw ho hd (lk_look hx) hb hin h3 rfl h5 e1 e2 e3 rfl (hK _ h8)
    · exact h6.elim
  · exact h.elim
theorem mapR_sound {t : Nat} {x y z : Operand} (hw : Wanted ops o st) (ho : o.op = .mapUpdate t x y z) (hd : o.dst = none) (h : mapR X st t (lk st x) (lk st y) (lk st z) K) (hK : ∀ st, K st → AL C E ops rest Q st) : AL C E ops (o :: rest) Q st := by
  unfold mapR at h
  split at h
  · rename_i i k hx hy
    obtain ⟨q, h1, h2⟩ := optR_dest h
    obtain ⟨h3, h4⟩ := AllP_mem hX.T.mpi _ (look1_mem h1)
    split at h2
    · rename_i d kvs hb
      rw [nthA_eq] at hb
      obtain ⟨e1, hk, kvs', hs, h5⟩ := h2
      subst e1
      rw [boxesR_iff] at h5
      replace hs := hs.eq
      rw [lk_eq] at hs
      exact AL_mapUpdate hw ho hd (lk_look hx) (lk_look hy) hb h3 hk hs (hK _ h5)
    · exact h2.elim
  · exact h.elim
theorem boxR_sound {e : Nat} {y : Operand} (hw : Wanted ops o st) (ho : o.op = .box e y) (h : boxR X o st e (lk st y) K) (hK : ∀ st, K st → AL C E ops rest Q st) : AL C E ops (o :: rest) Q st := by
  unfold boxR at h
  obtain ⟨h1, h2⟩ := whenB_dest h
  rw [forceS_iff, blenR_iff] at h2
  refine AL_new hX hw (Y_box ho (x := lk st y) ?_ h1 rfl) h2 hK
  rw [← lk_eq]
  rfl
theorem alcR_sound {e : Nat} (hw : Wanted ops o st) (ho : o.op = .alloc e) (h : alcR X o st e K) (hK : ∀ st, K st → AL C E ops rest Q st) : AL C E ops (o :: rest) Q st := by
  unfold alcR at h
  obtain ⟨z, h1, h2⟩ := optR_dest h
  obtain ⟨h3, h4⟩ := AllP_mem hX.T.zer _ (look1_mem h1)
  rw [forceS_iff, blenR_iff] at h2
  exact AL_new hX hw (Y_alloc ho h3 h4 rfl) h2 hK
theorem mmpR_sound {t : Nat} (hw : Wanted ops o st) (ho : o.op = .makeMap t none) (h : mmpR X o st t K) (hK : ∀ st, K st → AL C E ops rest Q st) : AL C E ops (o :: rest) Q st := by
  unfold mmpR at h
  obtain ⟨q, h1, h2⟩ := optR_dest h
  rw [blenR_iff] at h2
  exact AL_new hX hw (Y_makeMap q.1 ho) h2 hK
theorem mslR_sound {t : Nat} {y z : Operand} (hw : Wanted ops o st) (ho : o.op = .makeSlice t y z) (h : mslR X o st t (lk st y) (lk st z) K) (hK : ∀ st, K st → AL C E ops rest Q st) : AL C E ops (o :: rest) Q st := by
  unfold mslR at h
  split at h
  · rename_i k a k' c hy hz
    obtain ⟨⟨e, sz, by_⟩, h1, h2⟩ := optR_dest h
    obtain ⟨i, zv, e1, e2, e3, e4, e5, e6, e7⟩ := elemInfo_some (hX.T.app_at h1)
    have hy' : st.ext.look y = .v (.int k a) := lk_look (st := st) hy
    have hz' : st.ext.look z = .v (.int k' c) := lk_look (st := st) hz
    rcases h2 with ⟨rfl, ⟨h3, h4, h5⟩, h6⟩ | ⟨m, rfl, rfl, ⟨h3, h4⟩, h5⟩
    · rw [blenR_iff] at h6
      exact AL_new hX hw (Y_make0 ho hy' hz' e1 e2 e3 e6 h3 (by rw [e7]; exact h4) h5) h6 hK
    · obtain ⟨h6, h7⟩ := whenB_dest h5
      have h6 := beq_eq h6
      subst h6
      obtain ⟨zv', h8, h9⟩ := optR_dest h7
      obtain ⟨h10, h11⟩ := whenB_dest h9
      obtain ⟨els, h12, h13⟩ := h11
      have h14 := (AllP_mem hX.T.zer _ (look1_mem h8)).1
      have h14 : zeroOf C.P e = some zv' := h14
      unfold zeroOf at h14
      rw [e2, Option.bind_some, e3] at h14
      injection h14 with h14
      subst h14
      rw [blenR_iff] at h13
      exact AL_new hX hw (Y_make1 ho hy' hz' e1 e2 e3 e6 (cells_single h10) h10 (by rw [e7]; exact h3) h4 h12) h13 hK
  · exact h.elim
theorem apoR_sound {t : Nat} {x y : Operand} (hw : Wanted ops o st) (ho : o.op = .call { callee := .builtin .append, args := #[x, y], argTypes := #[t, t] }) (h : apoR X o st t (lk st x) (lk st y) K) (hK : ∀ st, K st → AL C E ops rest Q st) : AL C E ops (o :: rest) Q st := by
  unfold apoR at h
  split at h
  · rename_i i sz off n sz2 els2 hx hy
    obtain ⟨h1, h2⟩ := whenB_dest h
    have h1 := beq_eq h1
    subst h1
    obtain ⟨h3, h4⟩ := whenB_dest h2
    have h3 := beq_eq h3
    subst h3
    obtain ⟨⟨e, sz3, by_⟩, h5, h6⟩ := optR_dest h4
    have hin := hX.T.app_at h5
    split at h6
    · rename_i tb sz' els hb
      rw [nthA_eq] at hb
      obtain ⟨h7, h8⟩ := whenB_dest h6
      have h7 := beq_eq h7
      subst h7
      obtain ⟨h9, h10⟩ := whenB_dest h8
      have h9 : e = tb := beq_eq h9
      subst h9
      obtain ⟨h11, h12⟩ := whenB_dest h10
      have h11 : sz3 = sz' := beq_eq h11
      subst h11
      obtain ⟨h13, hn, ⟨h14, h15⟩, h16, h17, h18, m, els', rfl, rfl, h19⟩ := whenB_dest h12
      cases hd : o.dst with
      | none => rw [hd] at h19; exact h19.elim
      | some d =>
        rw [hd] at h19
        simp only [forceSt_iff] at h19
        obtain ⟨h20, h21⟩ := whenB_dest h19
        refine AL_append hw ho hd (by rw [hX.nt]; simpa using h20) (lk_look hx) (lk_look hy) hb hn hin h14 h15 ?_ (av_one (othersR_all h16)) h17 (h18 i) (hK _ h21)
        rcases Bool.or_eq_true _ _ ▸ h13 with h | h
        · exact .inl (by rw [hX.np]; exact Nat.le_of_ble_eq_true h)
        · exact .inr (hX.free i (by simpa using h))
    · exact h6.elim
  · exact h.elim
omit hX in
theorem view1_sees {x : AV} (h : view1Ok st x) : Sees C st x (view1 st x) := by
  cases x with
  | own i sz off n =>
    simp only [view1Ok] at h
    simp only [view1]
    split at h
    · rename_i tb sz' els hb
      obtain ⟨h1, h2⟩ := whenB_dest h
      have h1 := beq_eq h1
      subst h1
      obtain ⟨h3, h4, h5⟩ := whenB_dest h2
      have h3 := beq_eq h3
      subst h3
      rw [nthA_eq] at hb
      exact sees_own hb h4 h5
    · exact h.elim
  | ptr i off =>
    simp only [view1Ok] at h
    simp only [view1]
    split at h
    · rename_i tb cs hb
      obtain ⟨h1, _⟩ := whenB_dest h
      rw [nthA_eq] at hb
      exact sees_ptr hb (dropF_eq off cs).symm (closL_avoids h1)
    · exact h.elim
  | v u => exact sees_closed fun i => by simp [AV.avoids]
  | row sz els => exact sees_closed fun i => by simp [AV.avoids]
  | eptr l => exact sees_closed fun i => by simp [AV.avoids]
  | junk => exact sees_closed fun i => by simp [AV.avoids]
  | mp i => exact (whenB_dest (b := clos 3 (.mp i)) (A := True) h).1 |> fun h => by simp [clos] at h
  | fn f l => exact sees_closed (clos_avoids · (whenB_dest (b := clos 3 (.fn f l)) (A := True) h).1)
  | agg l => exact sees_closed (clos_avoids · (whenB_dest (b := clos 3 (.agg l)) (A := True) h).1)
  | tup l => exact sees_closed (clos_avoids · (whenB_dest (b := clos 3 (.tup l)) (A := True) h).1)
omit hX in
theorem viewC_sees : ∀ {l : List AV}, viewCOk st l → SeesL C st l (viewC st l)
  | [], _ => rfl
  | x :: l, h => ⟨_, _, rfl, view1_sees h.1, viewC_sees h.2⟩
omit hX in
theorem viewA_sees {x : AV} (h : viewOk st x) : Sees C st x (viewA st x) := by
  cases x with
  | fn f l => exact sees_fn (viewC_sees h)
  | _ => exact view1_sees h
omit hX in
theorem viewL_sees : ∀ {l : List AV}, viewLOk st l → SeesL C st l (viewL st l)
  | [], _ => rfl
  | x :: l, h => ⟨_, _, rfl, viewA_sees h.1, viewL_sees h.2⟩
theorem calR_sound {c : Operand} {args : Array Operand} {ts : Array TypeId} (hw : Wanted ops o st) (ho : o.op = .call { callee := .value c, args := args, argTypes := ts }) (h : calR X C st o.dst (lk st c) (mapLk st args.toList) K) (hK : ∀ st, K st → AL C E ops rest Q st) : AL C E ops (o :: rest) Q st := by
  unfold calR at h
  rw [mapLk_eq] at h
  split at h
  · rename_i f caps hc
    have hc' := lk_look hc
    split at h
    · rename_i h1 h2
      obtain ⟨x, h3, h4, h5, h6⟩ := h
      refine AL_val hX hw (Y_callK ho h4 hc' rfl (fun i => ?_) h3 h5) h6 hK
      rw [avoidsL_append, closL_avoids h1, closL_avoids h2]
      rfl
    · rcases h with ⟨x, h3, h4, ⟨h5, h6⟩, h7⟩ | ⟨s, args', bin, x, bout, hB, h8⟩
      · obtain ⟨h8, h9⟩ := whenB_dest h7
        refine AL_val hX hw (Y_call (caps := viewL st caps) ho h4 ?_ (viewL_sees h5) h3 (flatD_flat h8)) h9 hK
        rw [hc']
        exact sees_fn (viewL_sees h6)
      · obtain ⟨d, hd⟩ : ∃ d, o.dst = d := ⟨_, rfl⟩
        rw [hd] at h8
        refine AL_callB (d := d) (caps := dropF (args.toList.map st.look).length args') (l := args'.take (args.toList.map st.look).length) s hw ho hd (fun t ht => ?_) hB.fok (by rw [hc']; first | exact hB.hc | (rw [← hc]; exact hB.hc)) hB.hl (by rw [dropF_eq, List.take_append_drop]; exact hB.ac) hB.len hB.nd hB.bx hB.le hB.live hB.lim hB.limo hB.hx (fun j hj => ?_) (fun j hj => av_many (hB.av j hj)) ?_
        · subst ht
          obtain ⟨h9, _⟩ := whenB_dest h8
          rw [hX.nt]
          simpa using h9
        · rcases Bool.or_eq_true _ _ ▸ hB.pin j hj with h | h
          · exact .inl (by rw [hX.np]; exact Nat.le_of_ble_eq_true h)
          · exact .inr (hX.free j (by simpa using h))
        · cases d with
          | none => exact hK _ (forceSt_iff.1 h8)
          | some t =>
            obtain ⟨_, h9⟩ := whenB_dest h8
            exact hK _ (forceSt_iff.1 h9)
  · exact h.elim
theorem bsoR_sound {t len : Nat} {parts : Array (Nat × Operand)} (hw : Wanted ops o st) (ho : o.op = .buildSlice t len parts) (h : bsoR X o st t len (mapLk2 st parts.toList) K) (hK : ∀ st, K st → AL C E ops rest Q st) : AL C E ops (o :: rest) Q st := by
  unfold bsoR at h
  obtain ⟨⟨e, sz, zs⟩, h1, h2⟩ := optR_dest h
  have hin := AllP_mem hX.T.sls _ (look1_mem h1)
  obtain ⟨h3, h4⟩ := whenB_dest h2
  obtain ⟨h7, h8⟩ := whenB_dest h4
  obtain ⟨h9, h10⟩ := whenB_dest h8
  obtain ⟨flat, h11, h12⟩ := optR_dest h10
  obtain ⟨els, h13, h14⟩ := optR_dest h12
  obtain ⟨h15, h16⟩ := whenB_dest h14
  have h7 : 0 < sz := by simpa using h7
  have hz := lenIs_eq h3
  obtain ⟨e1, e2, e3⟩ := chunkO_some h13
  have hf := fillF_eq h11
  rw [e1, mapLk2_eq, ← zeroL_eq hz h7] at hf
  rw [blenR_iff] at h16
  refine AL_new hX hw (Y_buildSliceO ho hin (by have := Nat.le_of_ble_eq_true h9; omega) hf e2 e3 fun i => ?_) h16 hK
  have key : ∀ l ∈ els, AV.avoidsL i l = true := fun l hl => closL_avoids (allB_mem h15 l hl) i
  rw [← avoidsL_flatten]
  exact avoidsL_mem fun x hx => by
    obtain ⟨l, hl, hx⟩ := List.mem_flatten.1 hx
    exact clos_avoids i (allB_mem (allB_mem h15 l hl) x hx)
theorem nilR_sound {bo : BinOp} {t tr : Nat} {y z : Operand} {sz : Nat} {els : List (List AV)} (hw : Wanted ops o st) (ho : o.op = .binOp bo t y z tr) (hy : lk st y = .row sz els) (h : nilR X o st bo t els (lk st z) K) (hK : ∀ st, K st → AL C E ops rest Q st) : AL C E ops (o :: rest) Q st := by
  unfold nilR at h
  obtain ⟨h1, h2⟩ := whenB_dest h
  obtain ⟨e, h3, h4⟩ := optR_dest h2
  have ht := AllP_mem hX.T.slc _ (look1_mem h3)
  split at h4
  · exact h4.elim
  · rename_i d hd
    have hz := lk_look (isNilV_eq h1)
    split at h4
    · have hlt := (putR_some (h4 false (fun _ => rfl))).1
      exact AL_nilEq hw ho (lk_look hy) hz ht hd (by rw [hX.nt]; exact hlt) fun b hb => hK _ (putR_some (h4 b hb)).2
    · have hlt := (putR_some (h4 false (fun _ => rfl))).1
      exact AL_nilNe hw ho (lk_look hy) hz ht hd (by rw [hX.nt]; exact hlt) fun b hb => hK _ (putR_some (h4 b hb)).2
    · exact h4.elim
theorem stepR_sound (hw : Wanted ops o st) (h : stepR X C o st K) (hK : ∀ st, K st → AL C E ops rest Q st) : AL C E ops (o :: rest) Q st := by
  unfold stepR at h
  split at h
  · rename_i t x y ho
    split at h
    · rename_i hd; exact stoR_sound hX hw ho hd h hK
    · exact h.elim
  · rename_i t x y z ho
    split at h
    · rename_i hd; exact mapR_sound hX hw ho hd h hK
    · exact h.elim
  · rename_i e y ho; exact boxR_sound hX hw ho h hK
  · rename_i e ho; exact alcR_sound hX hw ho h hK
  · rename_i t ho; exact mmpR_sound hX hw ho h hK
  · rename_i t y z ho; exact mslR_sound hX hw ho h hK
  · rename_i t len parts ho
    split at h
    · exact bsoR_sound hX hw ho h hK
    · obtain ⟨x, hy, h2⟩ := bslR_sound (E := E) hX.T ho h
      exact AL_val hX hw hy h2 hK
  · rename_i bo t y z tr ho
    split at h
    · rename_i sz els hy
      exact nilR_sound hX hw ho hy h hK
    · obtain ⟨x, hy, h2⟩ := opR_sound (E := E) hX.T h
      exact AL_val hX hw hy h2 hK
  · rename_i args ts ho
    split at h
    · rename_i x y t t' ha ht
      have ha : args = #[x, y] := by cases args; simpa using ha
      have ht : ts = #[t, t'] := by cases ts; simpa using ht
      subst ha; subst ht
      obtain ⟨hq, h1⟩ := whenB_dest h
      have hq := beq_eq hq
      subst hq
      split at h1
      · obtain ⟨x, hy, h2⟩ := apnR_sound (E := E) hX.T ho h1
        exact AL_val hX hw hy h2 hK
      · exact apoR_sound hX hw ho h1 hK
    · exact h.elim
  · rename_i c args ts ho
    rw [forceS_iff] at h
    exact calR_sound hX hw ho h hK
  · obtain ⟨x, hy, h2⟩ := opR_sound (E := E) hX.T h
    exact AL_val hX hw hy h2 hK
theorem runR_sound : ∀ (rest : List Oper) (st : St) (K : St → Prop), (∀ st, K st → Q .normal st) → runR X C ops.toList rest st K → AL C E ops rest Q st
  | [], st, K, hK, h => AL_nil (hK _ h)
  | o :: rest, st, K, hK, h => by
    rw [runR] at h
    refine guardR_dest h (fun hw h' => ?_) (fun hw h' => ?_)
    · exact stepR_sound hX hw h' fun st h => runR_sound rest st K hK h
    · exact AL_skp hX hw h' fun st h => runR_sound rest st K hK h
end
end Go.Proofs.YtnfbomhhgjlacaaDoor.Abs
