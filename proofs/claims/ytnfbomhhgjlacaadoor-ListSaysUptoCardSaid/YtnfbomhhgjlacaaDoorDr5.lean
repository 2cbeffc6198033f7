/- Walks by computing: regions that draw their order; rows of the call's own. -/
import Derived.Test.YtnfbomhhgjlacaaDoorDr4
namespace Go.Proofs.YtnfbomhhgjlacaaDoor.Abs
open Go.RowKit Go.MapKept
set_option linter.unusedVariables false
set_option linter.unusedSimpArgs false
set_option linter.unusedSectionVars false
/-- A call that is handed no box. -/
def calV (C : Ctx) (st : St) (c : AV) (l : List AV) (K : AV → Prop) : Prop := match c with
  | .fn (.func f) caps => match allB (clos 3) l, allB (clos 3) caps with
    | true, true => ∃ x, AC C f (l ++ caps) x ∧ FnOk C.P f = true ∧ (∀ i, x.avoids i = true) ∧ K x
    | _, _ => ∃ x, AC C f (viewL st l ++ viewL st caps) x ∧ FnOk C.P f = true ∧ (viewLOk st l ∧ viewLOk st caps) ∧ whenB (flatD 4 x) (K x)
  | _ => False
def drwC (X : RX) (C : Ctx) (ops : List Oper) (o : Oper) (st : St) (K : AV → Prop) : Prop :=
  guardR ops o st (match o.op with
    | .call { callee := .value c, args := args, argTypes := _ } => forceS (mapLk st args.toList) fun l => calV C st (lk st c) l K
    | _ => opR C X.T st o K) (K (.v undef))
def memB (j : Nat) : List Nat → Bool
  | [] => false
  | k :: l => match Nat.beq k j with
    | true => true
    | false => memB j l
theorem memB_iff {j : Nat} : ∀ {l : List Nat}, memB j l = true ↔ j ∈ l
  | [] => by simp [memB]
  | k :: l => by
    rw [memB]
    split
    · rename_i h
      have := Nat.eq_of_beq_eq_true h
      subst this
      simp
    · rename_i h
      rw [memB_iff]
      have : j ≠ k := fun e => by subst e; simp at h
      simp [this]
def hasW (j : Nat) : List (Nat × Nat) → Bool
  | [] => false
  | p :: l => match Nat.beq p.1 j with
    | true => true
    | false => hasW j l
theorem hasW_iff {j : Nat} : ∀ {l : List (Nat × Nat)}, hasW j l = true ↔ ∃ d, (j, d) ∈ l
  | [] => by simp [hasW]
  | (k, d) :: l => by
    rw [hasW]
    split
    · rename_i h
      have := Nat.eq_of_beq_eq_true h
      simp only at this
      subst this
      simp
    · rename_i h
      rw [hasW_iff]
      have : j ≠ k := fun e => by subst e; simp at h
      simp [this]
def bxAt (w : List (Nat × Nat)) (bs : List (Nat × BoxC)) (j : Nat) : BoxC := match hasW j w with
  | false => .none
  | true => match look1 j bs with
    | some b => b
    | none => .none
def filtM (ds : List Nat) : List (Nat × AV) → List (Nat × AV)
  | [] => []
  | p :: l => match memB p.1 ds with
    | true => filtM ds l
    | false => p :: filtM ds l
theorem filtM_eq (ds : List Nat) : ∀ l : List (Nat × AV), filtM ds l = l.filter (fun p => !ds.contains p.1)
  | [] => rfl
  | p :: l => by
    rw [filtM, filtM_eq ds l]
    cases h : memB p.1 ds with
    | true =>
      have := memB_iff.1 h
      rw [List.filter_cons_of_neg (by simp [this])]
    | false =>
      have : p.1 ∉ ds := fun hm => by rw [memB_iff.2 hm] at h; cases h
      rw [List.filter_cons_of_pos (by simp [this])]
def getA (rs : List AV) (n : Nat) : AV := match nthA rs n with
  | some x => x
  | none => .junk
theorem getA_eq (rs : List AV) (n : Nat) : getA rs n = rs.getD n .junk := by
  unfold getA
  rw [nthA_eq, List.getD_eq_getElem?_getD]
  cases rs[n]? <;> rfl
def waitL (rs : List AV) : List (Nat × Nat) → List (Nat × AV)
  | [] => []
  | p :: l => (p.2, getA rs p.1) :: waitL rs l
theorem waitL_eq (rs : List AV) : ∀ w, waitL rs w = w.map fun p => (p.2, rs.getD p.1 .junk)
  | [] => rfl
  | p :: l => by rw [waitL, waitL_eq rs l, getA_eq]; rfl
/-- One more at the end, laid open. -/
def snocA (x : AV) : List AV → (List AV → Prop) → Prop
  | [], K => K [x]
  | c :: l, K => snocA x l fun l => K (c :: l)
theorem snocA_iff {x : AV} : ∀ {l : List AV} {K : List AV → Prop}, snocA x l K ↔ K (l ++ [x])
  | [], K => Iff.rfl
  | c :: l, K => by rw [snocA, snocA_iff]; rfl
/-- The state of those that an operation waits for; bi: the operations that lay boxes. -/
def calmG (st : St) (ds : List Nat) (bi : List Nat) (w : List (Nat × Nat)) (rs : List AV) (bs : List (Nat × BoxC)) : St := ⟨waitL rs w ++ filtM ds st.slots, st.boxes ++ bi.map (bxAt w bs)⟩
theorem calmG_eq (st : St) (ds : List Nat) (bi : List Nat) (w : List (Nat × Nat)) (rs : List AV) (bs : List (Nat × BoxC)) : calmG st ds bi w rs bs = ⟨(w.map fun p => (p.2, rs.getD p.1 .junk)) ++ st.slots.filter (fun p => !ds.contains p.1), st.boxes ++ bi.map (bxAt w bs)⟩ := by
  unfold calmG
  rw [waitL_eq, filtM_eq]
def befL (j : Nat) : List Nat → List BoxC
  | [] => []
  | k :: l => match Nat.beq k j with
    | true => []
    | false => .none :: befL j l
/-- An operation that lays a box. -/
def drwN (X : RX) (o : Oper) (s : St) (m : Nat) (K : AV → BoxC → Prop) : Prop := match o.guard with
  | some _ => False
  | none => match o.op with
    | .alloc e => optR (look1 e X.T.zer) fun z => forceS (z.cells.toList.map .v) fun cs => K (.ptr m 0) (.cells e cs)
    | .box e y => whenB (lk s y).whole <| forceS (lk s y).cellsA fun cs => K (.ptr m 0) (.cells e cs)
    | _ => False
def drawE (X : RX) (C : Ctx) (ops : List Oper) (st : St) (ds bi : List Nat) : List Oper → List (List (Nat × Nat)) → Nat → List AV → List (Nat × BoxC) → (List AV → List (Nat × BoxC) → Prop) → Prop
  | o :: os, w :: ws, i, rs, bs, K => forceSt (calmG st ds bi w rs bs) fun s => match memB i bi with
    | false => drwC X C ops o s fun x => forceA x fun x => snocA x rs fun rs => drawE X C ops st ds bi os ws (i + 1) rs bs K
    | true => blenR (st.boxes ++ befL i bi) fun m => drwN X o s m fun x bc => snocA x rs fun rs => drawE X C ops st ds bi os ws (i + 1) rs (bs ++ [(i, bc)]) K
  | [], [], _, rs, bs, K => K rs bs
  | _, _, _, _, _, _ => False
def wtsOf (ops : Array Oper) (n i : Nat) : List (Nat × Nat) := (List.range n).filterMap fun j => if calmWaits ops i j then (dstOf ops j).map fun d => (j, d) else none
def allW (ops : Array Oper) (n : Nat) : List (Nat × Nat) := (List.range n).filterMap fun j => (dstOf ops j).map fun d => (j, d)
/-- What is fixed of a region that draws. -/
structure DrawOk (X : RX) (ops : Array Oper) (n : Nat) (ws : List (List (Nat × Nat))) (ds bi : List Nat) (wa : List (Nat × Nat)) : Prop where
  B : calmB n ops = true
  d : ((List.range n).all fun i => match dstOf ops i with | some d => Nat.blt d X.nt | none => false) = true
  w : (List.range n).map (wtsOf ops n) = ws
  dd : dstsN ops n = ds
  nd : ds.Nodup
  wa : allW ops n = wa
  lt : ((List.range n).all fun i => (ws.getD i []).all fun p => Nat.blt p.1 i) = true
  sz : Nat.ble n ops.toList.length = true
  bnd : bi.Nodup
  blt : (bi.all fun i => Nat.blt i n) = true
/-- Ways that come together. -/
structure JoinEnd (C : Ctx) (E : Env) (p : Prop) (s st' : St) : Prop where
  fact : p
  run : Drops C E s st'
def joinW (C : Ctx) (E : Env) (p : Prop) (st' : St) (Q : AQ) : AQ := fun e s => match e with
  | .normal => JoinEnd C E p s st'
  | .exit j => Q (.exit j) s
  | .ret => Q .ret s
  | e => Q e s
section
variable {X : RX} {C : Ctx} {E : Env} (hX : RXok X C E) {ops : Array Oper} {Q : AQ} {st : St} {ds bi : List Nat}
def GoodOp (C : Ctx) (E : Env) (ops : Array Oper) (o : Oper) (s : St) (r : AV) (nb : Option (Nat × BoxC)) : Prop := (Wanted ops o s ∧ Yields C E s o r nb) ∨ (Unwanted ops o s ∧ r = .v undef ∧ nb = none)
theorem calV_sound {o : Oper} {c : Operand} {args : Array Operand} {ts : Array TypeId} {K : AV → Prop} (ho : o.op = .call { callee := .value c, args := args, argTypes := ts }) (h : calV C st (lk st c) (mapLk st args.toList) K) : ∃ x, Yields C E st o x none ∧ K x := by
  unfold calV at h
  rw [mapLk_eq] at h
  split at h
  · rename_i f caps hc
    have hc' := lk_look hc
    split at h
    · rename_i h1 h2
      obtain ⟨x, h3, h4, h5, h6⟩ := h
      refine ⟨x, Y_callK ho h4 hc' rfl (fun i => ?_) h3 h5, h6⟩
      rw [avoidsL_append, closL_avoids h1, closL_avoids h2]
      rfl
    · obtain ⟨x, h3, h4, ⟨h5, h6⟩, h7⟩ := h
      obtain ⟨h8, h9⟩ := whenB_dest h7
      refine ⟨x, Y_call (caps := viewL st caps) ho h4 ?_ (viewL_sees h5) h3 (flatD_flat h8), h9⟩
      rw [hc']
      exact sees_fn (viewL_sees h6)
  · exact h.elim
include hX
theorem drwC_sound {o : Oper} {s : St} {K : AV → Prop} (h : drwC X C ops.toList o s K) : ∃ x, GoodOp C E ops o s x none ∧ K x := by
  unfold drwC at h
  refine guardR_dest h (fun hw h' => ?_) (fun hw h' => ⟨_, .inr ⟨hw, rfl, rfl⟩, h'⟩)
  split at h'
  · rename_i c args ts ho
    rw [forceS_iff] at h'
    obtain ⟨x, h1, h2⟩ := calV_sound (E := E) ho h'
    exact ⟨x, .inl ⟨hw, h1⟩, h2⟩
  · obtain ⟨x, h1, h2⟩ := opR_sound (E := E) hX.T h'
    exact ⟨x, .inl ⟨hw, h1⟩, h2⟩
theorem drwN_sound {o : Oper} {s : St} {m : Nat} {K : AV → BoxC → Prop} (h : drwN X o s m K) : ∃ x bc, GoodOp C E ops o s x (some (m, bc)) ∧ K x bc := by
  unfold drwN at h
  split at h
  · exact h.elim
  · rename_i hg
    split at h
    · rename_i e ho
      obtain ⟨z, h1, h2⟩ := optR_dest h
      obtain ⟨h3, h4⟩ := AllP_mem hX.T.zer _ (look1_mem h1)
      rw [forceS_iff] at h2
      exact ⟨_, _, .inl ⟨.inl hg, Y_alloc ho h3 h4 rfl⟩, h2⟩
    · rename_i e y ho
      obtain ⟨h1, h2⟩ := whenB_dest h
      rw [forceS_iff] at h2
      exact ⟨_, _, .inl ⟨.inl hg, Y_box ho (x := lk s y) (by rw [← lk_eq]) h1 rfl⟩, h2⟩
    · exact h.elim
omit hX in
theorem getD_pre {rs l : List AV} {j : Nat} (h : j < rs.length) : (rs ++ l).getD j .junk = rs.getD j .junk := by
  rw [List.getD_eq_getElem?_getD, List.getD_eq_getElem?_getD, List.getElem?_append_left h]
omit hX in
theorem look1_app {α : Type} {j : Nat} {l m : List (Nat × α)} (h : (look1 j l).isSome = true) : look1 j (l ++ m) = look1 j l := by
  induction l with
  | nil => cases h
  | cons p l ih =>
    rw [List.cons_append, look1, look1]
    split
    · rfl
    · rename_i hb
      rw [look1, hb] at h
      exact ih h
omit hX in
theorem look1_last {α : Type} {j : Nat} {x : α} {l : List (Nat × α)} (h : look1 j l = none) : look1 j (l ++ [(j, x)]) = some x := by
  induction l with
  | nil => simp [look1]
  | cons p l ih =>
    rw [look1] at h
    split at h
    · cases h
    · rename_i hb
      rw [List.cons_append, look1, hb]
      exact ih h
omit hX in
theorem look1_none {α : Type} {j : Nat} {l : List (Nat × α)} (h : ∀ p ∈ l, p.1 ≠ j) : look1 j l = none := by
  induction l with
  | nil => rfl
  | cons p l ih =>
    rw [look1]
    split
    · rename_i hb
      exact absurd (Nat.eq_of_beq_eq_true hb) (h p (List.mem_cons_self ..))
    · exact ih fun q hq => h q (List.mem_cons_of_mem _ hq)
omit hX in
theorem calmG_pre {w : List (Nat × Nat)} {rs l : List AV} {bs lb : List (Nat × BoxC)} {i : Nat} (hw : ∀ p ∈ w, p.1 < rs.length) (hb : ∀ j ∈ bi, j < rs.length → (look1 j bs).isSome = true) : calmG st ds bi w (rs ++ l) (bs ++ lb) = calmG st ds bi w rs bs := by
  rw [calmG_eq, calmG_eq]
  congr 1
  · congr 1
    exact List.map_congr_left fun p hp => by rw [getD_pre (hw p hp)]
  · congr 1
    refine List.map_congr_left fun j hj => ?_
    unfold bxAt
    split
    · rfl
    · rename_i h
      obtain ⟨d, hd⟩ := hasW_iff.1 h
      rw [look1_app (hb j hj (hw _ hd))]
theorem drawE_sound : ∀ (os : List Oper) (ws : List (List (Nat × Nat))) (rs : List AV) (bs : List (Nat × BoxC)) (K : List AV → List (Nat × BoxC) → Prop), (∀ i w, ws[i]? = some w → ∀ p ∈ w, p.1 < rs.length + i) → (∀ j ∈ bi, j < rs.length → (look1 j bs).isSome = true) → (∀ p ∈ bs, p.1 < rs.length ∧ p.1 ∈ bi) → drawE X C ops.toList st ds bi os ws rs.length rs bs K →
    ∃ (l : List AV) (lb : List (Nat × BoxC)), l.length = os.length ∧ (∀ (i : Nat) (o : Oper) (w : List (Nat × Nat)), os[i]? = some o → ws[i]? = some w → GoodOp C E ops o (calmG st ds bi w (rs ++ l) (bs ++ lb)) ((rs ++ l).getD (rs.length + i) .junk) (match memB (rs.length + i) bi with | false => none | true => (look1 (rs.length + i) (bs ++ lb)).map fun b => (st.boxes.length + (befL (rs.length + i) bi).length, b))) ∧ os.length = ws.length ∧ (∀ p ∈ lb, rs.length ≤ p.1 ∧ p.1 < rs.length + os.length ∧ p.1 ∈ bi) ∧ (∀ j ∈ bi, j < rs.length + os.length → (look1 j (bs ++ lb)).isSome = true) ∧ K (rs ++ l) (bs ++ lb)
  | [], [], rs, bs, K, hw, hb, hm, h => ⟨[], [], rfl, fun i o w h => (by simp at h), rfl, fun p hp => (by cases hp), fun j hj hl => (by rw [List.append_nil]; exact hb j hj (by simpa using hl)), (by rw [List.append_nil, List.append_nil]; exact h)⟩
  | [], _ :: _, _, _, _, _, _, _, h => h.elim
  | _ :: _, [], _, _, _, _, _, _, h => h.elim
  | o :: os, w :: ws, rs, bs, K, hw, hb, hm, h => by
    rw [drawE, forceSt_iff] at h
    have hw0 : ∀ p ∈ w, p.1 < rs.length := fun p hp => by simpa using hw 0 w rfl p hp
    have tail : ∀ (x : AV) (bs' : List (Nat × BoxC)), (∀ j ∈ bi, j < (rs ++ [x]).length → (look1 j (bs ++ bs')).isSome = true) → (∀ p ∈ bs', p.1 = rs.length ∧ p.1 ∈ bi) → GoodOp C E ops o (calmG st ds bi w rs bs) x (match memB rs.length bi with | false => none | true => (look1 rs.length (bs ++ bs')).map fun b => (st.boxes.length + (befL rs.length bi).length, b)) → drawE X C ops.toList st ds bi os ws (rs.length + 1) (rs ++ [x]) (bs ++ bs') K →
        ∃ (l : List AV) (lb : List (Nat × BoxC)), l.length = (o :: os).length ∧ (∀ (i : Nat) (o' : Oper) (w' : List (Nat × Nat)), (o :: os)[i]? = some o' → (w :: ws)[i]? = some w' → GoodOp C E ops o' (calmG st ds bi w' (rs ++ l) (bs ++ lb)) ((rs ++ l).getD (rs.length + i) .junk) (match memB (rs.length + i) bi with | false => none | true => (look1 (rs.length + i) (bs ++ lb)).map fun b => (st.boxes.length + (befL (rs.length + i) bi).length, b))) ∧ (o :: os).length = (w :: ws).length ∧ (∀ p ∈ lb, rs.length ≤ p.1 ∧ p.1 < rs.length + (o :: os).length ∧ p.1 ∈ bi) ∧ (∀ j ∈ bi, j < rs.length + (o :: os).length → (look1 j (bs ++ lb)).isSome = true) ∧ K (rs ++ l) (bs ++ lb) := by
      intro x bs' hb' hm' hg hrest
      have e3 : (rs ++ [x]).length = rs.length + 1 := by simp
      obtain ⟨l, lb, h3, h4, h5, h6, h8, h7⟩ := drawE_sound os ws (rs ++ [x]) (bs ++ bs') K (fun i w' hi p hp => by
        have := hw (i + 1) w' (by simpa using hi) p hp
        simp; omega) hb' (fun p hp => by
        rcases List.mem_append.1 hp with hp | hp
        · have := hm p hp; exact ⟨by rw [e3]; omega, this.2⟩
        · have := hm' p hp; exact ⟨by rw [e3]; omega, this.2⟩) (by rw [show (rs ++ [x]).length = rs.length + 1 by simp]; exact hrest)
      have e1 : rs ++ x :: l = rs ++ [x] ++ l := by simp
      have e2 : bs ++ (bs' ++ lb) = bs ++ bs' ++ lb := by simp
      refine ⟨x :: l, bs' ++ lb, by simp [h3], fun i o' w' ho' hw' => ?_, by simp [h5], fun p hp => ?_, fun j hj hl => ?_, by rw [e1, e2]; exact h7⟩
      · cases i with
        | zero =>
          have ho' : o = o' := by simpa using ho'
          have hw'' : w = w' := by simpa using hw'
          subst ho'; subst hw''
          rw [calmG_pre (i := 0) hw0 hb, Nat.add_zero]
          rw [show (rs ++ x :: l).getD rs.length .junk = x by simp [List.getD_eq_getElem?_getD]]
          cases hmb : memB rs.length bi with
          | false => rw [hmb] at hg; exact hg
          | true =>
            rw [hmb] at hg
            simp only [] at hg ⊢
            rw [e2, look1_app (hb' _ (memB_iff.1 hmb) (by simp))]
            exact hg
        | succ i =>
          have := h4 i o' w' (by simpa using ho') (by simpa using hw')
          rw [e3, show rs.length + 1 + i = rs.length + (i + 1) by omega] at this
          rw [e1, e2]
          exact this
      · rcases List.mem_append.1 hp with hp | hp
        · obtain ⟨q1, q2⟩ := hm' p hp; exact ⟨by omega, by rw [List.length_cons]; omega, q2⟩
        · obtain ⟨q1, q2, q3⟩ := h6 p hp; rw [e3] at q1 q2; exact ⟨by omega, by rw [List.length_cons]; omega, q3⟩
      · rw [e2]; exact h8 j hj (by rw [e3]; simp at hl; omega)
    cases hmb : memB rs.length bi with
    | false =>
      rw [hmb] at h
      obtain ⟨x, hg, h2⟩ := drwC_sound hX h
      rw [forceA_iff, snocA_iff] at h2
      refine tail x [] (fun j hj hl => ?_) (fun p hp => by cases hp) (by rw [hmb]; exact hg) (by rw [List.append_nil]; exact h2)
      rw [List.append_nil]
      refine hb j hj ?_
      have : j ≠ rs.length := fun e => by subst e; rw [memB_iff.2 hj] at hmb; cases hmb
      simp at hl
      omega
    | true =>
      rw [hmb] at h
      simp only [blenR_iff, List.length_append] at h
      obtain ⟨x, bc, hg, h2⟩ := drwN_sound (C := C) (E := E) (ops := ops) hX h
      rw [snocA_iff] at h2
      have hno : look1 rs.length bs = none := look1_none fun p hp e => by have := (hm p hp).1; omega
      refine tail x [(rs.length, bc)] (fun j hj hl => ?_) (fun p hp => by rw [List.mem_singleton] at hp; subst hp; exact ⟨rfl, memB_iff.1 hmb⟩) (by rw [hmb]; simp only []; rw [look1_last hno]; exact hg) h2
      by_cases e : j = rs.length
      · subst e; rw [look1_last hno]; rfl
      · have h1 := hb j hj (by simp at hl; omega)
        rw [look1_app h1]; exact h1
omit hX in
theorem bs_at {bs : List (Nat × BoxC)} (hf : bs.map (·.1) = bi) (hnd : bi.Nodup) {w : List (Nat × Nat)} : bi.map (bxAt w bs) = bs.map fun p => if hasW p.1 w = true then p.2 else .none := by
  subst hf
  rw [List.map_map]
  refine List.map_congr_left fun p hp => ?_
  have hl : look1 p.1 bs = some p.2 := by
    induction bs with
    | nil => cases hp
    | cons q bs ih =>
      rw [List.map_cons, List.nodup_cons] at hnd
      rcases List.mem_cons.1 hp with rfl | hp
      · simp [look1]
      · rw [look1]
        split
        · rename_i hb
          have := Nat.eq_of_beq_eq_true hb
          exact absurd (by rw [this]; exact List.mem_map_of_mem (f := (·.1)) hp) hnd.1
        · exact ih hnd.2 hp
  show bxAt w bs p.1 = _
  unfold bxAt
  rw [hl]
  cases hasW p.1 w <;> rfl
omit hX in
theorem calm_wts {n i : Nat} {rs : List AV} {bs : List (Nat × BoxC)} (hf : bs.map (·.1) = bi) (hnd : bi.Nodup) (hd : ∀ p ∈ bs, ∃ d, dstOf ops p.1 = some d ∧ p.1 < n) : st.calm ops n rs bs (calmWaits ops i) = calmG st (dstsN ops n) bi (wtsOf ops n i) rs bs := by
  rw [calmG_eq]
  unfold St.calm
  rw [bs_at hf hnd]
  congr 1
  · congr 1
    unfold wtsOf
    rw [List.map_filterMap]
    congr 1
    funext j
    split
    · cases dstOf ops j <;> rfl
    · rfl
  · congr 1
    refine List.map_congr_left fun p hp => ?_
    obtain ⟨d, h1, h2⟩ := hd p hp
    have : hasW p.1 (wtsOf ops n i) = calmWaits ops i p.1 := by
      rw [Bool.eq_iff_iff, hasW_iff]
      unfold wtsOf
      simp only [List.mem_filterMap, List.mem_range]
      constructor
      · rintro ⟨d', j, hj, h3⟩
        split at h3
        · rename_i hc
          rw [Option.map_eq_some_iff] at h3
          obtain ⟨_, _, h4⟩ := h3
          injection h4 with h4
          rw [← h4]
          exact hc
        · cases h3
      · intro hc
        exact ⟨d, p.1, h2, by rw [if_pos hc, h1]; rfl⟩
    rw [this]
omit hX in
theorem calm_all {n : Nat} {rs : List AV} {bs : List (Nat × BoxC)} (hf : bs.map (·.1) = bi) (hnd : bi.Nodup) (hd : ∀ p ∈ bs, ∃ d, dstOf ops p.1 = some d ∧ p.1 < n) : st.calm ops n rs bs (fun _ => true) = calmG st (dstsN ops n) bi (allW ops n) rs bs := by
  rw [calmG_eq]
  unfold St.calm
  rw [bs_at hf hnd]
  congr 1
  · congr 1
    unfold allW
    rw [List.map_filterMap]
    congr 1
    funext j
    cases dstOf ops j <;> rfl
  · congr 1
    refine List.map_congr_left fun p hp => ?_
    obtain ⟨d, h1, h2⟩ := hd p hp
    have : hasW p.1 (allW ops n) = true := hasW_iff.2 ⟨d, by
      unfold allW
      exact List.mem_filterMap.2 ⟨p.1, List.mem_range.2 h2, by rw [h1]; rfl⟩⟩
    rw [this]
omit hX in
theorem boxAt_look : ∀ {bs : List (Nat × BoxC)} {len i : Nat}, (bs.map (·.1)).Nodup → boxAt len bs i = match memB i (bs.map (·.1)) with | false => none | true => (look1 i bs).map fun b => (len + (befL i (bs.map (·.1))).length, b)
  | [], len, i, _ => rfl
  | p :: bs, len, i, h => by
    rw [List.map_cons, List.nodup_cons] at h
    rw [boxAt, List.map_cons, memB, look1, befL]
    by_cases e : p.1 = i
    · have hb : Nat.beq p.1 i = true := by rw [e]; simp
      rw [if_pos e, hb]
      rfl
    · have hb : Nat.beq p.1 i = false := by
        cases hq : Nat.beq p.1 i with
        | false => rfl
        | true => exact absurd (Nat.eq_of_beq_eq_true hq) e
      rw [if_neg e, hb, boxAt_look h.2]
      simp only []
      cases memB i (bs.map (·.1)) with
      | false => rfl
      | true =>
        simp only []
        cases look1 i bs with
        | none => rfl
        | some b => simp only [Option.map_some, List.length_cons]; congr 2; omega
def sameL : List Nat → List Nat → Bool
  | [], [] => true
  | a :: l, b :: m => match Nat.beq a b with
    | true => sameL l m
    | false => false
  | _, _ => false
omit hX in
theorem sameL_eq : ∀ {l m : List Nat}, sameL l m = true → l = m
  | [], [], _ => rfl
  | a :: l, b :: m, h => by
    rw [sameL] at h
    split at h
    · rename_i hb
      rw [Nat.eq_of_beq_eq_true hb, sameL_eq h]
    · cases h
  | [], _ :: _, h => by cases h
  | _ :: _, [], h => by cases h
/-- A region that draws its order: the first n operations in any order, each in the state of those that it waits for. -/
theorem W_draw {id n : Nat} (hm : C.P.follows .mixedOrders = true) {ws : List (List (Nat × Nat))} {ds bi : List Nat} {wa : List (Nat × Nat)} (hD : DrawOk X ops n ws ds bi wa)
    (h : drawE X C ops.toList st ds bi (ops.toList.take n) ws 0 [] [] fun rs bs => (whenB (sameL (bs.map (·.1)) bi) True ∧ whenB (calmAv ops n st.boxes.length rs bs) True ∧ whenB (boxAvB st.boxes.length bs) True ∧ whenB (allB (fun x => Nat.ble x.maxB (st.boxes.length + bs.length)) rs) True) ∧ forceSt (calmG st ds bi wa rs bs) fun s => runR X C ops.toList (dropF n ops.toList) s fun st => Q .normal st) : W X C E (.region id ops true) Q st := by
  obtain ⟨hB, hd, hw, hds, hnd, hwa, hlt, hsz, hbnd, hblt⟩ := hD
  have hsz := Nat.le_of_ble_eq_true hsz
  have hwl : ws.length = n := by rw [← hw]; simp
  have hwi : ∀ i, i < n → ws[i]? = some (wtsOf ops n i) := fun i hi => by rw [← hw]; simp [hi]
  obtain ⟨rs, bs, h1, h2, h3, h9, h10, h4⟩ := drawE_sound hX _ _ [] [] _ (fun i w hi p hp => by
    have hin : i < n := by have := (List.getElem?_eq_some_iff.1 hi).1; omega
    have h5 := List.all_eq_true.1 (List.all_eq_true.1 hlt i (List.mem_range.2 hin)) p (by rw [List.getD_eq_getElem?_getD, hi]; exact hp)
    have h5 : p.1 < i := by simpa using h5
    simpa using h5) (fun j hj hl => absurd hl (Nat.not_lt_zero _)) (fun p hp => by cases hp) h
  simp only [List.nil_append, List.length_nil, Nat.zero_add] at h2 h4 h9
  have hrl : rs.length = n := by rw [h1, List.length_take]; omega
  obtain ⟨⟨c1, c2, c3, c4⟩, h6⟩ := h4
  have hf := sameL_eq (whenB_dest c1).1
  have c2 := (whenB_dest c2).1
  have c3 := (whenB_dest c3).1
  have c4 := (whenB_dest c4).1
  rw [forceSt_iff] at h6
  have hdst : ∀ i, i < n → ∃ d, dstOf ops i = some d ∧ d < X.nt := fun i hi => by
    have := List.all_eq_true.1 hd i (List.mem_range.2 hi)
    split at this
    · rename_i d hd'
      exact ⟨d, hd', by simpa using this⟩
    · cases this
  have hbl : ∀ p ∈ bs, p.1 < n := fun p hp => by
    have : p.1 ∈ bi := by rw [← hf]; exact List.mem_map_of_mem (f := (·.1)) hp
    simpa using List.all_eq_true.1 hblt _ this
  have hbd : ∀ p ∈ bs, ∃ d, dstOf ops p.1 = some d ∧ p.1 < n := fun p hp => by
    obtain ⟨d, h, _⟩ := hdst p.1 (hbl p hp)
    exact ⟨d, h, hbl p hp⟩
  refine ⟨AW_draw (n := n) rs bs hm hB ?_ (by rw [hds]; exact hnd) (by rw [hf]; exact hbnd) (List.all_eq_true.2 fun p hp => decide_eq_true (hbl p hp)) c2 c3 (fun i hi k hk => ?_) (fun i hi => ?_) ?_⟩
  · refine List.all_eq_true.2 fun i hi => ?_
    obtain ⟨d, h, h'⟩ := hdst i (List.mem_range.1 hi)
    rw [h]
    rw [hX.nt]
    simpa using h'
  · have : (rs.getD i .junk).maxB ≤ st.boxes.length + bs.length := by
      rw [List.getD_eq_getElem?_getD, List.getElem?_eq_getElem (by omega)]
      exact Nat.le_of_ble_eq_true (allB_mem c4 _ (List.getElem_mem _))
    exact maxB_avoids _ (by omega)
  · obtain ⟨o, ho⟩ : ∃ o, ops[i]? = some o := ⟨ops[i]'(by simp at hsz; omega), Array.getElem?_eq_getElem _⟩
    have ho' : (ops.toList.take n)[i]? = some o := by rw [List.getElem?_take, if_pos hi, Array.getElem?_toList]; exact ho
    refine ⟨o, ho, ?_⟩
    have hg := h2 i o _ ho' (hwi i hi)
    rw [calm_wts hf hbnd hbd, hds, boxAt_look (by rw [hf]; exact hbnd), hf]
    rcases hg with ⟨h7, h8⟩ | ⟨h7, h8, h9⟩
    · exact .inl ⟨h7, h8⟩
    · exact .inr ⟨h7, .inr h8, h9⟩
  · rw [calm_all hf hbnd hbd, hds, hwa]
    rw [dropF_eq] at h6
    exact runR_sound hX _ _ _ (fun _ h => h) h6
omit hX in
theorem W_join {a b : Code} (p : Prop) (st' : St) (h : W X C E a (joinW C E p st' Q) st) (h2 : p → W X C E b Q st') : W X C E a (thenW X C E b Q) st :=
  ⟨AW_up (fun e s hs => by
    cases e with
    | normal => exact ⟨st', hs.run, h2 hs.fact⟩
    | _ => exact ⟨s, Drops.refl s, hs⟩) h.run⟩
omit hX in
theorem cnd_join {x : AV} {a c b : Code} (p : Prop) (st' : St) (h : cndR X C E x a c (joinW C E p st' Q) st) (h2 : p → W X C E b Q st') : cndR X C E x a c (thenW X C E b Q) st := by
  unfold cndR at h ⊢
  split at h
  · rename_i t
    refine condB_dest h (fun e h => ?_) (fun e h => ?_)
    · subst e; exact W_join p st' h h2
    · subst e; exact W_join p st' h h2
  · exact h
omit hX in
theorem W_eq {c : Code} {st' : St} (he : st = st') (h : W X C E c Q st') : W X C E c Q st := he ▸ h
theorem W_nilOwn {c : Code} (t tb sz : Nat) (hx : lkS t st.slots = .v (.slice none 0 0)) (hlt : Nat.blt t X.nt = true) (h : forceSt ((st.add (.row tb sz [])).imp t (.own st.boxes.length sz 0 0)) fun s => W X C E c Q s) : W X C E c Q st := by
  rw [forceSt_iff] at h
  refine ⟨AW_nilOwn (t := t) (sz := sz) tb ?_ (by rw [hX.nt]; simpa using hlt) rfl h.run⟩
  rcases lkS_mem (l := st.slots) (k := t) with h' | h'
  · rw [hx] at h'; cases h'
  · rw [hx] at h'; exact h'
theorem W_nilRow {c : Code} (t sz : Nat) (hx : lkS t st.slots = .v (.slice none 0 0)) (h : forceSt (st.imp t (.row sz [])) fun s => W X C E c Q s) : W X C E c Q st := by
  rw [forceSt_iff] at h
  refine ⟨AW_nilRow (t := t) (sz := sz) ?_ rfl h.run⟩
  rcases lkS_mem (l := st.slots) (k := t) with h' | h'
  · rw [hx] at h'; cases h'
  · rw [hx] at h'; exact h'
omit hX in
/-- A nil slice in cell j of box k that will be appended to. -/
theorem W_nilBox {c : Code} (k j tb sz : Nat) {t : TypeId} {cs : List AV} (hk : nthA st.boxes k = some (.cells t cs)) (hj : nthA cs j = some (.v (.slice none 0 0))) (h : forceSt ((st.add (.row tb sz [])).setBox k (.cells t (cs.set j (.own st.boxes.length sz 0 0)))) fun s => W X C E c Q s) : W X C E c Q st := by
  rw [forceSt_iff] at h
  rw [nthA_eq] at hk hj
  exact ⟨fun β a w H => h.run _ a w (H.nilOwnBox hk hj)⟩
omit hX in
theorem others_full {i : Nat} : ∀ {bs : List BoxC} {k : Nat}, (∀ t cs, .cells t cs ∈ bs → AV.avoidsL i cs = true) → othersR i k bs → AllBut [i] (fun b => b.avoids i = true) k bs
  | [], _, _, _ => trivial
  | b :: bs, k, hc, h => by
    rw [othersR.eq_def] at h
    simp only [] at h
    split at h
    · rename_i hk
      exact ⟨.inl (by simpa using Nat.eq_of_beq_eq_true hk), others_full (fun t cs hm => hc t cs (List.mem_cons_of_mem _ hm)) h⟩
    · cases b with
      | row t sz els => exact ⟨.inr (h.1 i), others_full (fun t cs hm => hc t cs (List.mem_cons_of_mem _ hm)) h.2⟩
      | map d kvs => exact ⟨.inr (h.1 i), others_full (fun t cs hm => hc t cs (List.mem_cons_of_mem _ hm)) h.2⟩
      | none => exact ⟨.inr rfl, others_full (fun t cs hm => hc t cs (List.mem_cons_of_mem _ hm)) h⟩
      | cells t cs => exact ⟨.inr (hc t cs (List.mem_cons_self ..)), others_full (fun t cs hm => hc t cs (List.mem_cons_of_mem _ hm)) h⟩
/-- A row of the call's own is only read from here on. -/
def cellsAv (i : Nat) : List BoxC → Bool
  | [] => true
  | .cells _ cs :: bs => AV.avoidsL i cs && cellsAv i bs
  | _ :: bs => cellsAv i bs
omit hX in
theorem cellsAv_mem {i : Nat} : ∀ {bs : List BoxC}, cellsAv i bs = true → ∀ t cs, .cells t cs ∈ bs → AV.avoidsL i cs = true
  | b :: bs, h, t, cs, hm => by
    rcases List.mem_cons.1 hm with hm | hm
    · subst hm
      simp only [cellsAv, Bool.and_eq_true] at h
      exact h.1
    · refine cellsAv_mem ?_ t cs hm
      cases b <;> simp only [cellsAv, Bool.and_eq_true] at h <;> first | exact h.2 | exact h
omit hX in
theorem W_freeze {c : Code} (hna : ∀ b, ¬ E.arg b) (i : Nat) (ts : List Nat) {tb sz : Nat} {els : List (List AV)} {n : Nat} (hb : nthA st.boxes i = some (.row tb sz els)) (hts : ∀ t ∈ ts, lkS t st.slots = .own i sz 0 n) (hn : els.length = n) (hc : ClosedE els) (ho : othersR i 0 st.boxes) (hcs : cellsAv i st.boxes = true) (h : forceSt (st.frozen i sz els ts) fun s => W X C E c Q s) : W X C E c Q st := by
  rw [forceSt_iff] at h
  rw [nthA_eq] at hb
  refine ⟨AW_freeze hna (n := n) ts hb (fun t ht => ?_) hn hc (av_full (others_full (cellsAv_mem hcs) ho)) rfl h.run⟩
  have h1 := hts t ht
  rcases lkS_mem (l := st.slots) (k := t) with h' | h'
  · rw [h1] at h'; cases h'
  · rw [h1] at h'; exact h'
end
/-- Ways that come together in a state of a family. -/
structure JoinG (C : Ctx) (E : Env) {γ : Type} (I : γ → Prop) (f : γ → St) (s : St) : Prop where
  ex : ∃ g, I g ∧ Drops C E s (f g)
theorem JoinG.mk' {C : Ctx} {E : Env} {γ : Type} {I : γ → Prop} {f : γ → St} {s : St} (g : γ) (hI : I g) (h : Drops C E s (f g)) : JoinG C E I f s := ⟨g, hI, h⟩
def joinG (C : Ctx) (E : Env) {γ : Type} (I : γ → Prop) (f : γ → St) (Q : AQ) : AQ := fun e s => match e with
  | .normal => JoinG C E I f s
  | .exit j => Q (.exit j) s
  | .ret => Q .ret s
  | e => Q e s
theorem W_joinG {X : RX} {C : Ctx} {E : Env} {Q : AQ} {st : St} {a b : Code} {γ : Type} (I : γ → Prop) (f : γ → St) (h : W X C E a (joinG C E I f Q) st) (h2 : ∀ g, I g → W X C E b Q (f g)) : W X C E a (thenW X C E b Q) st :=
  ⟨AW_up (fun e s hs => by
    cases e with
    | normal =>
      obtain ⟨g, h1, h3⟩ := hs.ex
      exact ⟨f g, h3, h2 g h1⟩
    | _ => exact ⟨s, Drops.refl s, hs⟩) h.run⟩
theorem cnd_joinG {X : RX} {C : Ctx} {E : Env} {Q : AQ} {st : St} {x : AV} {a c b : Code} {γ : Type} (I : γ → Prop) (f : γ → St) (h : cndR X C E x a c (joinG C E I f Q) st) (h2 : ∀ g, I g → W X C E b Q (f g)) : cndR X C E x a c (thenW X C E b Q) st := by
  unfold cndR at h ⊢
  split at h
  · rename_i t
    refine condB_dest h (fun e h => ?_) (fun e h => ?_)
    · subst e; exact W_joinG I f h h2
    · subst e; exact W_joinG I f h h2
  · exact h
/-- Fewer is told. -/
theorem W_drops {X : RX} {C : Ctx} {E : Env} {Q : AQ} {st : St} {c : Code} {st' : St} (hd : Drops C E st st') (h : W X C E c Q st') : W X C E c Q st :=
  ⟨fun β a w H => by obtain ⟨β', H'⟩ := hd β a w H; exact h.run β' a w H'⟩
/-- Box i is not told any more. -/
theorem Holds.unbox {C : Ctx} {E : Env} {β : BMap} {st : St} {a : Act} {w : World} (H : Holds C E β st a w) (i : Nat) (hi : i < st.boxes.length) : Holds C E β (st.setBox i .none) a w := by
  have hlv : ∀ k, (st.setBox i .none).liveB k → st.liveB k := by
    rintro k ⟨b, h1, h2⟩
    rcases setBox_get hi h1 with ⟨_, rfl⟩ | ⟨_, h3⟩
    · cases h2
    · exact ⟨b, h3, h2⟩
  have hlen : (st.setBox i .none).boxes.length = st.boxes.length := by simp [St.setBox]
  have hE : Ext β (okB E β st) (okB E β (st.setBox i .none)) w w := ⟨Nat.le_refl _, fun b h _ => ⟨h.1, h.2.1, fun k hk => h.2.2 k (hlv k hk)⟩, fun _ _ _ => rfl, fun _ _ _ _ h => h⟩
  refine ⟨H.env, H.size, H.defers, H.kept, fun t x hx => AV.rep_mono hE _ _ (fun _ _ => rfl) (H.slots t x hx), fun t x hx k hk => H.lim t x hx k (by rw [hlen] at hk; exact hk), fun k b hk => ?_, fun k b hk q hq => ?_, fun k q b h1 h2 => H.inj k q b (hlv k h1) (hlv q h2), fun k b h1 => H.fresh k b (hlv k h1), H.ex, ⟨by rw [hlen]; exact H.pin.1, H.pin.2⟩⟩
  · rcases setBox_get hi hk with ⟨_, rfl⟩ | ⟨_, h3⟩
    · trivial
    · exact BoxC.rep_mono hE b (fun _ _ => rfl) (fun _ => rfl) (fun _ _ _ => rfl) (H.boxes k b h3)
  · rcases setBox_get hi hk with ⟨_, rfl⟩ | ⟨_, h3⟩
    · rfl
    · exact H.blim k b h3 q (by rw [hlen] at hq; exact hq)
theorem W_unbox {X : RX} {C : Ctx} {E : Env} {Q : AQ} {st : St} {c : Code} (i : Nat) (hi : leB (i + 1) st.boxes = true) (h : forceSt (st.setBox i .none) fun s => W X C E c Q s) : W X C E c Q st := by
  rw [forceSt_iff] at h
  exact ⟨fun β a w H => h.run β a w (H.unbox i (leB_le hi))⟩
theorem Holds.impBox {C : Ctx} {E : Env} {β : BMap} {st : St} {a : Act} {w : World} (H : Holds C E β st a w) {k j t : Nat} {cs : List AV} {x y : AV} (hk : st.boxes[k]? = some (.cells t cs)) (hj : cs[j]? = some x) (hi : Imp x y) (hav : ∀ i, y.avoids i = true) : Holds C E β (st.setBox k (.cells t (cs.set j y))) a w := by
  have hkl : k < st.boxes.length := (List.getElem?_eq_some_iff.1 hk).1
  have hlen : (st.setBox k (.cells t (cs.set j y))).boxes.length = st.boxes.length := by simp [St.setBox]
  have hlv : ∀ i, (st.setBox k (.cells t (cs.set j y))).liveB i ↔ st.liveB i := fun i => setBox_live hk rfl rfl
  have hok : okB E β (st.setBox k (.cells t (cs.set j y))) = okB E β st := setBox_ok hk rfl rfl
  refine ⟨H.env, H.size, H.defers, H.kept, fun t' x hx => ?_, fun t' x hx i hi => H.lim t' x hx i (by rw [hlen] at hi; exact hi), fun i b hb => ?_, fun i b hb q hq => ?_, fun i q b h1 h2 => H.inj i q b ((hlv i).1 h1) ((hlv q).1 h2), fun i b h1 => H.fresh i b ((hlv i).1 h1), H.ex, ⟨by rw [hlen]; exact H.pin.1, H.pin.2⟩⟩
  · rw [hok]; exact H.slots t' x hx
  · rw [hok]
    rcases setBox_get hkl hb with ⟨rfl, rfl⟩ | ⟨h1, h2⟩
    · obtain ⟨b, cur, h3, h4, h5⟩ := H.boxes _ _ hk
      refine ⟨b, cur, h3, h4, repCells_set1 j h5 fun v hv => ?_⟩
      obtain ⟨v', h7, _, h8⟩ := repCells_get h5 hj
      rw [h7] at hv
      injection hv with hv
      subst hv
      exact hi _ _ _ _ h8
    · exact H.boxes i b h2
  · rw [hlen] at hq
    rcases setBox_get hkl hb with ⟨rfl, rfl⟩ | ⟨h1, h2⟩
    · exact avoidsL_set (H.blim _ _ hk q hq) (hav q)
    · exact H.blim i b h2 q hq
/-- A nil slice in cell j of box k is told as a row. -/
theorem W_nilBoxRow {X : RX} {C : Ctx} {E : Env} {Q : AQ} {st : St} {c : Code} (k j sz : Nat) {t : Nat} {cs : List AV} (hk : nthA st.boxes k = some (.cells t cs)) (hj : nthA cs j = some (.v (.slice none 0 0))) (h : forceSt (st.setBox k (.cells t (cs.set j (.row sz [])))) fun s => W X C E c Q s) : W X C E c Q st := by
  rw [forceSt_iff] at h
  rw [nthA_eq] at hk hj
  exact ⟨fun β a w H => h.run β a w (H.impBox hk hj imp_nil fun i => by simp [AV.avoids])⟩
theorem Drops.nilBoxRow {C : Ctx} {E : Env} {st : St} (k j sz : Nat) {t : Nat} {cs : List AV} (hk : nthA st.boxes k = some (.cells t cs)) (hj : nthA cs j = some (.v (.slice none 0 0))) : Drops C E st (st.setBox k (.cells t (cs.set j (.row sz [])))) := by
  rw [nthA_eq] at hk hj
  exact fun β a w H => ⟨β, H.impBox hk hj imp_nil fun i => by simp [AV.avoids]⟩
theorem whenB_i {b : Bool} (h : b = true) : whenB b True := by subst h; exact True.intro
end Go.Proofs.YtnfbomhhgjlacaaDoor.Abs
