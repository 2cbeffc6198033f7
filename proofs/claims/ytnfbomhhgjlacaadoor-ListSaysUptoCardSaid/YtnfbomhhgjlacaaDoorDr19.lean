/- Walks by computing: a drawn region some of whose operations are shown to yield a value. -/
import Derived.Test.YtnfbomhhgjlacaaDoorDr14
namespace Go.Proofs.YtnfbomhhgjlacaaDoor.Abs
open Go.RowKit Go.MapKept
set_option linter.unusedVariables false
set_option linter.unusedSimpArgs false
def yldR (C : Ctx) (o : Oper) (s : St) (K : AV → Prop) : Prop := o.guard = none ∧ ∃ x, (∀ E, Yields C E s o x none) ∧ K x
def drawY (ys : List Nat) (X : RX) (C : Ctx) (ops : List Oper) (st : St) (ds bi : List Nat) : List Oper → List (List (Nat × Nat)) → Nat → List AV → List (Nat × BoxC) → (List AV → List (Nat × BoxC) → Prop) → Prop
  | o :: os, w :: ws, i, rs, bs, K => forceSt (calmG st ds bi w rs bs) fun s => match memB i bi with
    | false => match memB i ys with
      | false => drwC X C ops o s fun x => forceA x fun x => snocA x rs fun rs => drawY ys X C ops st ds bi os ws (i + 1) rs bs K
      | true => yldR C o s fun x => forceA x fun x => snocA x rs fun rs => drawY ys X C ops st ds bi os ws (i + 1) rs bs K
    | true => blenR (st.boxes ++ befL i bi) fun m => drwN X o s m fun x bc => snocA x rs fun rs => drawY ys X C ops st ds bi os ws (i + 1) rs (bs ++ [(i, bc)]) K
  | [], [], _, rs, bs, K => K rs bs
  | _, _, _, _, _, _ => False
/-- A sum of numbers, whatever it is. -/
theorem Y_addW {C : Ctx} {E : Env} {st : St} {o : Oper} {t tr : TypeId} {y z : Operand} {a b : Int} (ho : o.op = .binOp .add t y z tr) (hy : st.look y = .v (.int .i64 a)) (hz : st.look z = .v (.int .i64 b)) : Yields C E st o (.v (.int .i64 (IntKind.i64.wrap (a + b)))) none :=
  Y_of fun E' β ac w H => by
    refine ⟨.int .i64 (IntKind.i64.wrap (a + b)), ?_, rfl, fun i _ => avoids_v i⟩
    simp only [execOp, ho, look_v H hy, look_v H hz]
    rw [Sem.run_bind, bin_add rfl w]
    rfl
section
variable {X : RX} {C : Ctx} {E : Env} (hX : RXok X C E) {ops : Array Oper} {st : St} {ds bi : List Nat} {n : Nat} {Q : AQ}
theorem yldR_sound {o : Oper} {s : St} {K : AV → Prop} (h : yldR C o s K) : ∃ x, GoodOp C E ops o s x none ∧ K x := by
  obtain ⟨hg, x, hy, hk⟩ := h
  exact ⟨x, .inl ⟨by exact .inl hg, hy E⟩, hk⟩
include hX
theorem drawY_sound {ys : List Nat} : ∀ (os : List Oper) (ws : List (List (Nat × Nat))) (rs : List AV) (bs : List (Nat × BoxC)) (K : List AV → List (Nat × BoxC) → Prop), (∀ i w, ws[i]? = some w → ∀ p ∈ w, p.1 < rs.length + i) → (∀ j ∈ bi, j < rs.length → (look1 j bs).isSome = true) → (∀ p ∈ bs, p.1 < rs.length ∧ p.1 ∈ bi) → drawY ys X C ops.toList st ds bi os ws rs.length rs bs K →
    ∃ (l : List AV) (lb : List (Nat × BoxC)), l.length = os.length ∧ (∀ (i : Nat) (o : Oper) (w : List (Nat × Nat)), os[i]? = some o → ws[i]? = some w → GoodOp C E ops o (calmG st ds bi w (rs ++ l) (bs ++ lb)) ((rs ++ l).getD (rs.length + i) .junk) (match memB (rs.length + i) bi with | false => none | true => (look1 (rs.length + i) (bs ++ lb)).map fun b => (st.boxes.length + (befL (rs.length + i) bi).length, b))) ∧ os.length = ws.length ∧ (∀ p ∈ lb, rs.length ≤ p.1 ∧ p.1 < rs.length + os.length ∧ p.1 ∈ bi) ∧ (∀ j ∈ bi, j < rs.length + os.length → (look1 j (bs ++ lb)).isSome = true) ∧ K (rs ++ l) (bs ++ lb)
  | [], [], rs, bs, K, hw, hb, hm, h => ⟨[], [], rfl, fun i o w h => (by simp at h), rfl, fun p hp => (by cases hp), fun j hj hl => (by rw [List.append_nil]; exact hb j hj (by simpa using hl)), (by rw [List.append_nil, List.append_nil]; exact h)⟩
  | [], _ :: _, _, _, _, _, _, _, h => h.elim
  | _ :: _, [], _, _, _, _, _, _, h => h.elim
  | o :: os, w :: ws, rs, bs, K, hw, hb, hm, h => by
    rw [drawY, forceSt_iff] at h
    have hw0 : ∀ p ∈ w, p.1 < rs.length := fun p hp => by simpa using hw 0 w rfl p hp
    have tail : ∀ (x : AV) (bs' : List (Nat × BoxC)), (∀ j ∈ bi, j < (rs ++ [x]).length → (look1 j (bs ++ bs')).isSome = true) → (∀ p ∈ bs', p.1 = rs.length ∧ p.1 ∈ bi) → GoodOp C E ops o (calmG st ds bi w rs bs) x (match memB rs.length bi with | false => none | true => (look1 rs.length (bs ++ bs')).map fun b => (st.boxes.length + (befL rs.length bi).length, b)) → drawY ys X C ops.toList st ds bi os ws (rs.length + 1) (rs ++ [x]) (bs ++ bs') K →
        ∃ (l : List AV) (lb : List (Nat × BoxC)), l.length = (o :: os).length ∧ (∀ (i : Nat) (o' : Oper) (w' : List (Nat × Nat)), (o :: os)[i]? = some o' → (w :: ws)[i]? = some w' → GoodOp C E ops o' (calmG st ds bi w' (rs ++ l) (bs ++ lb)) ((rs ++ l).getD (rs.length + i) .junk) (match memB (rs.length + i) bi with | false => none | true => (look1 (rs.length + i) (bs ++ lb)).map fun b => (st.boxes.length + (befL (rs.length + i) bi).length, b))) ∧ (o :: os).length = (w :: ws).length ∧ (∀ p ∈ lb, rs.length ≤ p.1 ∧ p.1 < rs.length + (o :: os).length ∧ p.1 ∈ bi) ∧ (∀ j ∈ bi, j < rs.length + (o :: os).length → (look1 j (bs ++ lb)).isSome = true) ∧ K (rs ++ l) (bs ++ lb) := by
      intro x bs' hb' hm' hg hrest
      have e3 : (rs ++ [x]).length = rs.length + 1 := by simp
      obtain ⟨l, lb, h3, h4, h5, h6, h8, h7⟩ := drawY_sound os ws (rs ++ [x]) (bs ++ bs') K (fun i w' hi p hp => by
        have := hw (i + 1) w' (by simpa using hi) p hp
        simp; omega) hb' (fun p hp => by
        rcases List.mem_append.1 hp with hp | hp
        · have := hm p hp; exact ⟨by rw [e3]; omega, this.2⟩
        · have := hm' p hp; exact ⟨by rw [e3]; omega, this.2⟩) (by rw [show (rs ++ [x]).length = rs.length + 1 by simp]; exact hrest)
      have e1 : rs ++ x :: l = rs ++ [x] ++ l := by simp
      have e2 : bs ++ (bs' ++ lb) = bs ++ bs' ++ lb := by simp
      refine ⟨x :: l, bs' ++ lb, by simp [h3], fun i o' w' ho' hw' => ?_, by simp [h5], fun p hp => ?_, fun j hj hl => ?_, by rw [e1, e2]; exact h7⟩
      · cases i with
        | zero =>
          have ho' : o = o' := by simpa using ho'
          have hw'' : w = w' := by simpa using hw'
          subst ho'; subst hw''
          rw [calmG_pre (i := 0) hw0 hb, Nat.add_zero]
          rw [show (rs ++ x :: l).getD rs.length .junk = x by simp [List.getD_eq_getElem?_getD]]
          cases hmb : memB rs.length bi with
          | false => rw [hmb] at hg; exact hg
          | true =>
            rw [hmb] at hg
            simp only [] at hg ⊢
            rw [e2, look1_app (hb' _ (memB_iff.1 hmb) (by simp))]
            exact hg
        | succ i =>
          have := h4 i o' w' (by simpa using ho') (by simpa using hw')
          rw [e3, show rs.length + 1 + i = rs.length + (i + 1) by omega] at this
          rw [e1, e2]
          exact this
      · rcases List.mem_append.1 hp with hp | hp
        · obtain ⟨q1, q2⟩ := hm' p hp; exact ⟨by omega, by rw [List.length_cons]; omega, q2⟩
        · obtain ⟨q1, q2, q3⟩ := h6 p hp; rw [e3] at q1 q2; exact ⟨by omega, by rw [List.length_cons]; omega, q3⟩
      · rw [e2]; exact h8 j hj (by rw [e3]; simp at hl; omega)
    cases hmb : memB rs.length bi with
    | false =>
      rw [hmb] at h
      obtain ⟨x, hg, h2⟩ : ∃ x, GoodOp C E ops o (calmG st ds bi w rs bs) x none ∧ forceA x fun x => snocA x rs fun rs' => drawY ys X C ops.toList st ds bi os ws (rs.length + 1) rs' bs K := by
        cases hys : memB rs.length ys with
        | false => rw [hys] at h; exact drwC_sound hX h
        | true => rw [hys] at h; exact yldR_sound h
      rw [forceA_iff, snocA_iff] at h2
      refine tail x [] (fun j hj hl => ?_) (fun p hp => by cases hp) (by rw [hmb]; exact hg) (by rw [List.append_nil]; exact h2)
      rw [List.append_nil]
      refine hb j hj ?_
      have : j ≠ rs.length := fun e => by subst e; rw [memB_iff.2 hj] at hmb; cases hmb
      simp at hl
      omega
    | true =>
      rw [hmb] at h
      simp only [blenR_iff, List.length_append] at h
      obtain ⟨x, bc, hg, h2⟩ := drwN_sound (C := C) (E := E) (ops := ops) hX h
      rw [snocA_iff] at h2
      have hno : look1 rs.length bs = none := look1_none fun p hp e => by have := (hm p hp).1; omega
      refine tail x [(rs.length, bc)] (fun j hj hl => ?_) (fun p hp => by rw [List.mem_singleton] at hp; subst hp; exact ⟨rfl, memB_iff.1 hmb⟩) (by rw [hmb]; simp only []; rw [look1_last hno]; exact hg) h2
      by_cases e : j = rs.length
      · subst e; rw [look1_last hno]; rfl
      · have h1 := hb j hj (by simp at hl; omega)
        rw [look1_app h1]; exact h1
theorem W_drawY (ys : List Nat) {id n : Nat} (hm : C.P.follows .mixedOrders = true) {ws : List (List (Nat × Nat))} {ds bi : List Nat} {wa : List (Nat × Nat)} (hD : DrawOk X ops n ws ds bi wa)
    (h : drawY ys X C ops.toList st ds bi (ops.toList.take n) ws 0 [] [] fun rs bs => (whenB (sameL (bs.map (·.1)) bi) True ∧ whenB (calmAv ops n st.boxes.length rs bs) True ∧ whenB (boxAvB st.boxes.length bs) True ∧ whenB (allB (fun x => Nat.ble x.maxB (st.boxes.length + bs.length)) rs) True) ∧ forceSt (calmG st ds bi wa rs bs) fun s => runR X C ops.toList (dropF n ops.toList) s fun st => Q .normal st) : W X C E (.region id ops true) Q st := by
  obtain ⟨hB, hd, hw, hds, hnd, hwa, hlt, hsz, hbnd, hblt⟩ := hD
  have hsz := Nat.le_of_ble_eq_true hsz
  have hwl : ws.length = n := by rw [← hw]; simp
  have hwi : ∀ i, i < n → ws[i]? = some (wtsOf ops n i) := fun i hi => by rw [← hw]; simp [hi]
  obtain ⟨rs, bs, h1, h2, h3, h9, h10, h4⟩ := drawY_sound hX _ _ [] [] _ (fun i w hi p hp => by
    have hin : i < n := by have := (List.getElem?_eq_some_iff.1 hi).1; omega
    have h5 := List.all_eq_true.1 (List.all_eq_true.1 hlt i (List.mem_range.2 hin)) p (by rw [List.getD_eq_getElem?_getD, hi]; exact hp)
    have h5 : p.1 < i := by simpa using h5
    simpa using h5) (fun j hj hl => absurd hl (Nat.not_lt_zero _)) (fun p hp => by cases hp) h
  simp only [List.nil_append, List.length_nil, Nat.zero_add] at h2 h4 h9
  have hrl : rs.length = n := by rw [h1, List.length_take]; omega
  obtain ⟨⟨c1, c2, c3, c4⟩, h6⟩ := h4
  have hf := sameL_eq (whenB_dest c1).1
  have c2 := (whenB_dest c2).1
  have c3 := (whenB_dest c3).1
  have c4 := (whenB_dest c4).1
  rw [forceSt_iff] at h6
  have hdst : ∀ i, i < n → ∃ d, dstOf ops i = some d ∧ d < X.nt := fun i hi => by
    have := List.all_eq_true.1 hd i (List.mem_range.2 hi)
    split at this
    · rename_i d hd'
      exact ⟨d, hd', by simpa using this⟩
    · cases this
  have hbl : ∀ p ∈ bs, p.1 < n := fun p hp => by
    have : p.1 ∈ bi := by rw [← hf]; exact List.mem_map_of_mem (f := (·.1)) hp
    simpa using List.all_eq_true.1 hblt _ this
  have hbd : ∀ p ∈ bs, ∃ d, dstOf ops p.1 = some d ∧ p.1 < n := fun p hp => by
    obtain ⟨d, h, _⟩ := hdst p.1 (hbl p hp)
    exact ⟨d, h, hbl p hp⟩
  refine ⟨AW_draw (n := n) rs bs hm hB ?_ (by rw [hds]; exact hnd) (by rw [hf]; exact hbnd) (List.all_eq_true.2 fun p hp => decide_eq_true (hbl p hp)) c2 c3 (fun i hi k hk => ?_) (fun i hi => ?_) ?_⟩
  · refine List.all_eq_true.2 fun i hi => ?_
    obtain ⟨d, h, h'⟩ := hdst i (List.mem_range.1 hi)
    rw [h]
    rw [hX.nt]
    simpa using h'
  · have : (rs.getD i .junk).maxB ≤ st.boxes.length + bs.length := by
      rw [List.getD_eq_getElem?_getD, List.getElem?_eq_getElem (by omega)]
      exact Nat.le_of_ble_eq_true (allB_mem c4 _ (List.getElem_mem _))
    exact maxB_avoids _ (by omega)
  · obtain ⟨o, ho⟩ : ∃ o, ops[i]? = some o := ⟨ops[i]'(by simp at hsz; omega), Array.getElem?_eq_getElem _⟩
    have ho' : (ops.toList.take n)[i]? = some o := by rw [List.getElem?_take, if_pos hi, Array.getElem?_toList]; exact ho
    refine ⟨o, ho, ?_⟩
    have hg := h2 i o _ ho' (hwi i hi)
    rw [calm_wts hf hbnd hbd, hds, boxAt_look (by rw [hf]; exact hbnd), hf]
    rcases hg with ⟨h7, h8⟩ | ⟨h7, h8, h9⟩
    · exact .inl ⟨h7, h8⟩
    · exact .inr ⟨h7, .inr h8, h9⟩
  · rw [calm_all hf hbnd hbd, hds, hwa]
    rw [dropF_eq] at h6
    exact runR_sound hX _ _ _ (fun _ h => h) h6
end
end Go.Proofs.YtnfbomhhgjlacaaDoor.Abs
