/- Walks by computing: a region some of whose operations are shown to yield a value, or a value and a block. -/
import Derived.Test.YtnfbomhhgjlacaaDoorDr14
namespace Go.Proofs.YtnfbomhhgjlacaaDoor.Abs
open Go.RowKit Go.MapKept
set_option linter.unusedVariables false
set_option linter.unusedSimpArgs false
section
variable {C : Ctx} {E : Env} {st : St} {o : Oper}
/-- append of zeros to nil: a row of the call's own of whose elements nothing is told. -/
theorem Y_zerosNil {T U e sz by_ m : Nat} {ku kn : IntKind} {x y : Operand} {n : Nat} (ho : o.op = .call { callee := .builtin .append, args := #[x, y], argTypes := #[T, U] }) (hx : st.look x = .v (.slice none 0 0)) (hy : st.look y = .v (.int ku (m : Int))) (hin : elemInfo C.P T = some (e, sz, by_)) (hU : C.P.underlying U = some (.int kn)) (hbd : m * by_ ≤ 140737488355328) (h63 : m ≤ maxLen) : Yields C E st o (.own n sz 0 m) (some (n, .row e sz [])) := by
  intro X β a w H hF K Q hk
  obtain ⟨ti, z, i1, i2, i3, i4, i5, rfl, rfl⟩ := elemInfo_some hin
  have h63' : (m : Int) ≤ 9223372036854775807 := by have h := h63; simp [maxLen] at h; omega
  have hlt := fresh_lt (hF n _ rfl)
  have hav1 : ∀ i, st.boxes.length ≤ i → (AV.own n ti.size 0 m).avoids i = true := fun i hi => by simp [AV.avoids]; omega
  have hav2 : ∀ i, st.boxes.length ≤ i → (BoxC.row e ti.size []).avoids i = true := fun i _ => rfl
  rcases Nat.eq_zero_or_pos m with hm | hm
  · subst hm
    have hw0 : IntKind.i64.wrap (0 : Int) = 0 := by rw [IntKind.wrap_i64]; omega
    have hrun : (Builtin.append_ #[T, U] o.type #[.slice none 0 0, .int ku ((0 : Nat) : Int)]).run C.P w = .ok (.slice none 0 0) w := by
      simp [Builtin.append_, run_underlying i1, run_underlying hU, sizeOf, typeInfo, i2, asInt, asIntOf, hw0]
    have hexec : (execOp a.eval o).run C.P w = .ok (.value (.slice none 0 0)) w := by
      simp only [execOp, ho, resolve, Sem.run_bind, Sem.run_pure, Result.andThen_ok, invoke, builtin, List.map_toArray, List.map_cons, List.map_nil, look_v H hx, look_v H hy, hrun]
    refine wp_val hexec (hk _ _ (BelowD.refl _ _) ⟨none, (fun b hb => by cases hb), ?_, ?_, hav1, hav2⟩)
    · rw [AV.rep, upd_eq]; exact ⟨rfl, rfl, rfl⟩
    · simp only [BoxC.rep, upd_eq]
  · have hrun := Go.Lib.run_append_nil_zeros (P := C.P) w T U o.type e ti z ku kn i1 hU i2 i3 m hm i5 h63' (by omega)
    have hexec : (execOp a.eval o).run C.P w = .ok (.value (.slice (some ⟨w.heap.size, 0, none⟩) m (grownCap w m 0 e))) (w.drew.alloc (.cells (Builtin.zeroCells z.cells m ++ Builtin.zeroCells z.cells (grownCap w m 0 e - m)) e)) := by
      simp only [execOp, ho, resolve, Sem.run_bind, Sem.run_pure, Result.andThen_ok, invoke, builtin, List.map_toArray, List.map_cons, List.map_nil, look_v H hx, look_v H hy, hrun]
    have hge := grownCap_ge w m 0 e
    have hcm := grownCap_le_maxLen w m 0 e h63
    have hnew : (w.drew.alloc (.cells (Builtin.zeroCells z.cells m ++ Builtin.zeroCells z.cells (grownCap w m 0 e - m)) e)).heap[w.heap.size]? = _ := heap_alloc_new w.drew (.cells (Builtin.zeroCells z.cells m ++ Builtin.zeroCells z.cells (grownCap w m 0 e - m)) e)
    have hzs : ∀ k, (Builtin.zeroCells z.cells k).size = k * ti.size := fun k => by simp [Builtin.zeroCells, i4]
    refine wp_val hexec (hk _ _ ((below_drew' w).alloc (Nat.le_refl _) _) ⟨some w.heap.size, fun b hb => by injection hb with hb; subst hb; exact ⟨Nat.le_refl _, by show w.heap.size < (w.drew.alloc _).heap.size; simp⟩, ?_, ?_, hav1, hav2⟩)
    · rw [AV.rep, upd_eq]
      refine ⟨_, e, by simp, hge, hcm, ?_⟩
      rw [shape_of_blk hnew, Array.size_append, hzs, hzs, ← Nat.add_mul, Nat.add_sub_cancel' hge, Nat.zero_add]
    · simp only [BoxC.rep, upd_eq]
      exact ⟨_, _, .of hnew, fun l hl => (by cases hl), [], (List.nil_append _).symm, by simp, rfl⟩
end
theorem freeze_eqD {w : World} {g k : Nat} {cur : Array Value} {t : TypeId} {fz : Nat × Nat} (hg : w.heap[g]? = some (.cells cur t fz)) (hf : Fz fz cur.size) : RowBlk (w.freeze ⟨g, cur.size, none⟩ (k + 1)) g cur t ∧ Turned g w (w.freeze ⟨g, cur.size, none⟩ (k + 1)) := by
  have hu : w.freeze ⟨g, cur.size, none⟩ (k + 1) = { w with heap := w.heap.modify g fun
      | .cells c elem (lo, hi) => .cells c elem (if lo == hi then (cur.size, cur.size + (k + 1)) else (min lo cur.size, max hi (cur.size + (k + 1))))
      | o => o } := by
    unfold World.freeze
    rw [if_neg (by omega)]
    rfl
  rw [hu]
  obtain ⟨lo, hi⟩ := fz
  refine ⟨⟨if lo == hi then (cur.size, cur.size + (k + 1)) else (min lo cur.size, max hi (cur.size + (k + 1))), ?_, ?_⟩, rfl, rfl, rfl, ?_, rfl, fun b hb => ?_⟩
  · simp [Array.getElem?_modify, hg]
  · split
    · exact .inr (Nat.le_refl _)
    · rename_i hne
      rcases hf with e | e
      · injection e with e1 e2
        subst e1; subst e2
        exact absurd rfl hne
      · have e : cur.size ≤ lo := e
        exact .inr (by show cur.size ≤ min lo cur.size; omega)
  · simp
  · simp only [Array.getElem?_modify]
    rw [if_neg (fun e => hb e.symm)]
/-- How an operation is taken: plainly; as what it is shown to yield; as what it is shown to yield, with a block; as a row of bytes of the call's own that is converted to its own type. -/
inductive Mn
  | n
  | y
  | nw
  | mk
def mkR (X : RX) (o : Oper) (st : St) (K : St → Prop) : Prop := match o.op with
  | .convert s d y => whenB (Nat.beq s d) <| whenB o.dst.isSome <| match lk st y with
    | .own i 1 0 n => optR (look1 s X.T.byt) fun _ => (0 < n ∧ ∃ e els, nthA st.boxes i = some (.row e 1 els)) ∧ putR X o.dst (.own i 1 0 n) st K
    | _ => False
  | _ => False
def runW (X : RX) (C : Ctx) (ops : List Oper) : List Mn → List Oper → St → (St → Prop) → Prop
  | _, [], st, K => K st
  | [], o :: rest, st, K => runR X C ops (o :: rest) st K
  | m :: ms, o :: rest, st, K => match m with
    | .n => guardR ops o st (stepR X C o st fun st => runW X C ops ms rest st K) (putR X o.dst (.v undef) st fun st => runW X C ops ms rest st K)
    | .y => guardR ops o st (∃ x, (∀ E, Yields C E st o x none) ∧ putR X o.dst x st fun st => runW X C ops ms rest st K) (putR X o.dst (.v undef) st fun st => runW X C ops ms rest st K)
    | .mk => guardR ops o st (mkR X o st fun st => runW X C ops ms rest st K) (putR X o.dst (.v undef) st fun st => runW X C ops ms rest st K)
    | .nw => guardR ops o st (∃ x bc, (∀ E, Yields C E st.ext o x (some (st.boxes.length, bc))) ∧ newR X o st x bc fun st => runW X C ops ms rest st K) (putR X o.dst (.v undef) st fun st => runW X C ops ms rest st K)
section
variable {X : RX} {C : Ctx} {E : Env} (hX : RXok X C E) {ops : Array Oper} {rest : List Oper} {o : Oper} {Q : AQ} {st : St} {K : St → Prop}
include hX
theorem mkR_sound (hw : Wanted ops o st) (h : mkR X o st K) (hK : ∀ st, K st → AL C E ops rest Q st) : AL C E ops (o :: rest) Q st := by
  unfold mkR at h
  split at h
  · rename_i s d y ho
    obtain ⟨hsd, h0⟩ := whenB_dest h
    obtain ⟨hds, h1⟩ := whenB_dest h0
    have hsd := beq_eq hsd
    subst hsd
    split at h1
    · rename_i i n hy
      obtain ⟨e', hb, ⟨hn, e, els, hbx⟩, hput⟩ := optR_dest h1
      obtain ⟨hu, he⟩ := AllP_mem hX.T.byt _ (look1_mem hb)
      rw [nthA_eq] at hbx
      cases hd : o.dst with
      | none =>
        rw [hd] at hds
        cases hds
      | some d =>
        rw [hd] at hput
        obtain ⟨hlt, hk⟩ := putR_some hput
        intro β a w H
        have hyr := H.look y
        rw [← lk_eq, hy] at hyr
        rw [AV.rep] at hyr
        have hrow := H.boxes i _ hbx
        simp only [BoxC.rep] at hrow
        cases hβ : β i with
        | none =>
          rw [hβ] at hyr
          exact absurd hyr.2.2 (by omega)
        | some g =>
          rw [hβ] at hyr hrow
          obtain ⟨cap, e2, hv, hnc, hcm, hsh⟩ := hyr
          obtain ⟨cur, tl, ⟨fz, hg, hfz⟩, hls, cs, hc2, hcl, hrep⟩ := hrow
          have hsh2 := hsh
          rw [shape_of_blk hg] at hsh2
          obtain ⟨hR, hT⟩ := freeze_eqD (k := 0) hg hfz
          have hrun : (convert s s (a.eval y)).run C.P w = .ok (a.eval y) (w.freeze ⟨g, cur.size, none⟩ 1) := by
            have h1 := run_underlying (w := w) hu
            have h2 := run_underlying (w := w) he
            have hs : w.shape? g = some (e, cur.size) := shape_of_blk hg
            rw [hv]
            simp [convert, h1, h2, markStringish, hs, Result.andThen]
          refine wpList_step fun K' hK' => ?_
          rw [wanted_of H hw]
          simp only [if_true]
          refine wp_val (v := a.eval y) (w' := w.freeze ⟨g, cur.size, none⟩ 1) (by simp only [execOp, ho, Sem.run_bind, hrun]; rfl) (hK' _ _ ?_)
          have hshape : (w.freeze ⟨g, cur.size, none⟩ 1).shape? g = w.shape? g := by rw [hR.shape, shape_of_blk hg]
          have hE : Ext β (okB E β st) (okB E β st) w (w.freeze ⟨g, cur.size, none⟩ 1) := ⟨by rw [hT.size]; exact Nat.le_refl _, fun _ h _ => h, fun k hk _ => hT.far k (fun e => by subst e; exact hk.2.2 i ⟨_, hbx, rfl⟩ hβ), fun j k s hj hk => by
            by_cases e : k = g
            · subst e; rw [hshape]; exact hk
            · rw [shape_same (hT.far k e)]; exact hk⟩
          have hst : st.setBox i (.row e 1 els) = st := by
            unfold St.setBox
            obtain ⟨q1, q2⟩ := List.getElem?_eq_some_iff.1 hbx
            cases st with
            | mk sl bx =>
              congr 1
              show bx.set i _ = bx
              rw [← q2]
              exact List.set_getElem_self ..
          have H1 : Holds C E β (st.setBox i (.row e 1 els)) a (w.freeze ⟨g, cur.size, none⟩ 1) := H.turn hbx rfl hβ hT hshape rfl (fun j hj => H.blim i _ hbx j hj) (by
            simp only [BoxC.rep, hβ]
            exact ⟨cur, tl, hR, hls, cs, hc2, hcl, AV.repCells_mono hE _ _ (fun _ _ => rfl) hrep⟩)
          rw [hst] at H1
          rw [hd]
          refine hK _ hk β _ _ (H1.put (by rw [hX.nt]; exact hlt) ?_ (fun j hj => ?_))
          · rw [AV.rep, hβ]
            exact ⟨cap, e2, hv, hnc, hcm, by rw [hshape]; exact hsh⟩
          · have := (List.getElem?_eq_some_iff.1 hbx).1
            simp [AV.avoids]
            omega
    · exact h1.elim
  · exact h.elim
theorem runW_sound : ∀ (ms : List Mn) (rest : List Oper) (st : St) (K : St → Prop), (∀ st, K st → Q .normal st) → runW X C ops.toList ms rest st K → AL C E ops rest Q st
  | ms, [], st, K, hK, h => by
    have h : runR X C ops.toList [] st K := by cases ms <;> exact h
    exact runR_sound hX [] st K hK h
  | [], o :: rest, st, K, hK, h => runR_sound hX (o :: rest) st K hK h
  | m :: ms, o :: rest, st, K, hK, h => by
    cases m with
    | n =>
      rw [runW] at h
      refine guardR_dest h (fun hw h' => ?_) (fun hw h' => ?_)
      · exact stepR_sound hX hw h' fun st h => runW_sound ms rest st K hK h
      · exact AL_skp hX hw h' fun st h => runW_sound ms rest st K hK h
    | y =>
      rw [runW] at h
      refine guardR_dest h (fun hw h' => ?_) (fun hw h' => ?_)
      · obtain ⟨x, hy, h2⟩ := h'
        exact AL_val hX hw (hy E) h2 fun st h => runW_sound ms rest st K hK h
      · exact AL_skp hX hw h' fun st h => runW_sound ms rest st K hK h
    | mk =>
      rw [runW] at h
      refine guardR_dest h (fun hw h' => ?_) (fun hw h' => ?_)
      · exact mkR_sound hX hw h' fun st h => runW_sound ms rest st K hK h
      · exact AL_skp hX hw h' fun st h => runW_sound ms rest st K hK h
    | nw =>
      rw [runW] at h
      refine guardR_dest h (fun hw h' => ?_) (fun hw h' => ?_)
      · obtain ⟨x, bc, hy, h2⟩ := h'
        exact AL_new hX hw (hy E) h2 fun st h => runW_sound ms rest st K hK h
      · exact AL_skp hX hw h' fun st h => runW_sound ms rest st K hK h
/-- A region whose operations are taken as told. -/
theorem W_regionW (ms : List Mn) {id : Nat} {ops : Array Oper} (h : runW X C ops.toList ms ops.toList st fun st => Q .normal st) : W X C E (.region id ops false) Q st :=
  ⟨AW_region (runW_sound hX ms _ _ _ (fun _ h => h) h)⟩
end
end Go.Proofs.YtnfbomhhgjlacaaDoor.Abs
