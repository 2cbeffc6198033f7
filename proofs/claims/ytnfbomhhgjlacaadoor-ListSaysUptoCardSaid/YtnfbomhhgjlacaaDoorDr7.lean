/- Walks by computing: the end of a row of the call's own is cleared; a row's end is told no more. -/
import Derived.Test.YtnfbomhhgjlacaaDoorDr6
namespace Go.Proofs.YtnfbomhhgjlacaaDoor.Abs
open Go.RowKit Go.MapKept
set_option linter.unusedVariables false
set_option linter.unusedSimpArgs false
theorem run_zeroV {P : Program} {e : TypeId} {i : TypeInfo} {z : Value} (hi : P.info? e = some i) (hz : i.zero = some z) (w : World) : (zeroValue e).run P w = .ok z w := by
  simp [zeroValue, typeInfo, hi, hz]
/-- clear of what lies behind all that is told of a row. -/
theorem AL_clear {C : Ctx} {E : Env} {ops : Array Oper} {rest : List Oper} {Q : AQ} {st : St} {o : Oper} {t e tb : TypeId} {y : Operand} {i sz off n : Nat} {zs : List Value} {els : List (List AV)} (hw : Wanted ops o st) (ho : o.op = .call { callee := .builtin .clear, args := #[y], argTypes := #[t] }) (hd : o.dst = none) (hy : st.look y = .own i sz off n) (hb : st.boxes[i]? = some (.row tb sz els)) (hoff : els.length ≤ off) (hin : sliceInfo C.P t = some (e, sz, zs)) (h : AL C E ops rest Q st) : AL C E ops (o :: rest) Q st := by
  intro β a w H
  refine wpList_step fun K hK => ?_
  rw [wanted_of H hw]
  simp only [if_true]
  obtain ⟨ti, z, hu, hi, hz, hzc, hz0, hz1, rfl, rfl⟩ := sliceInfo_some hin
  have hyr := H.look y
  rw [hy] at hyr
  rw [AV.rep] at hyr
  have hex : ∀ {v : Value} {w' : World}, a.eval y = v → (Builtin.clear_ #[t] o.type #[v]).run C.P w = .ok (.tuple #[]) w' → (execOp a.eval o).run C.P w = .ok (.value (.tuple #[])) w' := fun {v w'} e hr => by
    simp [execOp, ho, resolve, invoke, e, builtin, hr]
  have hdone : Holds C E β st (a.put o.dst (.tuple #[])) w := by rw [hd]; exact H
  cases hβ : β i with
  | none =>
    rw [hβ] at hyr
    obtain ⟨h1, _, _⟩ := hyr
    exact wp_val (hex h1 (by simp [Builtin.clear_, run_underlying hu])) (hK _ _ (h β _ _ hdone))
  | some b =>
    rw [hβ] at hyr
    obtain ⟨cap, e', h1, h2, h3, h4⟩ := hyr
    by_cases hn : n = 0
    · subst hn
      exact wp_val (hex h1 (by simp [Builtin.clear_, run_underlying hu])) (hK _ _ (h β _ _ hdone))
    have hbx := H.boxes i _ hb
    simp only [BoxC.rep, hβ] at hbx
    obtain ⟨cur, tl, h5, hls, cs, h6, h7, h8⟩ := hbx
    rw [h5.shape] at h4
    have hsz : cur.size = (off + cap) * ti.size := by injection h4 with h4; injection h4
    have hzl : (Builtin.zeroCells z.cells n).toList.length = n * ti.size := by simp [Builtin.zeroCells, hzc]
    have hfit : off * ti.size + n * ti.size ≤ cur.size := by rw [hsz, ← Nat.add_mul]; exact Nat.mul_le_mul_right _ (by omega)
    have hcs : cs.length ≤ off * ti.size := by rw [h7]; exact Nat.mul_le_mul_right _ hoff
    have hone : ∀ u ∈ (Builtin.zeroCells z.cells n).toList, u.oneCell' = true := fun u hu => by
      simp only [Builtin.zeroCells, Array.toList_map, List.mem_map] at hu
      obtain ⟨q, _, rfl⟩ := hu
      have hq : q % z.cells.size < z.cells.size := Nat.mod_lt _ (by omega)
      rw [getElem!_pos z.cells _ hq]
      exact hz1 _ (by simp)
    have h5R := h5
    obtain ⟨fz, h5, hfz⟩ := h5
    have hst := run_storeCells_cells (P := C.P) b (off * ti.size) (Builtin.zeroCells z.cells n).toList 0 w (fun j hj => by
      rw [cell_of_blk h5]
      rw [hzl] at hj
      have : off * ti.size + (0 + j) < cur.toList.length := by rw [Array.length_toList]; omega
      simp at this ⊢
      omega) (fun j hj => h5R.frozen (by rw [hzl] at hj; omega)) hone
    simp only [Nat.add_zero] at hst
    obtain ⟨hT, cur', g6, g7⟩ := setCells_blk (Builtin.zeroCells z.cells n).toList (off * ti.size) w cur h5 (by rw [hzl]; exact hfit)
    have hrun : (Builtin.clear_ #[t] o.type #[.slice (some ⟨b, off * ti.size, none⟩) n cap]).run C.P w = .ok (.tuple #[]) (w.setCells b (off * ti.size) (Builtin.zeroCells z.cells n).toList) := by
      obtain ⟨m, rfl⟩ : ∃ m, n = m + 1 := ⟨n - 1, by omega⟩
      simp [Builtin.clear_, run_underlying hu, run_zeroV hi hz, hst]
    have hcl : cur.size = cs.length + tl.length := by rw [← Array.length_toList, h6, List.length_append]
    have hcur' : cur'.toList = cs ++ (tl.take (off * ti.size - cs.length) ++ (Builtin.zeroCells z.cells n).toList ++ cur.toList.drop (off * ti.size + n * ti.size)) := by
      rw [g7, hzl]
      conv => lhs; rw [h6]
      rw [List.take_append, List.take_of_length_le hcs, ← h6]
      simp
    have hsz' : cur'.size = cur.size := by rw [← Array.length_toList, g7]; simp [hzl]; omega
    have hshape : (w.setCells b (off * ti.size) (Builtin.zeroCells z.cells n).toList).shape? b = w.shape? b := by rw [shape_of_blk g6, shape_of_blk h5, hsz']
    have hE : Ext β (okB E β st) (okB E β st) w (w.setCells b (off * ti.size) (Builtin.zeroCells z.cells n).toList) := ⟨by rw [hT.size]; exact Nat.le_refl _, fun _ h _ => h, fun k hk _ => hT.far k (fun e => by subst e; exact hk.2.2 i ⟨_, hb, rfl⟩ hβ), fun j k s hj hk => by
      by_cases e : k = b
      · subst e; rw [hshape]; exact hk
      · rw [shape_same (hT.far k e)]; exact hk⟩
    have hb2 : st.setBox i (.row tb ti.size els) = st := by
      obtain ⟨q1, q2⟩ := List.getElem?_eq_some_iff.1 hb
      cases st
      simp only [St.setBox]
      congr 1
      rw [← q2]
      exact List.set_getElem_self _
    refine wp_val (hex h1 hrun) (hK _ _ (h β _ _ ?_))
    have hend := H.turn hb rfl hβ hT hshape (bc' := .row tb ti.size els) rfl (fun q hq => H.blim i _ hb q hq) (by
      simp only [BoxC.rep, hβ]
      exact ⟨cur', _, ⟨fz, g6, by unfold Fz at hfz ⊢; rw [hsz']; exact hfz⟩, hls, cs, hcur', h7, AV.repCells_mono hE _ _ (fun _ _ => rfl) h8⟩)
    rw [hb2] at hend
    rw [hd]
    exact hend
/-- What lies behind the first elements of a row of the call's own is told no more. -/
theorem Holds.short {C : Ctx} {E : Env} {β : BMap} {st : St} {a : Act} {w : World} (H : Holds C E β st a w) {i tb sz : Nat} {els : List (List AV)} (n : Nat) (hb : st.boxes[i]? = some (.row tb sz els)) : Holds C E β (st.setBox i (.row tb sz (els.take n))) a w := by
  have hil := (List.getElem?_eq_some_iff.1 hb).1
  have hlen : (st.setBox i (.row tb sz (els.take n))).boxes.length = st.boxes.length := by simp [St.setBox]
  have hlv : ∀ k, (st.setBox i (.row tb sz (els.take n))).liveB k ↔ st.liveB k := fun k => setBox_live hb rfl rfl
  have hok : okB E β (st.setBox i (.row tb sz (els.take n))) = okB E β st := setBox_ok hb rfl rfl
  have hav : ∀ j, avoidsLL j els = true → avoidsLL j (els.take n) = true := fun j hj => by
    rw [← List.take_append_drop n els, ← avoidsL_flatten, List.flatten_append, avoidsL_append, Bool.and_eq_true] at hj
    rw [← avoidsL_flatten]
    exact hj.1
  refine ⟨H.env, H.size, H.defers, H.kept, fun t x hx => ?_, fun t x hx j hj => H.lim t x hx j (by rw [hlen] at hj; exact hj), fun k bc hk => ?_, fun k bc hk q hq => ?_, fun k q b h1 h2 => H.inj k q b ((hlv k).1 h1) ((hlv q).1 h2), fun k b h1 => H.fresh k b ((hlv k).1 h1), H.ex, ⟨by rw [hlen]; exact H.pin.1, H.pin.2⟩⟩
  · rw [hok]; exact H.slots t x hx
  · rw [hok]
    rcases setBox_get hil hk with ⟨rfl, rfl⟩ | ⟨h1, h2⟩
    · have hbx := H.boxes _ _ hb
      simp only [BoxC.rep] at hbx ⊢
      cases hβ : β k with
      | none => rw [hβ] at hbx; simp only at hbx ⊢; rw [hbx]; simp
      | some b =>
        rw [hβ] at hbx
        obtain ⟨cur, tl, h5, hls, cs, h6, h7, h8⟩ := hbx
        have hfl : els.flatten.length = els.length * sz := flatten_len hls
        have e : (els.take n).flatten = els.flatten.take ((els.take n).length * sz) := by
          have h9 : (els.take n).flatten.length = (els.take n).length * sz := flatten_len fun l hl => hls l (List.mem_of_mem_take hl)
          have e0 : els.flatten = (els.take n).flatten ++ (els.drop n).flatten := by rw [← List.flatten_append, List.take_append_drop]
          rw [e0, ← h9, List.take_left]
        refine ⟨cur, cs.drop ((els.take n).length * sz) ++ tl, h5, fun l hl => hls l (List.mem_of_mem_take hl), cs.take ((els.take n).length * sz), by rw [← List.append_assoc, List.take_append_drop]; exact h6, ?_, ?_⟩
        · rw [List.length_take, h7]
          refine Nat.min_eq_left (Nat.mul_le_mul_right _ ?_)
          rw [List.length_take]; omega
        · rw [e]
          exact repCells_take _ h8
    · exact H.boxes k bc h2
  · rw [hlen] at hq
    rcases setBox_get hil hk with ⟨rfl, rfl⟩ | ⟨h1, h2⟩
    · exact hav q (H.blim _ _ hb q hq)
    · exact H.blim k bc h2 q hq
theorem W_short {X : RX} {C : Ctx} {E : Env} {Q : AQ} {st : St} {c : Code} (i n : Nat) {tb sz : Nat} {els : List (List AV)} (hb : nthA st.boxes i = some (.row tb sz els)) (h : forceSt (st.setBox i (.row tb sz (els.take n))) fun s => W X C E c Q s) : W X C E c Q st := by
  rw [forceSt_iff] at h
  rw [nthA_eq] at hb
  exact ⟨fun β a w H => h.run β a w (H.short n hb)⟩
/-- A call that lays memory of the caller's own, though it is handed none. -/
def calN (X : RX) (C : Ctx) (st : St) (d : Option Nat) (c : AV) (l : List AV) (K : St → Prop) : Prop := match c with
  | .fn (.func f) caps => ∃ s args bin x bout, CallB X C st f c l s args bin x bout ∧ (match d with
        | none => forceSt (st.called s bin bout) K
        | some t => whenB (Nat.blt t X.nt) (forceSt ((st.called s bin bout).put t (x.ren (renOf s st.boxes.length))) K))
  | _ => False
/-- A region of which operation k is such a call. -/
def runN (X : RX) (C : Ctx) (ops : List Oper) : Nat → List Oper → St → (St → Prop) → Prop
  | _, [], st, K => False
  | 0, o :: rest, st, K => guardR ops o st (match o.op with
    | .call { callee := .value c, args := args, argTypes := _ } => forceS (mapLk st args.toList) fun l => calN X C st o.dst (lk st c) l fun st => runR X C ops rest st K
    | _ => False) (putR X o.dst (.v undef) st fun st => runR X C ops rest st K)
  | k + 1, o :: rest, st, K => guardR ops o st (stepR X C o st fun st => runN X C ops k rest st K) (putR X o.dst (.v undef) st fun st => runN X C ops k rest st K)
section
variable {X : RX} {C : Ctx} {E : Env} (hX : RXok X C E) {ops : Array Oper} {rest : List Oper} {o : Oper} {Q : AQ} {st : St} {K : St → Prop}
include hX
theorem calN_sound {c : Operand} {args : Array Operand} {ts : Array TypeId} (hw : Wanted ops o st) (ho : o.op = .call { callee := .value c, args := args, argTypes := ts }) (h : calN X C st o.dst (lk st c) (mapLk st args.toList) K) (hK : ∀ st, K st → AL C E ops rest Q st) : AL C E ops (o :: rest) Q st := by
  unfold calN at h
  rw [mapLk_eq] at h
  split at h
  · rename_i f caps hc
    have hc' := lk_look hc
    obtain ⟨s, args', bin, x, bout, hB, h8⟩ := h
    obtain ⟨d, hd⟩ : ∃ d, o.dst = d := ⟨_, rfl⟩
    rw [hd] at h8
    refine AL_callB (d := d) (caps := dropF (args.toList.map st.look).length args') (l := args'.take (args.toList.map st.look).length) s hw ho hd (fun t ht => ?_) hB.fok (by rw [hc']; first | exact hB.hc | (rw [← hc]; exact hB.hc)) hB.hl (by rw [dropF_eq, List.take_append_drop]; exact hB.ac) hB.len hB.nd hB.bx hB.le hB.live hB.lim hB.limo hB.hx (fun j hj => ?_) (fun j hj => av_many (hB.av j hj)) ?_
    · subst ht
      obtain ⟨h9, _⟩ := whenB_dest h8
      rw [hX.nt]
      simpa using h9
    · rcases Bool.or_eq_true _ _ ▸ hB.pin j hj with h | h
      · exact .inl (by rw [hX.np]; exact Nat.le_of_ble_eq_true h)
      · exact .inr (hX.free j (by simpa using h))
    · cases d with
      | none => exact hK _ (forceSt_iff.1 h8)
      | some t =>
        obtain ⟨_, h9⟩ := whenB_dest h8
        exact hK _ (forceSt_iff.1 h9)
  · exact h.elim
theorem runN_sound : ∀ (k : Nat) (rest : List Oper) (st : St) (K : St → Prop), (∀ st, K st → Q .normal st) → runN X C ops.toList k rest st K → AL C E ops rest Q st
  | k, [], st, K, hK, h => by cases k <;> exact h.elim
  | 0, o :: rest, st, K, hK, h => by
    rw [runN] at h
    refine guardR_dest h (fun hw h' => ?_) (fun hw h' => ?_)
    · split at h'
      · rename_i c args ts ho
        rw [forceS_iff] at h'
        exact calN_sound hX hw ho h' fun st h => runR_sound hX rest st K hK h
      · exact h'.elim
    · exact AL_skp hX hw h' fun st h => runR_sound hX rest st K hK h
  | k + 1, o :: rest, st, K, hK, h => by
    rw [runN] at h
    refine guardR_dest h (fun hw h' => ?_) (fun hw h' => ?_)
    · exact stepR_sound hX hw h' fun st h => runN_sound k rest st K hK h
    · exact AL_skp hX hw h' fun st h => runN_sound k rest st K hK h
theorem W_regionN (k : Nat) {id : Nat} {ops : Array Oper} (h : runN X C ops.toList k ops.toList st fun st => Q .normal st) : W X C E (.region id ops false) Q st :=
  ⟨AW_region (runN_sound hX k _ _ _ (fun _ h => h) h)⟩
/-- Any region but number n. -/
theorem W_regionB (n : Nat) {id : Nat} {ops : Array Oper} (hn : Nat.beq id n = false) (h : runR X C ops.toList ops.toList st fun st => Q .normal st) : W X C E (.region id ops false) Q st := W_region hX h
end
end Go.Proofs.YtnfbomhhgjlacaaDoor.Abs
