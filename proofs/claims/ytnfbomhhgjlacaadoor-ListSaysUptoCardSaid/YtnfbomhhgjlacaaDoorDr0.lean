/- More of the engine: nil compared, literals of the call's own, nil in a box, bytes of a literal. -/
import Derived.Test.YtnfbomhhgjlacaaDoorDabs2
import Derived.Lib.UnsafeStr
namespace Go.Proofs.YtnfbomhhgjlacaaDoor.Abs
open Go.RowKit Go.MapKept
set_option linter.unusedVariables false
set_option linter.unusedSimpArgs false
section
variable {C : Ctx} {E : Env} {ops : Array Oper} {rest : List Oper} {Q : AQ} {st : St} {o : Oper} {β : BMap} {a : Act} {w w' : World}
theorem run_nilIn {P : Program} (w : World) (d : Nat) (t e : TypeId) (A : Option Addr) (l c : Nat) (h : P.underlying t = some (.slice e)) : (Op.equalIn (d + 1) t (.slice A l c) (.slice none 0 0)).run P w = .ok A.isNone w := by
  cases A <;> simp [Op.equalIn, run_underlying h]
theorem run_nilEq {P : Program} (w : World) (t e : TypeId) (A : Option Addr) (l c : Nat) (h : P.underlying t = some (.slice e)) : (Op.equal t (.slice A l c) (.slice none 0 0)).run P w = .ok A.isNone w := run_nilIn w 9999 t e A l c h
theorem run_eqlNil {P : Program} {y z : Operand} (w : World) (t e : TypeId) (A : Option Addr) (l c : Nat) (h : P.underlying t = some (.slice e)) : (do eqGuard .eql t y z (.slice A l c) (.slice none 0 0); binOp .eql t (.slice A l c) (.slice none 0 0) : Sem Value).run P w = .ok (.bool A.isNone) w := by
  have hg : eqGuard .eql t y z (.slice A l c) (.slice none 0 0) = pure () := rfl
  have h2 := run_nilEq w t e A l c h
  simp [hg, binOp, h2]
theorem run_neqNil {P : Program} {y z : Operand} (w : World) (t e : TypeId) (A : Option Addr) (l c : Nat) (h : P.underlying t = some (.slice e)) : (do eqGuard .neq t y z (.slice A l c) (.slice none 0 0); binOp .neq t (.slice A l c) (.slice none 0 0) : Sem Value).run P w = .ok (.bool (!A.isNone)) w := by
  have hg : eqGuard .neq t y z (.slice A l c) (.slice none 0 0) = pure () := rfl
  have h2 := run_nilEq w t e A l c h
  simp [hg, binOp, h2]
/-- A slice that is only read, and nil: it is known where there are elements. -/
theorem AL_nilEq {t e tr : TypeId} {y z : Operand} {sz d : Nat} {els : List (List AV)} (hw : Wanted ops o st) (ho : o.op = .binOp .eql t y z tr) (hy : st.look y = .row sz els) (hz : st.look z = .v (.slice none 0 0)) (ht : C.P.underlying t = some (.slice e)) (hd : o.dst = some d) (hlt : d < E.nt) (h : ∀ b : Bool, (els ≠ [] → b = false) → AL C E ops rest Q (st.put d (.v (.bool b)))) : AL C E ops (o :: rest) Q st := by
  intro β a w H
  refine wpList_step fun K hK => ?_
  rw [wanted_of H hw]
  simp only [if_true]
  have hr := H.look y
  rw [hy] at hr
  obtain ⟨A, c, h1, h2, h3⟩ := hr
  have hzv : a.eval z = .slice none 0 0 := look_v H hz
  refine wp_val (v := .bool A.isNone) (w' := w) ?_ (hK _ _ (h A.isNone (fun hne => ?_) β _ _ ?_))
  · simp only [execOp, ho, h1, hzv]
    rw [Sem.run_bind, run_eqlNil w t e A _ c ht]
    rfl
  · obtain ⟨b, off, rfl, _⟩ := h3 (List.length_pos_iff.2 hne)
    rfl
  · rw [hd]
    exact H.put hlt rfl (fun i _ => avoids_v i)
theorem AL_nilNe {t e tr : TypeId} {y z : Operand} {sz d : Nat} {els : List (List AV)} (hw : Wanted ops o st) (ho : o.op = .binOp .neq t y z tr) (hy : st.look y = .row sz els) (hz : st.look z = .v (.slice none 0 0)) (ht : C.P.underlying t = some (.slice e)) (hd : o.dst = some d) (hlt : d < E.nt) (h : ∀ b : Bool, (els ≠ [] → b = false) → AL C E ops rest Q (st.put d (.v (.bool (!b))))) : AL C E ops (o :: rest) Q st := by
  intro β a w H
  refine wpList_step fun K hK => ?_
  rw [wanted_of H hw]
  simp only [if_true]
  have hr := H.look y
  rw [hy] at hr
  obtain ⟨A, c, h1, h2, h3⟩ := hr
  have hzv : a.eval z = .slice none 0 0 := look_v H hz
  refine wp_val (v := .bool (!A.isNone)) (w' := w) ?_ (hK _ _ (h A.isNone (fun hne => ?_) β _ _ ?_))
  · simp only [execOp, ho, h1, hzv]
    rw [Sem.run_bind, run_neqNil w t e A _ c ht]
    rfl
  · obtain ⟨b, off, rfl, _⟩ := h3 (List.length_pos_iff.2 hne)
    rfl
  · rw [hd]
    exact H.put hlt rfl (fun i _ => avoids_v i)
theorem sliceInfo_some {P : Program} {t e sz : Nat} {zs : List Value} (hin : sliceInfo P t = some (e, sz, zs)) : ∃ i z, P.underlying t = some (.slice e) ∧ P.info? e = some i ∧ i.zero = some z ∧ z.cells.size = i.size ∧ 0 < i.size ∧ (∀ u ∈ z.cells.toList, u.oneCell' = true) ∧ sz = i.size ∧ zs = z.cells.toList := by
  unfold sliceInfo at hin
  split at hin
  · rename_i e' he
    split at hin
    · rename_i i hi
      split at hin
      · rename_i z hz
        split at hin
        · rename_i hc
          simp only [Option.some.injEq, Prod.mk.injEq] at hin
          obtain ⟨rfl, rfl, rfl⟩ := hin
          exact ⟨i, z, he, hi, hz, hc.1, hc.2.1, fun u hu => List.all_eq_true.1 hc.2.2 u hu, rfl, rfl⟩
        · cases hin
      · cases hin
    · cases hin
  · cases hin
theorem run_buildSlice' {P : Program} (w : World) (t e : TypeId) (len : Nat) (parts : Array (Nat × Value)) (cells : Array Value) (ie : TypeInfo) (z : Value)
    (hu : P.underlying t = some (.slice e)) (hie : P.info? e = some ie) (hz : ie.zero = some z) (hsmall : ¬ len * ie.size > 2 ^ 24)
    (h : Instr.fill (fun i => some (i * ie.size, ie.size)) ((Array.range (len * ie.size)).map (z.cells[· % z.cells.size]!)) parts.toList = some cells) :
    (Instr.buildSlice t len parts).run P w = .ok (.slice (some ⟨w.heap.size, 0, none⟩) len len) (w.alloc (.cells cells e)) := by
  by_cases hpos : len * ie.size = 0
  · rw [hpos] at h
    have e0 : ∀ f : Nat → Value, (Array.range 0).map f = #[] := fun f => by apply Array.ext <;> simp
    have h' : Instr.fill (fun i => some (i * ie.size, ie.size)) #[] parts.toList = some cells := by rw [e0] at h; exact h
    simp [Instr.buildSlice, run_underlying hu, sizeOf, typeInfo, zeroValue, hie, hpos, h', e0, newRow]
  · exact run_buildSlice w t e len parts cells ie z hu hie hz hsmall hpos h
theorem lit_run {t e sz len : Nat} {zs : List Value} {parts : Array (Nat × Operand)} {els : List (List AV)} (hin : sliceInfo C.P t = some (e, sz, zs)) (hs : len * sz ≤ 2 ^ 24)
    (hf : fillA (fun i => some (i * sz, sz)) ((List.range (len * sz)).map (fun i => AV.v (zs[i % sz]!))) (parts.toList.map fun p => (p.1, st.look p.2)) = some els.flatten) (H : Holds C E β st a w) :
    ∃ cs, (Instr.buildSlice t len (parts.map fun p => (p.1, a.eval p.2))).run C.P w = .ok (.slice (some ⟨w.heap.size, 0, none⟩) len len) (w.alloc (.cells cs e)) ∧ AV.repCells β (okB E β st) w els.flatten cs.toList := by
  obtain ⟨i, z, he, hi, hz, hc1, hc2, hc3, rfl, rfl⟩ := sliceInfo_some hin
  have hz0 : AV.repCells β (okB E β st) w ((List.range (len * i.size)).map (fun k => AV.v (z.cells.toList[k % i.size]!))) ((Array.range (len * i.size)).map (z.cells[· % z.cells.size]!)).toList := by
    rw [madeList, hc1]
    have e : (List.range (len * i.size)).map (fun k => AV.v (z.cells.toList[k % i.size]!)) = ((List.range (len * i.size)).map (fun k => z.cells[k % i.size]!)).map AV.v := by
      rw [List.map_map]
      refine List.map_congr_left fun k _ => ?_
      show AV.v _ = AV.v _
      congr 1
      simp [List.getElem!_eq_getElem?_getD, Array.getElem!_eq_getD, Array.getD_eq_getD_getElem?]
    rw [e]
    refine repCells_v _ fun u hu => ?_
    obtain ⟨k, _, rfl⟩ := List.mem_map.1 hu
    have hk : k % i.size < z.cells.size := by rw [hc1]; exact Nat.mod_lt _ hc2
    have e9 : z.cells[k % i.size]! = z.cells[k % i.size] := getElem!_pos z.cells (k % i.size) hk
    rw [e9]
    exact hc3 _ (by simp)
  obtain ⟨cs', h5, h6⟩ := fill_rep (f := st.look) (a := a) (β := β) (ok := okB E β st) (w := w) _ parts.toList _ _ _ (fun p _ => H.look p.2) hz0 hf
  have e9 : (parts.map fun p => (p.1, a.eval p.2)).toList = parts.toList.map fun p => (p.1, a.eval p.2) := by simp
  rw [← e9] at h5
  have h7 := run_buildSlice' (P := C.P) (w := w) (t := t) (e := e) (len := len) (parts := parts.map fun p => (p.1, a.eval p.2)) (cells := cs') (ie := i) (z := z) he hi hz (Nat.not_lt.2 hs) h5
  exact ⟨cs', h7, h6⟩
/-- A slice literal that becomes a row of the call's own. -/
theorem Y_buildSliceO {t e sz len n : Nat} {zs : List Value} {parts : Array (Nat × Operand)} {els : List (List AV)} (ho : o.op = .buildSlice t len parts) (hin : sliceInfo C.P t = some (e, sz, zs)) (hs : len * sz ≤ 2 ^ 24)
    (hf : fillA (fun i => some (i * sz, sz)) ((List.range (len * sz)).map (fun i => AV.v (zs[i % sz]!))) (parts.toList.map fun p => (p.1, st.look p.2)) = some els.flatten) (hel : ∀ l ∈ els, l.length = sz) (hlen : els.length = len) (hcl : ∀ i, avoidsLL i els = true) : Yields C E st o (.own n sz 0 len) (some (n, .row e sz els)) :=
  Y_new fun E' β a w H hF => by
    obtain ⟨cs, hr, hc⟩ := lit_run hin hs hf H
    have h0 : 0 < sz := by obtain ⟨i, z, _, _, _, _, h, _, rfl, _⟩ := sliceInfo_some hin; exact h
    have hml : len ≤ maxLen := by
      have h1 : len * 1 ≤ len * sz := Nat.mul_le_mul_left _ h0
      have h2 : maxLen = 9223372036854775807 := rfl
      have h3 : (2 : Nat) ^ 24 = 16777216 := rfl
      omega
    have hcl2 : cs.toList.length = len * sz := by rw [repCells_len hc, flatten_len hel, hlen]
    refine ⟨.slice (some ⟨w.heap.size, 0, none⟩) len len, w.alloc (.cells cs e), ?_, below_alloc' _ _, size_alloc' _ _, ?_, ?_, fun i hi => ?_, fun i hi => hcl i⟩
    · simp only [execOp, ho, Sem.run_bind, hr]
      rfl
    · rw [AV.rep, upd_eq]
      refine ⟨len, e, by simp, Nat.le_refl _, hml, ?_⟩
      rw [shape_alloc, Nat.zero_add, ← hcl2]
      simp
    · simp only [BoxC.rep, upd_eq]
      refine ⟨cs, [], .of (heap_alloc_new _ _), hel, cs.toList, by simp, by rw [hcl2, hlen], ?_⟩
      exact AV.repCells_mono (ext_new (below_alloc' (dr := C.dr) _ _).toBelow) _ _ (fun j hj => by rw [avoidsL_flatten, hcl j] at hj; cases hj) hc
    · have := fresh_lt hF
      simp [AV.avoids]; omega
theorem run_same {P : Program} {t e : TypeId} {W : World} (hu : P.underlying t = some (.slice e)) (he : P.underlying e = some (.int .u8)) (g n c : Nat) (cells : Array Value) (hb : W.heap[g]? = some (.cells cells e (0, 0))) : (convert t t (.slice (some ⟨g, 0, none⟩) n c)).run P W = .ok (.slice (some ⟨g, 0, none⟩) n c) (W.freeze ⟨g, cells.size, none⟩ 1) := by
  have h1 := run_underlying (w := W) hu
  have h2 := run_underlying (w := W) he
  have hs : W.shape? g = some (e, cells.size) := by simp [World.shape?, hb]
  simp [convert, h1, h2, markStringish, hs, Result.andThen]
/-- A literal's bytes, converted to their own type at once. -/
theorem AL_lit2 {t e len d d2 : Nat} {o2 : Oper} {zs : List Value} {parts : Array (Nat × Operand)} {els : List (List AV)} (hg : o.guard = none) (hg2 : o2.guard = none) (ho : o.op = .buildSlice t len parts) (hd : o.dst = some d) (ho2 : o2.op = .convert t t (.tmp d)) (hd2 : o2.dst = some d2) (hne : d2 ≠ d) (hlt : d < E.nt) (hlt2 : d2 < E.nt) (hin : sliceInfo C.P t = some (e, 1, zs)) (he : C.P.underlying e = some (.int .u8)) (h0 : 0 < len) (hs : len * 1 ≤ 2 ^ 24)
    (hf : fillA (fun i => some (i * 1, 1)) ((List.range (len * 1)).map (fun i => AV.v (zs[i % 1]!))) (parts.toList.map fun p => (p.1, st.look p.2)) = some els.flatten) (hel : ∀ l ∈ els, l.length = 1) (hlen : els.length = len) (hcl : ∀ i, avoidsLL i els = true)
    (h : AL C E ops rest Q ((st.put d .junk).put d2 (.row 1 els))) : AL C E ops (o :: o2 :: rest) Q st := by
  intro β a w H
  obtain ⟨cs, hr, hc⟩ := lit_run hin hs hf H
  have hcl2 : cs.toList.length = len := by rw [repCells_len hc, flatten_len hel, hlen, Nat.mul_one]
  obtain ⟨i, z, hu, _⟩ := sliceInfo_some hin
  refine wpList_step fun K hK => ?_
  rw [wanted_of H (.inl hg)]
  simp only [if_true]
  refine wp_val (v := .slice (some ⟨w.heap.size, 0, none⟩) len len) (w' := w.alloc (.cells cs e)) (by simp only [execOp, ho, Sem.run_bind, hr]; rfl) (hK _ _ ?_)
  have H1 : Holds C E β (st.put d .junk) (a.put o.dst (.slice (some ⟨w.heap.size, 0, none⟩) len len)) (w.alloc (.cells cs e)) := by
    rw [hd]
    exact (H.below (below_alloc' _ _)).put hlt trivial (fun i _ => rfl)
  refine wpList_step fun K hK => ?_
  rw [wanted_of H1 (.inl hg2)]
  simp only [if_true]
  have hv : (a.put o.dst (.slice (some ⟨w.heap.size, 0, none⟩) len len)).eval (.tmp d) = .slice (some ⟨w.heap.size, 0, none⟩) len len := by
    rw [hd]
    exact put_getD_eq a _ (by rw [H.size]; exact hlt)
  have hnew := heap_alloc_new w (.cells cs e)
  have hrun : (convert t t (.slice (some ⟨w.heap.size, 0, none⟩) len len)).run C.P (w.alloc (.cells cs e)) = .ok (.slice (some ⟨w.heap.size, 0, none⟩) len len) ((w.alloc (.cells cs e)).freeze ⟨w.heap.size, cs.size, none⟩ 1) := by
    exact run_same hu he _ _ _ _ hnew
  have hfz : ((w.alloc (.cells cs e)).freeze ⟨w.heap.size, cs.size, none⟩ 1).heap[w.heap.size]? = some (.cells cs e (cs.size, cs.size + 1)) := by
    unfold World.freeze
    rw [if_neg (by decide), Array.getElem?_modify, if_pos rfl, hnew]
    rfl
  have hb2 : BelowD C.dr w.heap.size w ((w.alloc (.cells cs e)).freeze ⟨w.heap.size, cs.size, none⟩ 1) := by
    refine ⟨Go.Lib.below_freeze (below_alloc' (dr := C.dr) w _).toBelow (Nat.le_refl _) 1, fun _ => ?_⟩
    unfold World.freeze
    rw [if_neg (by decide)]
    exact Nat.le_refl _
  refine wp_val (v := .slice (some ⟨w.heap.size, 0, none⟩) len len) (w' := (w.alloc (.cells cs e)).freeze ⟨w.heap.size, cs.size, none⟩ 1) ?_ (hK _ _ (h β _ _ ?_))
  · simp only [execOp, ho2, hv, Sem.run_bind, hrun]
    rfl
  · have H2 : Holds C E β (st.put d .junk) (a.put o.dst (.slice (some ⟨w.heap.size, 0, none⟩) len len)) ((w.alloc (.cells cs e)).freeze ⟨w.heap.size, cs.size, none⟩ 1) := by
      rw [hd]
      exact (H.below hb2).put hlt trivial (fun i _ => rfl)
    rw [hd2]
    refine H2.put hlt2 ?_ (fun i _ => rfl)
    have hlt3 := (Array.getElem?_eq_some_iff.1 hfz).1
    refine ⟨_, len, by rw [hlen], by omega, fun _ => ⟨w.heap.size, 0, rfl, H.ok_new (Nat.le_refl _), hlt3, ?_⟩⟩
    refine repRows_of_cells (cs := cs.toList) 0 hel ?_ fun j v hv => ?_
    · exact AV.repCells_mono (ext_below hb2.toBelow) _ _ (fun _ _ => rfl) (AV.repCells_mono (β' := nob) ⟨Nat.le_refl _, fun _ h _ => h, fun _ _ _ => rfl, fun _ _ _ _ h => h⟩ _ _ (fun k hk => by rw [avoidsL_flatten, hcl k] at hk; cases hk) hc)
    · rw [Nat.zero_add, cell_of_blk hfz]
      exact hv
theorem repCells_set1 {ok : Nat → Prop} : ∀ {l : List AV} {vs : List Value} (j : Nat) {x : AV}, AV.repCells β ok w l vs → (∀ v, vs[j]? = some v → x.rep β ok w v) → AV.repCells β ok w (l.set j x) vs
  | [], vs, j, x, h, hx => h
  | y :: l, vs, 0, x, h, hx => by
    obtain ⟨v, rest, rfl, h2, h3, h4⟩ := h
    exact ⟨v, rest, rfl, h2, hx v rfl, h4⟩
  | y :: l, vs, j + 1, x, h, hx => by
    obtain ⟨v, rest, rfl, h2, h3, h4⟩ := h
    exact ⟨v, rest, rfl, h2, h3, repCells_set1 j h4 (fun u hu => hx u (by simpa using hu))⟩
theorem avoidsL_set {i : Nat} : ∀ {l : List AV} {j : Nat} {x : AV}, AV.avoidsL i l = true → x.avoids i = true → AV.avoidsL i (l.set j x) = true
  | [], _, _, h, _ => h
  | y :: l, 0, x, h, hx => by simp only [AV.avoidsL, Bool.and_eq_true, List.set_cons_zero] at h ⊢; exact ⟨hx, h.2⟩
  | y :: l, j + 1, x, h, hx => by simp only [AV.avoidsL, Bool.and_eq_true, List.set_cons_succ] at h ⊢; exact ⟨h.1, avoidsL_set h.2 hx⟩
/-- A nil slice in a variable of the call's own, that will be appended to. -/
theorem Holds.nilOwnBox (H : Holds C E β st a w) {k j sz tb t : Nat} {cs : List AV} (hk : st.boxes[k]? = some (.cells t cs)) (hj : cs[j]? = some (.v (.slice none 0 0))) : Holds C E (upd β st.boxes.length none) ((st.add (.row tb sz [])).setBox k (.cells t (cs.set j (.own st.boxes.length sz 0 0)))) a w := by
  have He := H.ext
  have hkl : k < st.boxes.length := (List.getElem?_eq_some_iff.1 hk).1
  have hn : st.ext.boxes[st.boxes.length]? = some .none := by simp [St.ext]
  have H2 := He.setBox (BelowD.refl _ _) (bc := .row tb sz []) (g := none) hn (fun t x hx => H.lim t x hx _ (Nat.le_refl _)) (fun i b hi => by
    unfold St.ext at hi
    rw [List.getElem?_append] at hi
    split at hi
    · exact H.blim i b hi _ (Nat.le_refl _)
    · rename_i h'
      cases hk : i - st.boxes.length with
      | zero => rw [hk] at hi; have : BoxC.none = b := by simpa using hi
                subst this; rfl
      | succ k => rw [hk] at hi; simp at hi) (fun b hb => by cases hb) (by simp [BoxC.rep, upd_eq]) (fun _ _ => rfl) H.pin.1
  rw [ext_set] at H2
  have hk2 : (st.add (.row tb sz [])).boxes[k]? = some (.cells t cs) := by
    show (st.boxes ++ [_])[k]? = _
    rw [List.getElem?_append_left hkl]; exact hk
  have hk2l : k < (st.add (.row tb sz [])).boxes.length := (List.getElem?_eq_some_iff.1 hk2).1
  have hlen : ((st.add (.row tb sz [])).setBox k (.cells t (cs.set j (.own st.boxes.length sz 0 0)))).boxes.length = (st.add (.row tb sz [])).boxes.length := by simp [St.setBox]
  have hlv : ∀ i, ((st.add (.row tb sz [])).setBox k (.cells t (cs.set j (.own st.boxes.length sz 0 0)))).liveB i ↔ (st.add (.row tb sz [])).liveB i := fun i => setBox_live hk2 rfl rfl
  have hok : okB E (upd β st.boxes.length none) ((st.add (.row tb sz [])).setBox k (.cells t (cs.set j (.own st.boxes.length sz 0 0)))) = okB E (upd β st.boxes.length none) (st.add (.row tb sz [])) := setBox_ok hk2 rfl rfl
  refine ⟨H2.env, H2.size, H2.defers, H2.kept, fun t' x hx => ?_, fun t' x hx i hi => H2.lim t' x hx i (by rw [hlen] at hi; exact hi), fun i b hi => ?_, fun i b hi q hq => ?_, fun i q b h1 h2 => H2.inj i q b ((hlv i).1 h1) ((hlv q).1 h2), fun i b h1 => H2.fresh i b ((hlv i).1 h1), H2.ex, ⟨by rw [hlen]; exact H2.pin.1, H2.pin.2⟩⟩
  · rw [hok]; exact H2.slots t' x hx
  · rw [hok]
    rcases setBox_get hk2l hi with ⟨rfl, rfl⟩ | ⟨h1, h2⟩
    · obtain ⟨b, cur, h3, h4, h5⟩ := H2.boxes _ _ hk2
      refine ⟨b, cur, h3, h4, repCells_set1 j h5 fun v hv => ?_⟩
      have h6 := repCells_get h5 hj
      obtain ⟨v', h7, h8⟩ : ∃ v', cur.toList[j]? = some v' ∧ v' = .slice none 0 0 := by
        first
        | exact ⟨_, h6.1, h6.2⟩
        | (obtain ⟨u, e1, e2⟩ := h6; exact ⟨u, e1, e2⟩)
        | (obtain ⟨u, e1, e2, e3⟩ := h6; exact ⟨u, e1, e3⟩)
      rw [h7] at hv
      injection hv with hv
      subst hv; subst h8
      rw [AV.rep, upd_eq]
      exact ⟨rfl, rfl, rfl⟩
    · exact H2.boxes i b h2
  · rw [hlen] at hq
    rcases setBox_get hk2l hi with ⟨rfl, rfl⟩ | ⟨h1, h2⟩
    · refine avoidsL_set (H2.blim _ _ hk2 q hq) ?_
      have : st.boxes.length < q := by simp [St.add] at hq; omega
      simp [AV.avoids]; omega
    · exact H2.blim i b h2 q hq
end
end Go.Proofs.YtnfbomhhgjlacaaDoor.Abs
