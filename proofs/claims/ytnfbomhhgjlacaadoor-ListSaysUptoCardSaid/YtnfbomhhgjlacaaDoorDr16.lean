/- Walks by computing: what strings.Builder does with pointers. -/
import Derived.Test.YtnfbomhhgjlacaaDoorDr15
import Derived.Lib.Builder
import Derived.Laws.Externs
namespace Go.Proofs.YtnfbomhhgjlacaaDoor.Abs
open Go.RowKit Go.MapKept
set_option linter.unusedVariables false
set_option linter.unusedSimpArgs false
section
variable {C : Ctx} {E : Env} {st : St} {o : Oper}
theorem run_ptrNilIn {P : Program} (w : World) (d : Nat) (t e : TypeId) (A : Option Addr) (h : P.underlying t = some (.pointer e)) : (Op.equalIn (d + 1) t (.pointer A) (.pointer none)).run P w = .ok A.isNone w := by
  cases A <;> simp [Op.equalIn, run_underlying h]
theorem run_ptrNil {P : Program} (w : World) (t e : TypeId) (A : Option Addr) (h : P.underlying t = some (.pointer e)) : (Op.equal t (.pointer A) (.pointer none)).run P w = .ok A.isNone w := run_ptrNilIn w 9999 t e A h
theorem run_eqlPtrNil {P : Program} {y z : Operand} (w : World) (t e : TypeId) (A : Option Addr) (h : P.underlying t = some (.pointer e)) : (do eqGuard .eql t y z (.pointer A) (.pointer none); binOp .eql t (.pointer A) (.pointer none) : Sem Value).run P w = .ok (.bool A.isNone) w := by
  have hg : eqGuard .eql t y z (.pointer A) (.pointer none) = pure () := by cases A <;> rfl
  have h2 := run_ptrNil w t e A h
  simp [hg, binOp, h2]
/-- A pointer that has been laid nowhere is nil. -/
theorem Y_nilIsNil {t e tr : TypeId} {y z : Operand} (ho : o.op = .binOp .eql t y z tr) (ht : C.P.underlying t = some (.pointer e)) (hy : st.look y = .v (.pointer none)) (hz : st.look z = .v (.pointer none)) : Yields C E st o (.v (.bool true)) none :=
  Y_of fun E' β a w H => by
    refine ⟨.bool true, ?_, rfl, fun i _ => avoids_v i⟩
    simp only [execOp, ho, look_v H hy, look_v H hz]
    rw [Sem.run_bind, run_eqlPtrNil w t e none ht]
    rfl
theorem Y_ptrIsNil {t e tr : TypeId} {y z : Operand} {i off : Nat} (ho : o.op = .binOp .eql t y z tr) (ht : C.P.underlying t = some (.pointer e)) (hy : st.look y = .ptr i off) (hz : st.look z = .v (.pointer none)) : Yields C E st o (.v (.bool false)) none :=
  Y_of fun E' β a w H => by
    have h := H.look y
    rw [hy] at h
    obtain ⟨b, h1, h2⟩ := h
    refine ⟨.bool false, ?_, rfl, fun i _ => avoids_v i⟩
    simp only [execOp, ho, h2, look_v H hz]
    rw [Sem.run_bind, run_eqlPtrNil w t e _ ht]
    rfl
theorem run_ptrSelfIn {P : Program} (w : World) (d : Nat) (t e : TypeId) (b off : Nat) (j : TypeInfo) (h : P.underlying t = some (.pointer e)) (hj : P.info? e = some j) (hs : j.size ≠ 0) : (Op.equalIn (d + 1) t (.pointer (some ⟨b, off, none⟩)) (.pointer (some ⟨b, off, none⟩))).run P w = .ok true w := by
  simp [Op.equalIn, run_underlying h, sizeOf, typeInfo, hj, hs, sameAddr]
theorem run_neqPtrSelf {P : Program} {y z : Operand} (w : World) (t e : TypeId) (b off : Nat) (j : TypeInfo) (h : P.underlying t = some (.pointer e)) (hj : P.info? e = some j) (hs : j.size ≠ 0) : (do eqGuard .neq t y z (.pointer (some ⟨b, off, none⟩)) (.pointer (some ⟨b, off, none⟩)); binOp .neq t (.pointer (some ⟨b, off, none⟩)) (.pointer (some ⟨b, off, none⟩)) : Sem Value).run P w = .ok (.bool false) w := by
  have hg : eqGuard .neq t y z (.pointer (some ⟨b, off, none⟩)) (.pointer (some ⟨b, off, none⟩)) = pure () := rfl
  have h2 : (Op.equal t (.pointer (some ⟨b, off, none⟩)) (.pointer (some ⟨b, off, none⟩))).run P w = .ok true w := run_ptrSelfIn w 9999 t e b off j h hj hs
  simp [hg, binOp, h2]
/-- A pointer is no other one than itself. -/
theorem Y_ptrSelf {t e tr : TypeId} {y z : Operand} {i off : Nat} {j : TypeInfo} (ho : o.op = .binOp .neq t y z tr) (ht : C.P.underlying t = some (.pointer e)) (hj : C.P.info? e = some j) (hs : j.size ≠ 0) (hy : st.look y = .ptr i off) (hz : st.look z = .ptr i off) : Yields C E st o (.v (.bool false)) none :=
  Y_of fun E' β a w H => by
    have h := H.look y
    rw [hy] at h
    obtain ⟨b, h1, h2⟩ := h
    have h' := H.look z
    rw [hz] at h'
    obtain ⟨b', h1', h2'⟩ := h'
    rw [h1] at h1'
    injection h1' with h1'
    subst h1'
    refine ⟨.bool false, ?_, rfl, fun i _ => avoids_v i⟩
    simp only [execOp, ho, h2, h2']
    rw [Sem.run_bind, run_neqPtrSelf w t e b off j ht hj hs]
    rfl
/-- A pointer as one that says nothing of what lies there: it lies in a block of cells. -/
theorem Y_toUnsafe {s d t e : TypeId} {y : Operand} {i off : Nat} {j : TypeInfo} {cs : List AV} (ho : o.op = .convert s d y) (hs : C.P.underlying s = some (.pointer t)) (hd : C.P.underlying d = some .unsafePointer) (ht : C.P.info? t = some j) (hj : j.size ≠ 0) (hy : st.look y = .ptr i off) (hb : st.boxes[i]? = some (.cells e cs)) (hoff : off < cs.length) : Yields C E st o (.ptr i off) none :=
  Y_of fun E' β a w H => by
    have h := H.look y
    have hl := H.looklim y
    rw [hy] at h hl
    obtain ⟨b, h1, h2⟩ := h
    obtain ⟨b', cur, h3, h4, h5⟩ := H.boxes i _ hb
    rw [h1] at h3
    injection h3 with h3
    subst h3
    have hlen := repCells_len h5
    have hr := Go.Lib.run_to_unsafe (w := w) ⟨b, off, none⟩ hs hd ht hj (shape_of_blk h4) (by rw [Array.length_toList] at hlen; show off < cur.size; omega)
    refine ⟨.pointer (some ⟨b, off, none⟩), ?_, ⟨b, h1, rfl⟩, hl⟩
    simp only [execOp, ho, h2, hr, Sem.run_bind]
    rfl
theorem Y_fromUnsafe {s d u e : TypeId} {y : Operand} {i off : Nat} {j : TypeInfo} {cs : List AV} (ho : o.op = .convert s d y) (hs : C.P.underlying s = some .unsafePointer) (hd : C.P.underlying d = some (.pointer u)) (hu : C.P.info? u = some j) (hy : st.look y = .ptr i off) (hb : st.boxes[i]? = some (.cells e cs)) (hlies : liesAt C.P C.P.depth e (cs.length / C.P.cellsOf e) off u 1 = true) : Yields C E st o (.ptr i off) none :=
  Y_of fun E' β a w H => by
    have h := H.look y
    have hl := H.looklim y
    rw [hy] at h hl
    obtain ⟨b, h1, h2⟩ := h
    obtain ⟨b', cur, h3, h4, h5⟩ := H.boxes i _ hb
    rw [h1] at h3
    injection h3 with h3
    subst h3
    have hlen := repCells_len h5
    rw [Array.length_toList] at hlen
    have hr := Go.Lib.run_from_unsafe (w := w) ⟨b, off, none⟩ hs hd hu (shape_of_blk h4) (by rw [← hlen] at hlies; exact hlies)
    refine ⟨.pointer (some ⟨b, off, none⟩), ?_, ⟨b, h1, rfl⟩, hl⟩
    simp only [execOp, ho, h2, hr, Sem.run_bind]
    rfl
/-- abi.NoEscape answers what it is given. -/
theorem Y_noEscape {y : Operand} {ts : Array TypeId} {f : FuncId} {fn : Func} {i off : Nat} (ho : o.op = .call { callee := .value (.func f), args := #[y], argTypes := ts }) (hf : C.P.funcs[f]? = some fn) (hname : (fn.name == "runtime.NumGoroutine") = false) (hb : fn.body.isNone = true) (hn : Extern.findNext fn = none) (he : Extern.find fn = some Extern.AbiNoEscape.same) (hy : st.look y = .ptr i off) : Yields C E st o (.ptr i off) none :=
  Y_of fun E' β a w H => by
    have h := H.look y
    have hl := H.looklim y
    rw [hy] at h hl
    obtain ⟨b, h1, h2⟩ := h
    refine ⟨.pointer (some ⟨b, off, none⟩), ?_, ⟨b, h1, rfl⟩, hl⟩
    have hr := run_callFunc_extern hf hname hb hn he #[.pointer (some ⟨b, off, none⟩)] w
    rw [Go.Lib.run_noEscape] at hr
    have hc : a.eval (.func f) = .func (.func f) #[] #[] := rfl
    simp [execOp, ho, resolve, hc, Deferred.ofValue, invoke, h2, hr]
end
/-- How an operation is taken: plainly; as what it is shown to yield; as an append of a string's bytes; as that, a nil slice told ahead of it as a row of the call's own. -/
inductive Mv
  | n
  | y
  | str
  | nil (t tb : Nat)
structure StrOk (X : RX) (C : Ctx) (st : St) (t t' i n : Nat) (s : ByteArray) (e by_ : Nat) (els : List (List AV)) : Prop where
  bx : nthA st.boxes i = some (.row e 1 els)
  el : elemInfo C.P t = some (e, 1, by_)
  un : C.P.underlying t' = some .string
  len : els.length = n
  bd : (n + s.size) * by_ ≤ 140737488355328 ∧ n + s.size ≤ maxLen
  pin : (Nat.ble X.np i || X.free.contains i) = true
  ot : othersR i 0 st.boxes
  cl : ClosedE els
theorem bytesA_closed (s : ByteArray) (j : Nat) : avoidsLL j (bytesA s) = true := by
  rw [← avoidsL_flatten]
  exact avoidsL_mem fun x hx => by
    obtain ⟨l, hl, hx⟩ := List.mem_flatten.1 hx
    obtain ⟨u, _, rfl⟩ := List.mem_map.1 hl
    rw [List.mem_singleton] at hx
    subst hx
    rfl
def apsR (X : RX) (C : Ctx) (o : Oper) (st : St) (K : St → Prop) : Prop := match o.op with
  | .call { callee := .builtin .append, args := args, argTypes := ts } => match args.toList, ts.toList with
    | [x, y], [t, t'] => match lk st x, lk st y with
      | .own i 1 0 n, .v (.string s) => ∃ (e by_ : Nat) (els : List (List AV)), StrOk X C st t t' i n s e by_ els ∧ ∃ els' m, els ++ bytesA s = els' ∧ n + s.size = m ∧ match o.dst with
        | none => False
        | some d => forceSt (((st.noBox i).setBox i (.row e 1 els')).put d (.own i 1 0 m)) fun st => whenB (Nat.blt d X.nt) (K st)
      | _, _ => False
    | _, _ => False
  | _ => False
def runV (X : RX) (C : Ctx) (ops : List Oper) : List Mv → List Oper → St → (St → Prop) → Prop
  | _, [], st, K => K st
  | [], o :: rest, st, K => runR X C ops (o :: rest) st K
  | m :: ms, o :: rest, st, K => match m with
    | .n => guardR ops o st (stepR X C o st fun st => runV X C ops ms rest st K) (putR X o.dst (.v undef) st fun st => runV X C ops ms rest st K)
    | .y => guardR ops o st (∃ x, (∀ E, Yields C E st o x none) ∧ putR X o.dst x st fun st => runV X C ops ms rest st K) (putR X o.dst (.v undef) st fun st => runV X C ops ms rest st K)
    | .str => guardR ops o st (apsR X C o st fun st => runV X C ops ms rest st K) (putR X o.dst (.v undef) st fun st => runV X C ops ms rest st K)
    | .nil t tb => lkS t st.slots = .v (.slice none 0 0) ∧ whenB (Nat.blt t X.nt) (forceSt ((st.add (.row tb 1 [])).imp t (.own st.boxes.length 1 0 0)) fun st => guardR ops o st (apsR X C o st fun st => runV X C ops ms rest st K) (putR X o.dst (.v undef) st fun st => runV X C ops ms rest st K))
section
variable {X : RX} {C : Ctx} {E : Env} (hX : RXok X C E) {ops : Array Oper} {rest : List Oper} {o : Oper} {Q : AQ} {st : St} {K : St → Prop}
include hX
theorem apsR_sound (hw : Wanted ops o st) (h : apsR X C o st K) (hK : ∀ st, K st → AL C E ops rest Q st) : AL C E ops (o :: rest) Q st := by
  unfold apsR at h
  split at h
  · rename_i args ts ho
    split at h
    · rename_i x y t t' ha ht
      have ha : args = #[x, y] := by cases args; simpa using ha
      have ht : ts = #[t, t'] := by cases ts; simpa using ht
      subst ha; subst ht
      split at h
      · rename_i i n s hx hy
        obtain ⟨e, by_, els, hZ, els', m, rfl, rfl, h2⟩ := h
        have hb := hZ.bx
        rw [nthA_eq] at hb
        cases hd : o.dst with
        | none => rw [hd] at h2; exact h2.elim
        | some d =>
          rw [hd] at h2
          simp only [forceSt_iff] at h2
          obtain ⟨h20, h21⟩ := whenB_dest h2
          have hlr : (bytesA s).length = s.size := bytesA_len s
          refine AL_appendS (els2 := bytesA s) hw ho hd (by rw [hX.nt]; simpa using h20) (lk_look hx) (lk_look hy) hZ.un rfl rfl hb hZ.len hZ.el (by rw [hlr]; exact hZ.bd.1) (by rw [hlr]; exact hZ.bd.2) ?_ (av_one (othersR_all hZ.ot)) (bytesA_closed s) (hZ.cl i) (by rw [hlr]; exact hK _ h21)
          rcases Bool.or_eq_true _ _ ▸ hZ.pin with h | h
          · exact .inl (by rw [hX.np]; exact Nat.le_of_ble_eq_true h)
          · exact .inr (hX.free i (by simpa using h))
      · exact h.elim
    · exact h.elim
  · exact h.elim
theorem runV_sound : ∀ (ms : List Mv) (rest : List Oper) (st : St) (K : St → Prop), (∀ st, K st → Q .normal st) → runV X C ops.toList ms rest st K → AL C E ops rest Q st
  | ms, [], st, K, hK, h => by
    have h : runR X C ops.toList [] st K := by cases ms <;> exact h
    exact runR_sound hX [] st K hK h
  | [], o :: rest, st, K, hK, h => runR_sound hX (o :: rest) st K hK h
  | m :: ms, o :: rest, st, K, hK, h => by
    cases m with
    | n =>
      rw [runV] at h
      refine guardR_dest h (fun hw h' => ?_) (fun hw h' => ?_)
      · exact stepR_sound hX hw h' fun st h => runV_sound ms rest st K hK h
      · exact AL_skp hX hw h' fun st h => runV_sound ms rest st K hK h
    | y =>
      rw [runV] at h
      refine guardR_dest h (fun hw h' => ?_) (fun hw h' => ?_)
      · obtain ⟨x, hy, h2⟩ := h'
        exact AL_val hX hw (hy E) h2 fun st h => runV_sound ms rest st K hK h
      · exact AL_skp hX hw h' fun st h => runV_sound ms rest st K hK h
    | str =>
      rw [runV] at h
      refine guardR_dest h (fun hw h' => ?_) (fun hw h' => ?_)
      · exact apsR_sound hX hw h' fun st h => runV_sound ms rest st K hK h
      · exact AL_skp hX hw h' fun st h => runV_sound ms rest st K hK h
    | nil t tb =>
      rw [runV] at h
      obtain ⟨h1, h2⟩ := h
      obtain ⟨h3, h4⟩ := whenB_dest h2
      rw [forceSt_iff] at h4
      refine AL_nilOwn (t := t) (sz := 1) tb ?_ (by rw [hX.nt]; simpa using h3) rfl ?_
      · rcases lkS_mem (l := st.slots) (k := t) with h' | h'
        · rw [h1] at h'; cases h'
        · rw [h1] at h'; exact h'
      · refine guardR_dest h4 (fun hw h' => ?_) (fun hw h' => ?_)
        · exact apsR_sound hX hw h' fun st h => runV_sound ms rest st K hK h
        · exact AL_skp hX hw h' fun st h => runV_sound ms rest st K hK h
/-- A region whose operations are taken as told (appends of strings among them). -/
theorem W_regionV (ms : List Mv) {id : Nat} {ops : Array Oper} (h : runV X C ops.toList ms ops.toList st fun st => Q .normal st) : W X C E (.region id ops false) Q st :=
  ⟨AW_region (runV_sound hX ms _ _ _ (fun _ h => h) h)⟩
end
end Go.Proofs.YtnfbomhhgjlacaaDoor.Abs
