/- Walks by computing: calls that leave every box where it lies (a slice is sorted in place). -/
import Derived.Test.YtgjldbcpohkmkaaDoorDr12
namespace Go.Proofs.YtgjldbcpohkmkaaDoor.Abs
open Go.RowKit Go.MapKept
set_option linter.unusedVariables false
set_option linter.unusedSimpArgs false
/-- It has a block. -/
def solidB : BoxC → Prop
  | .row _ _ els => els ≠ []
  | .none => False
  | _ => True
theorem solidB_some {β : BMap} {ok : Nat → Prop} {w : World} {i : Nat} {b : BoxC} (hs : solidB b) (h : b.rep β ok w i) : β i ≠ none := fun e => by
  cases b with
  | none => exact hs.elim
  | cells t cs => obtain ⟨b, _, h3, _⟩ := h; rw [e] at h3; cases h3
  | map d kvs => obtain ⟨b, _, _, h3, _⟩ := h; rw [e] at h3; cases h3
  | row t sz els =>
    simp only [BoxC.rep, e] at h
    exact hs h
/-- A function's contract: its boxes ahead of the call and behind it; all lie where they lay. -/
def ACS (C : Ctx) (f : FuncId) (args : List AV) (bin : List BoxC) (x : AV) (bout : List BoxC) : Prop :=
  ∀ (w : World) (vs : List Value) (β : BMap) (ok : Nat → Prop), C.gd ≤ w.heap.size → C.G w → AV.repVals β ok w args vs → BoxesOk C β bin ok w → (∀ i, i < bin.length → β i ≠ none) →
    Calls C.P f vs.toArray w fun e w' => ∃ v β', e = .returned v ∧ AfterB C.dr w w' β β' bin bout ok x v ∧ ∀ i, i < bin.length → β' i = β i
section
variable {C : Ctx}
theorem ACS_body {f : FuncId} {fn : Func} {c : Code} {args : List AV} {bin bout : List BoxC} {x : AV} (hf : C.P.funcs[f]? = some fn) (hb : fn.body = some c) (hn : args.length ≤ fn.ntmps) (hcl : Nat.ble (AV.maxL args) bin.length = true)
    (h : ∀ E : Env, E.nt = fn.ntmps → E.npin = bin.length → AW C E c (RetB C.P fn x bout) ⟨argSlots 0 args, bin⟩) : ACS C f args bin x bout := by
  intro w vs β ok hgd hG hr hB hne
  have hlen : vs.length = args.length := by
    clear hf hb hn hcl h
    induction args generalizing vs with
    | nil => have hr : vs = [] := hr; subst hr; rfl
    | cons y l ih => obtain ⟨v, rest, rfl, h1, h2⟩ := hr; simp [ih _ h2]
  let E : Env := { w0 := w, ok0 := fun b => ok b ∧ b < w.heap.size, arg := fun b => ∃ i, liveIn bin i ∧ β i = some b, ex := fun _ => False, npin := bin.length, pin := fun i => match bin[i]? with | some bc => β i | none => none, nt := fn.ntmps, dr := C.dr }
  have hE : Ext β ok (okB E β ⟨argSlots 0 args, bin⟩) w w := ⟨Nat.le_refl _, fun b h1 h2 => ⟨.inl ⟨h1, h2⟩, id, fun i hi he => (hB.fresh i b hi he).2.2 h1⟩, fun _ _ _ => rfl, fun _ _ _ _ h => h⟩
  have H0 : Holds C E β ⟨argSlots 0 args, bin⟩ { tmps := vs.toArray ++ Array.replicate (fn.ntmps - vs.toArray.size) undef, defers := [] } w := by
    refine ⟨⟨rfl, hgd, hG, fun b ⟨i, hi, he⟩ => ⟨(hB.fresh i b hi he).1, (hB.fresh i b hi he).2.1⟩, fun b h1 _ ⟨i, hi, he⟩ => (hB.fresh i b hi he).2.2 h1.1⟩, ?_, rfl, ⟨rfl, rfl, rfl, Nat.le_refl _, fun _ _ _ => rfl, fun _ _ h => h, fun _ => Nat.le_refl _⟩, fun t y hy => ?_, fun t y hy i hi => ?_, fun i bc hi => ?_, hB.lim, hB.inj, fun i b hi he => ⟨.inr ⟨i, hi, he⟩, id, (hB.fresh i b hi he).2.1⟩, fun b h => h.elim, ⟨Nat.le_refl _, fun i b hi hp => ?_⟩⟩
    · show (vs.toArray ++ Array.replicate _ undef).size = fn.ntmps
      simp; omega
    · have := argSlots_rep (fun t => (vs.toArray ++ Array.replicate (fn.ntmps - vs.toArray.size) undef).getD t undef) 0 hr (fun j v hv => by
        have hj := (List.getElem?_eq_some_iff.1 hv).1
        simp only [Nat.zero_add, Array.getD_eq_getD_getElem?]
        rw [Array.getElem?_append_left (by simpa using hj)]
        simp [hv]) t y hy
      exact AV.rep_mono hE _ _ (fun _ _ => rfl) this
    · exact mem_avoids (maxL_avoids args (Nat.le_trans (Nat.le_of_ble_eq_true hcl) hi)) (argSlots_mem hy)
    · exact BoxC.rep_mono hE bc (fun _ _ => rfl) (fun _ => rfl) (fun _ _ _ => rfl) (hB.rep i bc hi)
    · have hp : (match bin[i]? with | some bc => β i | none => none) = some b := hp
      cases hbi : bin[i]? with
      | none => rw [hbi] at hp; cases hp
      | some bc =>
        rw [hbi] at hp
        exact hp
  refine calls_of_wp hf hb (wp_mono (h E rfl rfl β _ w H0) ?_)
  rintro e a' w' ⟨st', β', ⟨he, ⟨l, hl, rfl⟩, more, hmore⟩, H⟩
  obtain ⟨v, h1, h2⟩ := results_run H hl
  have hlb : ∀ i, liveIn bout i → st'.liveB i := by
    rintro i ⟨bc, h3, h4⟩
    exact ⟨bc, by rw [hmore, List.getElem?_append_left (List.getElem?_eq_some_iff.1 h3).1]; exact h3, h4⟩
  have hE2 : Ext β' (okB E β' st') (fun b => (ok b ∨ w.heap.size ≤ b) ∧ ∀ i, liveIn bout i → β' i ≠ some b) w' w' := ⟨Nat.le_refl _, fun b h3 _ => ⟨h3.1.imp (fun h => h.1) id, fun i hi => h3.2.2 i (hlb i hi)⟩, fun _ _ _ => rfl, fun _ _ _ _ h => h⟩
  have hbox : ∀ (i : Nat) (bc : BoxC), bout[i]? = some bc → st'.boxes[i]? = some bc := fun i bc hi => by rw [hmore, List.getElem?_append_left (List.getElem?_eq_some_iff.1 hi).1]; exact hi
  have hpin : ∀ i, i < bin.length → β' i = β i := fun i hil => by
    have hp : E.pin i = β i := by
      show (match bin[i]? with | some bc => β i | none => none) = β i
      rw [List.getElem?_eq_getElem hil]
    cases hβ : β i with
    | some b => exact H.pin.2 i b hil (hp.trans hβ)
    | none => exact absurd hβ (hne i hil)
  have hend : a'.defers = [] ∧ ∃ v, (results fn a'.tmps).run C.P w' = .ok v w' ∧ ∃ v_1 β'', Ending.returned v = .returned v_1 ∧ AfterB C.dr w w' β β'' bin bout ok (tupOf l) v_1 ∧ ∀ i, i < bin.length → β'' i = β i := by
    refine ⟨H.defers, v, h1, v, β', rfl, ⟨H.kept.os, H.kept.tape, H.kept.output, H.kept.drawn, H.kept.size, fun b hb hn => H.kept.block b hb hn, H.kept.shape, fun i bc hi hrow => hpin i (List.getElem?_eq_some_iff.1 hi).1, AV.rep_mono hE2 _ _ (fun _ _ => rfl) h2, fun i bc hi => BoxC.rep_mono hE2 bc (fun _ _ => rfl) (fun _ => rfl) (fun _ _ _ => rfl) (H.boxes i bc (hbox i bc hi)), fun i j b h3 h4 => H.inj i j b (hlb i h3) (hlb j h4), fun i b h3 h4 => ?_⟩, hpin⟩
    · have := H.fresh i b (hlb i h3) h4
      exact ⟨this.1, this.2.2⟩
  rcases he with rfl | rfl
  · exact hend
  · exact hend
end
section
variable {C : Ctx} {E : Env} {st : St} {o : Oper} {β β' : BMap} {a : Act} {w w' : World} {Q : AQ} {ops : Array Oper} {rest : List Oper}
theorem AL_callS {c : Operand} {args : Array Operand} {ts : Array TypeId} {f : FuncId} {caps l : List AV} {x : AV} {bin bout : List BoxC} {d : Option Nat} (s : List Nat) (hw : Wanted ops o st) (ho : o.op = .call { callee := .value c, args := args, argTypes := ts }) (hd : o.dst = d) (hlt : ∀ t, d = some t → t < E.nt) (hf : FnOk C.P f = true)
    (hc : st.look c = (AV.fn (.func f) caps).ren (renOf s st.boxes.length)) (hl : args.toList.map st.look = AV.renL (renOf s st.boxes.length) l) (hac : ACS C f (l ++ caps) bin x bout)
    (hsl : s.length = bin.length) (hnd : s.Nodup) (hbx : s.map (fun j => st.boxes[j]?) = bin.map (fun b => some (b.ren (renOf s st.boxes.length)))) (hbl : bin.length ≤ bout.length) (hlive : bin.all (·.live) = true)
    (hlim : ∀ b ∈ bin, boxLim bin.length b) (hlimo : ∀ b ∈ bout, boxLim bout.length b) (hx : Nat.ble x.maxB bout.length = true) (hsol : ∀ b ∈ bin, solidB b)
    (h : AL C E ops rest Q (match d with | some t => (st.called s [] bout).put t (x.ren (renOf s st.boxes.length)) | none => st.called s [] bout)) : AL C E ops (o :: rest) Q st := by
  intro β a w H
  refine wpList_step fun K hK => ?_
  rw [wanted_of H hw]
  simp only [if_true]
  have hgetb : ∀ (i : Nat) (b : BoxC), bin[i]? = some b → ∃ j, s[i]? = some j ∧ st.boxes[j]? = some (b.ren (renOf s st.boxes.length)) := by
    intro i b hi
    have := congrArg (fun l => l[i]?) hbx
    simp only [List.getElem?_map, hi, Option.map_some] at this
    obtain ⟨j, h1, h2⟩ := Option.map_eq_some_iff.1 this
    exact ⟨j, h1, h2⟩
  have hslt : ∀ j ∈ s, j < st.boxes.length := by
    intro j hj
    obtain ⟨i, hi, rfl⟩ := List.mem_iff_getElem.1 hj
    obtain ⟨j', h1, h2⟩ := hgetb i bin[i] (List.getElem?_eq_getElem (by omega))
    rw [List.getElem?_eq_getElem hi] at h1
    injection h1 with h1
    subst h1
    exact (List.getElem?_eq_some_iff.1 h2).1
  have hir := inv_ren hnd hslt
  have hren : ∀ i j, s[i]? = some j → renOf s st.boxes.length i = j := by
    intro i j hij
    obtain ⟨h1, h2⟩ := List.getElem?_eq_some_iff.1 hij
    unfold renOf
    rw [if_pos h1]
    simp [List.getD_eq_getElem?_getD, h1, h2]
  have hlr : ∀ b : BoxC, (b.ren (renOf s st.boxes.length)).live = b.live := fun b => by cases b <;> rfl
  have hlivei : ∀ i, liveIn bin i → ∃ j, s[i]? = some j ∧ st.liveB j := by
    rintro i ⟨b, h1, h2⟩
    obtain ⟨j, h3, h4⟩ := hgetb i b h1
    exact ⟨j, h3, _, h4, by rw [hlr]; exact h2⟩
  obtain ⟨cs, h1, h2⟩ := (show (AV.fn (.func f) caps).rep (fun i => β (renOf s st.boxes.length i)) (okB E β st) w (a.eval c) from (ren_rep _ _).1 (hc ▸ H.look c))
  have h3 := repVals_of (β := β) (ok := okB E β st) (w := w) (a := a) args.toList st.look fun y _ => H.look y
  rw [hl] at h3
  have h3 := (ren_repV _ _).1 h3
  have hBok : BoxesOk C (fun i => β (renOf s st.boxes.length i)) bin (okB E β st) w := by
    refine ⟨fun i b hi => ?_, fun i j g hi hj h4 h5 => ?_, fun i g hi h4 => ?_, fun i b hi j hj => boxLim_avoids (hlim b (List.mem_of_getElem? hi)) hj⟩
    · obtain ⟨j, h4, h5⟩ := hgetb i b hi
      have := H.boxes j _ h5
      rw [← hren i j h4] at this
      exact (box_ren_rep (hlim b (List.mem_of_getElem? hi))).1 this
    · obtain ⟨i', h6, h7⟩ := hlivei i hi
      obtain ⟨j', h8, h9⟩ := hlivei j hj
      rw [hren i i' h6] at h4
      rw [hren j j' h8] at h5
      have := H.inj i' j' g h7 h9 h4 h5
      subst this
      obtain ⟨q1, q2⟩ := List.getElem?_eq_some_iff.1 h6
      obtain ⟨q3, q4⟩ := List.getElem?_eq_some_iff.1 h8
      exact (List.getElem_inj hnd).1 (q2.trans q4.symm)
    · obtain ⟨i', h6, h7⟩ := hlivei i hi
      rw [hren i i' h6] at h4
      have hfr := H.fresh i' g h7 h4
      refine ⟨?_, hfr.2.2, fun hok => hok.2.2 i' h7 h4⟩
      rcases hfr.1 with h8 | h8
      · exact Nat.le_trans H.env.gd h8
      · exact (H.env.arg g h8).1
  have hne : ∀ i, i < bin.length → β (renOf s st.boxes.length i) ≠ none := fun i hi => solidB_some (β := fun i => β (renOf s st.boxes.length i)) (hsol _ (List.getElem_mem hi)) (hBok.rep i _ (List.getElem?_eq_getElem hi))
  unfold Oper.wp
  rw [exec_call ho hf h1]
  refine Calls.mono (hac w _ _ (okB E β st) H.G.1 H.G.2 (repVals_append h3 h2) hBok hne) ?_
  rintro e w' ⟨v, β', rfl, hA, hP⟩
  have hno : ∀ j, ¬ j ∈ rowsOf s ([] : List BoxC) := fun j hj => by obtain ⟨i, b, _, h, _⟩ := rowsOf_mem hj; simp at h
  -- the caller's boxes behind the call
  obtain ⟨len, hlen⟩ : ∃ n, n = st.boxes.length := ⟨_, rfl⟩
  rw [← hlen] at hc hl hbx hgetb hslt hir hren hlr h2 h3 hBok hA hP h
  let βn : BMap := fun k => match invOf s len k with | some i => β' i | none => β k
  have hβi : ∀ i, βn (renOf s len i) = β' i := fun i => by show (match invOf s len (renOf s len i) with | some i => β' i | none => β _) = _; rw [hir]
  have hβo : ∀ k, invOf s len k = none → βn k = β k := fun k hk => by show (match invOf s len k with | some i => β' i | none => β k) = _; rw [hk]
  have hbo : s.length ≤ bout.length := by omega
  have hlen' : (st.called s [] bout).boxes.length = len + (bout.length - s.length) := by rw [called_len hbo, hlen]
  -- who is live behind the call
  have hlv : ∀ k, (st.called s [] bout).liveB k → (∃ i, invOf s len k = some i ∧ liveIn bout i) ∨ (invOf s len k = none ∧ st.liveB k) := by
    rintro k ⟨b, h4, h5⟩
    rcases called_get hnd h4 hbo with ⟨i, bo, h6, h7, rfl⟩ | ⟨h6, b0, h7, rfl⟩
    · rw [← hlen] at h6 h5
      exact .inl ⟨i, h6, bo, h7, by rw [hlr] at h5; exact h5⟩
    · rw [← hlen] at h6
      exact .inr ⟨h6, b0, h7, by rw [strips_live] at h5; exact h5⟩
  -- blocks that the callee may have written
  have hmine : ∀ g, (∃ i, liveIn bin i ∧ β (renOf s len i) = some g) → ∃ j, j ∈ s ∧ st.liveB j ∧ β j = some g := by
    rintro g ⟨i, hi, he⟩
    obtain ⟨j, h4, h5⟩ := hlivei i hi
    rw [hren i j h4] at he
    exact ⟨j, List.mem_of_getElem? h4, h5, he⟩
  have hnotin : ∀ k, k < len → invOf s len k = none → k ∉ s := by
    intro k hk hn hm
    unfold invOf at hn
    rw [if_pos hk] at hn
    have := List.findIdx?_eq_none_iff.1 hn k hm
    simp at this
  have hok : ∀ b, okB E β st b → b < w.heap.size → okB E βn (st.called s [] bout) b := by
    rintro b ⟨h4, h5, h6⟩ h7
    refine ⟨h4, h5, fun k hk he => ?_⟩
    rcases hlv k hk with ⟨i, h8, h9⟩ | ⟨h8, h9⟩
    · rw [← ren_inv h8, hβi] at he
      rcases (hA.fresh i b h9 he).1 with h10 | h10
      · omega
      · obtain ⟨j, _, h11, h12⟩ := hmine b h10
        exact h6 j h11 h12
    · rw [hβo k h8] at he
      exact h6 k h9 he
  have hok2 : ∀ b, ((okB E β st b ∨ w.heap.size ≤ b) ∧ ∀ i, liveIn bout i → β' i ≠ some b) → okB E βn (st.called s [] bout) b := by
    rintro b ⟨h4, h5⟩
    have base : (E.ok0 b ∨ E.base ≤ b) ∧ ¬ E.ex b := by
      rcases h4 with h4 | h4
      · exact ⟨h4.1, h4.2.1⟩
      · exact ⟨.inr (Nat.le_trans H.kept.size h4), fun hx => by have := H.ex b hx; omega⟩
    refine ⟨base.1, base.2, fun k hk he => ?_⟩
    rcases hlv k hk with ⟨i, h8, h9⟩ | ⟨h8, h9⟩
    · rw [← ren_inv h8, hβi] at he
      exact h5 i h9 he
    · rw [hβo k h8] at he
      rcases h4 with h4 | h4
      · exact h4.2.2 k h9 he
      · have := (H.fresh k b h9 he).2.2; omega
  have hE1 : Ext β (okB E β st) (okB E βn (st.called s [] bout)) w w' := ⟨hA.size, hok, fun b h4 h5 => hA.block b h5 (fun hm => by
    obtain ⟨j, _, h6, h7⟩ := hmine b hm
    exact h4.2.2 j h6 h7), fun i b q _ hq => hA.shape b q hq⟩
  have hE2 : ∀ {γ : BMap}, Ext γ (fun b => (okB E β st b ∨ w.heap.size ≤ b) ∧ ∀ i, liveIn bout i → β' i ≠ some b) (okB E βn (st.called s [] bout)) w' w' := ⟨Nat.le_refl _, fun b h4 _ => hok2 b h4, fun _ _ _ => rfl, fun _ _ _ _ h => h⟩
  -- a number of the caller's whose block is what it was
  have hsame : ∀ k, k < len → (∀ j ∈ rowsOf s ([] : List BoxC), k ≠ j) → βn k = β k := by
    intro k hk hne
    cases hi : invOf s len k with
    | none => exact hβo k hi
    | some i =>
      have hki := ren_inv hi
      unfold invOf at hi
      rw [if_pos hk] at hi
      obtain ⟨h4, h5, _⟩ := List.findIdx?_eq_some_iff_getElem.1 hi
      have hib : i < bin.length := by omega
      have hsi : s[i]? = some k := by rw [List.getElem?_eq_getElem h4]; simpa using h5
      have this : β' i = β (renOf s len i) := hP i hib
      rw [← hki, hβi, this]
  have hxr : (x.ren (renOf s len)).rep βn (okB E βn (st.called s [] bout)) w' v := by
    refine (ren_rep _ _).2 (AV.rep_mono (β' := fun i => βn (renOf s len i)) hE2 x v (fun i _ => hβi i) hA.value)
  have hxl : ∀ k, (st.called s [] bout).boxes.length ≤ k → (x.ren (renOf s len)).avoids k = true := fun k hk => by
    refine ren_avoids (n := bout.length) (fun i hi he => ?_) x (Nat.le_of_ble_eq_true hx)
    rw [hlen'] at hk
    unfold renOf at he
    split at he
    · rename_i hi'
      have : s.getD i 0 < len := by
        rw [List.getD_eq_getElem?_getD, List.getElem?_eq_getElem hi']
        exact hslt _ (List.getElem_mem hi')
      omega
    · omega
  have HC : Holds C E βn (st.called s [] bout) a w' := by
    refine ⟨H.env, H.size, H.defers, ⟨hA.os.trans H.kept.os, hA.tape.trans H.kept.tape, hA.output.trans H.kept.output, Nat.le_trans H.kept.size hA.size, fun b h4 h5 => ?_, fun b q hq => hA.shape b q (H.kept.shape b q hq), fun hd => Nat.le_trans (H.kept.drawn hd) (hA.drawn (H.env.dr ▸ hd))⟩, fun t y hy => ?_, fun t y hy k hk => ?_, fun k b hk => ?_, fun k b hk j hj => ?_, fun i j b h4 h5 h6 h7 => ?_, fun i b h4 h5 => ?_, fun b hb => Nat.lt_of_lt_of_le (H.ex b hb) hA.size, ⟨by rw [hlen']; have := H.pin.1; omega, fun i b h4 h5 => ?_⟩⟩
    · refine (hA.block b (Nat.lt_of_lt_of_le h4 H.kept.size) (fun hm => ?_)).trans (H.kept.block b h4 h5)
      obtain ⟨j, _, h6, h7⟩ := hmine b hm
      rcases (H.fresh j b h6 h7).1 with h8 | h8
      · omega
      · exact h5 h8
    · have hy' : (t, y) ∈ st.slots.filter (fun p => (rowsOf s ([] : List BoxC)).all fun i => p.2.avoids i) := hy
      obtain ⟨h4, h5⟩ := List.mem_filter.1 hy'
      refine AV.rep_mono hE1 _ _ (fun k hk => hsame k ?_ fun j hj e => ?_) (H.slots t y h4)
      · rcases Nat.lt_or_ge k len with h6 | h6
        · exact h6
        · have := H.lim t y h4 k (by omega)
          rw [this] at hk; cases hk
      · subst e
        have := List.all_eq_true.1 h5 k hj
        simp only at this
        rw [this] at hk; cases hk
    · have hy' : (t, y) ∈ st.slots.filter (fun p => (rowsOf s ([] : List BoxC)).all fun i => p.2.avoids i) := hy
      exact H.lim t y (List.mem_filter.1 hy').1 k (by rw [hlen'] at hk; omega)
    · rcases called_get hnd hk hbo with ⟨i, bo, h6, h7, rfl⟩ | ⟨h6, b0, h7, rfl⟩
      · rw [← hlen] at h6 ⊢
        have hbo' := hlimo bo (List.mem_of_getElem? h7)
        rw [← ren_inv h6]
        refine (box_ren_rep hbo').2 (BoxC.rep_mono (β' := fun i => βn (renOf s len i)) hE2 bo (fun j _ => hβi j) (fun _ => hβi i) (fun _ _ _ => rfl) (hA.rep i bo h7))
      · rw [← hlen] at h6
        have hkl : k < len := by rw [hlen]; exact (List.getElem?_eq_some_iff.1 h7).1
        have hks := hnotin k hkl h6
        have hsb := strips_rep (l := rowsOf s ([] : List BoxC)) (H.boxes k b0 h7)
        refine BoxC.rep_mono hE1 _ (fun j hj => ?_) (fun _ => hβo k h6) (fun g h8 h9 => ?_) hsb
        · have hjl : j < len := by
            rcases Nat.lt_or_ge j len with h10 | h10
            · exact h10
            · have := strips_avoids (l := rowsOf s ([] : List BoxC)) (H.blim k b0 h7 j (by omega))
              rw [this] at hj; cases hj
          refine hsame j hjl fun q hq e => ?_
          subst e
          exact absurd hq (hno j)
        · have hlb : st.liveB k := ⟨b0, h7, by rw [strips_live] at h9; exact h9⟩
          refine hA.block g (H.fresh k g hlb h8).2.2 fun hm => ?_
          obtain ⟨j, h10, h11, h12⟩ := hmine g hm
          have := H.inj k j g hlb h11 h8 h12
          subst this
          exact hks h10
    · rcases called_get hnd hk hbo with ⟨i, bo, h6, h7, rfl⟩ | ⟨h6, b0, h7, rfl⟩
      · rw [← hlen]
        refine boxLim_ren (hlimo bo (List.mem_of_getElem? h7)) fun i hi he => ?_
        rw [hlen'] at hj
        unfold renOf at he
        split at he
        · rename_i hi'
          have : s.getD i 0 < len := by
            rw [List.getD_eq_getElem?_getD, List.getElem?_eq_getElem hi']
            exact hslt _ (List.getElem_mem hi')
          omega
        · omega
      · exact strips_avoids (H.blim k b0 h7 j (by rw [hlen'] at hj; omega))
    · rcases hlv i h4 with ⟨i', h8, h9⟩ | ⟨h8, h9⟩
      · rw [← ren_inv h8, hβi] at h6
        rcases hlv j h5 with ⟨j', h10, h11⟩ | ⟨h10, h11⟩
        · rw [← ren_inv h10, hβi] at h7
          have := hA.inj i' j' b h9 h11 h6 h7
          subst this
          rw [← ren_inv h8, ← ren_inv h10]
        · rw [hβo j h10] at h7
          exfalso
          have hjf := H.fresh j b h11 h7
          rcases (hA.fresh i' b h9 h6).1 with h12 | h12
          · omega
          · obtain ⟨q, h13, h14, h15⟩ := hmine b h12
            have := H.inj j q b h11 h14 h7 h15
            subst this
            exact hnotin j (hslt j h13) h10 h13
      · rw [hβo i h8] at h6
        rcases hlv j h5 with ⟨j', h10, h11⟩ | ⟨h10, h11⟩
        · rw [← ren_inv h10, hβi] at h7
          exfalso
          have hjf := H.fresh i b h9 h6
          rcases (hA.fresh j' b h11 h7).1 with h12 | h12
          · omega
          · obtain ⟨q, h13, h14, h15⟩ := hmine b h12
            have := H.inj i q b h9 h14 h6 h15
            subst this
            exact hnotin i (hslt i h13) h8 h13
        · rw [hβo j h10] at h7
          exact H.inj i j b h9 h11 h6 h7
    · rcases hlv i h4 with ⟨i', h8, h9⟩ | ⟨h8, h9⟩
      · rw [← ren_inv h8, hβi] at h5
        have hfr := hA.fresh i' b h9 h5
        rcases hfr.1 with h12 | h12
        · exact ⟨.inl (Nat.le_trans H.kept.size h12), fun hx => by have := H.ex b hx; omega, hfr.2⟩
        · obtain ⟨q, h13, h14, h15⟩ := hmine b h12
          have := H.fresh q b h14 h15
          exact ⟨this.1, this.2.1, hfr.2⟩
      · rw [hβo i h8] at h5
        have := H.fresh i b h9 h5
        exact ⟨this.1, this.2.1, Nat.lt_of_lt_of_le this.2.2 hA.size⟩
    · have h6 := H.pin.2 i b h4 h5
      rw [hsame i (by have := H.pin.1; omega) fun j hj e => ?_]
      · exact h6
      · subst e
        exact absurd hj (hno i)
  show K (a.put o.dst v) w'
  rw [hd]
  cases d with
  | none => exact hK _ _ (h _ _ _ HC)
  | some t => exact hK _ _ (h _ _ _ (HC.put (hlt t rfl) hxr hxl))
end
theorem ACS_walk (X : RX) {C : Ctx} {f : FuncId} {fn : Func} {c : Code} {args : List AV} {bin bout : List BoxC} {x : AV} (hT : TabOk C.P X.T) (hf : C.P.funcs[f]? = some fn) (hb : fn.body = some c) (hn : Nat.ble args.length fn.ntmps = true) (hnt : fn.ntmps = X.nt) (hnp : X.np = bin.length) (hfr : X.free = []) (hcl : Nat.ble (AV.maxL args) bin.length = true)
    (h : ∀ E : Env, RXok X C E → W X C E c (retB X fn.results.toList x bout) ⟨argSlots 0 args, bin⟩) : ACS C f args bin x bout :=
  ACS_body hf hb (Nat.le_of_ble_eq_true hn) hcl fun E h1 h2 => AW_mono (fun e s hs => by
    cases e with
    | normal => obtain ⟨l, h3, h4⟩ := resR_all hT hs.1; exact ⟨.inr rfl, ⟨l, h3, h4⟩, hs.2⟩
    | ret => obtain ⟨l, h3, h4⟩ := resR_all hT hs.1; exact ⟨.inl rfl, ⟨l, h3, h4⟩, hs.2⟩
    | _ => exact hs.elim) (h E ⟨hT, by rw [h1, hnt], by rw [h2, hnp], fun i hi => by rw [hfr] at hi; cases hi⟩).run
/-- What such a call wants beside its contract. -/
structure CallS (X : RX) (C : Ctx) (st : St) (f : Nat) (c : AV) (l : List AV) (s : List Nat) (args : List AV) (bin : List BoxC) (x : AV) (bout : List BoxC) : Prop where
  ac : ACS C f args bin x bout
  fok : FnOk C.P f = true
  hc : c = (AV.fn (.func f) (dropF l.length args)).ren (renOf s st.boxes.length)
  hl : l = AV.renL (renOf s st.boxes.length) (args.take l.length)
  len : s.length = bin.length
  nd : s.Nodup
  bx : s.map (fun j => st.boxes[j]?) = bin.map (fun b => some (b.ren (renOf s st.boxes.length)))
  le : bin.length ≤ bout.length
  live : bin.all (·.live) = true
  lim : ∀ b ∈ bin, boxLim bin.length b
  limo : ∀ b ∈ bout, boxLim bout.length b
  hx : Nat.ble x.maxB bout.length = true
  sol : ∀ b ∈ bin, solidB b
def calS (X : RX) (C : Ctx) (st : St) (d : Option Nat) (c : AV) (l : List AV) (K : St → Prop) : Prop := match c with
  | .fn (.func f) caps => ∃ s args bin x bout, CallS X C st f c l s args bin x bout ∧ (match d with
        | none => forceSt (st.called s [] bout) K
        | some t => whenB (Nat.blt t X.nt) (forceSt ((st.called s [] bout).put t (x.ren (renOf s st.boxes.length))) K))
  | _ => False
/-- A region of which operation k is such a call. -/
def runS (X : RX) (C : Ctx) (ops : List Oper) : Nat → List Oper → St → (St → Prop) → Prop
  | _, [], st, K => False
  | 0, o :: rest, st, K => guardR ops o st (match o.op with
    | .call { callee := .value c, args := args, argTypes := _ } => forceS (mapLk st args.toList) fun l => calS X C st o.dst (lk st c) l fun st => runR X C ops rest st K
    | _ => False) (putR X o.dst (.v undef) st fun st => runR X C ops rest st K)
  | k + 1, o :: rest, st, K => guardR ops o st (stepR X C o st fun st => runS X C ops k rest st K) (putR X o.dst (.v undef) st fun st => runS X C ops k rest st K)
section
variable {X : RX} {C : Ctx} {E : Env} (hX : RXok X C E) {ops : Array Oper} {rest : List Oper} {o : Oper} {Q : AQ} {st : St} {K : St → Prop}
include hX
theorem calS_sound {c : Operand} {args : Array Operand} {ts : Array TypeId} (hw : Wanted ops o st) (ho : o.op = .call { callee := .value c, args := args, argTypes := ts }) (h : calS X C st o.dst (lk st c) (mapLk st args.toList) K) (hK : ∀ st, K st → AL C E ops rest Q st) : AL C E ops (o :: rest) Q st := by
  unfold calS at h
  rw [mapLk_eq] at h
  split at h
  · rename_i f caps hc
    have hc' := lk_look hc
    obtain ⟨s, args', bin, x, bout, hB, h8⟩ := h
    obtain ⟨d, hd⟩ : ∃ d, o.dst = d := ⟨_, rfl⟩
    rw [hd] at h8
    refine AL_callS (d := d) (caps := dropF (args.toList.map st.look).length args') (l := args'.take (args.toList.map st.look).length) s hw ho hd (fun t ht => ?_) hB.fok (by rw [hc']; first | exact hB.hc | (rw [← hc]; exact hB.hc)) hB.hl (by rw [dropF_eq, List.take_append_drop]; exact hB.ac) hB.len hB.nd hB.bx hB.le hB.live hB.lim hB.limo hB.hx hB.sol ?_
    · subst ht
      obtain ⟨h9, _⟩ := whenB_dest h8
      rw [hX.nt]
      simpa using h9
    · cases d with
      | none => exact hK _ (forceSt_iff.1 h8)
      | some t =>
        obtain ⟨_, h9⟩ := whenB_dest h8
        exact hK _ (forceSt_iff.1 h9)
  · exact h.elim
theorem runS_sound : ∀ (k : Nat) (rest : List Oper) (st : St) (K : St → Prop), (∀ st, K st → Q .normal st) → runS X C ops.toList k rest st K → AL C E ops rest Q st
  | k, [], st, K, hK, h => by cases k <;> exact h.elim
  | 0, o :: rest, st, K, hK, h => by
    rw [runS] at h
    refine guardR_dest h (fun hw h' => ?_) (fun hw h' => ?_)
    · split at h'
      · rename_i c args ts ho
        rw [forceS_iff] at h'
        exact calS_sound hX hw ho h' fun st h => runR_sound hX rest st K hK h
      · exact h'.elim
    · exact AL_skp hX hw h' fun st h => runR_sound hX rest st K hK h
  | k + 1, o :: rest, st, K, hK, h => by
    rw [runS] at h
    refine guardR_dest h (fun hw h' => ?_) (fun hw h' => ?_)
    · exact stepR_sound hX hw h' fun st h => runS_sound k rest st K hK h
    · exact AL_skp hX hw h' fun st h => runS_sound k rest st K hK h
theorem W_regionS (k : Nat) {id : Nat} {ops : Array Oper} (h : runS X C ops.toList k ops.toList st fun st => Q .normal st) : W X C E (.region id ops false) Q st :=
  ⟨AW_region (runS_sound hX k _ _ _ (fun _ h => h) h)⟩
end
end Go.Proofs.YtgjldbcpohkmkaaDoor.Abs
