/- Walks by computing: a region some of whose calls lay memory, and in which rows of the call's own are frozen. -/
import Derived.Test.YtnfbomhhgjlacaaDoorDr7
namespace Go.Proofs.YtnfbomhhgjlacaaDoor.Abs
open Go.RowKit Go.MapKept
set_option linter.unusedVariables false
set_option linter.unusedSimpArgs false
section
variable {C : Ctx} {E : Env} {st : St} {o : Oper}
/-- append to nil: a row of the call's own. -/
theorem Y_appendNilO {T t sz by_ : Nat} {x y : Operand} {els : List (List AV)} {n : Nat} (ho : o.op = .call { callee := .builtin .append, args := #[x, y], argTypes := #[T, T] }) (hx : st.look x = .v (.slice none 0 0)) (hy : st.look y = .row sz els) (hin : elemInfo C.P T = some (t, sz, by_)) (hbd : els.length * by_ ≤ 140737488355328) (h63 : els.length ≤ maxLen) (hcl : ∀ i, avoidsLL i els = true) : Yields C E st o (.own n sz 0 els.length) (some (n, .row t sz els)) := by
  intro X β a w H hF K Q hk
  have hyr := H.look y
  rw [hy] at hyr
  obtain ⟨A, c, news, e1, hnl, hnr, hels2, hA⟩ := row_news hyr
  obtain ⟨ti, z, i1, i2, i3, i4, i5, rfl, rfl⟩ := elemInfo_some hin
  obtain ⟨v', w', hrun, hv', hcase⟩ := run_append_abs (dr := C.dr) (P := C.P) (T := T) (ty := o.type) (c := c) (w := w) (v := .slice none 0 0) (n := 0) (xs := []) i1 i2 i3 i4 i5 (.inl ⟨rfl, rfl, rfl⟩) hnl hA (repCells_one hnr) (by simpa using hbd) (by simpa using h63)
  have hexec : (execOp a.eval o).run C.P w = .ok (.value v') w' := by
    simp only [execOp, ho, resolve, Sem.run_bind, Sem.run_pure, Result.andThen_ok, invoke, builtin, List.map_toArray, List.map_cons, List.map_nil, look_v H hx, e1, hrun]
  have hlt := fresh_lt (hF n _ rfl)
  have hav1 : ∀ i, st.boxes.length ≤ i → (AV.own n ti.size 0 els.length).avoids i = true := fun i hi => by simp [AV.avoids]; omega
  have hav2 : ∀ i, st.boxes.length ≤ i → (BoxC.row t ti.size els).avoids i = true := fun i _ => hcl i
  rcases hcase with ⟨rfl, rfl, hm⟩ | ⟨b, cap, cap', hvb, _⟩ | ⟨cap', rfl, hbw, hsz⟩
  · have h2 : els = [] := List.eq_nil_of_length_eq_zero hm
    subst h2
    refine wp_val hexec (hk _ _ (BelowD.refl _ _) ⟨none, (fun b hb => by cases hb), ?_, ?_, hav1, hav2⟩)
    · rw [AV.rep, upd_eq]; exact ⟨rfl, rfl, rfl⟩
    · simp only [BoxC.rep, upd_eq]
  · cases hvb
  · rcases hv' with ⟨h1, _⟩ | ⟨b2, cap2, cur2, h1, h2, h3, h4, h6, h8, h9⟩
    · cases h1
    · injection h1 with h1 _ hc2
      injection h1 with h1
      injection h1 with h1 _ _
      subst h1; subst hc2
      rw [Nat.zero_add] at h3 h8 h9 hexec
      simp only [List.nil_append] at h8 h9
      refine wp_val hexec (hk _ _ hbw ⟨some w.heap.size, fun b hb => by injection hb with hb; subst hb; exact ⟨Nat.le_refl _, hsz⟩, ?_, ?_, hav1, hav2⟩)
      · rw [AV.rep, upd_eq]
        refine ⟨cap', t, by simp, h3, h4, ?_⟩
        rw [h2.shape, h6]; simp
      · simp only [BoxC.rep, upd_eq]
        refine ⟨cur2, cur2.toList.drop (els.length * ti.size), h2, fun l hl => hels2 l hl (List.length_pos_of_mem hl), news, ?_, hnl, ?_⟩
        · rw [← h8, List.take_append_drop]
        · have hx2 := ext_new (E := E.exc X) (β := β) (st := st) hbw.toBelow
          exact AV.repCells_mono (β := nob) ⟨hx2.1, hx2.2, hx2.3, fun i b s hi _ => by cases hi⟩ _ _ (fun k hk => by rw [avoidsL_flatten, hcl k] at hk; cases hk) hnr
end
/-- How an operation is taken: plainly; as a call that lays memory; with a row frozen ahead of it; as an append to nil whose result is of the call's own. -/
inductive Md
  | n
  | lay
  | frz (i : Nat) (ts : List Nat)
  | own
structure FrzOk (st : St) (i sz : Nat) (els : List (List AV)) (ts : List Nat) (n : Nat) : Prop where
  hts : ∀ t ∈ ts, lkS t st.slots = .own i sz 0 n
  hn : els.length = n
  hc : ClosedE els
  ho : othersR i 0 st.boxes
  hcs : cellsAv i st.boxes = true
def frzR (st : St) (i : Nat) (ts : List Nat) (K : St → Prop) : Prop := match nthA st.boxes i with
  | some (.row _ sz els) => (∃ n, FrzOk st i sz els ts n) ∧ forceSt (st.frozen i sz els ts) K
  | _ => False
def ownR (X : RX) (o : Oper) (st : St) (K : St → Prop) : Prop := match o.op with
  | .call { callee := .builtin .append, args := args, argTypes := ts } => match args.toList, ts.toList with
    | [x, y], [t, t'] => whenB (Nat.beq t t') <| whenB (isNilV (lk st x)) <| match lk st y with
      | .row sz els => optR (look1 t X.T.app) fun q => whenB (Nat.beq q.2.1 sz) <| (els.length * q.2.2 ≤ 140737488355328 ∧ els.length ≤ maxLen) ∧ ClosedE els ∧ ∃ m, els.length = m ∧ blenR st.boxes fun n => newR X o st (.own n sz 0 m) (.row q.1 sz els) K
      | _ => False
    | _, _ => False
  | _ => False
def runM (X : RX) (C : Ctx) (ops : List Oper) : List Md → List Oper → St → (St → Prop) → Prop
  | _, [], st, K => K st
  | [], o :: rest, st, K => runR X C ops (o :: rest) st K
  | m :: ms, o :: rest, st, K => match m with
    | .n => guardR ops o st (stepR X C o st fun st => runM X C ops ms rest st K) (putR X o.dst (.v undef) st fun st => runM X C ops ms rest st K)
    | .lay => guardR ops o st (match o.op with
      | .call { callee := .value c, args := args, argTypes := _ } => forceS (mapLk st args.toList) fun l => calN X C st o.dst (lk st c) l fun st => runM X C ops ms rest st K
      | _ => False) (putR X o.dst (.v undef) st fun st => runM X C ops ms rest st K)
    | .own => guardR ops o st (ownR X o st fun st => runM X C ops ms rest st K) (putR X o.dst (.v undef) st fun st => runM X C ops ms rest st K)
    | .frz i ts => frzR st i ts fun st => guardR ops o st (stepR X C o st fun st => runM X C ops ms rest st K) (putR X o.dst (.v undef) st fun st => runM X C ops ms rest st K)
section
variable {X : RX} {C : Ctx} {E : Env} (hX : RXok X C E) {ops : Array Oper} {rest : List Oper} {o : Oper} {Q : AQ} {st : St} {K : St → Prop}
theorem frzR_sound (hna : ∀ b, ¬ E.arg b) {i : Nat} {ts : List Nat} (h : frzR st i ts K) (hK : ∀ st, K st → AL C E ops rest Q st) : AL C E ops rest Q st := by
  unfold frzR at h
  split at h
  · rename_i tb sz els hb
    obtain ⟨⟨n, hF⟩, h2⟩ := h
    rw [forceSt_iff] at h2
    rw [nthA_eq] at hb
    refine AL_freeze hna (n := n) ts hb (fun t ht => ?_) hF.hn hF.hc (av_full (others_full (cellsAv_mem hF.hcs) hF.ho)) rfl (hK _ h2)
    have h1 := hF.hts t ht
    rcases lkS_mem (l := st.slots) (k := t) with h' | h'
    · rw [h1] at h'; cases h'
    · rw [h1] at h'; exact h'
  · exact h.elim
include hX
theorem ownR_sound (hw : Wanted ops o st) (h : ownR X o st K) (hK : ∀ st, K st → AL C E ops rest Q st) : AL C E ops (o :: rest) Q st := by
  unfold ownR at h
  split at h
  · rename_i args ts ho
    split at h
    · rename_i x y t t' ha ht
      have ha : args = #[x, y] := by cases args; simpa using ha
      have ht : ts = #[t, t'] := by cases ts; simpa using ht
      subst ha; subst ht
      obtain ⟨hq, h1⟩ := whenB_dest h
      have hq := beq_eq hq
      subst hq
      obtain ⟨hn, h2⟩ := whenB_dest h1
      split at h2
      · rename_i sz els hy
        obtain ⟨⟨e, sz', by_⟩, h3, h4⟩ := optR_dest h2
        obtain ⟨h5, ⟨h6, h7⟩, h8, m, h9, h10⟩ := whenB_dest h4
        have h5 := beq_eq h5
        have h5 : sz' = sz := h5
        subst h5
        subst h9
        rw [blenR_iff] at h10
        have hx' : st.ext.look x = .v (.slice none 0 0) := lk_look (st := st) (isNilV_eq hn)
        have hy' : st.ext.look y = .row sz' els := lk_look (st := st) hy
        exact AL_new hX hw (Y_appendNilO ho hx' hy' (hX.T.app_at h3) h6 h7 h8) h10 hK
      · exact h2.elim
    · exact h.elim
  · exact h.elim
theorem runM_sound (hna : ∀ b, ¬ E.arg b) : ∀ (ms : List Md) (rest : List Oper) (st : St) (K : St → Prop), (∀ st, K st → Q .normal st) → runM X C ops.toList ms rest st K → AL C E ops rest Q st
  | ms, [], st, K, hK, h => by
    have h : runR X C ops.toList [] st K := by cases ms <;> exact h
    exact runR_sound hX [] st K hK h
  | [], o :: rest, st, K, hK, h => runR_sound hX (o :: rest) st K hK h
  | m :: ms, o :: rest, st, K, hK, h => by
    cases m with
    | n =>
      rw [runM] at h
      refine guardR_dest h (fun hw h' => ?_) (fun hw h' => ?_)
      · exact stepR_sound hX hw h' fun st h => runM_sound hna ms rest st K hK h
      · exact AL_skp hX hw h' fun st h => runM_sound hna ms rest st K hK h
    | lay =>
      rw [runM] at h
      refine guardR_dest h (fun hw h' => ?_) (fun hw h' => ?_)
      · split at h'
        · rename_i c args ts ho
          rw [forceS_iff] at h'
          exact calN_sound hX hw ho h' fun st h => runM_sound hna ms rest st K hK h
        · exact h'.elim
      · exact AL_skp hX hw h' fun st h => runM_sound hna ms rest st K hK h
    | own =>
      rw [runM] at h
      refine guardR_dest h (fun hw h' => ?_) (fun hw h' => ?_)
      · exact ownR_sound hX hw h' fun st h => runM_sound hna ms rest st K hK h
      · exact AL_skp hX hw h' fun st h => runM_sound hna ms rest st K hK h
    | frz i ts =>
      rw [runM] at h
      refine frzR_sound hna h fun st h => ?_
      refine guardR_dest h (fun hw h' => ?_) (fun hw h' => ?_)
      · exact stepR_sound hX hw h' fun st h => runM_sound hna ms rest st K hK h
      · exact AL_skp hX hw h' fun st h => runM_sound hna ms rest st K hK h
/-- A region whose operations are taken as told. -/
theorem W_regionM (hna : ∀ b, ¬ E.arg b) (ms : List Md) {id : Nat} {ops : Array Oper} (h : runM X C ops.toList ms ops.toList st fun st => Q .normal st) : W X C E (.region id ops false) Q st :=
  ⟨AW_region (runM_sound hX hna ms _ _ _ (fun _ h => h) h)⟩
end
end Go.Proofs.YtnfbomhhgjlacaaDoor.Abs
