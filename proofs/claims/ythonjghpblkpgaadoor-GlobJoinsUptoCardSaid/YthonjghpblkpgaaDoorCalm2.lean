/- Calm.lean with any relation of worlds in place of 'later blocks and draws': for regions that draw their order and store, too. -/
import Derived.Test.YthonjghpblkpgaaDoorCalm
namespace Go.Proofs.YthonjghpblkpgaaDoor
open Go.RowKit
/-- What the region's operations may do to the world, one behind the other. -/
structure Calmly (ρ : World → World → Prop) : Prop where
  refl : ∀ w, ρ w w
  trans : ∀ a b c, ρ a b → ρ b c → ρ a c
  drew : ∀ w : World, ρ w { w with drawn := w.drawn + 1 }
def CalmQ2 (ρ : World → World → Prop) (a : Act) (w : World) (V : Value → World → Prop) (dst : Option Tmp) : Exit → Act → World → Prop
  | .normal, a', w' => ρ w w' ∧ a'.defers = a.defers ∧ V (got dst a') w'
  | _, _, _ => False
section
variable {P : Program} {ops : Array Oper} {ρ : World → World → Prop}
theorem calm_step2 {w : World} {V : Value → World → Prop} {o : Oper} {F a : Act} {i : Nat} {Q : Exit → Act → World → Prop} {K : Act → World → Prop} (hi : ops[i]? = some o) (he : execOp F.eval o = execOp a.eval o) (hw : Region.wanted o (yielded ops F.tmps) = Region.wanted o (yielded ops a.tmps))
    (hsz : F.tmps.size = a.tmps.size)
    (h : wpList P ops (CalmQ2 ρ F w V o.dst) [o] F w)
    (hK : ∀ v w', ρ w w' → V v w' → K (a.put o.dst v) w') : wpOp P ops Q i K a w := by
  have hQ : ∀ v w', CalmQ2 ρ F w V o.dst .normal (F.put o.dst v) w' → K (a.put o.dst v) w' := fun v w' hc => by
    rw [put_got a F hsz.symm o.dst v]
    exact hK _ _ hc.1 hc.2.2
  unfold wpList at h
  unfold wpOp
  simp only [hi]
  rw [hw] at h
  by_cases hwt : Region.wanted o (yielded ops a.tmps) = true
  · rw [if_pos hwt] at h ⊢
    rcases h with h | ⟨_, a', w', h⟩
    · refine .inl ?_
      unfold Oper.wp at *
      rw [he] at h
      generalize (execOp a.eval o).run P w = r at *
      cases r with
      | ok n w' =>
        cases n <;> simp only [Oper.upon] at h ⊢
        case value v => exact hQ v w' h
        case skip => exact hQ undef w' h
        case defer d =>
          exfalso
          have h2 := h.2.1
          rw [(put_size _ _ _).2] at h2
          exact absurd (congrArg List.length h2) (by simp)
        case enter f args =>
          refine Calls.mono h fun e w'' hh => ?_
          cases e with
          | returned v => exact hQ v w'' hh
          | panicked c => exact hh.elim
          | outgrown => obtain ⟨_, _, hh⟩ := hh; exact hh.elim
        case row row args => exact Rows.mono h fun v w'' hh => hQ v w'' hh
      | halt x w' => cases x <;> simp only [Oper.upon] at h <;> exact h.elim
    · exact h.elim
  · rw [if_neg hwt] at h ⊢
    exact hQ undef w h
theorem calm_any2 (hρ : Calmly ρ) {n : Nat} (hB : CalmOk n ops) {Q : Exit → Act → World → Prop} {a0 : Act} {w0 : World} (Val : Nat → Value → World → Prop) (hst : ∀ j v w w', ρ w w' → Val j v w → Val j v w')
    (hstep : ∀ i o, i < n → ops[i]? = some o → ∀ (vals : Nat → Value) (w : World), ρ w0 w → (∀ j, j < n → calmWaits ops i j = true → Val j (vals j) w) → wpList P ops (CalmQ2 ρ (fillAll ops n vals a0) w (Val i) o.dst) [o] (fillAll ops n vals a0) w)
    (hend : ∀ (vals : Nat → Value) w, ρ w0 w → (∀ j, j < n → Val j (vals j) w) → wpOps P ops Q (List.range' n (ops.size - n)) (fillAll ops n vals a0) w) :
    ∀ (c : Nat) (listed : Array Bool) (a : Act) (w : World) (vals : Nat → Value), listed.size = ops.size → (∀ j, n ≤ j → j < ops.size → listed.getD j true = false) → ((List.range n).filter fun j => !listed.getD j true).length = c →
      ρ w0 w → (∀ j, j < n → listed.getD j true = true → Val j (vals j) w) →
      (∀ vals' : Nat → Value, (∀ j, j < n → listed.getD j true = true → vals' j = vals j) → ((List.range n).filter fun j => !listed.getD j true).foldl (putAt ops vals') a = fillAll ops n vals' a0) →
      wpAny P .any ops Q (c + (ops.size - n)) listed a w
  | 0, listed, a, w, vals, hs, ht, hc, hb, hv, hf => by
    have h0 := List.length_eq_zero_iff.1 hc
    have hall : ∀ j, j < n → listed.getD j true = true := fun j hj => by
      have := List.eq_nil_iff_forall_not_mem.1 h0 j
      rw [List.mem_filter, List.mem_range] at this
      simp only [not_and, Bool.not_eq_true', Bool.not_eq_false] at this
      exact this hj
    have hA := hf vals (fun _ _ _ => rfl)
    rw [h0, List.foldl_nil] at hA
    rw [hA, Nat.zero_add]
    refine calm_tail hB (ops.size - n) n listed _ w (Nat.le_refl _) (by have := hB.le; omega) hs (fun j hj => ?_) (hend vals w hb (fun j hj => hv j hj (hall j hj)))
    by_cases e : j < n
    · rw [hall j e]; simp [e]
    · rw [ht j (by omega) hj]; simp [e]
  | c + 1, listed, a, w, vals, hs, ht, hc, hb, hv, hf => by
    have hle := hB.le
    rw [show c + 1 + (ops.size - n) = (c + (ops.size - n)) + 1 by omega]
    refine ⟨fun h0 => ?_, fun i hi => ?_⟩
    · exfalso
      have hne : ((List.range n).filter fun j => !listed.getD j true) ≠ [] := fun h => by rw [h] at hc; cases hc
      obtain ⟨j, hj⟩ := List.exists_mem_of_ne_nil _ hne
      rw [List.mem_filter, List.mem_range] at hj
      obtain ⟨j, h1, h2, h3⟩ := least_not (fun j => listed.getD j true) n ⟨j, hj.1, by simpa using hj.2⟩
      have : j ∈ Region.ready .any ops listed := calm_ready.2 ⟨h2, ops[j]'(by omega), by simp, fun e he hbd => by
        have h4 := hB.back j _ e (Array.getElem?_eq_some_iff.2 ⟨by omega, rfl⟩) he hbd
        have h5 := h3 e.on h4
        have hlt : e.on < listed.size := by omega
        simp [Array.getD_eq_getD_getElem?, hlt] at h5 ⊢
        exact h5⟩
      rw [h0] at this
      cases this
    · obtain ⟨h1, o, ho, h2⟩ := calm_ready.1 hi
      have hio := (Array.getElem?_eq_some_iff.1 ho).1
      have hwl : ∀ j, j < n → calmWaits ops i j = true → listed.getD j true = true := fun j hj hw => by
        unfold calmWaits at hw
        rw [ho] at hw
        simp only [Option.map_some, Option.getD_some, Array.any_eq_true'] at hw
        obtain ⟨ed, he, hbd⟩ := hw
        simp only [Bool.and_eq_true, beq_iff_eq] at hbd
        have h3 := h2 ed he hbd.1
        rw [hbd.2] at h3
        have hlt : j < listed.size := by omega
        simp [Array.getD_eq_getD_getElem?, hlt] at h3 ⊢
        exact h3
      have hin : i < n := by
        rcases Nat.lt_or_ge i n with h | h
        · exact h
        · exfalso
          have hne : ((List.range n).filter fun j => !listed.getD j true) ≠ [] := fun h => by rw [h] at hc; cases hc
          obtain ⟨j, hj⟩ := List.exists_mem_of_ne_nil _ hne
          rw [List.mem_filter, List.mem_range] at hj
          have h3 := hwl j hj.1 (hB.tail i j h hio (by omega))
          rw [h3] at hj
          simp at hj
      have hA := hf vals (fun _ _ _ => rfl)
      obtain ⟨e1, e2⟩ := exec_fill (ops := ops) o (fun cs b => hB.sel i o cs b ho) vals ((List.range n).filter fun j => !listed.getD j true) (fun j hj d hd => by
        rw [List.mem_filter, List.mem_range] at hj
        refine hB.look i j o hin hj.1 ho ?_ d hd
        cases hcw : calmWaits ops i j with
        | false => rfl
        | true => have h3 := hwl j hj.1 hcw; rw [h3] at hj; simp at hj) a
      have e3 := (fold_size (ops := ops) vals ((List.range n).filter fun j => !listed.getD j true) a).1
      rw [hA] at e1 e2 e3
      have him : i ∈ (List.range n).filter fun j => !listed.getD j true := by
        rw [List.mem_filter, List.mem_range]
        exact ⟨hin, by simpa using h1⟩
      have hnd : ((List.range n).filter fun j => !listed.getD j true).Nodup := List.nodup_range.sublist List.filter_sublist
      have hnew : ((List.range n).filter fun j => !(listed.setIfInBounds i true).getD j true) = ((List.range n).filter fun j => !listed.getD j true).filter (fun x => x != i) := by
        rw [List.filter_filter]
        refine List.filter_congr fun j hj => ?_
        rw [List.mem_range] at hj
        have hlt : j < listed.size := by omega
        by_cases e : i = j
        · subst e
          simp [Array.getD_eq_getD_getElem?, hlt]
        · simp [Array.getD_eq_getD_getElem?, hlt, e, Ne.symm e]
      have hset : ∀ j, j < n → (listed.setIfInBounds i true).getD j true = true → j = i ∨ listed.getD j true = true := fun j hj h => by
        by_cases e : j = i
        · exact .inl e
        · rw [getD_set_ne true (Ne.symm e)] at h
          exact .inr h
      refine calm_step2 (F := fillAll ops n vals a0) (V := Val i) ho e1 e2 e3 (hstep i o hin ho vals w hb (fun j hj hw => hv j hj (hwl j hj hw))) (fun v w' hb' hv' => ?_)
      refine calm_any2 hρ hB Val hst hstep hend c (listed.setIfInBounds i true) (a.put o.dst v) w' (fun j => if j = i then v else vals j) (by simpa using hs) (fun j hj hj' => ?_) ?_ (hρ.trans _ _ _ hb hb') (fun j hj hl => ?_) (fun vals' hv2 => ?_)
      · rw [getD_set_ne true (by omega)]
        exact ht j hj hj'
      · rw [hnew]
        have := filter_less hnd him
        omega
      · by_cases e : j = i
        · subst e
          simpa using hv'
        · rcases hset j hj hl with h | h
          · exact absurd h e
          · simp only [e, if_false]
            exact hst j _ _ _ hb' (hv j hj h)
      · have hfr := hf vals' (fun j hj hl => by
          have hne : j ≠ i := fun e => by subst e; rw [h1] at hl; cases hl
          have hlt : j < listed.size := by omega
          have := hv2 j hj (by rw [getD_set_ne true (Ne.symm hne)]; exact hl)
          simpa [hne] using this)
        rw [hnew, ← hfr]
        have hvi : vals' i = v := by
          have hlt : i < listed.size := by omega
          have := hv2 i hin (by simp [Array.getD_eq_getD_getElem?, hlt])
          simpa using this
        have hd : dstOf ops i = o.dst := by unfold dstOf; rw [ho]; rfl
        have := foldl_front (putAt ops vals') i _ hnd him (fun x hx hne b => by
          rw [List.mem_filter, List.mem_range] at hx
          unfold putAt
          exact put_comm' _ _ _ _ _ (fun d hd => hB.dst i x hin hx.1 hne d hd)) a
        rw [this]
        congr 1
        unfold putAt
        rw [hd, hvi]
theorem wp_region_calm2 {id : Nat} {l tl : List Oper} {Q : Exit → Act → World → Prop} {a0 : Act} {w0 : World} (hρ : Calmly ρ) (hm : P.follows .mixedOrders = true) (hB : calmB l.length (l ++ tl).toArray = true) (Val : Nat → Value → World → Prop)
    (hst : ∀ j v w w', ρ w w' → Val j v w → Val j v w')
    (hstep : ∀ i o, l[i]? = some o → ∀ (vals : Nat → Value) (w : World), ρ w0 w → (∀ j, j < l.length → calmWaits (l ++ tl).toArray i j = true → Val j (vals j) w) → wpList P (l ++ tl).toArray (CalmQ2 ρ (putsFrom l 0 vals a0) w (Val i) o.dst) [o] (putsFrom l 0 vals a0) w)
    (hend : ∀ (vals : Nat → Value) w, ρ w0 w → (∀ j, j < l.length → Val j (vals j) w) → wpList P (l ++ tl).toArray Q tl (putsFrom l 0 vals a0) w) : (Code.region id (l ++ tl).toArray true).wp P Q a0 w0 := by
  have hB := calm_ok hB
  have hF : ∀ vals : Nat → Value, fillAll (l ++ tl).toArray l.length vals a0 = putsFrom l 0 vals a0 := fun vals => by
    have := puts_fill (ops := (l ++ tl).toArray) tl l [] vals a0 (by simp)
    rw [List.length_nil] at this
    rw [this]
    unfold fillAll
    rw [List.range_eq_range']
  refine wp_region_any hm ?_
  have h := calm_any2 (P := P) hρ hB (Q := Q) (a0 := a0) (w0 := w0) Val hst (fun i o hi ho vals w hb hv => ?_) (fun vals w hb hv => ?_) l.length (Array.replicate (l ++ tl).toArray.size false) a0 { w0 with drawn := w0.drawn + 1 } (fun _ => undef) (by simp) (fun j hj hj' => ?_) ?_ (hρ.drew w0) (fun j hj hl => ?_) (fun vals' _ => ?_)
  · have e : l.length + ((l ++ tl).toArray.size - l.length) = (l ++ tl).toArray.size := by simp
    rw [e] at h
    exact h
  · have ho' : l[i]? = some o := by simpa [List.getElem?_append_left hi] using ho
    rw [hF]
    exact hstep i o ho' vals w hb hv
  · rw [hF]
    have e : (l ++ tl).toArray.size - l.length = tl.length := by simp
    rw [e, wpOps_eq_wpList tl l.length (fun j => by rw [List.getElem?_toArray, List.getElem?_append_right (by omega), Nat.add_sub_cancel_left])]
    exact hend vals w hb hv
  · simp at hj'
    simp [Array.getD_eq_getD_getElem?, hj']
  · have : ((List.range l.length).filter fun j => !(Array.replicate (l ++ tl).toArray.size false).getD j true) = List.range l.length := List.filter_eq_self.2 fun j hj => by
      rw [List.mem_range] at hj
      have : j < l.length + tl.length := by omega
      simp [Array.getD_eq_getD_getElem?, this]
    rw [this, List.length_range]
  · exfalso
    have : j < l.length + tl.length := by omega
    simp [Array.getD_eq_getD_getElem?, this] at hl
  · have : ((List.range l.length).filter fun j => !(Array.replicate (l ++ tl).toArray.size false).getD j true) = List.range l.length := List.filter_eq_self.2 fun j hj => by
      rw [List.mem_range] at hj
      have : j < l.length + tl.length := by omega
      simp [Array.getD_eq_getD_getElem?, this]
    rw [this]
    rfl
end
structure CalmVal2 (ρ : World → World → Prop) where
  p : Value → World → Prop
  st : ∀ v w w', ρ w w' → p v w → p v w'
def eqv2 {ρ : World → World → Prop} (v : Value) : CalmVal2 ρ := ⟨fun x _ => x = v, fun _ _ _ _ h => h⟩
instance {ρ : World → World → Prop} : Inhabited (CalmVal2 ρ) := ⟨⟨fun _ _ => True, fun _ _ _ _ h => h⟩⟩
section
variable {ρ : World → World → Prop}
def calmAll2 (P : Program) (ops : Array Oper) (VL : List (CalmVal2 ρ)) (n : Nat) (F : (Nat → Value) → Act) (w0 : World) : List Oper → Nat → Prop
  | [], _ => True
  | o :: l, i => (∀ (vals : Nat → Value) (w : World), ρ w0 w → (∀ j, j < n → calmWaits ops i j = true → (VL.getD j default).p (vals j) w) → wpList P ops (CalmQ2 ρ (F vals) w (VL.getD i default).p o.dst) [o] (F vals) w) ∧ calmAll2 P ops VL n F w0 l (i + 1)
def calmEnd2 (vals : Nat → Value) (w : World) : List (CalmVal2 ρ) → Nat → Prop
  | [], _ => True
  | v :: l, i => v.p (vals i) w ∧ calmEnd2 vals w l (i + 1)
theorem calm_all_at2 {P : Program} {ops : Array Oper} {VL : List (CalmVal2 ρ)} {n : Nat} {F : (Nat → Value) → Act} {w0 : World} : ∀ (l : List Oper) (k : Nat), calmAll2 P ops VL n F w0 l k → ∀ (i : Nat) o, l[i]? = some o → ∀ (vals : Nat → Value) (w : World), ρ w0 w → (∀ j, j < n → calmWaits ops (k + i) j = true → (VL.getD j default).p (vals j) w) → wpList P ops (CalmQ2 ρ (F vals) w (VL.getD (k + i) default).p o.dst) [o] (F vals) w
  | [], _, _, i, o, ho => by simp at ho
  | q :: l, k, h, 0, o, ho => by
    have : q = o := by simpa using ho
    subst this
    exact h.1
  | q :: l, k, h, i + 1, o, ho => by
    have := calm_all_at2 l (k + 1) h.2 i o (by simpa using ho)
    rw [show k + 1 + i = k + (i + 1) by omega] at this
    exact this
theorem calm_end_mk2 (vals : Nat → Value) (w : World) : ∀ (l : List (CalmVal2 ρ)) (k : Nat), (∀ j, j < l.length → (l.getD j default).p (vals (k + j)) w) → calmEnd2 vals w l k
  | [], _, _ => trivial
  | v :: l, k, h => ⟨by have := h 0 (by simp); simpa using this, calm_end_mk2 vals w l (k + 1) (fun j hj => by
    have := h (j + 1) (by simpa using hj)
    rw [show k + (j + 1) = k + 1 + j by omega] at this
    simpa using this)⟩
theorem region_calm2 {P : Program} {id : Nat} {ops : Array Oper} {Q : Exit → Act → World → Prop} {a0 : Act} {w0 : World} (n : Nat) (VL : List (CalmVal2 ρ)) (hρ : Calmly ρ) (hm : P.follows .mixedOrders = true) (hlen : VL.length = n) (hB : calmB n ops = true) (F : (Nat → Value) → Act) (hF : ∀ vals, putsFrom (ops.toList.take n) 0 vals a0 = F vals)
    (hstep : calmAll2 P ops VL n F w0 (ops.toList.take n) 0)
    (hend : ∀ (vals : Nat → Value) w, ρ w0 w → calmEnd2 vals w VL 0 → wpList P ops Q (ops.toList.drop n) (F vals) w) : (Code.region id ops true).wp P Q a0 w0 := by
  have hle : n ≤ ops.size := (calm_ok hB).le
  have e : ops = (ops.toList.take n ++ ops.toList.drop n).toArray := by rw [List.take_append_drop]
  have el : (ops.toList.take n).length = n := by rw [List.length_take, Array.length_toList]; omega
  have h := wp_region_calm2 (P := P) hρ (id := id) (l := ops.toList.take n) (tl := ops.toList.drop n) (Q := Q) (a0 := a0) (w0 := w0) hm (by rw [el, ← e]; exact hB) (fun i => (VL.getD i default).p) (fun j v w w' hb hp => (VL.getD j default).st v w w' hb hp)
    (fun i o ho vals w hb hv => by
      rw [← e] at hv ⊢
      rw [hF]
      have := calm_all_at2 _ 0 hstep i o ho vals w hb (fun j hj hw => hv j (by rw [el]; exact hj) (by rw [Nat.zero_add] at hw; exact hw))
      rw [Nat.zero_add] at this
      exact this)
    (fun vals w hb hv => by
      rw [← e, hF]
      exact hend vals w hb (calm_end_mk2 vals w VL 0 (fun j hj => by
        rw [Nat.zero_add]
        exact hv j (by rw [el, ← hlen]; exact hj))))
  rw [← e] at h
  exact h
end
end Go.Proofs.YthonjghpblkpgaaDoor
