/- A region that draws its order, walked operation by operation: what each leaves is told by a predicate that later blocks and draws do not turn. -/
import Derived.OrdersHeld
import Derived.Below
import Derived.Tactics
namespace Go.Proofs.YtnfbomhhgjlacaaDoor
open Go.RowKit
/-- What an operation has left in its own slot. -/
def got (dst : Option Tmp) (a : Act) : Value := match dst with | some d => a.tmps.getD d undef | none => undef
def CalmQ (a : Act) (w : World) (V : Value → World → Prop) (dst : Option Tmp) : Exit → Act → World → Prop
  | .normal, a', w' => Below w.heap.size w w' ∧ a'.defers = a.defers ∧ V (got dst a') w'
  | _, _, _ => False
/-- The frame with the slots of all these operations filled. -/
def putsFrom : List Oper → Nat → (Nat → Value) → Act → Act
  | [], _, _, a => a
  | o :: l, k, vals, a => putsFrom l (k + 1) vals (a.put o.dst (vals k))
def calmWaits (ops : Array Oper) (i j : Nat) : Bool := ((ops[i]?).map (·.after.any fun e => Region.binds .any e && e.on == j)).getD false
/-- The operations from n on come one behind the other, behind all others; none looks at a slot that may not be filled yet; each has a slot of its own. -/
def calmB (n : Nat) (ops : Array Oper) : Bool :=
  decide (n ≤ ops.size) && (List.range ops.size).all (fun k => (List.range ops.size).all fun j =>
    (decide (k < n) || !decide (j < k) || calmWaits ops k j) &&
    (!decide (k < n) || !decide (j < n) || calmWaits ops k j || (match ops[k]?, ops[j]? with | some ok, some oj => (match oj.dst with | some d => !(ok.looksAt ops).contains d && (j == k || ok.dst != some d) | none => true) | _, _ => true)) &&
    (!decide (k < n) || !decide (j < n) || (j == k) || (match ops[k]?, ops[j]? with | some ok, some oj => (match oj.dst with | some d => ok.dst != some d | none => true) | _, _ => true))) &&
  ops.all (fun o => match o.op with | .select .. => false | _ => true) &&
  (List.range ops.size).all fun k => ((ops[k]?).map (·.after.all fun e => !Region.binds .any e || decide (e.on < k))).getD true
theorem foldl_front {β : Type} (f : β → Nat → β) (i : Nat) (L : List Nat) (hnd : L.Nodup) (hi : i ∈ L) (hc : ∀ x ∈ L, x ≠ i → ∀ b, f (f b x) i = f (f b i) x) : ∀ b, L.foldl f b = (L.filter (fun x => x != i)).foldl f (f b i) := by
  induction L with
  | nil => cases hi
  | cons x L ih =>
    intro b
    obtain ⟨hx, hnd⟩ := List.nodup_cons.1 hnd
    by_cases e : x = i
    · subst e
      have : L.filter (fun y => y != x) = L := List.filter_eq_self.2 fun y hy => by simp; intro e; exact hx (e ▸ hy)
      simp [this]
    · have hi' : i ∈ L := by
        rcases List.mem_cons.1 hi with h | h
        · exact absurd h.symm e
        · exact h
      have ih' := ih hnd hi' (fun y hy => hc y (List.mem_cons_of_mem _ hy)) (f b x)
      simp only [List.foldl_cons]
      rw [ih', hc x (List.mem_cons_self ..) e b, List.filter_cons_of_pos (by simpa using e)]
      rfl
section
variable {P : Program} {ops : Array Oper}
def dstOf (ops : Array Oper) (j : Nat) : Option Tmp := (ops[j]?).bind (·.dst)
def putAt (ops : Array Oper) (vals : Nat → Value) (a : Act) (j : Nat) : Act := a.put (dstOf ops j) (vals j)
def fillAll (ops : Array Oper) (n : Nat) (vals : Nat → Value) (a : Act) : Act := (List.range n).foldl (putAt ops vals) a
theorem putAt_congr {vals vals' : Nat → Value} (L : List Nat) (h : ∀ j ∈ L, vals j = vals' j) : ∀ a, L.foldl (putAt ops vals) a = L.foldl (putAt ops vals') a := by
  induction L with
  | nil => intro a; rfl
  | cons x L ih =>
    intro a
    simp only [List.foldl_cons]
    rw [show putAt ops vals a x = putAt ops vals' a x by unfold putAt; rw [h x (List.mem_cons_self ..)]]
    exact ih (fun j hj => h j (List.mem_cons_of_mem _ hj)) _
theorem puts_fill (tl : List Oper) : ∀ (l l0 : List Oper) (vals : Nat → Value) (a : Act), ops = (l0 ++ l ++ tl).toArray → putsFrom l l0.length vals a = (List.range' l0.length l.length).foldl (putAt ops vals) a
  | [], _, _, _, _ => rfl
  | o :: l, l0, vals, a, h => by
    have h1 : dstOf ops l0.length = o.dst := by subst h; simp [dstOf]
    have := puts_fill tl l (l0 ++ [o]) vals (a.put o.dst (vals l0.length)) (by rw [h]; simp)
    rw [List.length_append, List.length_singleton] at this
    simp only [putsFrom, List.length_cons, List.range'_succ, List.foldl_cons]
    rw [this]
    congr 1
    unfold putAt
    rw [h1]
theorem exec_fill (o : Oper) (hs : ∀ cs b, o.op ≠ .select cs b) (vals : Nat → Value) (L : List Nat) (h : ∀ j ∈ L, ∀ d, dstOf ops j = some d → d ∉ o.looksAt ops) : ∀ a : Act,
    execOp (L.foldl (putAt ops vals) a).eval o = execOp a.eval o ∧ Region.wanted o (yielded ops (L.foldl (putAt ops vals) a).tmps) = Region.wanted o (yielded ops a.tmps) := by
  induction L with
  | nil => intro a; exact ⟨rfl, rfl⟩
  | cons x L ih =>
    intro a
    obtain ⟨h1, h2⟩ := ih (fun j hj => h j (List.mem_cons_of_mem _ hj)) (putAt ops vals a x)
    simp only [List.foldl_cons]
    rw [h1, h2]
    exact ⟨execOp_put o hs a _ _ (h x (List.mem_cons_self ..)), wanted_put o a _ _ (h x (List.mem_cons_self ..))⟩
theorem put_size (a : Act) (d : Option Tmp) (v : Value) : (a.put d v).tmps.size = a.tmps.size ∧ (a.put d v).defers = a.defers := by
  cases d <;> simp [Act.put]
theorem fold_size (vals : Nat → Value) (L : List Nat) : ∀ a : Act, (L.foldl (putAt ops vals) a).tmps.size = a.tmps.size ∧ (L.foldl (putAt ops vals) a).defers = a.defers := by
  induction L with
  | nil => intro a; exact ⟨rfl, rfl⟩
  | cons x L ih =>
    intro a
    have h := ih (putAt ops vals a x)
    have h2 := put_size a (dstOf ops x) (vals x)
    exact ⟨h.1.trans h2.1, h.2.trans h2.2⟩
theorem put_got (a b : Act) (h : a.tmps.size = b.tmps.size) (dst : Option Tmp) (v : Value) : a.put dst v = a.put dst (got dst (b.put dst v)) := by
  cases dst with
  | none => rfl
  | some d =>
    by_cases hd : d < a.tmps.size
    · have : got (some d) (b.put (some d) v) = v := by
        unfold got Act.put
        simp [Array.getD_eq_getD_getElem?, h ▸ hd]
      rw [this]
    · have hd' : a.tmps.size ≤ d := Nat.le_of_not_lt hd
      simp only [Act.put]
      rw [Array.setIfInBounds_eq_of_size_le hd', Array.setIfInBounds_eq_of_size_le hd']
/-- One operation, at the full frame, is that operation at a frame that lacks what it doesn't look at. -/
theorem calm_step {w : World} {V : Value → World → Prop} {o : Oper} {F a : Act} {i : Nat} {Q : Exit → Act → World → Prop} {K : Act → World → Prop} (hi : ops[i]? = some o) (he : execOp F.eval o = execOp a.eval o) (hw : Region.wanted o (yielded ops F.tmps) = Region.wanted o (yielded ops a.tmps))
    (hsz : F.tmps.size = a.tmps.size)
    (h : wpList P ops (CalmQ F w V o.dst) [o] F w)
    (hK : ∀ v w', Below w.heap.size w w' → V v w' → K (a.put o.dst v) w') : wpOp P ops Q i K a w := by
  have hQ : ∀ v w', CalmQ F w V o.dst .normal (F.put o.dst v) w' → K (a.put o.dst v) w' := fun v w' hc => by
    rw [put_got a F hsz.symm o.dst v]
    exact hK _ _ hc.1 hc.2.2
  unfold wpList at h
  unfold wpOp
  simp only [hi]
  rw [hw] at h
  by_cases hwt : Region.wanted o (yielded ops a.tmps) = true
  · rw [if_pos hwt] at h ⊢
    rcases h with h | ⟨_, a', w', h⟩
    · refine .inl ?_
      unfold Oper.wp at *
      rw [he] at h
      generalize (execOp a.eval o).run P w = r at *
      cases r with
      | ok n w' =>
        cases n <;> simp only [Oper.upon] at h ⊢
        case value v => exact hQ v w' h
        case skip => exact hQ undef w' h
        case defer d =>
          exfalso
          have h2 := h.2.1
          rw [(put_size _ _ _).2] at h2
          exact absurd (congrArg List.length h2) (by simp)
        case enter f args =>
          refine Calls.mono h fun e w'' hh => ?_
          cases e with
          | returned v => exact hQ v w'' hh
          | panicked c => exact hh.elim
          | outgrown => obtain ⟨_, _, hh⟩ := hh; exact hh.elim
        case row row args => exact Rows.mono h fun v w'' hh => hQ v w'' hh
      | halt x w' => cases x <;> simp only [Oper.upon] at h <;> exact h.elim
    · exact h.elim
  · rw [if_neg hwt] at h ⊢
    exact hQ undef w h
/-- What calmB says. -/
structure CalmOk (n : Nat) (ops : Array Oper) : Prop where
  le : n ≤ ops.size
  tail : ∀ k j, n ≤ k → k < ops.size → j < k → calmWaits ops k j = true
  look : ∀ k j ok, k < n → j < n → ops[k]? = some ok → calmWaits ops k j = false → ∀ d, dstOf ops j = some d → d ∉ ok.looksAt ops
  dst : ∀ k j, k < n → j < n → j ≠ k → ∀ d, dstOf ops j = some d → dstOf ops k ≠ some d
  sel : ∀ (k : Nat) o cs b, ops[k]? = some o → o.op ≠ .select cs b
  back : ∀ (k : Nat) o e, ops[k]? = some o → e ∈ o.after → Region.binds .any e = true → e.on < k
theorem calm_ok {n : Nat} (h : calmB n ops = true) : CalmOk n ops := by
  unfold calmB at h
  simp only [Bool.and_eq_true] at h
  obtain ⟨⟨⟨h1, h2⟩, h3⟩, h5⟩ := h
  have h1 := of_decide_eq_true h1
  have at_ : ∀ k j, k < ops.size → j < ops.size → _ := fun k j hk hj => List.all_eq_true.1 (List.all_eq_true.1 h2 k (List.mem_range.2 hk)) j (List.mem_range.2 hj)
  refine ⟨h1, fun k j hn hk hj => ?_, fun k j ok hk hj hok hw d hd => ?_, fun k j hk hj hne d hd hd2 => ?_, fun k o cs b ho => ?_, fun k o e ho he hb => ?_⟩
  · have := at_ k j hk (by omega)
    simp only [Bool.and_eq_true, Bool.or_eq_true, decide_eq_true_eq, Bool.not_eq_true', decide_eq_false_iff_not] at this
    rcases this.1.1 with (h | h) | h
    · omega
    · omega
    · exact h
  · have := at_ k j (by omega) (by omega)
    simp only [Bool.and_eq_true, Bool.or_eq_true, decide_eq_true_eq, Bool.not_eq_true', decide_eq_false_iff_not] at this
    rcases this.1.2 with ((h | h) | h) | h
    · omega
    · omega
    · rw [hw] at h; cases h
    · unfold dstOf at hd
      cases hj' : ops[j]? with
      | none => rw [hj'] at hd; cases hd
      | some oj =>
        rw [hj'] at hd
        rw [hok, hj'] at h
        have hd : oj.dst = some d := hd
        simp only [hd, Bool.and_eq_true, Bool.not_eq_true'] at h
        intro hm
        have := h.1
        rw [List.contains_iff_mem.2 hm] at this
        cases this
  · have := at_ k j (by omega) (by omega)
    simp only [Bool.and_eq_true, Bool.or_eq_true, decide_eq_true_eq, Bool.not_eq_true', decide_eq_false_iff_not] at this
    rcases this.2 with ((h | h) | h) | h
    · omega
    · omega
    · exact hne (by simpa using h)
    · unfold dstOf at hd hd2
      cases hj' : ops[j]? with
      | none => rw [hj'] at hd; cases hd
      | some oj =>
        cases hk' : ops[k]? with
        | none => rw [hk'] at hd2; cases hd2
        | some ok =>
          rw [hj'] at hd
          rw [hk'] at hd2
          rw [hk', hj'] at h
          have hd : oj.dst = some d := hd
          have hd2 : ok.dst = some d := hd2
          simp [hd, hd2] at h
  · intro e
    have h4 := Array.all_eq_true.1 h3 k (Array.getElem?_eq_some_iff.1 ho).1
    rw [(Array.getElem?_eq_some_iff.1 ho).2, e] at h4
    cases h4
  · have := List.all_eq_true.1 h5 k (List.mem_range.2 (Array.getElem?_eq_some_iff.1 ho).1)
    rw [ho] at this
    simp only [Option.map_some, Option.getD_some, Array.all_eq_true'] at this
    have := this e he
    simpa [hb] using this
theorem calm_ready {listed : Array Bool} {i : Nat} : i ∈ Region.ready .any ops listed ↔ listed.getD i true = false ∧ ∃ o, ops[i]? = some o ∧ ∀ e ∈ o.after, Region.binds .any e = true → listed.getD e.on false = true := mem_ready
/-- All but the tail have come up: the tail comes as it stands. -/
theorem calm_tail {n : Nat} (hB : CalmOk n ops) {Q : Exit → Act → World → Prop} : ∀ (f m : Nat) (listed : Array Bool) (a : Act) (w : World), n ≤ m → m + f = ops.size → listed.size = ops.size → (∀ j, j < ops.size → listed.getD j true = decide (j < m)) →
    wpOps P ops Q (List.range' m f) a w → wpAny P .any ops Q f listed a w
  | 0, m, listed, a, w, hn, hm, hs, hl, h => by
    refine ⟨?_, h⟩
    rw [List.eq_nil_iff_forall_not_mem]
    intro i hi
    obtain ⟨h1, o, ho, _⟩ := calm_ready.1 hi
    have := (Array.getElem?_eq_some_iff.1 ho).1
    rw [hl i this] at h1
    simp at h1
    omega
  | f + 1, m, listed, a, w, hn, hm, hs, hl, h => by
    have hrd : ∀ i, i ∈ Region.ready .any ops listed ↔ i = m := by
      intro i
      rw [calm_ready]
      constructor
      · rintro ⟨h1, o, ho, h2⟩
        have hi := (Array.getElem?_eq_some_iff.1 ho).1
        rw [hl i hi] at h1
        have h1 : m ≤ i := by simpa using h1
        by_cases e : i = m
        · exact e
        · exfalso
          have hw := hB.tail i m (by omega) hi (by omega)
          unfold calmWaits at hw
          rw [ho] at hw
          simp only [Option.map_some, Option.getD_some, Array.any_eq_true'] at hw
          obtain ⟨ed, he, hb⟩ := hw
          simp only [Bool.and_eq_true, beq_iff_eq] at hb
          have := h2 ed he hb.1
          rw [hb.2] at this
          have h3 := hl m (by omega)
          have h4 : listed[m]? = some true := by
            have hlt : m < listed.size := by omega
            simp [Array.getD_eq_getD_getElem?, hlt] at this
            simp [hlt, this]
          simp [Array.getD_eq_getD_getElem?, h4] at h3
      · rintro rfl
        refine ⟨by rw [hl i (by omega)]; simp, ops[i]'(by omega), by simp, fun e he hb => ?_⟩
        have h3 := hB.back i _ e (Array.getElem?_eq_some_iff.2 ⟨by omega, rfl⟩) he hb
        have h4 := hl e.on (by omega)
        have hlt : e.on < listed.size := by omega
        simp [Array.getD_eq_getD_getElem?, hlt] at h4 ⊢
        rw [h4]
        exact decide_eq_true h3
    rw [List.range'_succ, wpOps_cons] at h
    refine ⟨fun h0 => absurd ((hrd m).2 rfl) (by rw [h0]; simp), fun i hi => ?_⟩
    obtain rfl := (hrd i).1 hi
    refine wpOp_mono (fun a' w' h' => calm_tail hB f (i + 1) (listed.setIfInBounds i true) a' w' (by omega) (by omega) (by simpa using hs) (fun j hj => ?_) h') h
    by_cases e : i = j
    · subst e
      have hlt : i < listed.size := by omega
      simp [Array.getD_eq_getD_getElem?, hlt]
    · have h4 := hl j hj
      have hlt : j < listed.size := by omega
      simp [Array.getD_eq_getD_getElem?, hlt, e] at h4 ⊢
      rw [h4]
      have : (j < i) = (j < i + 1) := by rw [eq_iff_iff]; omega
      simp [this]
theorem least_not (p : Nat → Bool) : ∀ m, (∃ j, j < m ∧ p j = false) → ∃ j, j < m ∧ p j = false ∧ ∀ k, k < j → p k = true
  | 0, ⟨j, h, _⟩ => absurd h (Nat.not_lt_zero j)
  | m + 1, ⟨j, h1, h2⟩ => by
    by_cases h : ∃ j, j < m ∧ p j = false
    · obtain ⟨j, a, b, c⟩ := least_not p m h
      exact ⟨j, by omega, b, c⟩
    · refine ⟨j, h1, h2, fun k hk => ?_⟩
      cases hp : p k with
      | true => rfl
      | false => exact absurd ⟨k, by omega, hp⟩ h
theorem put_comm' (a : Act) (d e : Option Tmp) (v u : Value) (h : ∀ x, d = some x → e ≠ some x) : (a.put d v).put e u = (a.put e u).put d v := by
  cases d with
  | none => rfl
  | some x =>
    cases e with
    | none => rfl
    | some y =>
      have : x ≠ y := fun e => h x rfl (by rw [e])
      simp only [Act.put]
      rw [Array.setIfInBounds_comm _ _ this]
theorem filter_less {L : List Nat} (hn : L.Nodup) {i : Nat} (hi : i ∈ L) : (L.filter (fun x => x != i)).length + 1 = L.length := by
  rw [← hn.erase_eq_filter i, List.length_erase_of_mem hi]
  have := List.length_pos_of_mem hi
  omega
/-- While some of the first n have not come up: what is known of those that have. -/
theorem calm_any {n : Nat} (hB : CalmOk n ops) {Q : Exit → Act → World → Prop} {a0 : Act} {w0 : World} (Val : Nat → Value → World → Prop) (hst : ∀ j v w w', Below w.heap.size w w' → Val j v w → Val j v w')
    (hstep : ∀ i o, i < n → ops[i]? = some o → ∀ (vals : Nat → Value) (w : World), Below w0.heap.size w0 w → (∀ j, j < n → calmWaits ops i j = true → Val j (vals j) w) → wpList P ops (CalmQ (fillAll ops n vals a0) w (Val i) o.dst) [o] (fillAll ops n vals a0) w)
    (hend : ∀ (vals : Nat → Value) w, Below w0.heap.size w0 w → (∀ j, j < n → Val j (vals j) w) → wpOps P ops Q (List.range' n (ops.size - n)) (fillAll ops n vals a0) w) :
    ∀ (c : Nat) (listed : Array Bool) (a : Act) (w : World) (vals : Nat → Value), listed.size = ops.size → (∀ j, n ≤ j → j < ops.size → listed.getD j true = false) → ((List.range n).filter fun j => !listed.getD j true).length = c →
      Below w0.heap.size w0 w → (∀ j, j < n → listed.getD j true = true → Val j (vals j) w) →
      (∀ vals' : Nat → Value, (∀ j, j < n → listed.getD j true = true → vals' j = vals j) → ((List.range n).filter fun j => !listed.getD j true).foldl (putAt ops vals') a = fillAll ops n vals' a0) →
      wpAny P .any ops Q (c + (ops.size - n)) listed a w
  | 0, listed, a, w, vals, hs, ht, hc, hb, hv, hf => by
    have h0 := List.length_eq_zero_iff.1 hc
    have hall : ∀ j, j < n → listed.getD j true = true := fun j hj => by
      have := List.eq_nil_iff_forall_not_mem.1 h0 j
      rw [List.mem_filter, List.mem_range] at this
      simp only [not_and, Bool.not_eq_true', Bool.not_eq_false] at this
      exact this hj
    have hA := hf vals (fun _ _ _ => rfl)
    rw [h0, List.foldl_nil] at hA
    rw [hA, Nat.zero_add]
    refine calm_tail hB (ops.size - n) n listed _ w (Nat.le_refl _) (by have := hB.le; omega) hs (fun j hj => ?_) (hend vals w hb (fun j hj => hv j hj (hall j hj)))
    by_cases e : j < n
    · rw [hall j e]; simp [e]
    · rw [ht j (by omega) hj]; simp [e]
  | c + 1, listed, a, w, vals, hs, ht, hc, hb, hv, hf => by
    have hle := hB.le
    rw [show c + 1 + (ops.size - n) = (c + (ops.size - n)) + 1 by omega]
    refine ⟨fun h0 => ?_, fun i hi => ?_⟩
    · exfalso
      have hne : ((List.range n).filter fun j => !listed.getD j true) ≠ [] := fun h => by rw [h] at hc; cases hc
      obtain ⟨j, hj⟩ := List.exists_mem_of_ne_nil _ hne
      rw [List.mem_filter, List.mem_range] at hj
      obtain ⟨j, h1, h2, h3⟩ := least_not (fun j => listed.getD j true) n ⟨j, hj.1, by simpa using hj.2⟩
      have : j ∈ Region.ready .any ops listed := calm_ready.2 ⟨h2, ops[j]'(by omega), by simp, fun e he hbd => by
        have h4 := hB.back j _ e (Array.getElem?_eq_some_iff.2 ⟨by omega, rfl⟩) he hbd
        have h5 := h3 e.on h4
        have hlt : e.on < listed.size := by omega
        simp [Array.getD_eq_getD_getElem?, hlt] at h5 ⊢
        exact h5⟩
      rw [h0] at this
      cases this
    · obtain ⟨h1, o, ho, h2⟩ := calm_ready.1 hi
      have hio := (Array.getElem?_eq_some_iff.1 ho).1
      have hwl : ∀ j, j < n → calmWaits ops i j = true → listed.getD j true = true := fun j hj hw => by
        unfold calmWaits at hw
        rw [ho] at hw
        simp only [Option.map_some, Option.getD_some, Array.any_eq_true'] at hw
        obtain ⟨ed, he, hbd⟩ := hw
        simp only [Bool.and_eq_true, beq_iff_eq] at hbd
        have h3 := h2 ed he hbd.1
        rw [hbd.2] at h3
        have hlt : j < listed.size := by omega
        simp [Array.getD_eq_getD_getElem?, hlt] at h3 ⊢
        exact h3
      have hin : i < n := by
        rcases Nat.lt_or_ge i n with h | h
        · exact h
        · exfalso
          have hne : ((List.range n).filter fun j => !listed.getD j true) ≠ [] := fun h => by rw [h] at hc; cases hc
          obtain ⟨j, hj⟩ := List.exists_mem_of_ne_nil _ hne
          rw [List.mem_filter, List.mem_range] at hj
          have h3 := hwl j hj.1 (hB.tail i j h hio (by omega))
          rw [h3] at hj
          simp at hj
      have hA := hf vals (fun _ _ _ => rfl)
      obtain ⟨e1, e2⟩ := exec_fill (ops := ops) o (fun cs b => hB.sel i o cs b ho) vals ((List.range n).filter fun j => !listed.getD j true) (fun j hj d hd => by
        rw [List.mem_filter, List.mem_range] at hj
        refine hB.look i j o hin hj.1 ho ?_ d hd
        cases hcw : calmWaits ops i j with
        | false => rfl
        | true => have h3 := hwl j hj.1 hcw; rw [h3] at hj; simp at hj) a
      have e3 := (fold_size (ops := ops) vals ((List.range n).filter fun j => !listed.getD j true) a).1
      rw [hA] at e1 e2 e3
      have him : i ∈ (List.range n).filter fun j => !listed.getD j true := by
        rw [List.mem_filter, List.mem_range]
        exact ⟨hin, by simpa using h1⟩
      have hnd : ((List.range n).filter fun j => !listed.getD j true).Nodup := List.nodup_range.sublist List.filter_sublist
      have hnew : ((List.range n).filter fun j => !(listed.setIfInBounds i true).getD j true) = ((List.range n).filter fun j => !listed.getD j true).filter (fun x => x != i) := by
        rw [List.filter_filter]
        refine List.filter_congr fun j hj => ?_
        rw [List.mem_range] at hj
        have hlt : j < listed.size := by omega
        by_cases e : i = j
        · subst e
          simp [Array.getD_eq_getD_getElem?, hlt]
        · simp [Array.getD_eq_getD_getElem?, hlt, e, Ne.symm e]
      have hset : ∀ j, j < n → (listed.setIfInBounds i true).getD j true = true → j = i ∨ listed.getD j true = true := fun j hj h => by
        by_cases e : j = i
        · exact .inl e
        · rw [getD_set_ne true (Ne.symm e)] at h
          exact .inr h
      refine calm_step (F := fillAll ops n vals a0) (V := Val i) ho e1 e2 e3 (hstep i o hin ho vals w hb (fun j hj hw => hv j hj (hwl j hj hw))) (fun v w' hb' hv' => ?_)
      refine calm_any hB Val hst hstep hend c (listed.setIfInBounds i true) (a.put o.dst v) w' (fun j => if j = i then v else vals j) (by simpa using hs) (fun j hj hj' => ?_) ?_ (hb.trans ⟨hb'.os, hb'.tape, hb'.output, hb'.size, fun i hi => hb'.block i (Nat.lt_of_lt_of_le hi hb.size)⟩) (fun j hj hl => ?_) (fun vals' hv2 => ?_)
      · rw [getD_set_ne true (by omega)]
        exact ht j hj hj'
      · rw [hnew]
        have := filter_less hnd him
        omega
      · by_cases e : j = i
        · subst e
          simpa using hv'
        · rcases hset j hj hl with h | h
          · exact absurd h e
          · simp only [e, if_false]
            exact hst j _ _ _ hb' (hv j hj h)
      · have hfr := hf vals' (fun j hj hl => by
          have hne : j ≠ i := fun e => by subst e; rw [h1] at hl; cases hl
          have hlt : j < listed.size := by omega
          have := hv2 j hj (by rw [getD_set_ne true (Ne.symm hne)]; exact hl)
          simpa [hne] using this)
        rw [hnew, ← hfr]
        have hvi : vals' i = v := by
          have hlt : i < listed.size := by omega
          have := hv2 i hin (by simp [Array.getD_eq_getD_getElem?, hlt])
          simpa using this
        have hd : dstOf ops i = o.dst := by unfold dstOf; rw [ho]; rfl
        have := foldl_front (putAt ops vals') i _ hnd him (fun x hx hne b => by
          rw [List.mem_filter, List.mem_range] at hx
          unfold putAt
          exact put_comm' _ _ _ _ _ (fun d hd => hB.dst i x hin hx.1 hne d hd)) a
        rw [this]
        congr 1
        unfold putAt
        rw [hd, hvi]
/-- **A REGION THAT DRAWS ITS ORDER: each operation by itself, at whatever worlds; then the tail.** -/
theorem wp_region_calm {id : Nat} {l tl : List Oper} {Q : Exit → Act → World → Prop} {a0 : Act} {w0 : World} (hm : P.follows .mixedOrders = true) (hB : calmB l.length (l ++ tl).toArray = true) (Val : Nat → Value → World → Prop)
    (hst : ∀ j v w w', Below w.heap.size w w' → Val j v w → Val j v w')
    (hstep : ∀ i o, l[i]? = some o → ∀ (vals : Nat → Value) (w : World), Below w0.heap.size w0 w → (∀ j, j < l.length → calmWaits (l ++ tl).toArray i j = true → Val j (vals j) w) → wpList P (l ++ tl).toArray (CalmQ (putsFrom l 0 vals a0) w (Val i) o.dst) [o] (putsFrom l 0 vals a0) w)
    (hend : ∀ (vals : Nat → Value) w, Below w0.heap.size w0 w → (∀ j, j < l.length → Val j (vals j) w) → wpList P (l ++ tl).toArray Q tl (putsFrom l 0 vals a0) w) : (Code.region id (l ++ tl).toArray true).wp P Q a0 w0 := by
  have hB := calm_ok hB
  have hF : ∀ vals : Nat → Value, fillAll (l ++ tl).toArray l.length vals a0 = putsFrom l 0 vals a0 := fun vals => by
    have := puts_fill (ops := (l ++ tl).toArray) tl l [] vals a0 (by simp)
    rw [List.length_nil] at this
    rw [this]
    unfold fillAll
    rw [List.range_eq_range']
  refine wp_region_any hm ?_
  have h := calm_any (P := P) hB (Q := Q) (a0 := a0) (w0 := w0) Val hst (fun i o hi ho vals w hb hv => ?_) (fun vals w hb hv => ?_) l.length (Array.replicate (l ++ tl).toArray.size false) a0 { w0 with drawn := w0.drawn + 1 } (fun _ => undef) (by simp) (fun j hj hj' => ?_) ?_ ⟨rfl, rfl, rfl, Nat.le_refl _, fun _ _ => rfl⟩ (fun j hj hl => ?_) (fun vals' _ => ?_)
  · have e : l.length + ((l ++ tl).toArray.size - l.length) = (l ++ tl).toArray.size := by simp
    rw [e] at h
    exact h
  · have ho' : l[i]? = some o := by simpa [List.getElem?_append_left hi] using ho
    rw [hF]
    exact hstep i o ho' vals w hb hv
  · rw [hF]
    have e : (l ++ tl).toArray.size - l.length = tl.length := by simp
    rw [e, wpOps_eq_wpList tl l.length (fun j => by rw [List.getElem?_toArray, List.getElem?_append_right (by omega), Nat.add_sub_cancel_left])]
    exact hend vals w hb hv
  · simp at hj'
    simp [Array.getD_eq_getD_getElem?, hj']
  · have : ((List.range l.length).filter fun j => !(Array.replicate (l ++ tl).toArray.size false).getD j true) = List.range l.length := List.filter_eq_self.2 fun j hj => by
      rw [List.mem_range] at hj
      have : j < l.length + tl.length := by omega
      simp [Array.getD_eq_getD_getElem?, this]
    rw [this, List.length_range]
  · exfalso
    have : j < l.length + tl.length := by omega
    simp [Array.getD_eq_getD_getElem?, this] at hl
  · have : ((List.range l.length).filter fun j => !(Array.replicate (l ++ tl).toArray.size false).getD j true) = List.range l.length := List.filter_eq_self.2 fun j hj => by
      rw [List.mem_range] at hj
      have : j < l.length + tl.length := by omega
      simp [Array.getD_eq_getD_getElem?, this]
    rw [this]
    rfl
end
/-- What an operation leaves: a predicate that later blocks and draws do not turn. -/
structure CalmVal where
  p : Value → World → Prop
  st : ∀ v w w', Below w.heap.size w w' → p v w → p v w'
/-- It leaves this value. -/
def eqv (v : Value) : CalmVal := ⟨fun x _ => x = v, fun _ _ _ _ h => h⟩
/-- It leaves the address of a block of its own, from base on. -/
def newv (base : Nat) (cs : Array Value) (t : TypeId) : CalmVal := ⟨fun x w => ∃ g, x = .pointer (some ⟨g, 0, none⟩) ∧ base ≤ g ∧ w.heap[g]? = some (.cells cs t (0, 0)), fun _v _w _w' hb ⟨g, h1, h2, h3⟩ => ⟨g, h1, h2, (hb.block g (Array.getElem?_eq_some_iff.1 h3).1).trans h3⟩⟩
instance : Inhabited CalmVal := ⟨⟨fun _ _ => True, fun _ _ _ _ h => h⟩⟩
def calmAll (P : Program) (ops : Array Oper) (VL : List CalmVal) (n : Nat) (F : (Nat → Value) → Act) (w0 : World) : List Oper → Nat → Prop
  | [], _ => True
  | o :: l, i => (∀ (vals : Nat → Value) (w : World), Below w0.heap.size w0 w → (∀ j, j < n → calmWaits ops i j = true → (VL.getD j default).p (vals j) w) → wpList P ops (CalmQ (F vals) w (VL.getD i default).p o.dst) [o] (F vals) w) ∧ calmAll P ops VL n F w0 l (i + 1)
def calmEnd (vals : Nat → Value) (w : World) : List CalmVal → Nat → Prop
  | [], _ => True
  | v :: l, i => v.p (vals i) w ∧ calmEnd vals w l (i + 1)
theorem calm_all_at {P : Program} {ops : Array Oper} {VL : List CalmVal} {n : Nat} {F : (Nat → Value) → Act} {w0 : World} : ∀ (l : List Oper) (k : Nat), calmAll P ops VL n F w0 l k → ∀ (i : Nat) o, l[i]? = some o → ∀ (vals : Nat → Value) (w : World), Below w0.heap.size w0 w → (∀ j, j < n → calmWaits ops (k + i) j = true → (VL.getD j default).p (vals j) w) → wpList P ops (CalmQ (F vals) w (VL.getD (k + i) default).p o.dst) [o] (F vals) w
  | [], _, _, i, o, ho => by simp at ho
  | q :: l, k, h, 0, o, ho => by
    have : q = o := by simpa using ho
    subst this
    exact h.1
  | q :: l, k, h, i + 1, o, ho => by
    have := calm_all_at l (k + 1) h.2 i o (by simpa using ho)
    rw [show k + 1 + i = k + (i + 1) by omega] at this
    exact this
theorem calm_end_mk (vals : Nat → Value) (w : World) : ∀ (l : List CalmVal) (k : Nat), (∀ j, j < l.length → (l.getD j default).p (vals (k + j)) w) → calmEnd vals w l k
  | [], _, _ => trivial
  | v :: l, k, h => ⟨by have := h 0 (by simp); simpa using this, calm_end_mk vals w l (k + 1) (fun j hj => by
    have := h (j + 1) (by simpa using hj)
    rw [show k + (j + 1) = k + 1 + j by omega] at this
    simpa using this)⟩
/-- The same, an operation a goal. -/
theorem region_calm {P : Program} {id : Nat} {ops : Array Oper} {Q : Exit → Act → World → Prop} {a0 : Act} {w0 : World} (n : Nat) (VL : List CalmVal) (hm : P.follows .mixedOrders = true) (hlen : VL.length = n) (hB : calmB n ops = true) (F : (Nat → Value) → Act) (hF : ∀ vals, putsFrom (ops.toList.take n) 0 vals a0 = F vals)
    (hstep : calmAll P ops VL n F w0 (ops.toList.take n) 0)
    (hend : ∀ (vals : Nat → Value) w, Below w0.heap.size w0 w → calmEnd vals w VL 0 → wpList P ops Q (ops.toList.drop n) (F vals) w) : (Code.region id ops true).wp P Q a0 w0 := by
  have hle : n ≤ ops.size := (calm_ok hB).le
  have e : ops = (ops.toList.take n ++ ops.toList.drop n).toArray := by rw [List.take_append_drop]
  have el : (ops.toList.take n).length = n := by rw [List.length_take, Array.length_toList]; omega
  have h := wp_region_calm (P := P) (id := id) (l := ops.toList.take n) (tl := ops.toList.drop n) (Q := Q) (a0 := a0) (w0 := w0) hm (by rw [el, ← e]; exact hB) (fun i => (VL.getD i default).p) (fun j v w w' hb hp => (VL.getD j default).st v w w' hb hp)
    (fun i o ho vals w hb hv => by
      rw [← e] at hv ⊢
      rw [hF]
      have := calm_all_at _ 0 hstep i o ho vals w hb (fun j hj hw => hv j (by rw [el]; exact hj) (by rw [Nat.zero_add] at hw; exact hw))
      rw [Nat.zero_add] at this
      exact this)
    (fun vals w hb hv => by
      rw [← e, hF]
      exact hend vals w hb (calm_end_mk vals w VL 0 (fun j hj => by
        rw [Nat.zero_add]
        exact hv j (by rw [el, ← hlen]; exact hj))))
  rw [← e] at h
  exact h
end Go.Proofs.YtnfbomhhgjlacaaDoor
