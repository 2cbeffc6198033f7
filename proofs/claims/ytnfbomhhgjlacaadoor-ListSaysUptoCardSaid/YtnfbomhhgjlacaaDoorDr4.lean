/- Walks by computing: code. -/
import Derived.Test.YtnfbomhhgjlacaaDoorDr3
namespace Go.Proofs.YtnfbomhhgjlacaaDoor.Abs
open Go.RowKit Go.MapKept
set_option linter.unusedVariables false
set_option linter.unusedSimpArgs false
/-- The abstract triple, as a goal of its own kind. -/
structure W (X : RX) (C : Ctx) (E : Env) (c : Code) (Q : AQ) (st : St) : Prop where
  run : AW C E c Q st
/-- From one state to another that says no more. -/
def Drops (C : Ctx) (E : Env) (s s' : St) : Prop := ∀ β a w, Holds C E β s a w → ∃ β', Holds C E β' s' a w
theorem Drops.refl {C : Ctx} {E : Env} (s : St) : Drops C E s s := fun β a w H => ⟨β, H⟩
theorem Drops.trans {C : Ctx} {E : Env} {s s' s'' : St} (h : Drops C E s s') (h' : Drops C E s' s'') : Drops C E s s'' := fun β a w H => by
  obtain ⟨β', H'⟩ := h β a w H
  exact h' β' a w H'
theorem Drops.weak {C : Ctx} {E : Env} {s s' : St} (h : Weak s s') : Drops C E s s' := fun β a w H => by
  obtain ⟨h1, h2⟩ := h
  cases s' with
  | mk sl bs =>
    cases s with
    | mk sl0 bs0 =>
      simp only at h1 h2
      subst h2
      refine ⟨β, H.env, H.size, H.defers, H.kept, fun t x hx => H.slots t x (h1 _ hx), fun t x hx => H.lim t x (h1 _ hx), H.boxes, H.blim, H.inj, H.fresh, H.ex, H.pin⟩
/-- How a round of a loop ends. -/
structure LoopEnd (C : Ctx) (E : Env) {γ : Type} (I : γ → Prop) (μ : γ → Nat) (f : γ → St) (g : γ) (st : St) : Prop where
  ex : ∃ g', I g' ∧ μ g' < μ g ∧ Drops C E st (f g')
def thenW (X : RX) (C : Ctx) (E : Env) (b : Code) (Q : AQ) : AQ := fun e st => match e with
  | .normal => W X C E b Q st
  | .exit j => Q (.exit j) st
  | .ret => Q .ret st
  | e => Q e st
def blockW (id : Nat) (Q : AQ) : AQ := fun e st => match e with
  | .normal => Q .normal st
  | .exit j => (match Nat.beq j id with
    | true => Q .normal st
    | false => Q (.exit j) st)
  | .ret => Q .ret st
  | e => Q e st
def loopW (C : Ctx) (E : Env) {γ : Type} (I : γ → Prop) (μ : γ → Nat) (f : γ → St) (g : γ) (Q : AQ) : AQ := fun e st => match e with
  | .normal => LoopEnd C E I μ f g st
  | .exit j => Q (.exit j) st
  | .ret => Q .ret st
  | e => Q e st
def resR (X : RX) (st : St) : List ResultVar → (List AV → Prop) → Prop
  | [], K => K []
  | .tmp t :: rs, K => headA (lkS t st.slots) fun x => resR X st rs fun l => K (x :: l)
  | .cell t T :: rs, K => match lkS t st.slots with
    | .ptr i off => optR (look1 T X.T.lod) fun q => match nthA st.boxes i with
      | some (.cells _ cs) => (match q.2 with
        | true => (match q.1 with
          | 0 => False
          | n + 1 => optR (takeO (n + 1) (dropF off cs)) fun m => resR X st rs fun l => K (.agg m :: l))
        | false => optR (nthA cs off) fun x => resR X st rs fun l => K (x :: l))
      | _ => False
    | _ => False
def retW (X : RX) (rs : List ResultVar) (x : AV) : AQ := fun e st => match e with
  | .normal => resR X st rs fun l => tupOf l = x
  | .ret => resR X st rs fun l => tupOf l = x
  | _ => False
def retB (X : RX) (rs : List ResultVar) (x : AV) (bout : List BoxC) : AQ := fun e st => match e with
  | .normal => (resR X st rs fun l => tupOf l = x) ∧ ∃ more, st.boxes = bout ++ more
  | .ret => (resR X st rs fun l => tupOf l = x) ∧ ∃ more, st.boxes = bout ++ more
  | _ => False
theorem resR_all {X : RX} {P : Program} (hT : TabOk P X.T) {st : St} : ∀ {rs : List ResultVar} {K : List AV → Prop}, resR X st rs K → ∃ l, resAll st P rs = some l ∧ K l
  | [], K, h => ⟨[], rfl, h⟩
  | .tmp t :: rs, K, h => by
    rw [resR, headA_iff] at h
    obtain ⟨l, h1, h2⟩ := resR_all hT h
    refine ⟨_, ?_, h2⟩
    unfold resAll
    rw [h1]
    show (match some (st.look (.tmp t)), some l with | some x, some l => some (x :: l) | _, _ => none) = _
    rw [← lk_eq]
    rfl
  | .cell t T :: rs, K, h => by
    rw [resR] at h
    split at h
    · rename_i i off hx
      have hx : st.look (.tmp t) = .ptr i off := by rw [← lk_eq]; exact hx
      obtain ⟨⟨n, r⟩, h1, h2⟩ := optR_dest h
      have hl := hT.lod_at h1
      split at h2
      · rename_i tb cs hb
        rw [nthA_eq] at hb
        cases r with
        | true =>
          cases n with
          | zero => exact h2.elim
          | succ n =>
            obtain ⟨m, h3, h4⟩ := optR_dest h2
            obtain ⟨h5, h6⟩ := takeO_some h3
            rw [dropF_eq] at h5
            obtain ⟨l, h7, h8⟩ := resR_all hT h4
            refine ⟨_, ?_, h8⟩
            have hr : resOf st P (.cell t T) = some (.agg m) := by
              simp only [resOf, hx, hl, hb]
              rw [if_pos ⟨by omega, by show ((cs.drop off).take (n + 1)).length = n + 1; rw [h5]; exact h6⟩]
              show some (AV.agg ((cs.drop off).take (n + 1))) = _
              rw [h5]
            simp only [resAll, hr, h7]
        | false =>
          obtain ⟨x, h3, h4⟩ := optR_dest h2
          rw [nthA_eq] at h3
          obtain ⟨l, h7, h8⟩ := resR_all hT h4
          refine ⟨_, ?_, h8⟩
          have hr : resOf st P (.cell t T) = some x := by
            simp only [resOf, hx, hl, hb]
            exact h3
          simp only [resAll, hr, h7]
      · exact h2.elim
    · exact h.elim
def keepS (l : List (Nat × AV)) : List Nat → Option (List (Nat × AV))
  | [] => some []
  | k :: ks => match keepS l ks with
    | some m => some ((k, lkS k l) :: m)
    | none => none
section
variable {X : RX} {C : Ctx} {E : Env} {Q : AQ} {st : St}
theorem AW_up {c : Code} {Q' : AQ} (h : ∀ e s, Q' e s → ∃ s', Drops C E s s' ∧ Q e s') (h2 : AW C E c Q' st) : AW C E c Q st :=
  fun β a w H => wp_mono (h2 β a w H) fun e a w ⟨s, β, hq, hs⟩ => by
    obtain ⟨s', hd, hq'⟩ := h e s hq
    obtain ⟨β', H'⟩ := hd β a w hs
    exact ⟨s', β', hq', H'⟩
theorem W_seq {a b : Code} (h : W X C E a (thenW X C E b Q) st) : W X C E (.seq a b) Q st :=
  ⟨AW_seq (AW_mono (fun e s hs => by cases e <;> first | exact hs.run | exact hs) h.run)⟩
theorem W_block {id : Nat} {b : Code} (h : W X C E b (blockW id Q) st) : W X C E (.block id b) Q st :=
  ⟨AW_block (AW_mono (fun e s hs => by
    cases e with
    | exit j =>
      simp only [blockW] at hs
      simp only [blockA]
      split at hs
      · rename_i hb
        rw [if_pos (Nat.eq_of_beq_eq_true hb)]
        exact hs
      · rename_i hb
        rw [if_neg (fun e => by subst e; simp at hb)]
        exact hs
    | _ => exact hs) h.run)⟩
theorem W_region (hX : RXok X C E) {id : Nat} {ops : Array Oper} (h : runR X C ops.toList ops.toList st fun st => Q .normal st) : W X C E (.region id ops false) Q st :=
  ⟨AW_region (runR_sound hX _ _ _ (fun _ h => h) h)⟩
theorem W_skip (h : Q .normal st) : W X C E .skip Q st := ⟨AW_skip h⟩
theorem W_exit {id : Nat} (h : Q (.exit id) st) : W X C E (.exit id) Q st := ⟨AW_exit h⟩
theorem W_ret (h : Q .ret st) : W X C E .ret Q st := ⟨AW_ret h⟩
def cndR (X : RX) (C : Ctx) (E : Env) (x : AV) (a b : Code) (Q : AQ) (st : St) : Prop := match x with
  | .v (.bool t) => condB t (W X C E a Q st) (W X C E b Q st)
  | _ => False
theorem W_cond {c : Operand} {a b : Code} (h : cndR X C E (lk st c) a b Q st) : W X C E (.cond c a b) Q st := by
  unfold cndR at h
  split at h
  · rename_i t hc
    exact ⟨AW_cond (lk_look hc) (fun e => by subst e; exact AW_mono (fun _ _ h => h) (W.run h)) (fun e => by subst e; exact AW_mono (fun _ _ h => h) (W.run h))⟩
  · exact h.elim
theorem W_drop {c : Code} {st' : St} (hd : Drops C E st st') (h : W X C E c Q st') : W X C E c Q st :=
  ⟨fun β a w H => by
    obtain ⟨β', H'⟩ := hd β a w H
    exact h.run β' a w H'⟩
theorem lkS_mem {k : Nat} : ∀ {l : List (Nat × AV)}, lkS k l = .junk ∨ (k, lkS k l) ∈ l
  | [] => .inl rfl
  | p :: l => by
    rw [lkS]
    split
    · rename_i hb
      have := Nat.eq_of_beq_eq_true hb
      subst this
      exact .inr (List.mem_cons_self ..)
    · rcases lkS_mem (l := l) (k := k) with h | h
      · exact .inl h
      · exact .inr (List.mem_cons_of_mem _ h)
theorem Drops.keep {ks : List Nat} : Drops C E st ⟨ks.map fun k => (k, lkS k st.slots), st.boxes⟩ := fun β a w H => by
  refine ⟨β, H.env, H.size, H.defers, H.kept, fun t x hx => ?_, fun t x hx => ?_, H.boxes, H.blim, H.inj, H.fresh, H.ex, H.pin⟩
  · obtain ⟨k, _, e⟩ := List.mem_map.1 hx
    injection e with e1 e2
    subst e1; subst e2
    rcases lkS_mem (l := st.slots) (k := k) with h | h
    · rw [h]; simp [AV.rep]
    · exact H.slots _ _ h
  · obtain ⟨k, _, e⟩ := List.mem_map.1 hx
    injection e with e1 e2
    subst e1; subst e2
    rcases lkS_mem (l := st.slots) (k := k) with h | h
    · intro i _; rw [h]; simp [AV.avoids]
    · exact H.lim _ _ h
theorem Drops.cut (n : Nat) (hn : E.npin ≤ n) (hl : n ≤ st.boxes.length) (hs : (st.slots.all fun p => (List.range' n (st.boxes.length - n)).all fun i => p.2.avoids i) = true) (hb : ∀ bc ∈ st.boxes.take n, ∀ j, n ≤ j → bc.avoids j = true) : Drops C E st ⟨st.slots, st.boxes.take n⟩ := fun β a w H =>
  ⟨β, H.cut n hn hl (fun p hp i h1 h2 => by
    have := List.all_eq_true.1 (List.all_eq_true.1 hs p hp) i (by rw [List.mem_range']; exact ⟨i - n, by omega, by omega⟩)
    exact this) (fun bc h j h1 _ => hb bc h j h1)⟩
/-- A loop: I is kept, μ falls; f tells the state at its head. -/
theorem W_loop {c : Code} {γ : Type} (I : γ → Prop) (μ : γ → Nat) (f : γ → St) (g0 : γ) (hI : I g0) (h0 : Drops C E st (f g0)) (round : ∀ g, I g → W X C E c (loopW C E I μ f g Q) (f g)) : W X C E (.loop c) Q st :=
  ⟨AW_loop (γ := {g : γ // I g}) (fun g => μ g.1) (fun g s => Drops C E s (f g.1)) ⟨g0, hI⟩ h0 fun g s hs β a w H => by
    obtain ⟨β', H'⟩ := hs β a w H
    refine AW_mono (fun e s hq => ?_) (round g.1 g.2).run β' a w H'
    cases e <;> first | (obtain ⟨g', h1, h2, h3⟩ := hq.ex; exact ⟨⟨g', h1⟩, h2, h3⟩) | exact hq⟩
/-- The state at a loop's head, or at its end: the slots ks, and the first n boxes. -/
theorem Drops.to {st' : St} (ks : List Nat) (he : (⟨ks.map fun k => (k, lkS k st.slots), st.boxes⟩ : St) = st') : Drops C E st st' := he ▸ Drops.keep
def limB (n : Nat) : List BoxC → Prop
  | [] => True
  | b :: l => (match b with
    | .row _ _ els => ClosedE els
    | .map _ kvs => ClosedK kvs
    | .cells _ cs => Nat.ble (AV.maxL cs) n = true
    | .none => True) ∧ limB n l
theorem limB_mem {n : Nat} : ∀ {bs : List BoxC}, limB n bs → ∀ bc ∈ bs, ∀ j, n ≤ j → bc.avoids j = true
  | b :: l, h, bc, hm, j, hj => by
    rcases List.mem_cons.1 hm with rfl | hm
    · have h := h.1
      cases bc with
      | row t sz els => exact h j
      | map d kvs => exact h j
      | cells t cs => exact maxL_avoids cs (Nat.le_trans (Nat.le_of_ble_eq_true h) hj)
      | none => rfl
    · exact limB_mem h.2 bc hm j hj
/-- Slots ks and the first n boxes are kept. -/
theorem Drops.fin {st' : St} (ks : List Nat) (n : Nat) (hn : E.npin ≤ n) (he : (⟨ks.map fun k => (k, lkS k st.slots), st.boxes.take n⟩ : St) = st') (hl : leB n st.boxes = true) (hs : allB (fun p => Nat.ble p.2.maxB n) st'.slots = true) (hb : limB n st'.boxes) : Drops C E st st' := by
  subst he
  refine Drops.trans (Drops.keep (ks := ks)) ?_
  refine Drops.cut n hn (leB_le hl) ?_ (limB_mem hb)
  refine List.all_eq_true.2 fun p hp => List.all_eq_true.2 fun i hi => ?_
  rw [List.mem_range'] at hi
  obtain ⟨q, _, rfl⟩ := hi
  exact maxB_avoids p.2 (Nat.le_trans (Nat.le_of_ble_eq_true (allB_mem hs p hp)) (by omega))
theorem LoopEnd_fin {γ : Type} {I : γ → Prop} {μ : γ → Nat} {f : γ → St} {g : γ} (g' : γ) (ks : List Nat) (n : Nat) (hX : RXok X C E) (hI : I g') (hμ : μ g' < μ g) (hn : Nat.ble X.np n = true) (he : (⟨ks.map fun k => (k, lkS k st.slots), st.boxes.take n⟩ : St) = f g') (hl : leB n st.boxes = true) (hs : allB (fun p => Nat.ble p.2.maxB n) (f g').slots = true) (hb : limB n (f g').boxes) : LoopEnd C E I μ f g st := ⟨g', hI, hμ, Drops.fin ks n (by rw [hX.np]; exact Nat.le_of_ble_eq_true hn) he hl hs hb⟩
theorem W_toAW {c : Code} {st' : St} (h : ∀ Q', (Q' = Q) → AW C E c Q' st) : W X C E c Q st := ⟨h Q rfl⟩
end
theorem AC_walk (X : RX) {C : Ctx} {f : FuncId} {fn : Func} {c : Code} {args : List AV} {x : AV} (hT : TabOk C.P X.T) (hf : C.P.funcs[f]? = some fn) (hb : fn.body = some c) (hn : Nat.ble args.length fn.ntmps = true) (hnt : fn.ntmps = X.nt) (hnp : X.np = 0) (hfr : X.free = []) (hcl : ∀ i, AV.avoidsL i args = true) (hx : ∀ i, x.avoids i = true)
    (h : ∀ E : Env, (∀ b, ¬ E.arg b) → RXok X C E → W X C E c (retW X fn.results.toList x) ⟨argSlots 0 args, []⟩) : AC C f args x :=
  AC_body hf hb (Nat.le_of_ble_eq_true hn) hcl hx fun E h1 h2 => AW_mono (fun e s hs => by
    cases e with
    | normal => obtain ⟨l, h3, h4⟩ := resR_all hT hs; exact ⟨.inr rfl, l, h3, h4⟩
    | ret => obtain ⟨l, h3, h4⟩ := resR_all hT hs; exact ⟨.inl rfl, l, h3, h4⟩
    | _ => exact hs.elim) (h E h2.1 ⟨hT, by rw [h1, hnt], by rw [h2.2, hnp], fun i hi => by rw [hfr] at hi; cases hi⟩).run
theorem ACB_walk (X : RX) {C : Ctx} {f : FuncId} {fn : Func} {c : Code} {args : List AV} {bin bout : List BoxC} {x : AV} (hT : TabOk C.P X.T) (hf : C.P.funcs[f]? = some fn) (hb : fn.body = some c) (hn : Nat.ble args.length fn.ntmps = true) (hnt : fn.ntmps = X.nt) (hnp : X.np = bin.length) (hfr : ∀ i ∈ X.free, ∃ bc, bin[i]? = some bc ∧ bc.fixed = false) (hcl : Nat.ble (AV.maxL args) bin.length = true)
    (h : ∀ E : Env, RXok X C E → W X C E c (retB X fn.results.toList x bout) ⟨argSlots 0 args, bin⟩) : ACB C f args bin x bout :=
  ACB_body hf hb (Nat.le_of_ble_eq_true hn) hcl fun E h1 h2 => AW_mono (fun e s hs => by
    cases e with
    | normal => obtain ⟨l, h3, h4⟩ := resR_all hT hs.1; exact ⟨.inr rfl, ⟨l, h3, h4⟩, hs.2⟩
    | ret => obtain ⟨l, h3, h4⟩ := resR_all hT hs.1; exact ⟨.inl rfl, ⟨l, h3, h4⟩, hs.2⟩
    | _ => exact hs.elim) (h E ⟨hT, by rw [h1, hnt], by rw [h2.1, hnp], fun i hi => by
      obtain ⟨bc, h3, h4⟩ := hfr i hi
      exact h2.2 i bc h3 h4⟩).run
end Go.Proofs.YtnfbomhhgjlacaaDoor.Abs
