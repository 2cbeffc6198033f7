/- Walks by computing: regions that draw their order, lay variables, and write them. -/
import Derived.Test.YtnfbomhhgjlacaaDoorDr7
namespace Go.Proofs.YtnfbomhhgjlacaaDoor.Abs
open Go.RowKit Go.MapKept
set_option linter.unusedVariables false
set_option linter.unusedSimpArgs false
/-- A variable that operation ia lays; if sx is told, that operation writes it. -/
structure NB where
  ia : Nat
  sx : Option Nat
  b0 : BoxC
  b1 : BoxC
def NB.wr (p : NB) (S : Nat → Bool) : Bool := match p.sx with
  | some s => S s
  | none => false
def NB.bx (p : NB) (S : Nat → Bool) : BoxC := match p.wr S with
  | true => p.b1
  | false => match S p.ia with
    | true => p.b0
    | false => .none
def abx (st : St) (nb : List NB) (S : Nat → Bool) : St := ⟨st.slots, st.boxes ++ nb.map (fun p => p.bx S)⟩
def nbAt (len : Nat) : List NB → Nat → Option (Nat × BoxC)
  | [], _ => none
  | p :: l, i => match Nat.beq p.ia i with
    | true => some (len, p.b0)
    | false => nbAt (len + 1) l i
theorem nbAt_some : ∀ {nb : List NB} {len i k : Nat} {bc : BoxC}, nbAt len nb i = some (k, bc) → ∃ q p, k = len + q ∧ nb[q]? = some p ∧ p.ia = i ∧ p.b0 = bc
  | p :: l, len, i, k, bc, h => by
    unfold nbAt at h
    split at h
    · rename_i hb
      injection h with h
      injection h with h1 h2
      exact ⟨0, p, h1.symm, rfl, Nat.eq_of_beq_eq_true hb, h2⟩
    · obtain ⟨q, p', h1, h2, h3⟩ := nbAt_some h
      exact ⟨q + 1, p', by omega, by simpa using h2, h3⟩
theorem nbAt_none : ∀ {nb : List NB} {len i : Nat}, nbAt len nb i = none → ∀ p ∈ nb, p.ia ≠ i
  | [], _, _, _, p, hp => by cases hp
  | p :: l, len, i, h, p', hp => by
    unfold nbAt at h
    split at h
    · cases h
    · rename_i hb
      rcases List.mem_cons.1 hp with rfl | hp
      · intro e
        rw [e] at hb
        simp at hb
      · exact nbAt_none h p' hp
theorem bx_same {p : NB} {S : Nat → Bool} {i : Nat} (h1 : p.ia ≠ i) (h2 : p.sx ≠ some i) : p.bx (fun j => S j || j == i) = p.bx S := by
  have e1 : p.wr (fun j => S j || j == i) = p.wr S := by
    unfold NB.wr
    cases hs : p.sx with
    | none => rfl
    | some s =>
      have : s ≠ i := fun e => h2 (by rw [hs, e])
      simp [this]
  unfold NB.bx
  rw [e1]
  show (match p.wr S with
    | true => p.b1
    | false => match S p.ia || p.ia == i with
      | true => p.b0
      | false => BoxC.none) = _
  rw [beq_eq_false_iff_ne.2 h1, Bool.or_false]
section
variable {C : Ctx} {E : Env} {st : St} {β : BMap} {a : Act} {w w' : World} {Q : AQ} {ops : Array Oper}
theorem abx_len {nb : List NB} {S : Nat → Bool} : (abx st nb S).boxes.length = st.boxes.length + nb.length := by simp [abx]
theorem abx_box {nb : List NB} {S : Nat → Bool} {k : Nat} {b : BoxC} : (abx st nb S).boxes[k]? = some b ↔ st.boxes[k]? = some b ∨ ∃ q p, k = st.boxes.length + q ∧ nb[q]? = some p ∧ b = p.bx S := by
  unfold abx
  rw [List.getElem?_append]
  constructor
  · intro h
    split at h
    · exact .inl h
    · rw [List.getElem?_map] at h
      obtain ⟨p, h1, h2⟩ := Option.map_eq_some_iff.1 h
      exact .inr ⟨k - st.boxes.length, p, by omega, h1, h2.symm⟩
  · rintro (h | ⟨q, p, rfl, h1, rfl⟩)
    · rw [if_pos (List.getElem?_eq_some_iff.1 h).1]; exact h
    · rw [if_neg (by omega), List.getElem?_map, show st.boxes.length + q - st.boxes.length = q by omega, h1]
      rfl
/-- What operation i sees. -/
def vw (st : St) (ops : Array Oper) (n : Nat) (rs : List AV) (nb : List NB) (i : Nat) : St := (abx st nb (calmWaits ops i)).calm ops n rs [] (calmWaits ops i)
structure StoreA (C : Ctx) (ops : Array Oper) (n : Nat) (rs : List AV) (st : St) (nb : List NB) (q s : Nat) (p : NB) : Prop where
  ex : ∃ o t x y off tb cs k r, ops[s]? = some o ∧ Wanted ops o (vw st ops n rs nb s) ∧ o.op = .store t x y ∧ o.dst = none ∧ (vw st ops n rs nb s).look x = .ptr (st.boxes.length + q) off ∧ p.b0 = .cells tb cs ∧ loadInfo C.P t = some (k, r) ∧ ((vw st ops n rs nb s).look y).whole = true ∧ ((vw st ops n rs nb s).look y).cellsA.length = k ∧ off + k ≤ cs.length ∧ p.b1 = .cells tb (cs.take off ++ ((vw st ops n rs nb s).look y).cellsA ++ cs.drop (off + k))
theorem AW_drawA {id n : Nat} (rs : List AV) (nb : List NB) (hm : C.P.follows .mixedOrders = true) (hB : calmB n ops = true) (hd : ∀ i, i < n → match dstOf ops i with | some d => d < E.nt | none => ∃ p ∈ nb, p.sx = some i)
    (hdist : (dstsN ops n).Nodup) (hnd : (nb.map (·.ia)).Nodup) (hsd : ∀ (q q' : Nat) (p p' : NB) (s : Nat), nb[q]? = some p → nb[q']? = some p' → p.sx = some s → p'.sx = some s → q = q')
    (hin : ∀ p ∈ nb, p.ia < n ∧ (dstOf ops p.ia).isSome = true ∧ ∀ s, p.sx = some s → s < n ∧ calmWaits ops s p.ia = true ∧ dstOf ops s = none)
    (hsee : ∀ i, i < n → ∀ p ∈ nb, calmWaits ops i p.ia = true → ∀ s, p.sx = some s → calmWaits ops i s = true ∨ i = s)
    (hav : ∀ (q : Nat) (p : NB), nb[q]? = some p → ∀ j, j < n → calmWaits ops j p.ia = true ∨ j = p.ia ∨ (rs.getD j .junk).avoids (st.boxes.length + q) = true)
    (hbv : ∀ p ∈ nb, ∀ k, st.boxes.length ≤ k → p.b0.avoids k = true ∧ p.b1.avoids k = true) (hlv : ∀ p ∈ nb, p.b0.live = true ∧ p.b1.live = true)
    (hrl : ∀ i, i < n → ∀ k, st.boxes.length + nb.length ≤ k → (rs.getD i .junk).avoids k = true)
    (hstep : ∀ i, i < n → (∀ p ∈ nb, p.sx ≠ some i) → ∃ o, ops[i]? = some o ∧ GoodOp C E ops o (vw st ops n rs nb i) (rs.getD i .junk) (nbAt st.boxes.length nb i))
    (hsto : ∀ (q : Nat) (p : NB) (s : Nat), nb[q]? = some p → p.sx = some s → StoreA C ops n rs st nb q s p)
    (h : AL C E ops (ops.toList.drop n) Q ((abx st nb (fun _ => true)).calm ops n rs [] (fun _ => true))) : AW C E (.region id ops true) Q st := by
  intro β0 a0 w0 H0
  have hBk := calm_ok hB
  have hle := hBk.le
  refine wp_region_any hm ?_
  let F : (Nat → Bool) → St := fun S => (abx st nb S).calm ops n rs [] S
  let J : (Nat → Bool) → Act → World → Prop := fun S a w => ∃ β, Holds C E β (F S) a w
  have hFb : ∀ S, (F S).boxes = (abx st nb S).boxes := fun S => calm0_box
  have hcg : ∀ S S' : Nat → Bool, (∀ j, j < n → S j = S' j) → F S = F S' := by
    intro S S' hS
    have e1 : ((List.range n).filterMap fun i => if S i then (dstOf ops i).map fun d => (d, rs.getD i .junk) else none) = ((List.range n).filterMap fun i => if S' i then (dstOf ops i).map fun d => (d, rs.getD i .junk) else none) := filterMap_congr' fun i hi => by rw [hS i (List.mem_range.1 hi)]
    have e2 : nb.map (fun p => p.bx S) = nb.map (fun p => p.bx S') := List.map_congr_left fun p hp => by
      obtain ⟨h1, _, h2⟩ := hin p hp
      have e3 : p.wr S = p.wr S' := by
        unfold NB.wr
        cases hs : p.sx with
        | none => rfl
        | some s => exact hS s (h2 s hs).1
      unfold NB.bx
      rw [e3, hS _ h1]
    show (abx st nb S).calm ops n rs [] S = (abx st nb S').calm ops n rs [] S'
    unfold St.calm abx
    rw [e1, e2]
    rfl
  have key := calm_anyJ (P := C.P) hBk (Q := lift C E Q) J (fun S S' a w hS hJ => by
    obtain ⟨β, hJ⟩ := hJ
    exact ⟨β, hcg S S' hS ▸ hJ⟩) ?_ ?_ n (Array.replicate ops.size false) a0 { w0 with drawn := w0.drawn + 1 } (by simp) (fun j hj hj' => by simp [Array.getD_eq_getD_getElem?, hj']) ?_ (fun j k hj hk h3 _ => ?_) ?_
  · rw [show n + (ops.size - n) = ops.size by omega] at key
    exact key
  · intro S i hi hS hdeps hcl K a w ⟨β, H⟩ hK
    have hlenS : ∀ {S' : Nat → Bool}, (F S').boxes.length = st.boxes.length + nb.length := fun {S'} => by rw [hFb, abx_len]
    have hvb : (vw st ops n rs nb i).boxes = (abx st nb (calmWaits ops i)).boxes := calm0_box
    have hseeb : ∀ p ∈ nb, p.bx (calmWaits ops i) = .none ∨ p.bx (calmWaits ops i) = p.bx S := by
      intro p hp
      obtain ⟨h1, _, h2⟩ := hin p hp
      unfold NB.bx
      cases h3 : p.wr (calmWaits ops i) with
      | true =>
        right
        have : p.wr S = true := by
          unfold NB.wr at h3 ⊢
          cases hs : p.sx with
          | none => rw [hs] at h3; cases h3
          | some s => rw [hs] at h3; exact hdeps s (h2 s hs).1 h3
        rw [this]
      | false =>
        cases h4 : calmWaits ops i p.ia with
        | false => exact .inl rfl
        | true =>
          right
          have hSa := hdeps _ h1 h4
          have hwS : p.wr S = false := by
            unfold NB.wr at h3 ⊢
            cases hs : p.sx with
            | none => rfl
            | some s =>
              rw [hs] at h3
              have h3 : calmWaits ops i s = false := h3
              rcases hsee i hi p hp h4 s hs with h5 | h5
              · rw [h5] at h3; cases h3
              · subst h5; exact hS
          rw [hwS, hSa]
    obtain ⟨Hs, hok⟩ := H.weak (st' := vw st ops n rs nb i) (fun p hp => by
      rcases calm_mem.1 hp with ⟨j, h1, h2, h3, h4⟩ | h1
      · exact calm_mem.2 (.inl ⟨j, h1, hdeps j h1 h2, h3, h4⟩)
      · exact calm_mem.2 (.inr h1)) (by rw [hvb, abx_len, hlenS]) (fun k b hk => by
      rw [hvb] at hk
      rw [hFb]
      rcases abx_box.1 hk with h1 | ⟨q, p, h1, h2, h3⟩
      · exact .inr (abx_box.2 (.inl h1))
      · rcases hseeb p (List.mem_of_getElem? h2) with h4 | h4
        · exact .inl (h3.trans h4)
        · exact .inr (abx_box.2 (.inr ⟨q, p, h1, h2, h3.trans h4⟩)))
    by_cases hst : ∃ (q : Nat) (p : NB), nb[q]? = some p ∧ p.sx = some i
    · obtain ⟨q, p, hq, hsx⟩ := hst
      have hp := List.mem_of_getElem? hq
      obtain ⟨hia, _, h2⟩ := hin p hp
      obtain ⟨_, hwi, hdi⟩ := h2 i hsx
      obtain ⟨o, t, x, y, off, tb, cs, k, r, ho, hw, hop, hod, hx, hb0, hld, hwh, hkl, hol, hb1⟩ := (hsto q p i hq hsx).ex
      have hbS : (F S).boxes[st.boxes.length + q]? = some (.cells tb cs) := by
        rw [hFb]
        refine abx_box.2 (.inr ⟨q, p, rfl, hq, ?_⟩)
        unfold NB.bx NB.wr
        rw [hsx]
        simp only [hS, hdeps _ hia hwi, hb0]
      unfold wpOp
      simp only [ho]
      rw [if_pos (wanted_of Hs hw)]
      refine .inl (store_core H Hs hok (by rw [hvb, abx_len, hlenS]) hop hod hx hbS hld hwh rfl hkl hol rfl fun w' H' => hK _ _ ?_)
      refine ⟨β, ?_⟩
      have hbox : (F (fun j => S j || j == i)).boxes = ((F S).setBox (st.boxes.length + q) (.cells tb (cs.take off ++ ((vw st ops n rs nb i).look y).cellsA ++ cs.drop (off + k)))).boxes := by
        rw [hFb]
        show _ = (F S).boxes.set _ _
        rw [hFb]
        unfold abx
        simp only
        rw [List.set_append_right _ _ (by omega), show st.boxes.length + q - st.boxes.length = q by omega]
        congr 1
        apply List.ext_getElem?
        intro m
        rw [List.getElem?_map, List.getElem?_set, List.getElem?_map]
        by_cases e : q = m
        · subst e
          rw [if_pos rfl, hq, List.length_map, if_pos (List.getElem?_eq_some_iff.1 hq).1]
          simp only [Option.map_some, Option.some.injEq]
          rw [← hb1]
          unfold NB.bx NB.wr
          rw [hsx]
          simp
        · rw [if_neg e]
          cases hbm : nb[m]? with
          | none => rfl
          | some p' =>
            simp only [Option.map_some, Option.some.injEq]
            obtain ⟨_, hsome, _⟩ := hin p' (List.mem_of_getElem? hbm)
            exact bx_same (fun e2 => by rw [e2, hdi] at hsome; cases hsome) (fun e2 => e (hsd q m p p' i hq hbm hsx e2))
      have e : F (fun j => S j || j == i) = { (F S).setBox (st.boxes.length + q) (.cells tb (cs.take off ++ ((vw st ops n rs nb i).look y).cellsA ++ cs.drop (off + k))) with slots := (F (fun j => S j || j == i)).slots } := by
        cases h1 : F (fun j => S j || j == i)
        rw [h1] at hbox
        simp only at hbox
        rw [hbox]
      rw [e]
      refine H'.sub fun z hz => ?_
      show z ∈ (F S).slots
      rcases calm_mem.1 hz with ⟨j, h1, h2, h3, h4⟩ | h1
      · by_cases e : j = i
        · subst e; rw [hdi] at h3; cases h3
        · exact calm_mem.2 (.inl ⟨j, h1, by simpa [e] using h2, h3, h4⟩)
      · exact calm_mem.2 (.inr h1)
    · have hns : ∀ p ∈ nb, p.sx ≠ some i := fun p hp e => by
        obtain ⟨q, hq⟩ := List.getElem?_of_mem hp
        exact hst ⟨q, p, hq, e⟩
      obtain ⟨o, ho, hop⟩ := hstep i hi hns
      have hdo : dstOf ops i = o.dst := by unfold dstOf; rw [ho]; rfl
      have hdi := hd i hi
      rw [hdo] at hdi
      obtain ⟨d, hdd⟩ : ∃ d, o.dst = some d := by
        cases hdd : o.dst with
        | none =>
          rw [hdd] at hdi
          obtain ⟨p, hp, e⟩ := hdi
          exact absurd e (hns p hp)
        | some d => exact ⟨d, rfl⟩
      rw [hdd] at hdi
      have hdlt : d < E.nt := hdi
      unfold wpOp
      simp only [ho]
      have hput : ∀ {st1 : St}, st1.slots = (F S).slots → ∀ p ∈ (F (fun j => S j || j == i)).slots, p ∈ (st1.put d (rs.getD i .junk)).slots := by
        intro st1 hst1 p hp
        show p ∈ (d, rs.getD i .junk) :: st1.slots.filter (fun p => p.1 != d)
        rw [hst1]
        rcases calm_mem.1 hp with ⟨j, h1, h2, h3, h4⟩ | ⟨h1, h2⟩
        · by_cases e : j = i
          · subst e
            rw [hdo, hdd] at h3
            injection h3 with h3
            rw [h3, h4]
            exact List.mem_cons_self ..
          · refine List.mem_cons_of_mem _ (List.mem_filter.2 ⟨calm_mem.2 (.inl ⟨j, h1, ?_, h3, h4⟩), ?_⟩)
            · simpa [e] using h2
            · have hne : p.1 ≠ d := fun he => by
                have hnd := hdist
                unfold dstsN at hnd
                have := List.pairwise_filterMap.1 hnd
                rw [List.pairwise_iff_getElem] at this
                rcases Nat.lt_or_gt_of_ne e with hlt | hgt
                · have := this j i (by simpa using h1) (by simpa using hi) hlt p.1 (by simpa using h3) d (by simpa using hdo.trans hdd)
                  exact this he
                · have := this i j (by simpa using hi) (by simpa using h1) hgt d (by simpa using hdo.trans hdd) p.1 (by simpa using h3)
                  exact this he.symm
              simpa using hne
        · refine List.mem_cons_of_mem _ (List.mem_filter.2 ⟨calm_mem.2 (.inr ⟨h1, h2⟩), ?_⟩)
          have := h2 i hi
          rw [hdo, hdd] at this
          have : p.1 ≠ d := fun e => this (by rw [e])
          simpa using this
      have hrlim : ∀ k, (F S).boxes.length ≤ k → (rs.getD i .junk).avoids k = true := fun k hk => hrl i hi k (by rw [hlenS] at hk; exact hk)
      have fin0 : ∀ {v : Value} {w' : World}, nbAt st.boxes.length nb i = none → Holds C E β (F S) a w' → (rs.getD i .junk).rep β (okB E β (F S)) w' v → J (fun j => S j || j == i) (a.put o.dst v) w' := by
        intro v w' hn H' hr
        rw [hdd]
        have := (H'.put (d := d) hdlt hr hrlim).sub (hput rfl)
        refine ⟨β, ?_⟩
        have hbox : (F (fun j => S j || j == i)).boxes = (F S).boxes := by
          rw [hFb, hFb]
          unfold abx
          simp only
          congr 1
          exact List.map_congr_left fun p hp => bx_same (nbAt_none hn p hp) (hns p hp)
        have e : F (fun j => S j || j == i) = { (F S).put d (rs.getD i .junk) with slots := (F (fun j => S j || j == i)).slots } := by
          cases h1 : F (fun j => S j || j == i)
          rw [h1] at hbox
          simp only at hbox
          rw [hbox]
          rfl
        rw [e]
        exact this
      rcases hop with ⟨hw, hy⟩ | ⟨hw, hj, hn⟩
      · rw [if_pos (wanted_of Hs hw)]
        have hii : ∀ j, j < n → S j = true → calmWaits ops j i = false := fun j hj hSj => by
          cases hx : calmWaits ops j i with
          | false => rfl
          | true => have := hcl j i hj hi hSj hx; rw [hS] at this; cases this
        have hself : calmWaits ops i i = false := by
          cases hx : calmWaits ops i i with
          | false => rfl
          | true => have := hdeps i hi hx; rw [hS] at this; cases this
        have hbxav : ∀ p ∈ nb, ∀ S' : Nat → Bool, ∀ k, st.boxes.length ≤ k → (p.bx S').avoids k = true := fun p hp S' k hk => by
          unfold NB.bx
          split
          · exact (hbv p hp k hk).2
          · split
            · exact (hbv p hp k hk).1
            · rfl
        refine .inl (hy _ β a w Hs (fun k bc hbx => ?_) K _ fun v w' hbl hr => hK _ _ ?_)
        · obtain ⟨q, p, rfl, hq, hpi, rfl⟩ := nbAt_some hbx
          have hql := (List.getElem?_eq_some_iff.1 hq).1
          refine ⟨?_, fun t x hx => ?_, fun k b hk => ?_⟩
          · rw [hvb]
            refine abx_box.2 (.inr ⟨q, p, rfl, hq, ?_⟩)
            have hw2 : p.wr (calmWaits ops i) = false := by
              unfold NB.wr
              cases hs : p.sx with
              | none => rfl
              | some s =>
                obtain ⟨_, _, h2⟩ := hin p (List.mem_of_getElem? hq)
                obtain ⟨hsn, hsw, _⟩ := h2 s hs
                cases hx : calmWaits ops i s with
                | false => exact hx
                | true =>
                  have h3 := hdeps s hsn hx
                  rw [hpi] at hsw
                  have := hii s hsn h3
                  rw [hsw] at this; cases this
            unfold NB.bx
            rw [hw2, hpi, hself]
          · rcases calm_mem.1 hx with ⟨j, h1, h2, h3, h4⟩ | ⟨h1, _⟩
            · have h4 : rs.getD j .junk = x := h4
              have := hav q p hq j h1
              rw [hpi, h4] at this
              rcases this with h5 | h5 | h5
              · have h6 := hii j h1 (hdeps j h1 h2)
                rw [h5] at h6; cases h6
              · subst h5; rw [hself] at h2; cases h2
              · exact h5
            · exact H0.lim t x h1 _ (by omega)
          · rw [hvb] at hk
            rcases abx_box.1 hk with h1 | ⟨q2, p2, h1, h2, h3⟩
            · exact H0.blim k b h1 _ (by omega)
            · rw [h3]
              exact hbxav p2 (List.mem_of_getElem? h2) _ _ (by omega)
        · cases hbx : nbAt st.boxes.length nb i with
          | none =>
            rw [hbx] at hr
            obtain ⟨hr1, _⟩ := hr
            rw [hok] at hr1
            exact fin0 hbx (H.below hbl) hr1
          | some kb =>
            obtain ⟨k, bc⟩ := kb
            rw [hbx] at hr
            obtain ⟨g, hg, hx, hbc, hl1, hl2⟩ := hr
            rw [hok] at hx hbc
            obtain ⟨q, p, rfl, hq, hpi, rfl⟩ := nbAt_some hbx
            have hql := (List.getElem?_eq_some_iff.1 hq).1
            have hp := List.mem_of_getElem? hq
            have hwS : p.wr S = false := by
              unfold NB.wr
              cases hs : p.sx with
              | none => rfl
              | some s =>
                obtain ⟨_, _, h2⟩ := hin p hp
                obtain ⟨hsn, hsw, _⟩ := h2 s hs
                cases hx : S s with
                | false => exact hx
                | true =>
                  rw [hpi] at hsw
                  have := hii s hsn hx
                  rw [hsw] at this; cases this
            have hni : (F S).boxes[st.boxes.length + q]? = some .none := by
              rw [hFb]
              refine abx_box.2 (.inr ⟨q, p, rfl, hq, ?_⟩)
              unfold NB.bx
              rw [hwS, hpi, hS]
            have H2 := H.setBox hbl hni (fun t x hx => by
              rcases calm_mem.1 hx with ⟨j, h1, h2, h3, h4⟩ | ⟨h1, _⟩
              · have h4 : rs.getD j .junk = x := h4
                have := hav q p hq j h1
                rw [hpi, h4] at this
                rcases this with h5 | h5 | h5
                · have h6 := hii j h1 h2
                  rw [h5] at h6; cases h6
                · subst h5; rw [hS] at h2; cases h2
                · exact h5
              · exact H0.lim t x h1 _ (by omega)) (fun k b hk => by
              rw [hFb] at hk
              rcases abx_box.1 hk with h1 | ⟨q2, p2, h1, h2, h3⟩
              · exact H0.blim k b h1 _ (by omega)
              · rw [h3]
                exact hbxav p2 (List.mem_of_getElem? h2) _ _ (by omega)) hg hbc (fun j hj => hl2 j (by rw [hvb, abx_len]; rw [hlenS] at hj; exact hj)) (by have := H0.pin.1; omega)
            have hbox : (F (fun j => S j || j == i)).boxes = ((F S).setBox (st.boxes.length + q) p.b0).boxes := by
              rw [hFb]
              show _ = (F S).boxes.set _ _
              rw [hFb]
              unfold abx
              simp only
              rw [List.set_append_right _ _ (by omega), show st.boxes.length + q - st.boxes.length = q by omega]
              congr 1
              apply List.ext_getElem?
              intro m
              rw [List.getElem?_map, List.getElem?_set, List.getElem?_map]
              by_cases e : q = m
              · subst e
                rw [if_pos rfl, hq, List.length_map, if_pos hql]
                simp only [Option.map_some, Option.some.injEq]
                have hw3 : p.wr (fun j => S j || j == i) = false := by
                  unfold NB.wr at hwS ⊢
                  cases hs : p.sx with
                  | none => rfl
                  | some s =>
                    rw [hs] at hwS
                    have : s ≠ i := fun e => hns p hp (by rw [hs, e])
                    simp [hwS, this]
                unfold NB.bx
                rw [hw3]
                simp [hpi]
              · rw [if_neg e]
                cases hbm : nb[m]? with
                | none => rfl
                | some p' =>
                  simp only [Option.map_some, Option.some.injEq]
                  refine bx_same (fun he => ?_) (hns p' (List.mem_of_getElem? hbm))
                  have hnd2 := hnd
                  rw [List.nodup_iff_pairwise_ne, List.pairwise_iff_getElem] at hnd2
                  have hml := (List.getElem?_eq_some_iff.1 hbm)
                  have hqq := (List.getElem?_eq_some_iff.1 hq)
                  rcases Nat.lt_or_gt_of_ne e with hlt | hgt
                  · exact hnd2 q m (by simpa using hqq.1) (by simpa using hml.1) hlt (by simp [hqq.2, hml.2, he, hpi])
                  · exact hnd2 m q (by simpa using hml.1) (by simpa using hqq.1) hgt (by simp [hqq.2, hml.2, he, hpi])
            have hokx : (rs.getD i .junk).rep (upd β (st.boxes.length + q) g) (okB E (upd β (st.boxes.length + q) g) ((F S).setBox (st.boxes.length + q) p.b0)) w' v := AV.rep_mono (β := upd β (st.boxes.length + q) g) (w := w') ⟨Nat.le_refl _, fun b h1 _ => okB_setBox (bc := p.b0) hni b h1, fun _ _ _ => rfl, fun _ _ _ _ h => h⟩ _ _ (fun _ _ => rfl) hx
            rw [hdd]
            refine ⟨upd β (st.boxes.length + q) g, ?_⟩
            have := (H2.put (d := d) hdlt hokx (fun k hk => hrlim k (by simpa [St.setBox] using hk))).sub (hput rfl)
            have e : F (fun j => S j || j == i) = { ((F S).setBox (st.boxes.length + q) p.b0).put d (rs.getD i .junk) with slots := (F (fun j => S j || j == i)).slots } := by
              cases h1 : F (fun j => S j || j == i)
              rw [h1] at hbox
              simp only at hbox
              rw [hbox]
              rfl
            rw [e]
            exact this
      · rw [if_neg (by rw [unwanted_of Hs hw]; decide)]
        exact hK _ _ (fin0 hn H (by rw [hj]; rfl))
  · intro a w ⟨β, H⟩
    have := h β a w H
    have e := wpOps_eq_wpList (P := C.P) (ops := ops) (Q := lift C E Q) (ops.toList.drop n) n (fun j => by rw [List.getElem?_drop, Array.getElem?_toList])
    rw [List.length_drop, Array.length_toList] at e
    rw [e]
    exact this
  · have : ((List.range n).filter fun j => !(Array.replicate ops.size false).getD j true) = List.range n := List.filter_eq_self.2 fun j hj => by
      rw [List.mem_range] at hj
      have : j < ops.size := by omega
      simp [Array.getD_eq_getD_getElem?, this]
    rw [this, List.length_range]
  · exfalso
    have : j < ops.size := by omega
    simp [Array.getD_eq_getD_getElem?, this] at h3
  · refine ⟨β0, ?_⟩
    have hw : Holds C E β0 st a0 { w0 with drawn := w0.drawn + 1 } := H0.below ⟨⟨rfl, rfl, rfl, Nat.le_refl _, fun _ _ => rfl⟩, fun _ => Nat.le_succ _⟩
    rw [hcg _ (fun _ => false) (fun j hj => by
      have : j < ops.size := by omega
      simp [Array.getD_eq_getD_getElem?, this])]
    have := (hw.exts nb.length).sub (sl := (F (fun _ => false)).slots) (fun p hp => by
      rcases calm_mem.1 hp with ⟨j, _, h2, _⟩ | ⟨h1, _⟩
      · cases h2
      · exact h1)
    have e : F (fun _ => false) = { ({ st with boxes := st.boxes ++ List.replicate nb.length .none } : St) with slots := (F (fun _ => false)).slots } := by
      have e3 : nb.map (fun p => p.bx (fun _ => false)) = List.replicate nb.length .none := by
        apply List.ext_getElem?
        intro q
        by_cases hq : q < nb.length
        · rw [List.getElem?_map, List.getElem?_eq_getElem hq, List.getElem?_replicate, if_pos hq]
          simp only [Option.map_some, Option.some.injEq]
          unfold NB.bx NB.wr
          cases nb[q].sx <;> rfl
        · simp [hq]
      have hb2 : (F (fun _ => false)).boxes = st.boxes ++ List.replicate nb.length .none := by
        rw [hFb]
        unfold abx
        rw [e3]
      cases h1 : F (fun _ => false)
      rw [h1] at hb2
      simp only at hb2
      rw [hb2]
    rw [e]
    exact this
end
def kd (p : Nat × Option Nat) (S : Nat → Bool) : Nat := match (match p.2 with
    | some s => S s
    | none => false) with
  | true => 2
  | false => match S p.1 with
    | true => 1
    | false => 0
def vbx : List (BoxC × BoxC) → List Nat → List BoxC
  | c :: cs, k :: ks => (match k with
    | 0 => .none
    | 1 => c.1
    | _ => c.2) :: vbx cs ks
  | _, _ => []
def mkNB : List (Nat × Option Nat) → List (BoxC × BoxC) → List NB
  | p :: l, c :: cs => ⟨p.1, p.2, c.1, c.2⟩ :: mkNB l cs
  | _, _ => []
theorem mkNB_bx (S : Nat → Bool) : ∀ (l : List (Nat × Option Nat)) (cs : List (BoxC × BoxC)), l.length = cs.length → (mkNB l cs).map (fun p => p.bx S) = vbx cs (l.map (kd · S))
  | [], [], _ => rfl
  | [], _ :: _, h => by cases h
  | _ :: _, [], h => by cases h
  | p :: l, c :: cs, h => by
    have key : NB.bx ⟨p.1, p.2, c.1, c.2⟩ S = (match kd p S with
      | 0 => .none
      | 1 => c.1
      | _ => c.2) := by
      unfold NB.bx NB.wr kd
      simp only
      cases p.2 with
      | none => cases S p.1 <;> rfl
      | some s =>
        simp only
        cases S s <;> cases S p.1 <;> rfl
    rw [mkNB, List.map_cons, List.map_cons, mkNB_bx S l cs (by simpa using h), key]
    rfl
theorem mkNB_at : ∀ (l : List (Nat × Option Nat)) (cs : List (BoxC × BoxC)) (q : Nat) (p : NB), (mkNB l cs)[q]? = some p → ∃ k c, l[q]? = some k ∧ cs[q]? = some c ∧ p = ⟨k.1, k.2, c.1, c.2⟩
  | [], cs, q, p, h => by simp [mkNB] at h
  | _ :: _, [], q, p, h => by simp [mkNB] at h
  | k :: l, c :: cs, 0, p, h => by
    rw [mkNB] at h
    exact ⟨k, c, rfl, rfl, by simpa using h.symm⟩
  | k :: l, c :: cs, q + 1, p, h => by
    rw [mkNB] at h
    obtain ⟨k', c', h1, h2, h3⟩ := mkNB_at l cs q p (by simpa using h)
    exact ⟨k', c', by simpa using h1, by simpa using h2, h3⟩
theorem mkNB_len : ∀ (l : List (Nat × Option Nat)) (cs : List (BoxC × BoxC)), l.length = cs.length → (mkNB l cs).length = l.length
  | [], [], _ => rfl
  | [], _ :: _, h => by cases h
  | _ :: _, [], h => by cases h
  | p :: l, c :: cs, h => by rw [mkNB, List.length_cons, List.length_cons, mkNB_len l cs (by simpa using h)]
structure DrawAOk (X : RX) (ops : Array Oper) (n : Nat) (nbk : List (Nat × Option Nat)) (ws : List (List (Nat × Nat))) (kss : List (List Nat)) (kf : List Nat) (ds : List Nat) (wa : List (Nat × Nat)) : Prop where
  B : calmB n ops = true
  d : ((List.range n).all fun i => match dstOf ops i with | some d => Nat.blt d X.nt | none => nbk.any fun p => p.2 == some i) = true
  w : (List.range n).map (wtsOf ops n) = ws
  k : (List.range n).map (fun i => nbk.map (kd · (calmWaits ops i))) = kss
  kf : nbk.map (kd · (fun _ => true)) = kf
  dd : dstsN ops n = ds
  nd : ds.Nodup
  wa : allW ops n = wa
  sz : Nat.ble n ops.toList.length = true
  an : (nbk.map (·.1)).Nodup
  sn : (nbk.filterMap (·.2)).Nodup
  inn : (nbk.all fun p => Nat.blt p.1 n && (dstOf ops p.1).isSome && match p.2 with | some s => Nat.blt s n && calmWaits ops s p.1 && (dstOf ops s).isNone | none => true) = true
  see : ((List.range n).all fun i => nbk.all fun p => !calmWaits ops i p.1 || match p.2 with | some s => calmWaits ops i s || Nat.beq i s | none => true) = true
def avC : List (BoxC × BoxC) → Prop
  | [] => True
  | c :: l => (∀ k, c.1.avoids k = true ∧ c.2.avoids k = true) ∧ avC l
theorem avC_mem : ∀ {l : List (BoxC × BoxC)}, avC l → ∀ c ∈ l, ∀ k, c.1.avoids k = true ∧ c.2.avoids k = true
  | c :: l, h, c', hc => by
    rcases List.mem_cons.1 hc with rfl | hc
    · exact h.1
    · exact avC_mem h.2 c' hc
def drawAv (ops : Array Oper) (n len : Nat) (rs : List AV) (nbk : List (Nat × Option Nat)) : Bool := (List.range nbk.length).all fun q => match nbk[q]? with
  | some p => (List.range n).all fun j => calmWaits ops j p.1 || Nat.beq j p.1 || (getA rs j).avoids (len + q)
  | none => true
def posA : List (Nat × Option Nat) → Nat → Nat → Option Nat
  | [], _, _ => none
  | p :: l, i, q => match Nat.beq p.1 i with
    | true => some q
    | false => posA l i (q + 1)
def posS : List (Nat × Option Nat) → Nat → Nat → Option Nat
  | [], _, _ => none
  | p :: l, i, q => match p.2 with
    | some s => (match Nat.beq s i with
      | true => some q
      | false => posS l i (q + 1))
    | none => posS l i (q + 1)
def stoA (X : RX) (o : Oper) (s : St) (b : Nat) (c : BoxC × BoxC) : Prop := match o.guard with
  | some _ => False
  | none => match o.op with
    | .store t x y => (match o.dst with
      | none => (match lk s x with
        | .ptr i off => whenB (Nat.beq i b) <| optR (look1 t X.T.lod) fun q => whenB (lk s y).whole <| whenB (lenIs q.1 (lk s y).cellsA) <| match c.1 with
          | .cells tb cs => whenB (leB (off + q.1) cs) (c.2 = .cells tb (cs.take off ++ (lk s y).cellsA ++ cs.drop (off + q.1)))
          | _ => False
        | _ => False)
      | some _ => False)
    | _ => False
def opsA (X : RX) (C : Ctx) (ops : List Oper) (st : St) (len : Nat) (nbk : List (Nat × Option Nat)) (cts : List (BoxC × BoxC)) (ds : List Nat) (rs : List AV) : List Oper → List (List (Nat × Nat)) → List (List Nat) → Nat → Prop
  | [], _, _, _ => True
  | o :: os, w :: ws, k :: ks, i => (match posS nbk i 0 with
    | some q => optR (nthA cts q) fun c => stoA X o (calmG ⟨st.slots, st.boxes ++ vbx cts k⟩ ds [] w rs []) (len + q) c
    | none => match posA nbk i 0 with
      | some q => optR (nthA cts q) fun c => drwN X o (calmG ⟨st.slots, st.boxes ++ vbx cts k⟩ ds [] w rs []) (len + q) fun x bc => getA rs i = x ∧ c.1 = bc
      | none => drwC X C ops o (calmG ⟨st.slots, st.boxes ++ vbx cts k⟩ ds [] w rs []) fun x => getA rs i = x) ∧ opsA X C ops st len nbk cts ds rs os ws ks (i + 1)
  | _, _, _, _ => False
theorem opsA_at {X : RX} {C : Ctx} {ops : List Oper} {st : St} {len : Nat} {nbk : List (Nat × Option Nat)} {cts : List (BoxC × BoxC)} {ds : List Nat} {rs : List AV} : ∀ (os : List Oper) (ws : List (List (Nat × Nat))) (ks : List (List Nat)) (i : Nat), opsA X C ops st len nbk cts ds rs os ws ks i → ∀ (m : Nat) (o : Oper), os[m]? = some o → ∃ w k, ws[m]? = some w ∧ ks[m]? = some k ∧ (match posS nbk (i + m) 0 with
    | some q => optR (nthA cts q) fun c => stoA X o (calmG ⟨st.slots, st.boxes ++ vbx cts k⟩ ds [] w rs []) (len + q) c
    | none => match posA nbk (i + m) 0 with
      | some q => optR (nthA cts q) fun c => drwN X o (calmG ⟨st.slots, st.boxes ++ vbx cts k⟩ ds [] w rs []) (len + q) fun x bc => getA rs (i + m) = x ∧ c.1 = bc
      | none => drwC X C ops o (calmG ⟨st.slots, st.boxes ++ vbx cts k⟩ ds [] w rs []) fun x => getA rs (i + m) = x)
  | [], _, _, _, _, m, o, h => by simp at h
  | _ :: _, [], _, _, h, _, _, _ => h.elim
  | _ :: _, _ :: _, [], _, h, _, _, _ => h.elim
  | o :: os, w :: ws, k :: ks, i, h, 0, o', ho => by
    have e1 : o = o' := by simpa using ho
    subst e1
    rw [opsA] at h
    exact ⟨w, k, rfl, rfl, h.1⟩
  | o :: os, w :: ws, k :: ks, i, h, m + 1, o', ho => by
    rw [opsA] at h
    obtain ⟨w', k', h1, h2, h3⟩ := opsA_at os ws ks (i + 1) h.2 m o' (by simpa using ho)
    rw [show i + 1 + m = i + (m + 1) by omega] at h3
    exact ⟨w', k', by simpa using h1, by simpa using h2, h3⟩
theorem posA_some : ∀ {l : List (Nat × Option Nat)} {i q r : Nat}, posA l i q = some r → ∃ j p, r = q + j ∧ l[j]? = some p ∧ p.1 = i
  | p :: l, i, q, r, h => by
    rw [posA] at h
    split at h
    · rename_i hb
      injection h with h
      exact ⟨0, p, by omega, rfl, Nat.eq_of_beq_eq_true hb⟩
    · obtain ⟨j, p', h1, h2, h3⟩ := posA_some h
      exact ⟨j + 1, p', by omega, by simpa using h2, h3⟩
theorem posA_none : ∀ {l : List (Nat × Option Nat)} {i q : Nat}, posA l i q = none → ∀ p ∈ l, p.1 ≠ i
  | p :: l, i, q, h, p', hp => by
    rw [posA] at h
    split at h
    · cases h
    · rename_i hb
      rcases List.mem_cons.1 hp with rfl | hp
      · intro e; rw [e] at hb; simp at hb
      · exact posA_none h p' hp
theorem posS_some : ∀ {l : List (Nat × Option Nat)} {i q r : Nat}, posS l i q = some r → ∃ j p, r = q + j ∧ l[j]? = some p ∧ p.2 = some i
  | p :: l, i, q, r, h => by
    rw [posS] at h
    split at h
    · rename_i s hs
      split at h
      · rename_i hb
        injection h with h
        exact ⟨0, p, by omega, rfl, by rw [hs, Nat.eq_of_beq_eq_true hb]⟩
      · obtain ⟨j, p', h1, h2, h3⟩ := posS_some h
        exact ⟨j + 1, p', by omega, by simpa using h2, h3⟩
    · obtain ⟨j, p', h1, h2, h3⟩ := posS_some h
      exact ⟨j + 1, p', by omega, by simpa using h2, h3⟩
theorem posS_none : ∀ {l : List (Nat × Option Nat)} {i q : Nat}, posS l i q = none → ∀ p ∈ l, p.2 ≠ some i
  | p :: l, i, q, h, p', hp => by
    rw [posS] at h
    split at h
    · rename_i s hs
      split at h
      · cases h
      · rename_i hb
        rcases List.mem_cons.1 hp with rfl | hp
        · intro e
          rw [hs] at e
          injection e with e
          rw [e] at hb; simp at hb
        · exact posS_none h p' hp
    · rename_i hs
      rcases List.mem_cons.1 hp with rfl | hp
      · intro e; rw [hs] at e; cases e
      · exact posS_none h p' hp
theorem nbAt_of : ∀ {l : List (Nat × Option Nat)} {cs : List (BoxC × BoxC)} {i len : Nat}, l.length = cs.length → match posA l i 0 with
    | some q => ∃ c, cs[q]? = some c ∧ nbAt len (mkNB l cs) i = some (len + q, c.1)
    | none => nbAt len (mkNB l cs) i = none := by
  intro l
  have key : ∀ (l : List (Nat × Option Nat)) (cs : List (BoxC × BoxC)) (i len q0 : Nat), l.length = cs.length → match posA l i q0 with
      | some q => ∃ c, q0 ≤ q ∧ cs[q - q0]? = some c ∧ nbAt (len + q0) (mkNB l cs) i = some (len + q, c.1)
      | none => nbAt (len + q0) (mkNB l cs) i = none := by
    intro l
    induction l with
    | nil => intro cs i len q0 h; rfl
    | cons p l ih =>
      intro cs i len q0 h
      cases cs with
      | nil => cases h
      | cons c cs =>
        rw [posA, mkNB, nbAt]
        simp only
        cases hb : Nat.beq p.1 i with
        | true => exact ⟨c, Nat.le_refl _, by simp, rfl⟩
        | false =>
          have := ih cs i len (q0 + 1) (by simpa using h)
          simp only
          cases hq : posA l i (q0 + 1) with
          | none => rw [hq] at this; exact this
          | some q =>
            rw [hq] at this
            obtain ⟨c', h1, h2, h3⟩ := this
            refine ⟨c', by omega, ?_, h3⟩
            rw [show q - q0 = (q - (q0 + 1)) + 1 by omega, List.getElem?_cons_succ]
            exact h2
  intro cs i len h
  have := key l cs i len 0 h
  cases hq : posA l i 0 with
  | none => rw [hq] at this; exact this
  | some q =>
    rw [hq] at this
    obtain ⟨c, _, h2, h3⟩ := this
    exact ⟨c, by simpa using h2, by simpa using h3⟩
section
variable {X : RX} {C : Ctx} {E : Env} (hX : RXok X C E) {ops : Array Oper} {Q : AQ} {st : St} {ds : List Nat}
include hX
theorem W_drawA {id n : Nat} (hm : C.P.follows .mixedOrders = true) (rs : List AV) (nbk : List (Nat × Option Nat)) (cts : List (BoxC × BoxC)) {ws : List (List (Nat × Nat))} {kss : List (List Nat)} {kf : List Nat} {wa : List (Nat × Nat)} (hD : DrawAOk X ops n nbk ws kss kf ds wa) (hlen : nbk.length = cts.length) (hav : drawAv ops n st.boxes.length rs nbk = true) (hbv : avC cts) (hlv : (cts.all fun c => c.1.live && c.2.live) = true) (hrl : allB (fun x => Nat.ble x.maxB (st.boxes.length + nbk.length)) rs = true)
    (hops : opsA X C ops.toList st st.boxes.length nbk cts ds rs (ops.toList.take n) ws kss 0) (h : forceSt (calmG ⟨st.slots, st.boxes ++ vbx cts kf⟩ ds [] wa rs []) fun s => runR X C ops.toList (dropF n ops.toList) s fun st => Q .normal st) : W X C E (.region id ops true) Q st := by
  obtain ⟨hB, hd, hw, hk, hkf, hdd, hnd, hwa, hsz, han, hsn, hinn, hsee⟩ := hD
  have hsz := Nat.le_of_ble_eq_true hsz
  have habx : ∀ S, abx st (mkNB nbk cts) S = ⟨st.slots, st.boxes ++ vbx cts (nbk.map (kd · S))⟩ := fun S => by
    unfold abx
    rw [mkNB_bx S nbk cts hlen]
  have hwl : ws.length = n := by rw [← hw]; simp
  have hcalm : ∀ i, i < n → ∀ w k, ws[i]? = some w → kss[i]? = some k → vw st ops n rs (mkNB nbk cts) i = calmG ⟨st.slots, st.boxes ++ vbx cts k⟩ ds [] w rs [] := fun i hi w k hwi hki => by
    have e1 : w = wtsOf ops n i := by rw [← hw] at hwi; simpa [hi] using hwi.symm
    have e2 : k = nbk.map (kd · (calmWaits ops i)) := by rw [← hk] at hki; simpa [hi] using hki.symm
    unfold vw
    rw [habx, ← e2]
    have := calm_wts (ops := ops) (st := (⟨st.slots, st.boxes ++ vbx cts k⟩ : St)) (bi := []) (n := n) (i := i) (rs := rs) (bs := []) rfl List.nodup_nil (fun p hp => by cases hp)
    rw [hdd, ← e1] at this
    exact this
  have hop : ∀ i, i < n → ∃ o, ops[i]? = some o ∧ (ops.toList.take n)[i]? = some o := fun i hi => by
    have hil : i < ops.size := by simp at hsz; omega
    refine ⟨ops[i], Array.getElem?_eq_getElem _, ?_⟩
    rw [List.getElem?_take, if_pos hi, Array.getElem?_toList]
    exact Array.getElem?_eq_getElem _
  have hmem : ∀ p ∈ mkNB nbk cts, ∃ k ∈ nbk, ∃ c ∈ cts, p = ⟨k.1, k.2, c.1, c.2⟩ := fun p hp => by
    obtain ⟨q, hq⟩ := List.getElem?_of_mem hp
    obtain ⟨k, c, h1, h2, h3⟩ := mkNB_at _ _ q p hq
    exact ⟨k, List.mem_of_getElem? h1, c, List.mem_of_getElem? h2, h3⟩
  rw [forceSt_iff] at h
  refine ⟨AW_drawA (n := n) rs (mkNB nbk cts) hm hB (fun i hi => ?_) (by rw [hdd]; exact hnd) ?_ (fun q q' p p' s hq hq' hs hs' => ?_) (fun p hp => ?_) (fun i hi p hp hwi s hs => ?_) (fun q p hq j hj => ?_) (fun p hp k _ => ?_) (fun p hp => ?_) (fun i hi k hk => ?_) (fun i hi hns => ?_) (fun q p s hq hs => ?_) ?_⟩
  · have := List.all_eq_true.1 hd i (List.mem_range.2 hi)
    cases hdi : dstOf ops i with
    | none =>
      rw [hdi] at this
      obtain ⟨k, hk1, hk2⟩ := List.any_eq_true.1 this
      obtain ⟨q, hq⟩ := List.getElem?_of_mem hk1
      have hql := (List.getElem?_eq_some_iff.1 hq).1
      obtain ⟨p, hp⟩ : ∃ p, (mkNB nbk cts)[q]? = some p := ⟨_, List.getElem?_eq_getElem (by rw [mkNB_len _ _ hlen]; exact hql)⟩
      obtain ⟨k', c, h1, h2, h3⟩ := mkNB_at _ _ q p hp
      rw [hq] at h1
      injection h1 with h1
      subst h1
      exact ⟨p, List.mem_of_getElem? hp, by rw [h3]; exact eq_of_beq hk2⟩
    | some d =>
      rw [hdi] at this
      show d < E.nt
      rw [hX.nt]
      simpa using this
  · have e : (mkNB nbk cts).map (·.ia) = nbk.map (·.1) := by
      apply List.ext_getElem?
      intro q
      rw [List.getElem?_map, List.getElem?_map]
      cases hp : (mkNB nbk cts)[q]? with
      | none =>
        have h1 := List.getElem?_eq_none_iff.1 hp
        rw [mkNB_len _ _ hlen] at h1
        rw [List.getElem?_eq_none h1]
        rfl
      | some p =>
        obtain ⟨k', c, h1, h2, h3⟩ := mkNB_at _ _ q p hp
        rw [h1, h3]
        rfl
    rw [e]
    exact han
  · obtain ⟨k, c, h1, h2, h3⟩ := mkNB_at _ _ q p hq
    obtain ⟨k', c', h1', h2', h3'⟩ := mkNB_at _ _ q' p' hq'
    rw [h3] at hs
    rw [h3'] at hs'
    have := List.pairwise_filterMap.1 hsn
    rw [List.pairwise_iff_getElem] at this
    obtain ⟨l1, e1⟩ := List.getElem?_eq_some_iff.1 h1
    obtain ⟨l2, e2⟩ := List.getElem?_eq_some_iff.1 h1'
    rcases Nat.lt_trichotomy q q' with hlt | heq | hgt
    · exact absurd rfl (this q q' l1 l2 hlt s (by rw [e1]; exact hs) s (by rw [e2]; exact hs'))
    · exact heq
    · exact absurd rfl (this q' q l2 l1 hgt s (by rw [e2]; exact hs') s (by rw [e1]; exact hs))
  · obtain ⟨k, hk1, c, _, rfl⟩ := hmem p hp
    have := List.all_eq_true.1 hinn k hk1
    simp only [Bool.and_eq_true] at this
    obtain ⟨⟨h1, h2⟩, h3⟩ := this
    refine ⟨by simpa using h1, h2, fun s hs => ?_⟩
    have hs : k.2 = some s := hs
    rw [hs] at h3
    simp only [Bool.and_eq_true] at h3
    exact ⟨by simpa using h3.1.1, h3.1.2, by simpa using h3.2⟩
  · obtain ⟨k, hk1, c, _, rfl⟩ := hmem p hp
    have := List.all_eq_true.1 (List.all_eq_true.1 hsee i (List.mem_range.2 hi)) k hk1
    have hs : k.2 = some s := hs
    have hwi : calmWaits ops i k.1 = true := hwi
    rw [hs, hwi] at this
    simp only [Bool.not_true, Bool.false_or, Bool.or_eq_true] at this
    exact this.imp (fun h => h) Nat.eq_of_beq_eq_true
  · obtain ⟨k, c, h1, h2, h3⟩ := mkNB_at _ _ q p hq
    have hql := (List.getElem?_eq_some_iff.1 h1).1
    have := List.all_eq_true.1 hav q (List.mem_range.2 hql)
    rw [h1] at this
    have := List.all_eq_true.1 this j (List.mem_range.2 hj)
    simp only [Bool.or_eq_true] at this
    rw [h3]
    rcases this with (h4 | h4) | h4
    · exact .inl h4
    · exact .inr (.inl (Nat.eq_of_beq_eq_true h4))
    · rw [getA_eq] at h4
      exact .inr (.inr h4)
  · obtain ⟨k', hk1, c, hc, rfl⟩ := hmem p hp
    exact avC_mem hbv c hc k
  · obtain ⟨k', hk1, c, hc, rfl⟩ := hmem p hp
    have := List.all_eq_true.1 hlv c hc
    simpa using this
  · rw [List.getD_eq_getElem?_getD]
    rw [mkNB_len _ _ hlen] at hk
    cases hr : rs[i]? with
    | none => rfl
    | some x => exact maxB_avoids _ (Nat.le_trans (Nat.le_of_ble_eq_true (allB_mem hrl x (List.mem_of_getElem? hr))) hk)
  · obtain ⟨o, ho, ho'⟩ := hop i hi
    obtain ⟨w, k, hwi, hki, hat⟩ := opsA_at _ _ _ _ hops i o ho'
    rw [Nat.zero_add] at hat
    refine ⟨o, ho, ?_⟩
    rw [hcalm i hi w k hwi hki]
    cases hps : posS nbk i 0 with
    | some q =>
      exfalso
      obtain ⟨j, p, h1, h2, h3⟩ := posS_some hps
      have hjl := (List.getElem?_eq_some_iff.1 h2).1
      obtain ⟨p', hp'⟩ : ∃ p, (mkNB nbk cts)[j]? = some p := ⟨_, List.getElem?_eq_getElem (by rw [mkNB_len _ _ hlen]; exact hjl)⟩
      obtain ⟨k', c, g1, g2, g3⟩ := mkNB_at _ _ j p' hp'
      rw [h2] at g1
      injection g1 with g1
      subst g1
      exact hns p' (List.mem_of_getElem? hp') (by rw [g3]; exact h3)
    | none =>
      rw [hps] at hat
      simp only at hat
      have hnb := nbAt_of (l := nbk) (cs := cts) (i := i) (len := st.boxes.length) hlen
      cases hpa : posA nbk i 0 with
      | some q =>
        rw [hpa] at hat hnb
        simp only at hat hnb
        obtain ⟨c, hc1, hc2⟩ := optR_dest hat
        obtain ⟨c', hc3, hc4⟩ := hnb
        rw [nthA_eq] at hc1
        rw [hc1] at hc3
        injection hc3 with hc3
        subst hc3
        obtain ⟨x, bc, hg, hx, hbc⟩ := drwN_sound (C := C) (E := E) (ops := ops) hX hc2
        rw [hc4, hbc, ← getA_eq, hx]
        exact hg
      | none =>
        rw [hpa] at hat hnb
        simp only at hat hnb
        obtain ⟨x, hg, hx⟩ := drwC_sound hX hat
        rw [hnb, ← getA_eq, hx]
        exact hg
  · obtain ⟨k0, c, h1, h2, h3⟩ := mkNB_at _ _ q p hq
    have hk0 := List.mem_of_getElem? h1
    rw [h3] at hs
    have hs : k0.2 = some s := hs
    have hin := List.all_eq_true.1 hinn k0 hk0
    rw [hs] at hin
    simp only [Bool.and_eq_true] at hin
    have hsn2 : s < n := by simpa using hin.2.1.1
    obtain ⟨o, ho, ho'⟩ := hop s hsn2
    obtain ⟨w, k, hwi, hki, hat⟩ := opsA_at _ _ _ _ hops s o ho'
    rw [Nat.zero_add] at hat
    cases hps : posS nbk s 0 with
    | none => exact absurd hs (posS_none hps k0 hk0)
    | some q' =>
      rw [hps] at hat
      simp only at hat
      obtain ⟨j, p', g1, g2, g3⟩ := posS_some hps
      rw [Nat.zero_add] at g1
      subst g1
      have hjq : q' = q := by
        have := List.pairwise_filterMap.1 hsn
        rw [List.pairwise_iff_getElem] at this
        obtain ⟨l1, e1⟩ := List.getElem?_eq_some_iff.1 g2
        obtain ⟨l2, e2⟩ := List.getElem?_eq_some_iff.1 h1
        rcases Nat.lt_trichotomy q' q with hlt | heq | hgt
        · exact absurd rfl (this q' q l1 l2 hlt s (by rw [e1]; exact g3) s (by rw [e2]; exact hs))
        · exact heq
        · exact absurd rfl (this q q' l2 l1 hgt s (by rw [e2]; exact hs) s (by rw [e1]; exact g3))
      subst hjq
      obtain ⟨c', hc1, hc2⟩ := optR_dest hat
      rw [nthA_eq, h2] at hc1
      injection hc1 with hc1
      subst hc1
      rw [← hcalm s hsn2 w k hwi hki] at hc2
      unfold stoA at hc2
      split at hc2
      · exact hc2.elim
      rename_i hg
      split at hc2
      · rename_i t x y hop2
        split at hc2
        · rename_i hod
          split at hc2
          · rename_i bi off hx
            obtain ⟨hbi, hc3⟩ := whenB_dest hc2
            have hbi := Nat.eq_of_beq_eq_true hbi
            subst hbi
            obtain ⟨ql, hl1, hc4⟩ := optR_dest hc3
            obtain ⟨hwh, hc5⟩ := whenB_dest hc4
            obtain ⟨hln, hc6⟩ := whenB_dest hc5
            split at hc6
            · rename_i tb cs hb0
              obtain ⟨hle, hb1⟩ := whenB_dest hc6
              rw [lk_eq] at hx hwh
              have hln := lenIs_eq hln
              rw [lk_eq] at hln hb1
              exact ⟨o, t, x, y, off, tb, cs, ql.1, ql.2, ho, .inl hg, hop2, hod, hx, by rw [h3]; exact hb0, hX.T.lod_at hl1, hwh, hln, leB_le hle, by rw [h3]; exact hb1⟩
            · exact hc6.elim
          · exact hc2.elim
        · exact hc2.elim
      · exact hc2.elim
  · have e1 : abx st (mkNB nbk cts) (fun _ => true) = ⟨st.slots, st.boxes ++ vbx cts kf⟩ := by rw [habx, hkf]
    rw [e1]
    have := calm_all (ops := ops) (st := (⟨st.slots, st.boxes ++ vbx cts kf⟩ : St)) (bi := []) (n := n) (rs := rs) (bs := []) rfl List.nodup_nil (fun p hp => by cases hp)
    rw [hdd, hwa] at this
    rw [this]
    rw [dropF_eq] at h
    exact runR_sound hX _ _ _ (fun _ h => h) h
end
end Go.Proofs.YtnfbomhhgjlacaaDoor.Abs
