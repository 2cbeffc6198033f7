/- Regions that draw their order, of which one operation comes behind all that draw, by way of others. -/
import Derived.Test.YtnfbomhhgjlacaaDoorDr10
namespace Go.Proofs.YtnfbomhhgjlacaaDoor.Abs
open Go.RowKit Go.MapKept
set_option linter.unusedVariables false
set_option linter.unusedSimpArgs false
section
variable {C : Ctx} {E : Env} {st : St} {Q : AQ} {ops : Array Oper}
theorem AW_drawL {id m : Nat} (rs : List AV) (hm : C.P.follows .mixedOrders = true) (hB : calmB (m + 1) ops = true) (hd : (List.range m).all (fun i => match dstOf ops i with | some d => decide (d < E.nt) | none => false) = true)
    (hdist : (dstsN ops m).Nodup) (f : Nat) (hrc : ∀ j, j < m → rch ops (m + 1) f m j = true)
    (hrl : ∀ i, i < m → ∀ k, st.boxes.length ≤ k → (rs.getD i .junk).avoids k = true)
    (hstep : ∀ i, i < m → ∃ o, ops[i]? = some o ∧ GoodOp C E ops o (st.calm ops m rs [] (calmWaits ops i)) (rs.getD i .junk) none)
    (h : AL C E ops (ops.toList.drop m) Q (st.calm ops m rs [] (fun _ => true))) : AW C E (.region id ops true) Q st := by
  intro β0 a0 w0 H0
  have hBk := calm_ok hB
  have hle := hBk.le
  refine wp_region_any hm ?_
  let J : (Nat → Bool) → Act → World → Prop := fun S a w => if S m = true then wpOps C.P ops (lift C E Q) (List.range' (m + 1) (ops.size - (m + 1))) a w else ∃ β, Holds C E β (st.calm ops m rs [] S) a w
  have hcg : ∀ S S' : Nat → Bool, (∀ j, j < m → S j = S' j) → st.calm ops m rs [] S = st.calm ops m rs [] S' := by
    intro S S' hS
    have e1 : ((List.range m).filterMap fun i => if S i then (dstOf ops i).map fun d => (d, rs.getD i .junk) else none) = ((List.range m).filterMap fun i => if S' i then (dstOf ops i).map fun d => (d, rs.getD i .junk) else none) := filterMap_congr' fun i hi => by rw [hS i (List.mem_range.1 hi)]
    unfold St.calm
    rw [e1]
    rfl
  have key := calm_anyJ (P := C.P) hBk (Q := lift C E Q) J (fun S S' a w hS hJ => by
    show if S' m = true then _ else _
    have hJ : if S m = true then wpOps C.P ops (lift C E Q) (List.range' (m + 1) (ops.size - (m + 1))) a w else ∃ β, Holds C E β (st.calm ops m rs [] S) a w := hJ
    rw [← hS m (Nat.lt_succ_self m), ← hcg S S' fun j hj => hS j (by omega)]
    exact hJ) ?_ ?_ (m + 1) (Array.replicate ops.size false) a0 { w0 with drawn := w0.drawn + 1 } (by simp) (fun j hj hj' => by simp [Array.getD_eq_getD_getElem?, hj']) ?_ (fun j k hj hk h3 _ => ?_) ?_
  · rw [show m + 1 + (ops.size - (m + 1)) = ops.size by omega] at key
    exact key
  · intro S i hi hS hdeps hcl K a w hJ hK
    have hJ : if S m = true then wpOps C.P ops (lift C E Q) (List.range' (m + 1) (ops.size - (m + 1))) a w else ∃ β, Holds C E β (st.calm ops m rs [] S) a w := hJ
    have hSm : S m = false := by
      cases hq : S m with
      | false => rfl
      | true =>
        rcases Nat.lt_or_ge i m with hlt | hge
        · have := rch_in hcl f m i (Nat.lt_succ_self m) hi (hrc i hlt) hq
          rw [hS] at this; cases this
        · have : i = m := by omega
          subst this
          rw [hS] at hq; cases hq
    rw [if_neg (by rw [hSm]; decide)] at hJ
    obtain ⟨β, H⟩ := hJ
    by_cases him : i = m
    · subst him
      have hall : st.calm ops i rs [] S = st.calm ops i rs [] (fun _ => true) := hcg _ _ fun j hj => rch_deps hcl hdeps f j (by omega) (hrc j hj)
      rw [hall] at H
      have h1 := h β a w H
      have e := wpOps_eq_wpList (P := C.P) (ops := ops) (Q := lift C E Q) (ops.toList.drop i) i (fun j => by rw [List.getElem?_drop, Array.getElem?_toList])
      rw [List.length_drop, Array.length_toList] at e
      rw [← e, show ops.size - i = (ops.size - (i + 1)) + 1 by omega, List.range'_succ, wpOps_cons] at h1
      refine wpOp_mono (fun a' w' h' => hK a' w' ?_) h1
      show if (S i || i == i) = true then _ else _
      rw [if_pos (by simp)]
      exact h'
    have hilt : i < m := by omega
    have hdi := List.all_eq_true.1 hd i (List.mem_range.2 hilt)
    obtain ⟨Hs, hok⟩ := H.weak (st' := st.calm ops m rs [] (calmWaits ops i)) (fun p hp => by
      rcases calm_mem.1 hp with ⟨j, h1, h2, h3, h4⟩ | h1
      · exact calm_mem.2 (.inl ⟨j, h1, hdeps j (by omega) h2, h3, h4⟩)
      · exact calm_mem.2 (.inr h1)) (by rw [calm0_box, calm0_box]) (fun k b hk => by
      rw [calm0_box] at hk ⊢
      exact .inr hk)
    obtain ⟨o, ho, hop⟩ := hstep i hilt
    have hdo : dstOf ops i = o.dst := by unfold dstOf; rw [ho]; rfl
    rw [hdo] at hdi
    obtain ⟨d, hdd⟩ : ∃ d, o.dst = some d := by
      cases hdd : o.dst with
      | none => rw [hdd] at hdi; cases hdi
      | some d => exact ⟨d, rfl⟩
    rw [hdd] at hdi
    have hdlt : d < E.nt := by simpa using hdi
    unfold wpOp
    simp only [ho]
    have hput : ∀ p ∈ (st.calm ops m rs [] (fun j => S j || j == i)).slots, p ∈ ((st.calm ops m rs [] S).put d (rs.getD i .junk)).slots := by
      intro p hp
      show p ∈ (d, rs.getD i .junk) :: (st.calm ops m rs [] S).slots.filter (fun p => p.1 != d)
      rcases calm_mem.1 hp with ⟨j, h1, h2, h3, h4⟩ | ⟨h1, h2⟩
      · by_cases e : j = i
        · subst e
          rw [hdo, hdd] at h3
          injection h3 with h3
          rw [h3, h4]
          exact List.mem_cons_self ..
        · refine List.mem_cons_of_mem _ (List.mem_filter.2 ⟨calm_mem.2 (.inl ⟨j, h1, ?_, h3, h4⟩), ?_⟩)
          · simpa [e] using h2
          · have hne : p.1 ≠ d := fun he => by
              have hnd := hdist
              unfold dstsN at hnd
              have := List.pairwise_filterMap.1 hnd
              rw [List.pairwise_iff_getElem] at this
              rcases Nat.lt_or_gt_of_ne e with hlt | hgt
              · have := this j i (by simpa using h1) (by simpa using hilt) hlt p.1 (by simpa using h3) d (by simpa using hdo.trans hdd)
                exact this he
              · have := this i j (by simpa using hilt) (by simpa using h1) hgt d (by simpa using hdo.trans hdd) p.1 (by simpa using h3)
                exact this he.symm
            simpa using hne
      · refine List.mem_cons_of_mem _ (List.mem_filter.2 ⟨calm_mem.2 (.inr ⟨h1, h2⟩), ?_⟩)
        have := h2 i hilt
        rw [hdo, hdd] at this
        have : p.1 ≠ d := fun e => this (by rw [e])
        simpa using this
    have fin0 : ∀ {v : Value} {w' : World}, Holds C E β (st.calm ops m rs [] S) a w' → (rs.getD i .junk).rep β (okB E β (st.calm ops m rs [] S)) w' v → J (fun j => S j || j == i) (a.put o.dst v) w' := by
      intro v w' H' hr
      rw [hdd]
      have := (H'.put (d := d) hdlt hr (fun k hk => hrl i hilt k (by rw [calm0_box] at hk; exact hk))).sub hput
      show if (S m || m == i) = true then _ else _
      rw [if_neg (by rw [hSm]; simp; omega)]
      exact ⟨β, this⟩
    rcases hop with ⟨hw, hy⟩ | ⟨hw, hj, hn⟩
    · rw [if_pos (wanted_of Hs hw)]
      refine .inl (hy _ β a w Hs (fun k bc hbx => by cases hbx) K _ fun v w' hbl hr => hK _ _ ?_)
      obtain ⟨hr1, _⟩ := hr
      rw [hok] at hr1
      exact fin0 (H.below hbl) hr1
    · rw [if_neg (by rw [unwanted_of Hs hw]; decide)]
      exact hK _ _ (fin0 H (by rw [hj]; rfl))
  · intro a w hJ
    exact hJ
  · have : ((List.range (m + 1)).filter fun j => !(Array.replicate ops.size false).getD j true) = List.range (m + 1) := List.filter_eq_self.2 fun j hj => by
      rw [List.mem_range] at hj
      have : j < ops.size := by omega
      simp [Array.getD_eq_getD_getElem?, this]
    rw [this, List.length_range]
  · exfalso
    have : j < ops.size := by omega
    simp [Array.getD_eq_getD_getElem?, this] at h3
  · have hf : (Array.replicate ops.size false).getD m true = false := by
      have : m < ops.size := by omega
      simp [Array.getD_eq_getD_getElem?, this]
    show if (Array.replicate ops.size false).getD m true = true then _ else _
    rw [if_neg (by rw [hf]; decide)]
    refine ⟨β0, ?_⟩
    have hw : Holds C E β0 st a0 { w0 with drawn := w0.drawn + 1 } := H0.below ⟨⟨rfl, rfl, rfl, Nat.le_refl _, fun _ _ => rfl⟩, fun _ => Nat.le_succ _⟩
    rw [hcg _ (fun _ => false) (fun j hj => by
      have : j < ops.size := by omega
      simp [Array.getD_eq_getD_getElem?, this])]
    have := hw.sub (sl := (st.calm ops m rs [] (fun _ => false)).slots) (fun p hp => by
      rcases calm_mem.1 hp with ⟨j, _, h2, _⟩ | ⟨h1, _⟩
      · cases h2
      · exact h1)
    have e : st.calm ops m rs [] (fun _ => false) = { st with slots := (st.calm ops m rs [] (fun _ => false)).slots } := by
      have h1 : (st.calm ops m rs [] (fun _ => false)).boxes = st.boxes := calm0_box
      cases h2 : st.calm ops m rs [] (fun _ => false)
      rw [h2] at h1
      simp only at h1
      rw [h1]
    rw [e]
    exact this
end
structure DrawLOk (X : RX) (ops : Array Oper) (m f : Nat) (ws : List (List (Nat × Nat))) (ds : List Nat) (wa : List (Nat × Nat)) : Prop where
  B : calmB (m + 1) ops = true
  d : ((List.range m).all fun i => match dstOf ops i with | some d => Nat.blt d X.nt | none => false) = true
  w : (List.range m).map (wtsOf ops m) = ws
  dd : dstsN ops m = ds
  nd : ds.Nodup
  wa : allW ops m = wa
  lt : ((List.range m).all fun i => (ws.getD i []).all fun p => Nat.blt p.1 i) = true
  sz : Nat.ble (m + 1) ops.toList.length = true
  rc : ((List.range m).all fun j => rch ops (m + 1) f m j) = true
section
variable {X : RX} {C : Ctx} {E : Env} (hX : RXok X C E) {ops : Array Oper} {Q : AQ} {st : St} {ds : List Nat}
include hX in
theorem W_drawL {id m f : Nat} (hm : C.P.follows .mixedOrders = true) {ws : List (List (Nat × Nat))} {ds : List Nat} {wa : List (Nat × Nat)} (hD : DrawLOk X ops m f ws ds wa)
    (h : drawE X C ops.toList st ds [] (ops.toList.take m) ws 0 [] [] fun rs bs => whenB (allB (fun x => Nat.ble x.maxB st.boxes.length) rs) True ∧ forceSt (calmG st ds [] wa rs []) fun s => runR X C ops.toList (dropF m ops.toList) s fun st => Q .normal st) : W X C E (.region id ops true) Q st := by
  obtain ⟨hB, hd, hw, hds, hnd, hwa, hlt, hsz, hrc⟩ := hD
  have hsz := Nat.le_of_ble_eq_true hsz
  have hwl : ws.length = m := by rw [← hw]; simp
  have hwi : ∀ i, i < m → ws[i]? = some (wtsOf ops m i) := fun i hi => by rw [← hw]; simp [hi]
  obtain ⟨rs, bs, h1, h2, h3, h9, h10, h4⟩ := drawE_sound hX _ _ [] [] _ (fun i w hi p hp => by
    have hin : i < m := by have := (List.getElem?_eq_some_iff.1 hi).1; omega
    have h5 := List.all_eq_true.1 (List.all_eq_true.1 hlt i (List.mem_range.2 hin)) p (by rw [List.getD_eq_getElem?_getD, hi]; exact hp)
    have h5 : p.1 < i := by simpa using h5
    simpa using h5) (fun j hj hl => absurd hl (Nat.not_lt_zero _)) (fun p hp => by cases hp) h
  simp only [List.nil_append, List.length_nil, Nat.zero_add] at h2 h4 h9
  have hbs : bs = [] := by
    cases bs with
    | nil => rfl
    | cons p l => exact absurd (h9 p (List.mem_cons_self ..)).2.2 (by simp)
  subst hbs
  have hrl : rs.length = m := by rw [h1, List.length_take]; omega
  obtain ⟨c4, h6⟩ := h4
  have c4 := (whenB_dest c4).1
  rw [forceSt_iff] at h6
  refine ⟨AW_drawL (m := m) rs hm hB ?_ (by rw [hds]; exact hnd) f (fun j hj => List.all_eq_true.1 hrc j (List.mem_range.2 hj)) (fun i hi k hk => ?_) (fun i hi => ?_) ?_⟩
  · refine List.all_eq_true.2 fun i hi => ?_
    have := List.all_eq_true.1 hd i hi
    split at this
    · rename_i d hd'
      rw [hX.nt]
      simpa using this
    · cases this
  · have : (rs.getD i .junk).maxB ≤ st.boxes.length := by
      rw [List.getD_eq_getElem?_getD, List.getElem?_eq_getElem (by omega)]
      exact Nat.le_of_ble_eq_true (allB_mem c4 _ (List.getElem_mem _))
    exact maxB_avoids _ (by omega)
  · obtain ⟨o, ho⟩ : ∃ o, ops[i]? = some o := ⟨ops[i]'(by simp at hsz; omega), Array.getElem?_eq_getElem _⟩
    have ho' : (ops.toList.take m)[i]? = some o := by rw [List.getElem?_take, if_pos hi, Array.getElem?_toList]; exact ho
    refine ⟨o, ho, ?_⟩
    have hg := h2 i o _ ho' (hwi i hi)
    rw [calm_wts (bi := []) rfl List.nodup_nil (fun p hp => by cases hp), hds]
    exact hg
  · rw [calm_all (bi := []) rfl List.nodup_nil (fun p hp => by cases hp), hds, hwa]
    rw [dropF_eq] at h6
    exact runR_sound hX _ _ _ (fun _ h => h) h6
end
end Go.Proofs.YtnfbomhhgjlacaaDoor.Abs
