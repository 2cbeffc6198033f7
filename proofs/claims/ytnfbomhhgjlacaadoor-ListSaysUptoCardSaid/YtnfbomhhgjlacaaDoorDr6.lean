/- Regions that draw their order, with stores among the operations. -/
import Derived.Test.YtnfbomhhgjlacaaDoorDr5
namespace Go.Proofs.YtnfbomhhgjlacaaDoor.Abs
open Go.RowKit Go.MapKept
set_option linter.unusedVariables false
set_option linter.unusedSimpArgs false
section
variable {C : Ctx} {E : Env} {st : St} {o : Oper} {β : BMap} {a : Act} {w w' : World} {Q : AQ} {ops : Array Oper} {rest : List Oper}
theorem store_core {E' : Env} {st' : St} {a : Act} {w : World} (H : Holds C E β st a w) (Hs : Holds C E' β st' a w) (hok : okB E' β st' = okB E β st) (hlen : st'.boxes.length = st.boxes.length) {t tb : TypeId} {x y : Operand} {i off n : Nat} {r : Bool} {cs m cs' : List AV} (ho : o.op = .store t x y) (hd : o.dst = none) (hx : st'.look x = .ptr i off) (hb : st.boxes[i]? = some (.cells tb cs)) (hin : loadInfo C.P t = some (n, r))
    (hwh : (st'.look y).whole = true) (hm : (st'.look y).cellsA = m) (hn : m.length = n) (hl : off + n ≤ cs.length) (hcs : cs.take off ++ m ++ cs.drop (off + n) = cs') {K : Act → World → Prop} {Q' : Exit → Act → World → Prop} (h : ∀ w', Holds C E β (st.setBox i (.cells tb cs')) a w' → K a w') : o.wp C.P a w K Q' := by
  have hxr := Hs.look x
  rw [hx] at hxr
  obtain ⟨b, h1, h2⟩ := hxr
  obtain ⟨b', cur, h3, h4, h5⟩ := H.boxes i _ hb
  rw [h1] at h3
  injection h3 with h3
  subst h3
  obtain ⟨ti, d, e1, e2, rfl, e4⟩ := loadInfo_some hin
  have hy := cellsA_rep hwh (Hs.look y)
  rw [hok] at hy
  have hyl := repCells_len hy
  rw [hm, hn] at hyl
  have hcl := repCells_len h5
  simp only [Array.length_toList] at hyl hcl
  have hrun := run_storeVar (P := C.P) (w := w) e1 hyl (repCells_one hy) (.of h4) (off := off) (by omega)
  unfold Oper.wp execOp
  simp only [ho, h2, Instr.storeAt, Instr.sureAddr, Sem.run_bind, Sem.run_pure, Result.andThen_ok, hrun]
  show K (a.put o.dst undef) _
  rw [hd]
  obtain ⟨hT, cur', h6, h7⟩ := setCells_blk (a.eval y).cells.toList off w cur h4 (by simp only [Array.length_toList]; omega)
  refine h _ ?_
  have hnew : AV.repCells β (okB E β st) w cs' cur'.toList := by
    rw [h7, ← hcs, ← hm]
    have : (a.eval y).cells.toList.length = ti.size := by simp only [Array.length_toList]; omega
    rw [this]
    exact repCells_append (repCells_append (repCells_take _ h5) hy) (repCells_drop _ h5)
  have hE : Ext β (okB E β st) (okB E β st) w (w.setCells b off (a.eval y).cells.toList) := ⟨by rw [hT.size]; exact Nat.le_refl _, fun _ h _ => h, fun k hk _ => hT.far k (fun e => by subst e; exact hk.2.2 i ⟨_, hb, rfl⟩ h1), fun j k s hj hk => by
    by_cases e : k = b
    · subst e
      rw [shape_of_blk h6, ← hk, shape_of_blk h4]
      have hlen := repCells_len hnew
      have : cur'.size = cur.size := by
        rw [← Array.length_toList, h7]; simp; omega
      rw [this]
    · rw [shape_same (hT.far k e)]; exact hk⟩
  refine H.turn hb rfl h1 hT ?_ rfl (fun j hj => ?_) ⟨b, cur', h1, h6, AV.repCells_mono hE _ _ (fun _ _ => rfl) hnew⟩
  · rw [shape_of_blk h6, shape_of_blk h4]
    have : cur'.size = cur.size := by
      rw [← Array.length_toList, h7]; simp; omega
    rw [this]
  · have h8 := H.blim i _ hb j hj
    have h9 := cellsA_avoids (Hs.looklim y j (by rw [hlen]; exact hj))
    show AV.avoidsL j cs' = true
    rw [← hcs, ← hm]
    simp only [avoidsL_append, Bool.and_eq_true]
    exact ⟨⟨avoidsL_take _ h8, h9⟩, avoidsL_drop _ h8⟩
/-- Operation i waits for j, it may be by way of others. -/
def rch (ops : Array Oper) (n : Nat) : Nat → Nat → Nat → Bool
  | 0, i, j => calmWaits ops i j
  | f + 1, i, j => calmWaits ops i j || (List.range n).any fun k => calmWaits ops i k && rch ops n f k j
theorem rch_in {n : Nat} {S : Nat → Bool} (hcl : ∀ j k, j < n → k < n → S j = true → calmWaits ops j k = true → S k = true) : ∀ (f i j : Nat), i < n → j < n → rch ops n f i j = true → S i = true → S j = true
  | 0, i, j, hi, hj, h, hS => hcl i j hi hj hS h
  | f + 1, i, j, hi, hj, h, hS => by
    rw [rch, Bool.or_eq_true] at h
    rcases h with h | h
    · exact hcl i j hi hj hS h
    · obtain ⟨k, hk, h2⟩ := List.any_eq_true.1 h
      rw [Bool.and_eq_true] at h2
      have hkn := List.mem_range.1 hk
      exact rch_in hcl f k j hkn hj h2.2 (hcl i k hi hkn hS h2.1)
theorem rch_deps {n : Nat} {S : Nat → Bool} (hcl : ∀ j k, j < n → k < n → S j = true → calmWaits ops j k = true → S k = true) {i : Nat} (hd : ∀ j, j < n → calmWaits ops i j = true → S j = true) : ∀ (f j : Nat), j < n → rch ops n f i j = true → S j = true
  | 0, j, hj, h => hd j hj h
  | f + 1, j, hj, h => by
    rw [rch, Bool.or_eq_true] at h
    rcases h with h | h
    · exact hd j hj h
    · obtain ⟨k, hk, h2⟩ := List.any_eq_true.1 h
      rw [Bool.and_eq_true] at h2
      have hkn := List.mem_range.1 hk
      exact rch_in hcl f k j hkn hj h2.2 (hd k hkn h2.1)
def cntS (stores : List Nat) (S : Nat → Bool) : Nat := (stores.filter S).length
/-- What is done of a chain is its front. -/
theorem cnt_front {S : Nat → Bool} : ∀ (stores : List Nat), (∀ q i j, stores[q]? = some i → stores[q + 1]? = some j → S j = true → S i = true) → ∀ (q i : Nat), stores[q]? = some i → (S i = true ↔ q < cntS stores S)
  | [], _, q, i, h => by simp at h
  | s :: l, hc, q, i, h => by
    have hl := cnt_front l (fun q i j h1 h2 => hc (q + 1) i j (by simpa using h1) (by simpa using h2))
    by_cases hs : S s = true
    · have e : cntS (s :: l) S = cntS l S + 1 := by unfold cntS; rw [List.filter_cons_of_pos hs]; rfl
      rw [e]
      cases q with
      | zero =>
        have : s = i := by simpa using h
        subst this
        simp [hs]
      | succ q =>
        rw [hl q i (by simpa using h)]
        omega
    · have e : cntS (s :: l) S = cntS l S := by unfold cntS; rw [List.filter_cons_of_neg hs]
      have h0 : cntS l S = 0 := by
        cases l with
        | nil => rfl
        | cons s2 l2 =>
          have h1 : ¬ S s2 = true := fun h2 => hs (hc 0 s s2 rfl rfl h2)
          have : ¬ 0 < cntS (s2 :: l2) S := fun h => h1 ((hl 0 s2 rfl).2 h)
          omega
      rw [e, h0]
      cases q with
      | zero =>
        have : s = i := by simpa using h
        subst this
        simp [hs]
      | succ q =>
        rw [hl q i (by simpa using h), h0]
        omega
/-- The boxes behind m stores. -/
def sbx (st : St) (bxs : List (List BoxC)) (m : Nat) : St := ⟨st.slots, bxs.getD m []⟩
structure StoreOk (C : Ctx) (ops : Array Oper) (n : Nat) (rs : List AV) (st : St) (bxs : List (List BoxC)) (q i : Nat) : Prop where
  ex : ∃ o t x y bi off tb cs k r, ops[i]? = some o ∧ Wanted ops o ((sbx st bxs q).calm ops n rs [] (calmWaits ops i)) ∧ o.op = .store t x y ∧ o.dst = none ∧ ((sbx st bxs q).calm ops n rs [] (calmWaits ops i)).look x = .ptr bi off ∧ (bxs.getD q [])[bi]? = some (.cells tb cs) ∧ loadInfo C.P t = some (k, r) ∧ (((sbx st bxs q).calm ops n rs [] (calmWaits ops i)).look y).whole = true ∧ (((sbx st bxs q).calm ops n rs [] (calmWaits ops i)).look y).cellsA.length = k ∧ off + k ≤ cs.length ∧ bxs.getD (q + 1) [] = (bxs.getD q []).set bi (.cells tb (cs.take off ++ (((sbx st bxs q).calm ops n rs [] (calmWaits ops i)).look y).cellsA ++ cs.drop (off + k)))
theorem calm0_box {st : St} {n : Nat} {rs : List AV} {S : Nat → Bool} : (st.calm ops n rs [] S).boxes = st.boxes := by simp [St.calm]
/-- **A region that draws its order, some operations of which store.** -/
theorem AW_drawS {id n : Nat} (rs : List AV) (bxs : List (List BoxC)) (stores : List Nat) (hm : C.P.follows .mixedOrders = true) (hB : calmB n ops = true) (hd : (List.range n).all (fun i => match dstOf ops i with | some d => decide (d < E.nt) && !stores.contains i | none => stores.contains i) = true)
    (hdist : (dstsN ops n).Nodup) (hsn : ∀ i ∈ stores, i < n) (hsd : stores.Nodup) (f : Nat) (hchain : ∀ q i j, stores[q]? = some i → stores[q + 1]? = some j → rch ops n f j i = true) (hb0 : bxs.getD 0 [] = st.boxes) (hbl : ∀ m, m ≤ stores.length → (bxs.getD m []).length = st.boxes.length)
    (hrl : ∀ i, i < n → ∀ k, st.boxes.length ≤ k → (rs.getD i .junk).avoids k = true)
    (hstep : ∀ i, i < n → stores.contains i = false → ∀ m, m ≤ stores.length → (∀ q s, stores[q]? = some s → rch ops n f i s = true → q < m) → (∀ q s, stores[q]? = some s → rch ops n f s i = true → m ≤ q) → ∃ o, ops[i]? = some o ∧ GoodOp C E ops o ((sbx st bxs m).calm ops n rs [] (calmWaits ops i)) (rs.getD i .junk) none)
    (hsto : ∀ q i, stores[q]? = some i → StoreOk C ops n rs st bxs q i)
    (h : AL C E ops (ops.toList.drop n) Q ((sbx st bxs stores.length).calm ops n rs [] (fun _ => true))) : AW C E (.region id ops true) Q st := by
  intro β0 a0 w0 H0
  have hBk := calm_ok hB
  have hle := hBk.le
  refine wp_region_any hm ?_
  let J : (Nat → Bool) → Act → World → Prop := fun S a w => ∃ β, Holds C E β ((sbx st bxs (cntS stores S)).calm ops n rs [] S) a w
  have hcnt : ∀ S S' : Nat → Bool, (∀ j, j < n → S j = S' j) → cntS stores S = cntS stores S' := fun S S' hS => by
    unfold cntS
    rw [List.filter_congr fun i hi => hS i (hsn i hi)]
  have hcle : ∀ S, cntS stores S ≤ stores.length := fun S => List.length_filter_le _ _
  have hcg : ∀ S S' : Nat → Bool, (∀ j, j < n → S j = S' j) → (sbx st bxs (cntS stores S)).calm ops n rs [] S = (sbx st bxs (cntS stores S')).calm ops n rs [] S' := by
    intro S S' hS
    rw [hcnt S S' hS]
    have e1 : ((List.range n).filterMap fun i => if S i then (dstOf ops i).map fun d => (d, rs.getD i .junk) else none) = ((List.range n).filterMap fun i => if S' i then (dstOf ops i).map fun d => (d, rs.getD i .junk) else none) := filterMap_congr' fun i hi => by rw [hS i (List.mem_range.1 hi)]
    unfold St.calm
    rw [e1]
    rfl
  have hlenS : ∀ {S S' : Nat → Bool}, ((sbx st bxs (cntS stores S)).calm ops n rs [] S').boxes.length = st.boxes.length := fun {S S'} => by
    rw [calm0_box]
    exact hbl _ (hcle S)
  have key := calm_anyJ (P := C.P) hBk (Q := lift C E Q) J (fun S S' a w hS hJ => by
    obtain ⟨β, hJ⟩ := hJ
    exact ⟨β, hcg S S' hS ▸ hJ⟩) ?_ ?_ n (Array.replicate ops.size false) a0 { w0 with drawn := w0.drawn + 1 } (by simp) (fun j hj hj' => by simp [Array.getD_eq_getD_getElem?, hj']) ?_ (fun j k hj hk h3 _ => ?_) ?_
  · rw [show n + (ops.size - n) = ops.size by omega] at key
    exact key
  · intro S i hi hS hdeps hcl K a w ⟨β, H⟩ hK
    have hfront : ∀ q s, stores[q]? = some s → (S s = true ↔ q < cntS stores S) := cnt_front stores fun q i j h1 h2 h3 => rch_in hcl f j i (hsn j (List.mem_of_getElem? h2)) (hsn i (List.mem_of_getElem? h1)) (hchain q i j h1 h2) h3
    have hdi := List.all_eq_true.1 hd i (List.mem_range.2 hi)
    obtain ⟨Hs, hok⟩ := H.weak (st' := (sbx st bxs (cntS stores S)).calm ops n rs [] (calmWaits ops i)) (fun p hp => by
      rcases calm_mem.1 hp with ⟨j, h1, h2, h3, h4⟩ | h1
      · exact calm_mem.2 (.inl ⟨j, h1, hdeps j h1 h2, h3, h4⟩)
      · exact calm_mem.2 (.inr h1)) (by rw [hlenS, hlenS]) (fun k b hk => by
      rw [calm0_box] at hk ⊢
      exact .inr hk)
    cases hsi : stores.contains i with
    | false =>
      rw [hsi] at hdi
      obtain ⟨o, ho, hop⟩ := hstep i hi hsi (cntS stores S) (hcle S) (fun q s hq hr => (hfront q s hq).1 (rch_deps hcl hdeps f s (hsn s (List.mem_of_getElem? hq)) hr)) (fun q s hq hr => by
        rcases Nat.lt_or_ge q (cntS stores S) with hlt | hge
        · have := rch_in hcl f s i (hsn s (List.mem_of_getElem? hq)) hi hr ((hfront q s hq).2 hlt)
          rw [hS] at this; cases this
        · exact hge)
      have hdo : dstOf ops i = o.dst := by unfold dstOf; rw [ho]; rfl
      rw [hdo] at hdi
      obtain ⟨d, hdd⟩ : ∃ d, o.dst = some d := by
        cases hdd : o.dst with
        | none => rw [hdd] at hdi; simp at hdi
        | some d => exact ⟨d, rfl⟩
      rw [hdd] at hdi
      have hdlt : d < E.nt := by simpa using hdi
      have hcS : cntS stores (fun j => S j || j == i) = cntS stores S := by
        unfold cntS
        rw [List.filter_congr fun j hj => by
          have : j ≠ i := fun e => by subst e; rw [List.contains_iff_mem.2 hj] at hsi; cases hsi
          show (S j || j == i) = S j
          simp [this]]
      unfold wpOp
      simp only [ho]
      have hput : ∀ p ∈ ((sbx st bxs (cntS stores S)).calm ops n rs [] (fun j => S j || j == i)).slots, p ∈ (((sbx st bxs (cntS stores S)).calm ops n rs [] S).put d (rs.getD i .junk)).slots := by
        intro p hp
        show p ∈ (d, rs.getD i .junk) :: ((sbx st bxs (cntS stores S)).calm ops n rs [] S).slots.filter (fun p => p.1 != d)
        rcases calm_mem.1 hp with ⟨j, h1, h2, h3, h4⟩ | ⟨h1, h2⟩
        · by_cases e : j = i
          · subst e
            rw [hdo, hdd] at h3
            injection h3 with h3
            rw [h3, h4]
            exact List.mem_cons_self ..
          · refine List.mem_cons_of_mem _ (List.mem_filter.2 ⟨calm_mem.2 (.inl ⟨j, h1, ?_, h3, h4⟩), ?_⟩)
            · simpa [e] using h2
            · have hne : p.1 ≠ d := fun he => by
                have hnd := hdist
                unfold dstsN at hnd
                have := List.pairwise_filterMap.1 hnd
                rw [List.pairwise_iff_getElem] at this
                rcases Nat.lt_or_gt_of_ne e with hlt | hgt
                · have := this j i (by simpa using h1) (by simpa using hi) hlt p.1 (by simpa using h3) d (by simpa using hdo.trans hdd)
                  exact this he
                · have := this i j (by simpa using hi) (by simpa using h1) hgt d (by simpa using hdo.trans hdd) p.1 (by simpa using h3)
                  exact this he.symm
              simpa using hne
        · refine List.mem_cons_of_mem _ (List.mem_filter.2 ⟨calm_mem.2 (.inr ⟨h1, h2⟩), ?_⟩)
          have := h2 i hi
          rw [hdo, hdd] at this
          have : p.1 ≠ d := fun e => this (by rw [e])
          simpa using this
      have fin0 : ∀ {v : Value} {w' : World}, Holds C E β ((sbx st bxs (cntS stores S)).calm ops n rs [] S) a w' → (rs.getD i .junk).rep β (okB E β ((sbx st bxs (cntS stores S)).calm ops n rs [] S)) w' v → J (fun j => S j || j == i) (a.put o.dst v) w' := by
        intro v w' H' hr
        rw [hdd]
        have := (H'.put (d := d) hdlt hr (fun k hk => hrl i hi k (by rw [hlenS] at hk; exact hk))).sub hput
        refine ⟨β, ?_⟩
        rw [hcS]
        exact this
      rcases hop with ⟨hw, hy⟩ | ⟨hw, hj, hn⟩
      · rw [if_pos (wanted_of Hs hw)]
        refine .inl (hy _ β a w Hs (fun k bc hbx => by cases hbx) K _ fun v w' hbl hr => hK _ _ ?_)
        obtain ⟨hr1, _⟩ := hr
        rw [hok] at hr1
        exact fin0 (H.below hbl) hr1
      · rw [if_neg (by rw [unwanted_of Hs hw]; decide)]
        exact hK _ _ (fin0 H (by rw [hj]; rfl))
    | true =>
      have him := List.contains_iff_mem.1 hsi
      obtain ⟨q, hq⟩ := List.mem_iff_getElem?.1 him
      have hcq : cntS stores S = q := by
        have h1 : ¬ q < cntS stores S := fun h => by have := (hfront q i hq).2 h; rw [hS] at this; cases this
        rcases Nat.lt_or_ge (cntS stores S) q with hlt | hge
        · exfalso
          have hql := (List.getElem?_eq_some_iff.1 hq).1
          obtain ⟨s, hs⟩ : ∃ s, stores[q - 1]? = some s := ⟨stores[q - 1]'(by omega), List.getElem?_eq_getElem _⟩
          have h2 := hchain (q - 1) s i hs (by rw [show q - 1 + 1 = q by omega]; exact hq)
          have h3 := rch_deps hcl hdeps f s (hsn s (List.mem_of_getElem? hs)) h2
          have := (hfront (q - 1) s hs).1 h3
          omega
        · omega
      have hcS : cntS stores (fun j => S j || j == i) = q + 1 := by
        have hin : ∀ (l : List Nat), l.Nodup → i ∈ l → S i = false → (l.filter fun j => S j || j == i).length = (l.filter S).length + 1 := by
          intro l
          induction l with
          | nil => intro _ h; cases h
          | cons s l ih =>
            intro hnd hmem hSi
            rw [List.nodup_cons] at hnd
            by_cases e : s = i
            · subst e
              have hrest : l.filter (fun j => S j || j == s) = l.filter S := List.filter_congr fun j hj => by
                have : j ≠ s := fun e => by subst e; exact hnd.1 hj
                show (S j || j == s) = S j
                simp [this]
              rw [List.filter_cons_of_pos (by simp), List.filter_cons_of_neg (by rw [hSi]; decide), hrest]
              rfl
            · have hm2 : i ∈ l := by
                rcases List.mem_cons.1 hmem with h | h
                · exact absurd h.symm e
                · exact h
              have := ih hnd.2 hm2 hSi
              by_cases hs : S s = true
              · rw [List.filter_cons_of_pos (by simp [hs]), List.filter_cons_of_pos hs, List.length_cons, List.length_cons, this]
              · rw [List.filter_cons_of_neg (by simp [hs, e]), List.filter_cons_of_neg hs, this]
        have := hin stores hsd him hS
        unfold cntS at hcq ⊢
        omega
      obtain ⟨o, t, x, y, bi, off, tb, cs, k, r, ho, hw, hop, hod, hx, hbx, hin, hwh, hkl, hol, hnx⟩ := (hsto q i hq).ex
      rw [hcq] at H Hs hok
      unfold wpOp
      simp only [ho]
      rw [if_pos (wanted_of Hs hw)]
      refine .inl (store_core H Hs hok (by rw [calm0_box, calm0_box]) hop hod hx (by rw [calm0_box]; exact hbx) hin hwh rfl hkl hol rfl fun w' H' => hK _ _ ?_)
      refine ⟨β, ?_⟩
      rw [hcS]
      have hdo : dstOf ops i = none := by unfold dstOf; rw [ho]; exact hod
      have e : (sbx st bxs (q + 1)).calm ops n rs [] (fun j => S j || j == i) = { (((sbx st bxs q).calm ops n rs [] S).setBox bi (.cells tb (cs.take off ++ (((sbx st bxs q).calm ops n rs [] (calmWaits ops i)).look y).cellsA ++ cs.drop (off + k)))) with slots := ((sbx st bxs (q + 1)).calm ops n rs [] (fun j => S j || j == i)).slots } := by
        have h1 : ((sbx st bxs (q + 1)).calm ops n rs [] (fun j => S j || j == i)).boxes = (((sbx st bxs q).calm ops n rs [] S).setBox bi (.cells tb (cs.take off ++ (((sbx st bxs q).calm ops n rs [] (calmWaits ops i)).look y).cellsA ++ cs.drop (off + k)))).boxes := by
          rw [calm0_box]
          show bxs.getD (q + 1) [] = ((sbx st bxs q).calm ops n rs [] S).boxes.set bi _
          rw [calm0_box]
          exact hnx
        cases h2 : (sbx st bxs (q + 1)).calm ops n rs [] (fun j => S j || j == i)
        rw [h2] at h1
        simp only at h1
        rw [h1]
      rw [e]
      refine H'.sub fun p hp => ?_
      show p ∈ ((sbx st bxs q).calm ops n rs [] S).slots
      rcases calm_mem.1 hp with ⟨j, h1, h2, h3, h4⟩ | h1
      · by_cases e : j = i
        · subst e; rw [hdo] at h3; cases h3
        · exact calm_mem.2 (.inl ⟨j, h1, by simpa [e] using h2, h3, h4⟩)
      · exact calm_mem.2 (.inr h1)
  · intro a w ⟨β, H⟩
    have hfull : cntS stores (fun _ => true) = stores.length := by unfold cntS; rw [List.filter_eq_self.2 fun _ _ => rfl]
    rw [hfull] at H
    have := h β a w H
    have e := wpOps_eq_wpList (P := C.P) (ops := ops) (Q := lift C E Q) (ops.toList.drop n) n (fun j => by rw [List.getElem?_drop, Array.getElem?_toList])
    rw [List.length_drop, Array.length_toList] at e
    rw [e]
    exact this
  · have : ((List.range n).filter fun j => !(Array.replicate ops.size false).getD j true) = List.range n := List.filter_eq_self.2 fun j hj => by
      rw [List.mem_range] at hj
      have : j < ops.size := by omega
      simp [Array.getD_eq_getD_getElem?, this]
    rw [this, List.length_range]
  · exfalso
    have : j < ops.size := by omega
    simp [Array.getD_eq_getD_getElem?, this] at h3
  · refine ⟨β0, ?_⟩
    have hw : Holds C E β0 st a0 { w0 with drawn := w0.drawn + 1 } := H0.below ⟨⟨rfl, rfl, rfl, Nat.le_refl _, fun _ _ => rfl⟩, fun _ => Nat.le_succ _⟩
    rw [hcg _ (fun _ => false) (fun j hj => by
      have : j < ops.size := by omega
      simp [Array.getD_eq_getD_getElem?, this])]
    have h0 : cntS stores (fun _ => false) = 0 := by unfold cntS; rw [List.filter_eq_nil_iff.2 fun _ _ => by decide]; rfl
    rw [h0]
    have := hw.sub (sl := ((sbx st bxs 0).calm ops n rs [] (fun _ => false)).slots) (fun p hp => by
      rcases calm_mem.1 hp with ⟨j, _, h2, _⟩ | ⟨h1, _⟩
      · cases h2
      · exact h1)
    have e : (sbx st bxs 0).calm ops n rs [] (fun _ => false) = { st with slots := ((sbx st bxs 0).calm ops n rs [] (fun _ => false)).slots } := by
      have h1 : ((sbx st bxs 0).calm ops n rs [] (fun _ => false)).boxes = st.boxes := by rw [calm0_box]; exact hb0
      cases h2 : (sbx st bxs 0).calm ops n rs [] (fun _ => false)
      rw [h2] at h1
      simp only at h1
      rw [h1]
    rw [e]
    exact this
end
def chainB (ops : Array Oper) (n f : Nat) : List Nat → Bool
  | a :: b :: l => rch ops n f b a && chainB ops n f (b :: l)
  | _ => true
theorem chain_at {ops : Array Oper} {n f : Nat} : ∀ {l : List Nat}, chainB ops n f l = true → ∀ q i j, l[q]? = some i → l[q + 1]? = some j → rch ops n f j i = true
  | [], _, q, i, j, h, _ => by simp at h
  | [a], _, q, i, j, _, h => by simp at h
  | a :: b :: l, hc, 0, i, j, h1, h2 => by
    simp only [chainB, Bool.and_eq_true] at hc
    have e1 : a = i := by simpa using h1
    have e2 : b = j := by simpa using h2
    rw [← e1, ← e2]
    exact hc.1
  | a :: b :: l, hc, q + 1, i, j, h1, h2 => by
    simp only [chainB, Bool.and_eq_true] at hc
    exact chain_at hc.2 q i j (by simpa using h1) (by simpa using h2)
def planAt (plan : List (List Nat)) (i : Nat) : List Nat := match nthA plan i with
  | some l => l
  | none => []
/-- Where an operation may come up: as told, or not at all. -/
def covB (ops : Array Oper) (n f : Nat) (stores : List Nat) (plan : List (List Nat)) : Bool := (List.range n).all fun i => stores.contains i || (List.range (stores.length + 1)).all fun m => (planAt plan i).contains m || (List.range stores.length).any fun q => match stores[q]? with
  | some s => (rch ops n f i s && decide (m ≤ q)) || (rch ops n f s i && decide (q < m))
  | none => false
structure DrawSOk (X : RX) (ops : Array Oper) (n f : Nat) (stores : List Nat) (plan : List (List Nat)) (ws : List (List (Nat × Nat))) (ds : List Nat) (wa : List (Nat × Nat)) : Prop where
  B : calmB n ops = true
  d : ((List.range n).all fun i => match dstOf ops i with | some d => Nat.blt d X.nt && !stores.contains i | none => stores.contains i) = true
  w : (List.range n).map (wtsOf ops n) = ws
  dd : dstsN ops n = ds
  nd : ds.Nodup
  wa : allW ops n = wa
  sz : Nat.ble n ops.toList.length = true
  sn : (stores.all fun i => Nat.blt i n) = true
  sd : stores.Nodup
  ch : chainB ops n f stores = true
  cov : covB ops n f stores plan = true
def allM (p : Nat → Prop) : List Nat → Prop
  | [] => True
  | m :: l => p m ∧ allM p l
theorem allM_at {p : Nat → Prop} : ∀ {l : List Nat}, allM p l → ∀ m ∈ l, p m
  | a :: l, h, m, hm => by
    rcases List.mem_cons.1 hm with rfl | hm
    · exact h.1
    · exact allM_at h.2 m hm
def stoS (X : RX) (o : Oper) (s : St) (K : List BoxC → Prop) : Prop := match o.guard with
  | some _ => False
  | none => match o.op with
    | .store t x y => (match o.dst with
      | none => (match lk s x with
        | .ptr i off => optR (look1 t X.T.lod) fun q => whenB (lk s y).whole <| whenB (lenIs q.1 (lk s y).cellsA) <| match nthA s.boxes i with
          | some (.cells tb cs) => whenB (leB (off + q.1) cs) (K (s.boxes.set i (.cells tb (cs.take off ++ (lk s y).cellsA ++ cs.drop (off + q.1)))))
          | _ => False
        | _ => False)
      | some _ => False)
    | _ => False
def opsS (X : RX) (C : Ctx) (ops : List Oper) (st : St) (bxs : List (List BoxC)) (ds : List Nat) (rs : List AV) (plan : List (List Nat)) (stores : List Nat) : List Oper → List (List (Nat × Nat)) → Nat → Nat → Prop
  | [], _, _, _ => True
  | _ :: _, [], _, _ => False
  | o :: os, w :: ws, i, q => match memB i stores with
    | true => stoS X o (calmG (sbx st bxs q) ds [] w rs []) (fun bs => bxs.getD (q + 1) [] = bs) ∧ opsS X C ops st bxs ds rs plan stores os ws (i + 1) (q + 1)
    | false => allM (fun m => drwC X C ops o (calmG (sbx st bxs m) ds [] w rs []) fun x => getA rs i = x) (planAt plan i) ∧ opsS X C ops st bxs ds rs plan stores os ws (i + 1) q
section
variable {X : RX} {C : Ctx} {E : Env} (hX : RXok X C E) {ops : Array Oper} {Q : AQ} {st : St} {ds : List Nat}
theorem opsS_at {bxs : List (List BoxC)} {rs : List AV} {plan : List (List Nat)} {stores : List Nat} : ∀ (os : List Oper) (ws : List (List (Nat × Nat))) (i q : Nat), opsS X C ops.toList st bxs ds rs plan stores os ws i q → ∀ (k : Nat) (o : Oper) (w : List (Nat × Nat)), os[k]? = some o → ws[k]? = some w → match memB (i + k) stores with
    | true => stoS X o (calmG (sbx st bxs (q + ((List.range' i k).filter fun j => memB j stores).length)) ds [] w rs []) (fun bs => bxs.getD (q + ((List.range' i k).filter fun j => memB j stores).length + 1) [] = bs)
    | false => allM (fun m => drwC X C ops.toList o (calmG (sbx st bxs m) ds [] w rs []) fun x => getA rs (i + k) = x) (planAt plan (i + k))
  | [], _, _, _, _, k, o, w, h, _ => by simp at h
  | _ :: _, [], _, _, h, _, _, _, _, _ => h.elim
  | o :: os, w :: ws, i, q, h, 0, o', w', ho, hw => by
    have e1 : o = o' := by simpa using ho
    have e2 : w = w' := by simpa using hw
    subst e1; subst e2
    rw [opsS] at h
    simp only [Nat.add_zero, List.range'_zero, List.filter_nil, List.length_nil]
    cases hm : memB i stores with
    | true => rw [hm] at h; exact h.1
    | false => rw [hm] at h; exact h.1
  | o :: os, w :: ws, i, q, h, k + 1, o', w', ho, hw => by
    rw [opsS] at h
    have ho : os[k]? = some o' := by simpa using ho
    have hw : ws[k]? = some w' := by simpa using hw
    rw [List.range'_succ]
    cases hm : memB i stores with
    | true =>
      rw [hm] at h
      have := opsS_at os ws (i + 1) (q + 1) h.2 k o' w' ho hw
      rw [List.filter_cons_of_pos (by rw [hm])]
      rw [show i + 1 + k = i + (k + 1) by omega] at this
      rw [List.length_cons, show q + (((List.range' (i + 1) k).filter fun j => memB j stores).length + 1) = q + 1 + ((List.range' (i + 1) k).filter fun j => memB j stores).length by omega]
      exact this
    | false =>
      rw [hm] at h
      have := opsS_at os ws (i + 1) q h.2 k o' w' ho hw
      rw [List.filter_cons_of_neg (by rw [hm]; decide)]
      rw [show i + 1 + k = i + (k + 1) by omega] at this
      exact this
theorem stoS_dest {o : Oper} {s : St} {K : List BoxC → Prop} (h : stoS X o s K) : ∃ t x y i off q tb cs, o.guard = none ∧ o.op = .store t x y ∧ o.dst = none ∧ lk s x = .ptr i off ∧ look1 t X.T.lod = some q ∧ (lk s y).whole = true ∧ (lk s y).cellsA.length = q.1 ∧ s.boxes[i]? = some (.cells tb cs) ∧ off + q.1 ≤ cs.length ∧ K (s.boxes.set i (.cells tb (cs.take off ++ (lk s y).cellsA ++ cs.drop (off + q.1)))) := by
  unfold stoS at h
  split at h
  · exact h.elim
  · rename_i hg
    split at h
    · rename_i t x y ho
      split at h
      · rename_i hd
        split at h
        · rename_i i off hx
          obtain ⟨q, h1, h2⟩ := optR_dest h
          obtain ⟨h3, h4⟩ := whenB_dest h2
          obtain ⟨h5, h6⟩ := whenB_dest h4
          split at h6
          · rename_i tb cs hb
            rw [nthA_eq] at hb
            obtain ⟨h7, h8⟩ := whenB_dest h6
            exact ⟨t, x, y, i, off, q, tb, cs, hg, ho, hd, hx, h1, h3, lenIs_eq h5, hb, leB_le h7, h8⟩
          · exact h6.elim
        · exact h.elim
      · exact h.elim
    · exact h.elim
/-- Stores in the order of their numbers. -/
def ascB : List Nat → Bool
  | a :: b :: l => Nat.blt a b && ascB (b :: l)
  | _ => true
theorem asc_count : ∀ (stores : List Nat) (i0 q i : Nat), ascB stores = true → (∀ s ∈ stores, i0 ≤ s) → stores[q]? = some i → ((List.range' i0 (i - i0)).filter fun j => memB j stores).length = q
  | [], _, _, _, _, _, h => by simp at h
  | a :: l, i0, q, i, ha, hl, h => by
    have hal : i0 ≤ a := hl a (List.mem_cons_self ..)
    have hasc : ∀ s ∈ l, a < s := by
      clear h hl hal
      induction l generalizing a with
      | nil => intro s hs; cases hs
      | cons b l ih =>
        simp only [ascB, Bool.and_eq_true] at ha
        have hab : a < b := by simpa using ha.1
        intro s hs
        rcases List.mem_cons.1 hs with rfl | hs
        · exact hab
        · have := ih b ha.2 s hs
          omega
    have ha' : ascB l = true := by
      cases l with
      | nil => rfl
      | cons b l => simp only [ascB, Bool.and_eq_true] at ha; exact ha.2
    cases q with
    | zero =>
      have e : a = i := by simpa using h
      subst e
      rw [List.length_eq_zero_iff, List.filter_eq_nil_iff]
      intro j hj
      rw [List.mem_range'] at hj
      obtain ⟨k, hk, rfl⟩ := hj
      intro hm
      have := memB_iff.1 hm
      rcases List.mem_cons.1 this with h1 | h1
      · omega
      · have := hasc _ h1
        omega
    | succ q =>
      have hq : l[q]? = some i := by simpa using h
      have hai : a < i := hasc i (List.mem_of_getElem? hq)
      have ih := asc_count l (a + 1) q i ha' (fun s hs => hasc s hs) hq
      have e : List.range' i0 (i - i0) = List.range' i0 (a - i0) ++ a :: List.range' (a + 1) (i - (a + 1)) := by
        rw [show i - i0 = (a - i0) + (1 + (i - (a + 1))) by omega, ← List.range'_append, Nat.one_mul, show i0 + (a - i0) = a by omega, Nat.add_comm 1, List.range'_succ]
      have e1 : (List.range' i0 (a - i0)).filter (fun j => memB j (a :: l)) = [] := by
        rw [List.filter_eq_nil_iff]
        intro j hj
        rw [List.mem_range'] at hj
        obtain ⟨k, hk, rfl⟩ := hj
        intro hm
        rcases List.mem_cons.1 (memB_iff.1 hm) with h1 | h1
        · omega
        · have := hasc _ h1
          omega
      have e2 : (List.range' (a + 1) (i - (a + 1))).filter (fun j => memB j (a :: l)) = (List.range' (a + 1) (i - (a + 1))).filter (fun j => memB j l) := List.filter_congr fun j hj => by
        rw [List.mem_range'] at hj
        obtain ⟨k, hk, rfl⟩ := hj
        rw [Bool.eq_iff_iff, memB_iff, memB_iff, List.mem_cons]
        constructor
        · rintro (h1 | h1)
          · omega
          · exact h1
        · exact .inr
      rw [e, List.filter_append, e1, List.nil_append, List.filter_cons_of_pos (by rw [memB_iff]; exact List.mem_cons_self ..), e2, List.length_cons, ih]
include hX in
theorem W_drawS {id n : Nat} (hm : C.P.follows .mixedOrders = true) (f : Nat) (rs : List AV) (bxs : List (List BoxC)) (stores : List Nat) (plan : List (List Nat)) {ws : List (List (Nat × Nat))} {ds : List Nat} {wa : List (Nat × Nat)} (hD : DrawSOk X ops n f stores plan ws ds wa) (hasc : ascB stores = true) (hb0 : bxs.getD 0 [] = st.boxes) (hbl : (bxs.all fun b => Nat.beq b.length st.boxes.length) = true) (hbm : Nat.blt stores.length bxs.length = true) (hrl : allB (fun x => Nat.ble x.maxB st.boxes.length) rs = true)
    (hops : opsS X C ops.toList st bxs ds rs plan stores (ops.toList.take n) ws 0 0) (h : forceSt (calmG (sbx st bxs stores.length) ds [] wa rs []) fun s => runR X C ops.toList (dropF n ops.toList) s fun st => Q .normal st) : W X C E (.region id ops true) Q st := by
  obtain ⟨hB, hd, hw, hdd, hnd, hwa, hsz, hsn, hsd, hch, hcov⟩ := hD
  have hsz := Nat.le_of_ble_eq_true hsz
  have hwl : ws.length = n := by rw [← hw]; simp
  have hwi : ∀ i, i < n → ws[i]? = some (wtsOf ops n i) := fun i hi => by rw [← hw]; simp [hi]
  have hsn' : ∀ i ∈ stores, i < n := fun i hi => by simpa using List.all_eq_true.1 hsn i hi
  have hbm : stores.length < bxs.length := by simpa using hbm
  have hcalm : ∀ (m i : Nat), (sbx st bxs m).calm ops n rs [] (calmWaits ops i) = calmG (sbx st bxs m) ds [] (wtsOf ops n i) rs [] := fun m i => by
    have := calm_wts (ops := ops) (st := sbx st bxs m) (bi := []) (n := n) (i := i) (rs := rs) (bs := []) rfl List.nodup_nil (fun p hp => by cases hp)
    rw [hdd] at this
    exact this
  rw [forceSt_iff] at h
  refine ⟨AW_drawS (n := n) rs bxs stores hm hB ?_ (by rw [hdd]; exact hnd) hsn' hsd f (chain_at hch) hb0 (fun m hml => ?_) (fun i hi k hk => ?_) (fun i hi hsi m hml h1 h2 => ?_) (fun q i hq => ?_) ?_⟩
  · refine List.all_eq_true.2 fun i hi => ?_
    have := List.all_eq_true.1 hd i hi
    cases hdi : dstOf ops i with
    | none => rw [hdi] at this; exact this
    | some d =>
      rw [hdi] at this
      simp only [Bool.and_eq_true] at this ⊢
      refine ⟨?_, this.2⟩
      rw [hX.nt]
      simpa using this.1
  · have hml' : m < bxs.length := by omega
    have := List.all_eq_true.1 hbl (bxs[m]) (List.getElem_mem _)
    rw [List.getD_eq_getElem?_getD, List.getElem?_eq_getElem hml']
    simpa using this
  · rw [List.getD_eq_getElem?_getD]
    cases hr : rs[i]? with
    | none => rfl
    | some x => exact maxB_avoids _ (Nat.le_trans (Nat.le_of_ble_eq_true (allB_mem hrl x (List.mem_of_getElem? hr))) hk)
  · obtain ⟨o, ho⟩ : ∃ o, ops[i]? = some o := ⟨ops[i]'(by simp at hsz; omega), Array.getElem?_eq_getElem _⟩
    have ho' : (ops.toList.take n)[i]? = some o := by rw [List.getElem?_take, if_pos hi, Array.getElem?_toList]; exact ho
    have hmi : memB i stores = false := by
      cases hq : memB i stores with
      | false => rfl
      | true => rw [List.contains_iff_mem.2 (memB_iff.1 hq)] at hsi; cases hsi
    have hat := opsS_at _ _ _ _ hops i o _ ho' (hwi i hi)
    rw [Nat.zero_add, hmi] at hat
    have hcv := List.all_eq_true.1 hcov i (List.mem_range.2 hi)
    rw [hsi, Bool.false_or] at hcv
    have hcv := List.all_eq_true.1 hcv m (List.mem_range.2 (by omega))
    rw [Bool.or_eq_true] at hcv
    rcases hcv with hcv | hcv
    · obtain ⟨x, hg, hx⟩ := drwC_sound hX (allM_at hat m (List.contains_iff_mem.1 hcv))
      rw [getA_eq] at hx
      subst hx
      exact ⟨o, ho, by rw [hcalm]; exact hg⟩
    · exfalso
      obtain ⟨q, hq, hcv⟩ := List.any_eq_true.1 hcv
      have hql := List.mem_range.1 hq
      rw [List.getElem?_eq_getElem hql] at hcv
      simp only [Bool.or_eq_true, Bool.and_eq_true, decide_eq_true_eq] at hcv
      rcases hcv with ⟨h3, h4⟩ | ⟨h3, h4⟩
      · have := h1 q _ (List.getElem?_eq_getElem hql) h3
        omega
      · have := h2 q _ (List.getElem?_eq_getElem hql) h3
        omega
  · have hin := hsn' i (List.mem_of_getElem? hq)
    obtain ⟨o, ho⟩ : ∃ o, ops[i]? = some o := ⟨ops[i]'(by simp at hsz; omega), Array.getElem?_eq_getElem _⟩
    have ho' : (ops.toList.take n)[i]? = some o := by rw [List.getElem?_take, if_pos hin, Array.getElem?_toList]; exact ho
    have hmi : memB i stores = true := memB_iff.2 (List.mem_of_getElem? hq)
    have hat := opsS_at _ _ _ _ hops i o _ ho' (hwi i hin)
    rw [Nat.zero_add, hmi] at hat
    have hcnt := asc_count stores 0 q i hasc (fun s _ => Nat.zero_le _) hq
    rw [Nat.sub_zero] at hcnt
    rw [hcnt, Nat.zero_add] at hat
    obtain ⟨t, x, y, bi, off, qq, tb, cs, hg, hop, hod, hx, hlo, hwh, hle, hbx, hol, hk⟩ := stoS_dest hat
    rw [← hcalm] at hx hwh hle hbx hk
    rw [calm0_box] at hbx hk
    rw [lk_eq] at hx hwh hle hk
    exact ⟨o, t, x, y, bi, off, tb, cs, qq.1, qq.2, ho, .inl hg, hop, hod, hx, hbx, hX.T.lod_at hlo, hwh, hle, hol, hk⟩
  · have := calm_all (ops := ops) (st := sbx st bxs stores.length) (bi := []) (n := n) (rs := rs) (bs := []) rfl List.nodup_nil (fun p hp => by cases hp)
    rw [hdd, hwa] at this
    rw [this]
    rw [dropF_eq] at h
    exact runR_sound hX _ _ _ (fun _ h => h) h
end
section
variable {X : RX} {C : Ctx} {E : Env} (hX : RXok X C E) {ops : Array Oper} {rest : List Oper} {o o2 : Oper} {Q : AQ} {st : St}
include hX
/-- One operation of a region ahead of the others. -/
theorem AL_first (h : runR X C ops.toList [o] st fun s => AL C E ops rest Q s) : AL C E ops (o :: rest) Q st := by
  rw [runR] at h
  exact guardR_dest h (fun hw h' => stepR_sound hX hw h' fun st h => h) (fun hw h' => AL_skp hX hw h' fun st h => h)
/-- Bytes of a literal. -/
theorem AL_lit2R {t e len d d2 : Nat} {zs : List Value} {parts : Array (Nat × Operand)} (els : List (List AV)) (hg : o.guard = none) (hg2 : o2.guard = none) (ho : o.op = .buildSlice t len parts) (hd : o.dst = some d) (ho2 : o2.op = .convert t t (.tmp d)) (hd2 : o2.dst = some d2) (hne : d2 ≠ d) (hlt : Nat.blt d X.nt = true) (hlt2 : Nat.blt d2 X.nt = true) (hs : look1 t X.T.sls = some (e, 1, zs)) (hb : look1 t X.T.byt = some e) (h0 : Nat.blt 0 len = true) (hsz : Nat.ble len 16777216 = true)
    (hf : fillA (fun i => some (i * 1, 1)) ((List.range (len * 1)).map (fun i => AV.v (zs[i % 1]!))) (parts.toList.map fun p => (p.1, st.look p.2)) = some els.flatten) (hel : ∀ l ∈ els, l.length = 1) (hlen : els.length = len) (hcl : ∀ i, avoidsLL i els = true)
    (h : forceSt ((st.put d .junk).put d2 (.row 1 els)) fun s => AL C E ops rest Q s) : AL C E ops (o :: o2 :: rest) Q st := by
  rw [forceSt_iff] at h
  have h0 : 0 < len := by simpa using h0
  have hsz := Nat.le_of_ble_eq_true hsz
  exact AL_lit2 hg hg2 ho hd ho2 hd2 hne (by rw [hX.nt]; simpa using hlt) (by rw [hX.nt]; simpa using hlt2) (AllP_mem hX.T.sls _ (look1_mem hs)) (AllP_mem hX.T.byt _ (look1_mem hb)).2 h0 (by rw [Nat.mul_one]; exact hsz) hf hel hlen hcl h
theorem AL_run (h : runR X C ops.toList rest st fun s => Q .normal s) : AL C E ops rest Q st := runR_sound hX rest st _ (fun _ h => h) h
end
/-! What the driver settles by itself. -/
theorem closedE_of {α : Type} {f : α → List AV} (h : ∀ i x, AV.avoidsL i (f x) = true) (l : List α) : ClosedE (l.map f) := fun i => avoidsLL_map (h i) l
theorem andA {p q : Prop} (h2 : q) (h : p := by first | exact True.intro | exact ⟨True.intro, True.intro, True.intro, True.intro⟩ | exact ⟨whenB_i (by kernel_rfl), whenB_i (by kernel_rfl), whenB_i (by kernel_rfl), whenB_i (by kernel_rfl)⟩ | omega | exact rfl | exact fun _ => rfl | exact closedE_of (fun _ _ => rfl) _ | assumption | (simp only [bytesA_len, List.length_map, List.length_append, List.length_take, List.length_cons, List.length_nil, maxLen, ByteArray.size_append] <;> omega) | exact ⟨closedE_of (fun _ _ => rfl) _, True.intro⟩ | exact ⟨closedE_of (fun _ _ => rfl) _, closedE_of (fun _ _ => rfl) _, True.intro⟩) : p ∧ q := ⟨h, h2⟩
theorem condT {c : Bool} {A B : Prop} (h2 : A) (h : c = true := by first | assumption | (simp only [Bool.not_eq_true', Bool.not_eq_false', decide_eq_true_eq, decide_eq_false_iff_not]; first | assumption | omega)) : condB c A B := condB_true h h2
theorem condF {c : Bool} {A B : Prop} (h2 : B) (h : c = false := by first | assumption | (simp only [Bool.not_eq_true', Bool.not_eq_false', decide_eq_true_eq, decide_eq_false_iff_not]; first | assumption | omega)) : condB c A B := condB_false h h2
theorem exL {α γ : Type} {f : α → γ} {l : List α} {K : Nat → Prop} (h : K l.length) : ∃ n, (l.map f).length = n ∧ K n := ⟨_, List.length_map _, h⟩
theorem exB {s : ByteArray} {K : Nat → Prop} (h : K s.size) : ∃ n, (bytesA s).length = n ∧ K n := ⟨_, bytesA_len _, h⟩
theorem exR {α : Type} {a : α} {K : α → Prop} (h : K a) : ∃ n, a = n ∧ K n := ⟨_, rfl, h⟩
end Go.Proofs.YtnfbomhhgjlacaaDoor.Abs
