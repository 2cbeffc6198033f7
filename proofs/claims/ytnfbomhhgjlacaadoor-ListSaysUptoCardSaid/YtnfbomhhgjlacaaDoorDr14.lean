/- Walks by computing: append of zeros. -/
import Derived.Test.YtnfbomhhgjlacaaDoorDr12
import Derived.Lib.AppendZerosOnto
namespace Go.Proofs.YtnfbomhhgjlacaaDoor.Abs
open Go.RowKit Go.MapKept
set_option linter.unusedVariables false
set_option linter.unusedSimpArgs false
theorem zeroCells_one (zv : Value) (m : Nat) : (Builtin.zeroCells #[zv] m).toList = List.replicate m zv := by
  apply List.ext_getElem?
  intro k
  simp [Builtin.zeroCells, List.getElem?_replicate, List.getElem?_map, Nat.mod_one]
  by_cases h : k < m
  · simp [h]
  · simp [h]
theorem run_append_absZ {dr : Bool} {P : Program} {w : World} {T U ty t : TypeId} {i : TypeInfo} {zv : Value} {ku kn : IntKind} (ht : P.underlying T = some (.slice t)) (hU : P.underlying U = some (.int kn)) (hi : P.info? t = some i) (hz : i.zero = some zv) (hs : i.size = 1) (hc : zv.cells = #[zv]) (h1 : zv.oneCell' = true)
    {v : Value} {n m : Nat} {xs : List Value} (hv : OwnV w t i.size v n xs) (hb : (n + m) * i.bytes ≤ 140737488355328) (h63 : n + m ≤ maxLen) :
    ∃ v' w', (Builtin.append_ #[T, U] ty #[v, .int ku (m : Int)]).run P w = .ok v' w' ∧ OwnV w' t i.size v' (n + m) (xs ++ List.replicate m zv) ∧
      ((v' = v ∧ w' = w ∧ m = 0) ∨ (∃ b cap cap', v = .slice (some ⟨b, 0, none⟩) n cap ∧ v' = .slice (some ⟨b, 0, none⟩) (n + m) cap' ∧ Turned b w w' ∧ w'.shape? b = w.shape? b) ∨ (∃ cap', v' = .slice (some ⟨w.heap.size, 0, none⟩) (n + m) cap' ∧ BelowD dr w.heap.size w w' ∧ w.heap.size < w'.heap.size)) := by
  have h63' : ((n + m : Nat) : Int) ≤ 9223372036854775807 := by have h := h63; simp [maxLen] at h; omega
  have hw : IntKind.i64.wrap (m : Int) = m := by rw [IntKind.wrap_i64]; omega
  have hmb : m * i.bytes ≤ 140737488355328 := Nat.le_trans (Nat.mul_le_mul_right _ (Nat.le_add_left m n)) hb
  have h48i : ¬ (281474976710656 < (m : Int) * (i.bytes : Int)) := by
    rw [← Int.natCast_mul]
    omega
  have hneg : ¬ ((m : Int) < 0) := by omega
  rcases Nat.eq_zero_or_pos m with hm | hm
  · subst hm
    refine ⟨v, w, ?_, by simpa using hv, .inl ⟨rfl, rfl, rfl⟩⟩
    have hw0 : IntKind.i64.wrap (0 : Int) = 0 := hw
    rcases hv with ⟨rfl, rfl, rfl⟩ | ⟨b, cap, cur, rfl, _, h, _⟩
    · simp [Builtin.append_, run_underlying ht, run_underlying hU, sizeOf, typeInfo, hi, asInt, asIntOf, hw0]
    · simp [Builtin.append_, run_underlying ht, run_underlying hU, sizeOf, typeInfo, hi, asInt, asIntOf, hw0, h, storeCells]
  · have mk : ∀ (old : Nat), ∀ (os : List Value), os.length = n * i.size → OwnV (w.drew.alloc (.cells (os.toArray ++ Builtin.zeroCells zv.cells m ++ Builtin.zeroCells zv.cells (grownCap w (n + m) old t - (n + m))) t)) t i.size (.slice (some ⟨w.heap.size, 0, none⟩) (n + m) (grownCap w (n + m) old t)) (n + m) (os ++ List.replicate m zv) ∧ BelowD dr w.heap.size w (w.drew.alloc (.cells (os.toArray ++ Builtin.zeroCells zv.cells m ++ Builtin.zeroCells zv.cells (grownCap w (n + m) old t - (n + m))) t)) ∧ w.heap.size < (w.drew.alloc (.cells (os.toArray ++ Builtin.zeroCells zv.cells m ++ Builtin.zeroCells zv.cells (grownCap w (n + m) old t - (n + m))) t)).heap.size := by
      intro old os hos
      have hge := grownCap_ge w (n + m) old t
      have hcm := grownCap_le_maxLen w (n + m) old t h63
      have hlen : (os ++ List.replicate m zv).length = (n + m) * i.size := by rw [List.length_append, hos, List.length_replicate, hs]; omega
      refine ⟨.inr ⟨_, _, _, rfl, .of (heap_alloc_new w.drew _), hge, hcm, ?_, ?_, hlen⟩, (below_drew' w).alloc (Nat.le_refl _) _, by show w.heap.size < (w.drew.alloc _).heap.size; simp⟩
      · rw [hc, hs]
        simp only [← Array.length_toList, Array.toList_append, List.length_append, zeroCells_one, List.length_replicate]
        rw [hos, hs]
        omega
      · rw [hc]
        simp only [Array.toList_append, zeroCells_one]
        rw [← hlen]
        exact List.take_left
    rcases hv with ⟨rfl, rfl, rfl⟩ | ⟨b, cap, cur, rfl, hg, hnc, hcm, hcs, htake, hxl⟩
    · have hr := Go.Lib.run_append_nil_zeros (P := P) w T U ty t i zv ku kn ht hU hi hz m hm (by omega) (by simpa using h63') (by omega)
      obtain ⟨h2, h3, h4⟩ := mk 0 [] (by simp)
      simp only [Nat.zero_add, List.nil_append, Array.empty_append] at h2 h3 h4 ⊢
      exact ⟨_, _, hr, h2, .inr (.inr ⟨_, rfl, h3, h4⟩)⟩
    · by_cases hroom : n + m ≤ cap
      · have hcur : n + m ≤ cur.size := by rw [hcs, hs]; omega
        have hgR := hg
        obtain ⟨fz, hg, hfz⟩ := hg
        have hst := run_storeCells_cells (P := P) b n (List.replicate m zv) 0 w (fun j hj => by
          rw [List.length_replicate] at hj
          rw [cell_of_blk hg]
          have : n + (0 + j) < cur.toList.length := by rw [Array.length_toList]; omega
          simp at this ⊢
          omega) (fun j hj => hgR.frozen (by rw [List.length_replicate] at hj; omega)) (fun u hu => by rw [List.eq_of_mem_replicate hu]; exact h1)
        simp only [Nat.add_zero] at hst
        obtain ⟨hT, cur', g6, g7⟩ := setCells_blk (List.replicate m zv) n w cur hg (by rw [List.length_replicate]; exact hcur)
        have hlen : (xs ++ List.replicate m zv).length = (n + m) * i.size := by rw [List.length_append, hxl, List.length_replicate, hs]; omega
        have hsz' : cur'.size = cur.size := by
          rw [← Array.length_toList, g7]
          simp only [List.length_append, List.length_take, List.length_drop, List.length_replicate, Array.length_toList]
          omega
        refine ⟨.slice (some ⟨b, 0, none⟩) (n + m) cap, w.setCells b n (List.replicate m zv), ?_, .inr ⟨b, cap, cur', rfl, ⟨fz, g6, by unfold Fz at hfz ⊢; rw [hsz']; exact hfz⟩, hroom, hcm, by rw [hsz', hcs], ?_, hlen⟩, .inr (.inl ⟨b, cap, cap, rfl, rfl, hT, by rw [shape_of_blk g6, shape_of_blk hg, hsz']⟩)⟩
        · have hns : ¬ (m * i.size = 0) := by rw [hs]; omega
          have hzl : (Builtin.zeroCells zv.cells m).toList = List.replicate m zv := by rw [hc, zeroCells_one]
          have had : Addr.add ⟨b, 0, none⟩ (n * i.size) = ⟨b, n, none⟩ := by rw [addr_add, hs]; simp
          simp [Builtin.append_, run_underlying ht, run_underlying hU, sizeOf, typeInfo, zeroValue, hi, hz, asInt, asIntOf, hw, hroom, hneg, hns, h48i, hzl, had, hst]
        · rw [g7, hlen.symm]
          have e : cur.toList.take n = xs := by rw [← htake, hs, Nat.mul_one]
          rw [e]
          exact List.take_left
      · have holds : ∀ j u, xs[j]? = some u → w.cell? ((⟨b, 0, none⟩ : Addr).add j) = some u := fun j u hu => by
          rw [addr_add, Nat.zero_add, hg.cell]
          rw [← htake, List.getElem?_take] at hu
          split at hu
          · exact hu
          · cases hu
        have hf := run_firstCells_some (P := P) w.drew i.size n ⟨b, 0, none⟩ n cap xs hxl (by simpa using holds)
        have hr := Go.Lib.run_append_grow_zeros (P := P) w T U ty t i zv ku kn ht hU hi hz (some ⟨b, 0, none⟩) n cap xs hf m hm (by omega) (by omega) h63' (by omega) (growslice_fits (by omega) hb)
        obtain ⟨h2, h3, h4⟩ := mk cap xs hxl
        exact ⟨_, _, hr, h2, .inr (.inr ⟨_, rfl, h3, h4⟩)⟩
section
variable {C : Ctx} {E : Env} {st : St} {o : Oper} {β : BMap} {a : Act} {w w' : World} {Q : AQ} {ops : Array Oper} {rest : List Oper}
theorem AL_appendZ {T U t sz by_ : Nat} {ku kn : IntKind} {zv : Value} {x y : Operand} {i n d : Nat} {els els2 : List (List AV)} (hw : Wanted ops o st) (ho : o.op = .call { callee := .builtin .append, args := #[x, y], argTypes := #[T, U] }) (hd : o.dst = some d) (hlt : d < E.nt)
    (hx : st.look x = .own i sz 0 n) (hy : st.look y = .v (.int ku (els2.length : Int))) (hU : C.P.underlying U = some (.int kn)) (hzv : zeroOf C.P t = some zv) (hz1 : zv.oneCell' = true) (hs1 : sz = 1) (he2 : els2 = List.replicate els2.length [AV.v zv]) (hb : st.boxes[i]? = some (.row t sz els)) (hn : els.length = n) (hin : elemInfo C.P T = some (t, sz, by_)) (hbd : (n + els2.length) * by_ ≤ 140737488355328) (h63 : n + els2.length ≤ maxLen)
    (hpin : E.npin ≤ i ∨ E.pin i = none) (hav : ∀ (j : Nat) (b : BoxC), j ≠ i → st.boxes[j]? = some b → (match b with | .cells _ _ => true | b => b.avoids i) = true) (hcl : ∀ j, avoidsLL j els2 = true) (hself : avoidsLL i els = true)
    (h : AL C E ops rest Q (((st.noBox i).setBox i (.row t sz (els ++ els2))).put d (.own i sz 0 (n + els2.length)))) : AL C E ops (o :: rest) Q st := by
  intro β a w H
  refine wpList_step fun K hK => ?_
  rw [wanted_of H hw]
  simp only [if_true]
  have hxr := H.look x
  have hyr := H.look y
  rw [hx] at hxr
  rw [hy] at hyr
  have hxl := H.looklim x
  rw [hx] at hxl
  have hyv : a.eval y = .int ku (els2.length : Int) := hyr
  obtain ⟨ti, z, i1, i2, i3, i4, i5, rfl, rfl⟩ := elemInfo_some hin
  obtain ⟨news, hnews⟩ : ∃ news, news = List.replicate els2.length zv := ⟨_, rfl⟩
  have hzi : ti.zero = some zv := by
    have := hzv
    unfold zeroOf at this
    rw [i2, Option.bind_some] at this
    exact this
  have hnl : news.length = els2.length * ti.size := by rw [hnews, List.length_replicate, hs1, Nat.mul_one]
  have hels2 : ∀ l ∈ els2, 0 < els2.length → l.length = ti.size := fun l hl _ => by
    rw [he2] at hl
    rw [List.eq_of_mem_replicate hl, hs1]
    rfl
  have hflat : ∀ k : Nat, (List.replicate k [AV.v zv]).flatten = (List.replicate k zv).map .v := fun k => by
    induction k with
    | zero => rfl
    | succ k ih => simp [List.replicate_succ, ih]
  have hnr : AV.repCells nob (okB E β st) w els2.flatten news := by
    have hf : els2.flatten = (List.replicate els2.length zv).map .v := by rw [← hflat els2.length, ← he2]
    rw [hf, hnews]
    exact repCells_v _ fun u hu => by rw [List.eq_of_mem_replicate hu]; exact hz1
  have hbx := H.boxes i _ hb
  have hbl := H.blim i _ hb
  have hil : i < st.boxes.length := (List.getElem?_eq_some_iff.1 hb).1
  have hels2' : ∀ l ∈ els2, l.length = ti.size := fun l hl => hels2 l hl (List.length_pos_of_mem hl)
  rw [AV.rep] at hxr
  simp only [BoxC.rep] at hbx
  -- the row, as append asks it
  have hown : ∃ xs, OwnV w t ti.size (a.eval x) n xs ∧ AV.repCells β (okB E β st) w els.flatten xs ∧ (∀ l ∈ els, l.length = ti.size) ∧ (β i = none → a.eval x = .slice none 0 0) ∧ (∀ b, β i = some b → (∃ cap, a.eval x = .slice (some ⟨b, 0, none⟩) n cap) ∧ ∃ cur tl, RowBlk w b cur t ∧ cur.toList = xs ++ tl) := by
    cases hβ : β i with
    | none =>
      rw [hβ] at hxr hbx
      simp only at hbx
      subst hbx
      obtain ⟨h1, _, h3⟩ := hxr
      exact ⟨[], .inl ⟨h1, h3, rfl⟩, rfl, by simp, fun _ => h1, fun b hb => by cases hb⟩
    | some b =>
      rw [hβ] at hxr hbx
      obtain ⟨cap, e, h1, h2, h3, h4⟩ := hxr
      obtain ⟨cur, tl, h5, h6, cs, h7, h8, h9⟩ := hbx
      rw [h5.shape] at h4
      have hcs : cur.size = cap * ti.size := by injection h4 with h4; injection h4 with _ h4; simpa using h4
      simp only [Nat.zero_mul] at h1
      refine ⟨cs, .inr ⟨b, cap, cur, h1, h5, h2, h3, hcs, ?_, by rw [h8, hn]⟩, h9, h6, (fun h => by cases h), fun b' hb' => ?_⟩
      · rw [h7, ← hn, ← h8, List.take_left]
      · injection hb' with hb'; subst hb'; exact ⟨⟨cap, h1⟩, cur, tl, h5, h7⟩
  obtain ⟨xs, hv, hxs, hels, hnone, hsome⟩ := hown
  obtain ⟨v', w', hrun, hv', hcase⟩ := run_append_absZ (dr := C.dr) (P := C.P) (T := T) (U := U) (ty := o.type) (ku := ku) i1 hU i2 hzi hs1 (cells_single hz1) hz1 hv hbd h63
  rw [← hnews] at hv'
  have hexec : (execOp a.eval o).run C.P w = .ok (.value v') w' := by
    simp only [execOp, ho, resolve, Sem.run_bind, Sem.run_pure, Result.andThen_ok, invoke, builtin, List.map_toArray, List.map_cons, List.map_nil, hyv, hrun]
  refine wp_val hexec ?_
  rw [hd]
  have hall : ∀ l ∈ els ++ els2, l.length = ti.size := fun l hl => by
    rcases List.mem_append.1 hl with hl | hl
    · exact hels l hl
    · exact hels2' l hl
  have hlim : ∀ j, st.boxes.length ≤ j → (BoxC.row t ti.size (els ++ els2)).avoids j = true := fun j hj => by
    have h1 : avoidsLL j els = true := hbl j hj
    have h2 := hcl j
    show avoidsLL j (els ++ els2) = true
    rw [← avoidsL_flatten] at h1 h2 ⊢
    rw [List.flatten_append, avoidsL_append, h1, h2]
    rfl
  have hplim : ∀ k, ((st.noBox i).setBox i (BoxC.row t ti.size (els ++ els2))).boxes.length ≤ k → (AV.own i ti.size 0 (n + els2.length)).avoids k = true := fun k hk => by
    simp [St.setBox, St.noBox] at hk
    simp [AV.avoids]; omega
  have hlenall : (els ++ els2).length * ti.size = (xs ++ news).length := by
    have := repCells_len hxs
    rw [flatten_len hels] at this
    rw [List.length_append, List.length_append, Nat.add_mul, this, hnl]
  rcases hcase with ⟨rfl, rfl, hm⟩ | ⟨b, cap, cap', hvb, rfl, hT, hsh⟩ | ⟨cap', rfl, hbw, hsz⟩
  · -- nothing comes
    have h2 : els2 = [] := List.eq_nil_of_length_eq_zero hm
    subst h2
    refine hK _ _ (h β _ _ ?_)
    have H1 : Holds C E β (st.noBox i) a w' := H.strip i
    have e : (st.noBox i).setBox i (BoxC.row t ti.size (els ++ [])) = st.noBox i := by
      rw [List.append_nil]
      unfold St.setBox St.noBox
      congr 1
      obtain ⟨h3, h4⟩ := List.getElem?_eq_some_iff.1 hb
      apply List.ext_getElem?
      intro k
      rw [List.getElem?_set]
      split
      · rename_i e
        subst e
        simp [h3, h4, BoxC.strip]
      · rfl
    rw [e]
    refine H1.put hlt ?_ (fun k hk => by rw [e] at hplim; exact hplim k hk)
    simpa [AV.rep] using hxr
  · -- in place
    have hβ : β i = some b := by
      cases hβ : β i with
      | none => have := hnone hβ; rw [hvb] at this; cases this
      | some b' => obtain ⟨⟨c', h1⟩, _⟩ := hsome b' hβ; rw [hvb] at h1; injection h1 with h1 _ _; injection h1 with h1; injection h1 with h1 _ _; rw [h1]
    obtain ⟨_, cur, tl, h5, h7⟩ := hsome b hβ
    rcases hv' with ⟨h1, _⟩ | ⟨b2, cap2, cur2, h1, h2, h3, h4, h6, h8, h9⟩
    · cases h1
    · injection h1 with h1 _ hc2
      injection h1 with h1
      injection h1 with h1 _ _
      subst h1; subst hc2
      refine hK _ _ (h β _ _ ?_)
      have hE : Ext β (okB E β st) (okB E β st) w w' := ⟨by rw [hT.size]; exact Nat.le_refl _, fun _ h _ => h, fun k hk _ => hT.far k (fun e => by subst e; exact hk.2.2 i ⟨_, hb, rfl⟩ hβ), fun j k s hj hk => by
        by_cases e : k = b
        · subst e; rw [hsh]; exact hk
        · rw [shape_same (hT.far k e)]; exact hk⟩
      have hnew : AV.repCells β (okB E β st) w (els ++ els2).flatten (xs ++ news) := by
        rw [List.flatten_append]
        exact repCells_append hxs (repCells_closed (fun k => by rw [avoidsL_flatten]; exact hcl k) hnr)
      have H1 : Holds C E β (st.setBox i (.row t ti.size (els ++ els2))) a w' := H.turn hb rfl hβ hT hsh rfl hlim (by
        simp only [BoxC.rep, hβ]
        refine ⟨cur2, cur2.toList.drop ((n + els2.length) * ti.size), h2, hall, xs ++ news, ?_, hlenall.symm, AV.repCells_mono hE _ _ (fun _ _ => rfl) hnew⟩
        have := List.take_append_drop ((n + els2.length) * ti.size) cur2.toList
        rw [h8] at this
        exact this.symm)
      have H2 : Holds C E β ((st.noBox i).setBox i (.row t ti.size (els ++ els2))) a w' := by
        have := H1.strip i
        have e : (st.setBox i (.row t ti.size (els ++ els2))).noBox i = (st.noBox i).setBox i (.row t ti.size (els ++ els2)) := by
          unfold St.setBox St.noBox
          simp only [List.map_set]
          rfl
        rw [e] at this
        exact this
      refine H2.put hlt ?_ hplim
      rw [AV.rep, hβ]
      exact ⟨cap', t, by simp, h3, h4, by rw [h2.shape, h6]; simp⟩
  · -- elsewhere
    rcases hv' with ⟨h1, _⟩ | ⟨b2, cap2, cur2, h1, h2, h3, h4, h6, h8, h9⟩
    · cases h1
    · injection h1 with h1 _ hc2
      injection h1 with h1
      injection h1 with h1 _ _
      subst h1; subst hc2
      refine hK _ _ (h (upd β i (some w.heap.size)) _ _ ?_)
      have hnew : AV.repCells (upd β i (some w.heap.size)) (fun b => okB E β st b ∧ some w.heap.size ≠ some b) w' (els ++ els2).flatten (xs ++ news) := by
        rw [List.flatten_append]
        refine repCells_append (AV.repCells_mono (ext_new hbw.toBelow) _ _ (fun j hj => upd_ne _ _ (fun e => by subst e; rw [avoidsL_flatten, hself] at hj; cases hj)) hxs) ?_
        exact AV.repCells_mono (ext_new (β := β) hbw.toBelow) _ _ (fun j hj => by rw [avoidsL_flatten, hcl j] at hj; cases hj) (repCells_closed (β := β) (fun k => by rw [avoidsL_flatten]; exact hcl k) hnr)
      have H1 := H.rebox hbw hb rfl (bc' := .row t ti.size (els ++ els2)) rfl hpin hav ⟨Nat.le_refl _, hsz⟩ (by
        simp only [BoxC.rep, upd_eq]
        refine ⟨cur2, cur2.toList.drop ((n + els2.length) * ti.size), h2, hall, xs ++ news, ?_, hlenall.symm, hnew⟩
        have := List.take_append_drop ((n + els2.length) * ti.size) cur2.toList
        rw [h8] at this
        exact this.symm) hlim
      refine H1.put hlt ?_ hplim
      rw [AV.rep, upd_eq]
      exact ⟨cap', t, by simp, h3, h4, by rw [h2.shape, h6]; simp⟩
end
theorem Y_capNil {C : Ctx} {E : Env} {st : St} {o : Oper} {y : Operand} {t e : TypeId} (ho : o.op = .call { callee := .builtin .cap, args := #[y], argTypes := #[t] }) (ht : C.P.underlying t = some (.slice e)) (hy : st.look y = .v (.slice none 0 0)) : Yields C E st o (.v (.int .i64 0)) none :=
  Y_of fun E' β a w H => by
    refine ⟨.int .i64 0, ?_, rfl, fun i _ => avoids_v i⟩
    simp [execOp, ho, resolve, invoke, builtin, look_v H hy, Builtin.cap_, run_underlying ht, goInt]
theorem Y_sliceNil {C : Ctx} {E : Env} {st : St} {o : Oper} {y : Operand} {t : TypeId} {lo hi : Option Operand} {sz : Nat} (ho : o.op = .slice t y lo hi none) (hy : st.look y = .v (.slice none 0 0)) (ht : elemSize C.P t = some sz) (hlo : Bnd st lo 0 0) (hhi : Bnd st hi 0 0) : Yields C E st o (.v (.slice none 0 0)) none :=
  Y_of fun E' β a w H => by
    obtain ⟨e, ti, e4, e5, rfl⟩ := elemSize_some ht
    have hb := run_sliceBounds_ok (P := C.P) (w := w) true 0 0 0 0 _ _ (bnd_eval H hlo) (bnd_eval H hhi) (Nat.le_refl _) (by omega)
    refine ⟨.slice none 0 0, ?_, rfl, fun i _ => avoids_v i⟩
    simp [execOp, ho, look_v H hy, Instr.sliceAt, run_underlying e4, Instr.slice, hb, sizeOf, typeInfo, e5]
section
variable {C : Ctx} {E : Env} {st : St} {Q : AQ} {ops : Array Oper} {rest : List Oper}
theorem AL_nilOwn {t sz : Nat} (tb : TypeId) {st' : St} (hx : (t, AV.v (.slice none 0 0)) ∈ st.slots) (hlt : t < E.nt) (he : (st.add (.row tb sz [])).imp t (.own st.boxes.length sz 0 0) = st') (h : AL C E ops rest Q st') : AL C E ops rest Q st := by
  subst he
  intro β a w H
  have He := H.ext
  have hn : st.ext.boxes[st.boxes.length]? = some .none := by simp [St.ext]
  have H2 := He.setBox (BelowD.refl _ _) (bc := .row tb sz []) (g := none) hn (fun t x hx => H.lim t x hx _ (Nat.le_refl _)) (fun i b hi => by
    unfold St.ext at hi
    rw [List.getElem?_append] at hi
    split at hi
    · exact H.blim i b hi _ (Nat.le_refl _)
    · rename_i h'
      cases hk : i - st.boxes.length with
      | zero => rw [hk] at hi; have : BoxC.none = b := by simpa using hi
                subst this; rfl
      | succ k => rw [hk] at hi; simp at hi) (fun b hb => by cases hb) (by simp [BoxC.rep, upd_eq]) (fun _ _ => rfl) H.pin.1
  rw [ext_set] at H2
  refine h (upd β st.boxes.length none) a w ?_
  refine ⟨H2.env, H2.size, H2.defers, H2.kept, fun t' z hz => ?_, fun t' z hz k hk => ?_, H2.boxes, H2.blim, H2.inj, H2.fresh, H2.ex, H2.pin⟩
  · rcases List.mem_cons.1 hz with hz | hz
    · injection hz with e1 e2
      subst e1; subst e2
      have h3 : a.tmps.getD t' undef = _ := H.slots t' _ hx
      rw [AV.rep, upd_eq]
      exact ⟨h3, rfl, rfl⟩
    · exact H2.slots t' z (List.mem_filter.1 hz).1
  · rcases List.mem_cons.1 hz with hz | hz
    · injection hz with e1 e2
      subst e1; subst e2
      simp [St.imp, St.add] at hk
      simp [AV.avoids]
      omega
    · exact H2.lim t' z (List.mem_filter.1 hz).1 k hk
end
/-- How an operation is taken: plainly; as what it is shown to yield; with a nil slice ahead of it told as a row of the call's own; as an append of zeros; as an append to nil that lays a row of the call's own; with a row frozen ahead of it; as a call that lays memory. -/
inductive Mq
  | n
  | y
  | nil (t tb sz : Nat)
  | zer
  | own
  | frz (i : Nat) (ts : List Nat)
  | lay
def isFrz : Mq → Bool
  | .frz _ _ => true
  | _ => false
structure ZerOk (X : RX) (C : Ctx) (st : St) (t t' i n m : Nat) (kn : IntKind) (a : Int) (e by_ : Nat) (zv : Value) (els : List (List AV)) : Prop where
  bx : nthA st.boxes i = some (.row e 1 els)
  el : elemInfo C.P t = some (e, 1, by_)
  un : C.P.underlying t' = some (.int kn)
  ze : zeroOf C.P e = some zv
  z1 : zv.oneCell' = true
  me : (m : Int) = a
  len : els.length = n
  bd : (n + m) * by_ ≤ 140737488355328 ∧ n + m ≤ maxLen
  pin : (Nat.ble X.np i || X.free.contains i) = true
  ot : othersR i 0 st.boxes
  cl : ClosedE els
  zc : ∀ j, AV.avoidsL j [AV.v zv] = true
def apzR (X : RX) (C : Ctx) (o : Oper) (st : St) (K : St → Prop) : Prop := match o.op with
  | .call { callee := .builtin .append, args := args, argTypes := ts } => match args.toList, ts.toList with
    | [x, y], [t, t'] => match lk st x, lk st y with
      | .own i 1 0 n, .v (.int ku a) => ∃ (e by_ m : Nat) (kn : IntKind) (zv : Value) (els : List (List AV)), ZerOk X C st t t' i n m kn a e by_ zv els ∧ ∃ els', els ++ List.replicate m [AV.v zv] = els' ∧ match o.dst with
        | none => False
        | some d => forceSt (((st.noBox i).setBox i (.row e 1 els')).put d (.own i 1 0 (n + m))) fun st => whenB (Nat.blt d X.nt) (K st)
      | _, _ => False
    | _, _ => False
  | _ => False
def runQ (X : RX) (C : Ctx) (ops : List Oper) : List Mq → List Oper → St → (St → Prop) → Prop
  | _, [], st, K => K st
  | [], o :: rest, st, K => runR X C ops (o :: rest) st K
  | m :: ms, o :: rest, st, K => match m with
    | .n => guardR ops o st (stepR X C o st fun st => runQ X C ops ms rest st K) (putR X o.dst (.v undef) st fun st => runQ X C ops ms rest st K)
    | .y => guardR ops o st (∃ x, (∀ E, Yields C E st o x none) ∧ putR X o.dst x st fun st => runQ X C ops ms rest st K) (putR X o.dst (.v undef) st fun st => runQ X C ops ms rest st K)
    | .nil t tb sz => lkS t st.slots = .v (.slice none 0 0) ∧ whenB (Nat.blt t X.nt) (forceSt ((st.add (.row tb sz [])).imp t (.own st.boxes.length sz 0 0)) fun st => guardR ops o st (apzR X C o st fun st => runQ X C ops ms rest st K) (putR X o.dst (.v undef) st fun st => runQ X C ops ms rest st K))
    | .zer => guardR ops o st (apzR X C o st fun st => runQ X C ops ms rest st K) (putR X o.dst (.v undef) st fun st => runQ X C ops ms rest st K)
    | .own => guardR ops o st (ownR X o st fun st => runQ X C ops ms rest st K) (putR X o.dst (.v undef) st fun st => runQ X C ops ms rest st K)
    | .frz i ts => frzR st i ts fun st => guardR ops o st (stepR X C o st fun st => runQ X C ops ms rest st K) (putR X o.dst (.v undef) st fun st => runQ X C ops ms rest st K)
    | .lay => guardR ops o st (match o.op with
      | .call { callee := .value c, args := args, argTypes := _ } => forceS (mapLk st args.toList) fun l => calN X C st o.dst (lk st c) l fun st => runQ X C ops ms rest st K
      | _ => False) (putR X o.dst (.v undef) st fun st => runQ X C ops ms rest st K)
section
variable {X : RX} {C : Ctx} {E : Env} (hX : RXok X C E) {ops : Array Oper} {rest : List Oper} {o : Oper} {Q : AQ} {st : St} {K : St → Prop}
include hX
theorem apzR_sound (hw : Wanted ops o st) (h : apzR X C o st K) (hK : ∀ st, K st → AL C E ops rest Q st) : AL C E ops (o :: rest) Q st := by
  unfold apzR at h
  split at h
  · rename_i args ts ho
    split at h
    · rename_i x y t t' ha ht
      have ha : args = #[x, y] := by cases args; simpa using ha
      have ht : ts = #[t, t'] := by cases ts; simpa using ht
      subst ha; subst ht
      split at h
      · rename_i i n ku a hx hy
        obtain ⟨e, by_, m, kn, zv, els, hZ, els', rfl, h2⟩ := h
        have hb := hZ.bx
        rw [nthA_eq] at hb
        have hm := hZ.me
        subst hm
        cases hd : o.dst with
        | none => rw [hd] at h2; exact h2.elim
        | some d =>
          rw [hd] at h2
          simp only [forceSt_iff] at h2
          obtain ⟨h20, h21⟩ := whenB_dest h2
          have hlr : (List.replicate m [AV.v zv]).length = m := List.length_replicate
          have hcl : ∀ j, avoidsLL j (List.replicate m [AV.v zv]) = true := fun j => by
            rw [← avoidsL_flatten]
            exact avoidsL_mem fun x hx => by
              obtain ⟨l, hl, hx⟩ := List.mem_flatten.1 hx
              rw [List.eq_of_mem_replicate hl] at hx
              exact mem_avoids (hZ.zc j) hx
          have hy' : st.look y = .v (.int ku ((List.replicate m [AV.v zv]).length : Int)) := by rw [hlr]; exact lk_look hy
          refine AL_appendZ (els2 := List.replicate m [AV.v zv]) hw ho hd (by rw [hX.nt]; simpa using h20) (lk_look hx) hy' hZ.un hZ.ze hZ.z1 rfl (by rw [hlr]) hb hZ.len hZ.el (by rw [hlr]; exact hZ.bd.1) (by rw [hlr]; exact hZ.bd.2) ?_ (av_one (othersR_all hZ.ot)) hcl (hZ.cl i) (by rw [hlr]; exact hK _ h21)
          rcases Bool.or_eq_true _ _ ▸ hZ.pin with h | h
          · exact .inl (by rw [hX.np]; exact Nat.le_of_ble_eq_true h)
          · exact .inr (hX.free i (by simpa using h))
      · exact h.elim
    · exact h.elim
  · exact h.elim
theorem runQ_sound : ∀ (ms : List Mq) (rest : List Oper) (st : St) (K : St → Prop), (ms.any isFrz = true → ∀ b, ¬ E.arg b) → (∀ st, K st → Q .normal st) → runQ X C ops.toList ms rest st K → AL C E ops rest Q st
  | ms, [], st, K, hna, hK, h => by
    have h : runR X C ops.toList [] st K := by cases ms <;> exact h
    exact runR_sound hX [] st K hK h
  | [], o :: rest, st, K, hna, hK, h => runR_sound hX (o :: rest) st K hK h
  | m :: ms, o :: rest, st, K, hna, hK, h => by
    have hnt : ms.any isFrz = true → ∀ b, ¬ E.arg b := fun q => hna (by rw [List.any_cons, q, Bool.or_true])
    cases m with
    | n =>
      rw [runQ] at h
      refine guardR_dest h (fun hw h' => ?_) (fun hw h' => ?_)
      · exact stepR_sound hX hw h' fun st h => runQ_sound ms rest st K hnt hK h
      · exact AL_skp hX hw h' fun st h => runQ_sound ms rest st K hnt hK h
    | y =>
      rw [runQ] at h
      refine guardR_dest h (fun hw h' => ?_) (fun hw h' => ?_)
      · obtain ⟨x, hy, h2⟩ := h'
        exact AL_val hX hw (hy E) h2 fun st h => runQ_sound ms rest st K hnt hK h
      · exact AL_skp hX hw h' fun st h => runQ_sound ms rest st K hnt hK h
    | nil t tb sz =>
      rw [runQ] at h
      obtain ⟨h1, h2⟩ := h
      obtain ⟨h3, h4⟩ := whenB_dest h2
      rw [forceSt_iff] at h4
      refine AL_nilOwn (t := t) (sz := sz) tb ?_ (by rw [hX.nt]; simpa using h3) rfl ?_
      · rcases lkS_mem (l := st.slots) (k := t) with h' | h'
        · rw [h1] at h'; cases h'
        · rw [h1] at h'; exact h'
      · refine guardR_dest h4 (fun hw h' => ?_) (fun hw h' => ?_)
        · exact apzR_sound hX hw h' fun st h => runQ_sound ms rest st K hnt hK h
        · exact AL_skp hX hw h' fun st h => runQ_sound ms rest st K hnt hK h
    | zer =>
      rw [runQ] at h
      refine guardR_dest h (fun hw h' => ?_) (fun hw h' => ?_)
      · exact apzR_sound hX hw h' fun st h => runQ_sound ms rest st K hnt hK h
      · exact AL_skp hX hw h' fun st h => runQ_sound ms rest st K hnt hK h
    | own =>
      rw [runQ] at h
      refine guardR_dest h (fun hw h' => ?_) (fun hw h' => ?_)
      · exact ownR_sound hX hw h' fun st h => runQ_sound ms rest st K hnt hK h
      · exact AL_skp hX hw h' fun st h => runQ_sound ms rest st K hnt hK h
    | frz i ts =>
      rw [runQ] at h
      refine frzR_sound (hna rfl) h fun st h => ?_
      refine guardR_dest h (fun hw h' => ?_) (fun hw h' => ?_)
      · exact stepR_sound hX hw h' fun st h => runQ_sound ms rest st K hnt hK h
      · exact AL_skp hX hw h' fun st h => runQ_sound ms rest st K hnt hK h
    | lay =>
      rw [runQ] at h
      refine guardR_dest h (fun hw h' => ?_) (fun hw h' => ?_)
      · split at h'
        · rename_i c args ts ho
          rw [forceS_iff] at h'
          exact calN_sound hX hw ho h' fun st h => runQ_sound ms rest st K hnt hK h
        · exact h'.elim
      · exact AL_skp hX hw h' fun st h => runQ_sound ms rest st K hnt hK h
/-- A region whose operations are taken as told. -/
theorem W_regionQ (hna : ∀ b, ¬ E.arg b) (ms : List Mq) {id : Nat} {ops : Array Oper} (h : runQ X C ops.toList ms ops.toList st fun st => Q .normal st) : W X C E (.region id ops false) Q st :=
  ⟨AW_region (runQ_sound hX ms _ _ _ (fun _ => hna) (fun _ h => h) h)⟩
/-- As W_regionQ, where nothing is frozen. -/
theorem W_regionP (ms : List Mq) (hf : ms.any isFrz = false) {id : Nat} {ops : Array Oper} (h : runQ X C ops.toList ms ops.toList st fun st => Q .normal st) : W X C E (.region id ops false) Q st :=
  ⟨AW_region (runQ_sound hX ms _ _ _ (fun q => by rw [hf] at q; cases q) (fun _ h => h) h)⟩
end
end Go.Proofs.YtnfbomhhgjlacaaDoor.Abs
