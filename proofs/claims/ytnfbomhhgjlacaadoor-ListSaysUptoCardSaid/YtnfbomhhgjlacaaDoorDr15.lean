/- Walks by computing: append of a string's bytes. -/
import Derived.Test.YtnfbomhhgjlacaaDoorDr14
import Derived.Lib.AppendStr
namespace Go.Proofs.YtnfbomhhgjlacaaDoor.Abs
open Go.RowKit Go.MapKept
set_option linter.unusedVariables false
set_option linter.unusedSimpArgs false
def strV (s : ByteArray) : List Value := s.data.toList.map fun b => Value.int .u8 (b.toNat : Int)
theorem strV_cells (s : ByteArray) : Go.Lib.strCells s = strV s := by simp [Go.Lib.strCells, strV]
theorem run_append_room_stringR {P : Program} {w : World} {t u ty e : TypeId} {i : TypeInfo} (ht : P.underlying t = some (.slice e)) (hu : P.underlying u = some .string) (hi : P.info? e = some i) (hs1 : i.size = 1) (g sLen sCap : Nat) (cur : Array Value) (hg : RowBlk w g cur e) (s : ByteArray) (hroom : sLen + s.size ≤ sCap) (hfit : sLen + s.size ≤ cur.size) :
    (Builtin.append_ #[t, u] ty #[.slice (some ⟨g, 0, none⟩) sLen sCap, .string s]).run P w = .ok (.slice (some ⟨g, 0, none⟩) (sLen + s.size) sCap) (w.setCells g sLen (Go.Lib.strCells s)) := by
  have hf := Go.Lib.run_firstCells_string (P := P) w 1 s
  have hst := run_storeCells_cells (P := P) g sLen (Go.Lib.strCells s) 0 w (fun j hj => by
    rw [hg.cell]
    rw [Go.Lib.strCells_length] at hj
    have : sLen + (0 + j) < cur.toList.length := by rw [Array.length_toList]; omega
    simp at this ⊢
    omega) (fun j hj => hg.frozen (by rw [Go.Lib.strCells_length] at hj; omega)) (Go.Lib.strCells_oneCell s)
  simp only [Nat.add_zero] at hst
  simp [Builtin.append_, run_underlying ht, run_underlying hu, sizeOf, typeInfo, hi, hs1, Builtin.lenOf, hroom, hf, Addr.add_lit, hst]
theorem strV_len (s : ByteArray) : (strV s).length = s.size := by simp [strV]
theorem strV_one (s : ByteArray) : ∀ u ∈ strV s, u.oneCell' = true := fun u hu => by
  obtain ⟨b, _, rfl⟩ := List.mem_map.1 hu
  rfl
theorem bytesA_flat (s : ByteArray) : (bytesA s).flatten = (strV s).map .v := by
  unfold bytesA strV
  induction s.data.toList with
  | nil => rfl
  | cons b l ih => simp [ih]
theorem run_append_absS {dr : Bool} {P : Program} {w : World} {T U ty t : TypeId} {i : TypeInfo} {z : Value} (ht : P.underlying T = some (.slice t)) (hU : P.underlying U = some .string) (hi : P.info? t = some i) (hz : i.zero = some z) (hzs : z.cells.size = i.size) (hs : i.size = 1)
    {v : Value} {n : Nat} {xs : List Value} (s : ByteArray) (hv : OwnV w t i.size v n xs) (hb : (n + s.size) * i.bytes ≤ 140737488355328) (h63 : n + s.size ≤ maxLen) :
    ∃ v' w', (Builtin.append_ #[T, U] ty #[v, .string s]).run P w = .ok v' w' ∧ OwnV w' t i.size v' (n + s.size) (xs ++ strV s) ∧
      ((v' = v ∧ w' = w ∧ s.size = 0) ∨ (∃ b cap cap', v = .slice (some ⟨b, 0, none⟩) n cap ∧ v' = .slice (some ⟨b, 0, none⟩) (n + s.size) cap' ∧ Turned b w w' ∧ w'.shape? b = w.shape? b) ∨ (∃ cap', v' = .slice (some ⟨w.heap.size, 0, none⟩) (n + s.size) cap' ∧ BelowD dr w.heap.size w w' ∧ w.heap.size < w'.heap.size)) := by
  have h63' : ((n + s.size : Nat) : Int) ≤ 9223372036854775807 := by have h := h63; simp [maxLen] at h; omega
  have hmb : s.size * i.bytes ≤ 140737488355328 := Nat.le_trans (Nat.mul_le_mul_right _ (Nat.le_add_left s.size n)) hb
  have hsl := strV_len s
  rcases Nat.eq_zero_or_pos s.size with hm | hm
  · have hx0 : strV s = [] := List.eq_nil_of_length_eq_zero (by omega)
    rw [hm, hx0]
    have hs0 : s = ⟨#[]⟩ := by
      cases s with
      | mk data => have : data.size = 0 := hm; rw [Array.eq_empty_of_size_eq_zero this]
    subst hs0
    refine ⟨v, w, ?_, by simpa using hv, .inl ⟨rfl, rfl, rfl⟩⟩
    have hf := Go.Lib.run_firstCells_string (P := P) w 1 ⟨#[]⟩
    rcases hv with ⟨rfl, rfl, rfl⟩ | ⟨b, cap, cur, rfl, _, h, _⟩
    · have h0 : (ByteArray.empty : ByteArray).size = 0 := rfl
      have he : (⟨#[]⟩ : ByteArray) = ByteArray.empty := rfl
      rw [he]
      simp [Builtin.append_, run_underlying ht, run_underlying hU, sizeOf, typeInfo, hi, Builtin.lenOf, Builtin.firstCells, h0]
    · have h0 : (⟨#[]⟩ : ByteArray).size = 0 := rfl
      simp [Builtin.append_, run_underlying ht, run_underlying hU, sizeOf, typeInfo, hi, Builtin.lenOf, Builtin.firstCells, h0, h, storeCells]
  · have mk : ∀ (old : Nat), ∀ (os : List Value), os.length = n * i.size → OwnV (w.drew.alloc (.cells (os.toArray ++ (strV s).toArray ++ Builtin.zeroCells z.cells (grownCap w (n + s.size) old t - (n + s.size))) t)) t i.size (.slice (some ⟨w.heap.size, 0, none⟩) (n + s.size) (grownCap w (n + s.size) old t)) (n + s.size) (os ++ strV s) ∧ BelowD dr w.heap.size w (w.drew.alloc (.cells (os.toArray ++ (strV s).toArray ++ Builtin.zeroCells z.cells (grownCap w (n + s.size) old t - (n + s.size))) t)) ∧ w.heap.size < (w.drew.alloc (.cells (os.toArray ++ (strV s).toArray ++ Builtin.zeroCells z.cells (grownCap w (n + s.size) old t - (n + s.size))) t)).heap.size := by
      intro old os hos
      have hge := grownCap_ge w (n + s.size) old t
      have hcm := grownCap_le_maxLen w (n + s.size) old t h63
      have hlen : (os ++ strV s).length = (n + s.size) * i.size := by rw [List.length_append, hos, hsl, hs]; omega
      refine ⟨.inr ⟨_, _, _, rfl, .of (heap_alloc_new w.drew _), hge, hcm, ?_, ?_, hlen⟩, (below_drew' w).alloc (Nat.le_refl _) _, by show w.heap.size < (w.drew.alloc _).heap.size; simp⟩
      · simp only [Array.size_append, List.size_toArray, size_zeroCells, hzs, hos, hsl, hs]
        omega
      · simp only [Array.toList_append, List.append_assoc]
        rw [← List.append_assoc, ← hlen]
        exact List.take_left
    rcases hv with ⟨rfl, rfl, rfl⟩ | ⟨b, cap, cur, rfl, hg, hnc, hcm, hcs, htake, hxl⟩
    · have hr := run_append_nil_string (P := P) w T U ty t i z ht hU hi hz s hm (by simpa using h63') (by omega)
      have he : s.data.map (fun b : UInt8 => Value.int .u8 (b.toNat : Int)) = (strV s).toArray := by
        apply Array.ext'
        simp [strV]
      rw [he] at hr
      obtain ⟨h2, h3, h4⟩ := mk 0 [] (by simp)
      simp only [Nat.zero_add, List.nil_append, Array.empty_append] at h2 h3 h4 ⊢
      exact ⟨_, _, hr, h2, .inr (.inr ⟨_, rfl, h3, h4⟩)⟩
    · by_cases hroom : n + s.size ≤ cap
      · have hfit : n + s.size ≤ cur.size := by rw [hcs, hs]; omega
        have hr := run_append_room_stringR (P := P) (w := w) (ty := ty) ht hU hi hs b n cap cur hg s hroom hfit
        rw [strV_cells] at hr
        obtain ⟨fz, hg0, hfz⟩ := hg
        obtain ⟨hT, cur', g6, g7⟩ := setCells_blk (strV s) n w cur hg0 (by rw [hsl]; exact hfit)
        have hsz : cur'.size = cur.size := by
          rw [← Array.length_toList, g7]
          simp only [List.length_append, List.length_take, List.length_drop, Array.length_toList, hsl]
          omega
        have hlen : (xs ++ strV s).length = (n + s.size) * i.size := by rw [List.length_append, hxl, hsl, hs]; omega
        refine ⟨_, _, hr, .inr ⟨b, cap, cur', rfl, ⟨fz, g6, by unfold Fz at hfz ⊢; rw [hsz]; exact hfz⟩, hroom, hcm, by rw [hsz, hcs], ?_, hlen⟩, .inr (.inl ⟨b, cap, cap, rfl, rfl, hT, by rw [shape_of_blk g6, shape_of_blk hg0, hsz]⟩)⟩
        rw [g7]
        have e : cur.toList.take n = xs := by rw [← htake, hs, Nat.mul_one]
        rw [e, ← hlen]
        exact List.take_left
      · have holds : ∀ j u, xs[j]? = some u → w.cell? ((⟨b, 0, none⟩ : Addr).add j) = some u := fun j u hu => by
          rw [addr_add, Nat.zero_add, hg.cell]
          rw [← htake, List.getElem?_take] at hu
          split at hu
          · exact hu
          · cases hu
        have hr := Go.Lib.run_append_grow_string (P := P) w T U ty t i z ht hU hi hz ⟨b, 0, none⟩ n cap xs hxl holds s (by omega) h63' (growslice_fits (by omega) hb)
        rw [strV_cells] at hr
        obtain ⟨h2, h3, h4⟩ := mk cap xs hxl
        exact ⟨_, _, hr, h2, .inr (.inr ⟨_, rfl, h3, h4⟩)⟩
section
variable {C : Ctx} {E : Env} {st : St} {o : Oper} {β : BMap} {a : Act} {w w' : World} {Q : AQ} {ops : Array Oper} {rest : List Oper}
theorem AL_appendS {T U t sz by_ : Nat} {s : ByteArray} {x y : Operand} {i n d : Nat} {els els2 : List (List AV)} (hw : Wanted ops o st) (ho : o.op = .call { callee := .builtin .append, args := #[x, y], argTypes := #[T, U] }) (hd : o.dst = some d) (hlt : d < E.nt)
    (hx : st.look x = .own i sz 0 n) (hy : st.look y = .v (.string s)) (hU : C.P.underlying U = some .string) (hs1 : sz = 1) (he2 : els2 = bytesA s) (hb : st.boxes[i]? = some (.row t sz els)) (hn : els.length = n) (hin : elemInfo C.P T = some (t, sz, by_)) (hbd : (n + els2.length) * by_ ≤ 140737488355328) (h63 : n + els2.length ≤ maxLen)
    (hpin : E.npin ≤ i ∨ E.pin i = none) (hav : ∀ (j : Nat) (b : BoxC), j ≠ i → st.boxes[j]? = some b → (match b with | .cells _ _ => true | b => b.avoids i) = true) (hcl : ∀ j, avoidsLL j els2 = true) (hself : avoidsLL i els = true)
    (h : AL C E ops rest Q (((st.noBox i).setBox i (.row t sz (els ++ els2))).put d (.own i sz 0 (n + els2.length)))) : AL C E ops (o :: rest) Q st := by
  intro β a w H
  refine wpList_step fun K hK => ?_
  rw [wanted_of H hw]
  simp only [if_true]
  have hxr := H.look x
  have hyr := H.look y
  rw [hx] at hxr
  rw [hy] at hyr
  have hxl := H.looklim x
  rw [hx] at hxl
  have hyv : a.eval y = .string s := hyr
  have hl2 : els2.length = s.size := by rw [he2, bytesA_len]
  obtain ⟨ti, z, i1, i2, i3, i4, i5, rfl, rfl⟩ := elemInfo_some hin
  obtain ⟨news, hnews⟩ : ∃ news, news = strV s := ⟨_, rfl⟩
  have hnl : news.length = els2.length * ti.size := by rw [hnews, strV_len, hl2, hs1, Nat.mul_one]
  have hels2 : ∀ l ∈ els2, 0 < els2.length → l.length = ti.size := fun l hl _ => by
    rw [he2] at hl
    obtain ⟨u, _, rfl⟩ := List.mem_map.1 hl
    rw [hs1]
    rfl
  have hnr : AV.repCells nob (okB E β st) w els2.flatten news := by
    rw [he2, hnews, bytesA_flat]
    exact repCells_v _ (strV_one s)
  have hbx := H.boxes i _ hb
  have hbl := H.blim i _ hb
  have hil : i < st.boxes.length := (List.getElem?_eq_some_iff.1 hb).1
  have hels2' : ∀ l ∈ els2, l.length = ti.size := fun l hl => hels2 l hl (List.length_pos_of_mem hl)
  rw [AV.rep] at hxr
  simp only [BoxC.rep] at hbx
  -- the row, as append asks it
  have hown : ∃ xs, OwnV w t ti.size (a.eval x) n xs ∧ AV.repCells β (okB E β st) w els.flatten xs ∧ (∀ l ∈ els, l.length = ti.size) ∧ (β i = none → a.eval x = .slice none 0 0) ∧ (∀ b, β i = some b → (∃ cap, a.eval x = .slice (some ⟨b, 0, none⟩) n cap) ∧ ∃ cur tl, RowBlk w b cur t ∧ cur.toList = xs ++ tl) := by
    cases hβ : β i with
    | none =>
      rw [hβ] at hxr hbx
      simp only at hbx
      subst hbx
      obtain ⟨h1, _, h3⟩ := hxr
      exact ⟨[], .inl ⟨h1, h3, rfl⟩, rfl, by simp, fun _ => h1, fun b hb => by cases hb⟩
    | some b =>
      rw [hβ] at hxr hbx
      obtain ⟨cap, e, h1, h2, h3, h4⟩ := hxr
      obtain ⟨cur, tl, h5, h6, cs, h7, h8, h9⟩ := hbx
      rw [h5.shape] at h4
      have hcs : cur.size = cap * ti.size := by injection h4 with h4; injection h4 with _ h4; simpa using h4
      simp only [Nat.zero_mul] at h1
      refine ⟨cs, .inr ⟨b, cap, cur, h1, h5, h2, h3, hcs, ?_, by rw [h8, hn]⟩, h9, h6, (fun h => by cases h), fun b' hb' => ?_⟩
      · rw [h7, ← hn, ← h8, List.take_left]
      · injection hb' with hb'; subst hb'; exact ⟨⟨cap, h1⟩, cur, tl, h5, h7⟩
  obtain ⟨xs, hv, hxs, hels, hnone, hsome⟩ := hown
  obtain ⟨v', w', hrun, hv', hcase⟩ := run_append_absS (dr := C.dr) (P := C.P) (T := T) (U := U) (ty := o.type) i1 hU i2 i3 i4 hs1 s hv (by rw [← hl2]; exact hbd) (by rw [← hl2]; exact h63)
  rw [← hnews, ← hl2] at hv'
  rw [← hl2] at hcase
  have hexec : (execOp a.eval o).run C.P w = .ok (.value v') w' := by
    simp only [execOp, ho, resolve, Sem.run_bind, Sem.run_pure, Result.andThen_ok, invoke, builtin, List.map_toArray, List.map_cons, List.map_nil, hyv, hrun]
  refine wp_val hexec ?_
  rw [hd]
  have hall : ∀ l ∈ els ++ els2, l.length = ti.size := fun l hl => by
    rcases List.mem_append.1 hl with hl | hl
    · exact hels l hl
    · exact hels2' l hl
  have hlim : ∀ j, st.boxes.length ≤ j → (BoxC.row t ti.size (els ++ els2)).avoids j = true := fun j hj => by
    have h1 : avoidsLL j els = true := hbl j hj
    have h2 := hcl j
    show avoidsLL j (els ++ els2) = true
    rw [← avoidsL_flatten] at h1 h2 ⊢
    rw [List.flatten_append, avoidsL_append, h1, h2]
    rfl
  have hplim : ∀ k, ((st.noBox i).setBox i (BoxC.row t ti.size (els ++ els2))).boxes.length ≤ k → (AV.own i ti.size 0 (n + els2.length)).avoids k = true := fun k hk => by
    simp [St.setBox, St.noBox] at hk
    simp [AV.avoids]; omega
  have hlenall : (els ++ els2).length * ti.size = (xs ++ news).length := by
    have := repCells_len hxs
    rw [flatten_len hels] at this
    rw [List.length_append, List.length_append, Nat.add_mul, this, hnl]
  rcases hcase with ⟨rfl, rfl, hm⟩ | ⟨b, cap, cap', hvb, rfl, hT, hsh⟩ | ⟨cap', rfl, hbw, hsz⟩
  · -- nothing comes
    have h2 : els2 = [] := List.eq_nil_of_length_eq_zero hm
    subst h2
    refine hK _ _ (h β _ _ ?_)
    have H1 : Holds C E β (st.noBox i) a w' := H.strip i
    have e : (st.noBox i).setBox i (BoxC.row t ti.size (els ++ [])) = st.noBox i := by
      rw [List.append_nil]
      unfold St.setBox St.noBox
      congr 1
      obtain ⟨h3, h4⟩ := List.getElem?_eq_some_iff.1 hb
      apply List.ext_getElem?
      intro k
      rw [List.getElem?_set]
      split
      · rename_i e
        subst e
        simp [h3, h4, BoxC.strip]
      · rfl
    rw [e]
    refine H1.put hlt ?_ (fun k hk => by rw [e] at hplim; exact hplim k hk)
    simpa [AV.rep] using hxr
  · -- in place
    have hβ : β i = some b := by
      cases hβ : β i with
      | none => have := hnone hβ; rw [hvb] at this; cases this
      | some b' => obtain ⟨⟨c', h1⟩, _⟩ := hsome b' hβ; rw [hvb] at h1; injection h1 with h1 _ _; injection h1 with h1; injection h1 with h1 _ _; rw [h1]
    obtain ⟨_, cur, tl, h5, h7⟩ := hsome b hβ
    rcases hv' with ⟨h1, _⟩ | ⟨b2, cap2, cur2, h1, h2, h3, h4, h6, h8, h9⟩
    · cases h1
    · injection h1 with h1 _ hc2
      injection h1 with h1
      injection h1 with h1 _ _
      subst h1; subst hc2
      refine hK _ _ (h β _ _ ?_)
      have hE : Ext β (okB E β st) (okB E β st) w w' := ⟨by rw [hT.size]; exact Nat.le_refl _, fun _ h _ => h, fun k hk _ => hT.far k (fun e => by subst e; exact hk.2.2 i ⟨_, hb, rfl⟩ hβ), fun j k s hj hk => by
        by_cases e : k = b
        · subst e; rw [hsh]; exact hk
        · rw [shape_same (hT.far k e)]; exact hk⟩
      have hnew : AV.repCells β (okB E β st) w (els ++ els2).flatten (xs ++ news) := by
        rw [List.flatten_append]
        exact repCells_append hxs (repCells_closed (fun k => by rw [avoidsL_flatten]; exact hcl k) hnr)
      have H1 : Holds C E β (st.setBox i (.row t ti.size (els ++ els2))) a w' := H.turn hb rfl hβ hT hsh rfl hlim (by
        simp only [BoxC.rep, hβ]
        refine ⟨cur2, cur2.toList.drop ((n + els2.length) * ti.size), h2, hall, xs ++ news, ?_, hlenall.symm, AV.repCells_mono hE _ _ (fun _ _ => rfl) hnew⟩
        have := List.take_append_drop ((n + els2.length) * ti.size) cur2.toList
        rw [h8] at this
        exact this.symm)
      have H2 : Holds C E β ((st.noBox i).setBox i (.row t ti.size (els ++ els2))) a w' := by
        have := H1.strip i
        have e : (st.setBox i (.row t ti.size (els ++ els2))).noBox i = (st.noBox i).setBox i (.row t ti.size (els ++ els2)) := by
          unfold St.setBox St.noBox
          simp only [List.map_set]
          rfl
        rw [e] at this
        exact this
      refine H2.put hlt ?_ hplim
      rw [AV.rep, hβ]
      exact ⟨cap', t, by simp, h3, h4, by rw [h2.shape, h6]; simp⟩
  · -- elsewhere
    rcases hv' with ⟨h1, _⟩ | ⟨b2, cap2, cur2, h1, h2, h3, h4, h6, h8, h9⟩
    · cases h1
    · injection h1 with h1 _ hc2
      injection h1 with h1
      injection h1 with h1 _ _
      subst h1; subst hc2
      refine hK _ _ (h (upd β i (some w.heap.size)) _ _ ?_)
      have hnew : AV.repCells (upd β i (some w.heap.size)) (fun b => okB E β st b ∧ some w.heap.size ≠ some b) w' (els ++ els2).flatten (xs ++ news) := by
        rw [List.flatten_append]
        refine repCells_append (AV.repCells_mono (ext_new hbw.toBelow) _ _ (fun j hj => upd_ne _ _ (fun e => by subst e; rw [avoidsL_flatten, hself] at hj; cases hj)) hxs) ?_
        exact AV.repCells_mono (ext_new (β := β) hbw.toBelow) _ _ (fun j hj => by rw [avoidsL_flatten, hcl j] at hj; cases hj) (repCells_closed (β := β) (fun k => by rw [avoidsL_flatten]; exact hcl k) hnr)
      have H1 := H.rebox hbw hb rfl (bc' := .row t ti.size (els ++ els2)) rfl hpin hav ⟨Nat.le_refl _, hsz⟩ (by
        simp only [BoxC.rep, upd_eq]
        refine ⟨cur2, cur2.toList.drop ((n + els2.length) * ti.size), h2, hall, xs ++ news, ?_, hlenall.symm, hnew⟩
        have := List.take_append_drop ((n + els2.length) * ti.size) cur2.toList
        rw [h8] at this
        exact this.symm) hlim
      refine H1.put hlt ?_ hplim
      rw [AV.rep, upd_eq]
      exact ⟨cap', t, by simp, h3, h4, by rw [h2.shape, h6]; simp⟩
end
end Go.Proofs.YtnfbomhhgjlacaaDoor.Abs
