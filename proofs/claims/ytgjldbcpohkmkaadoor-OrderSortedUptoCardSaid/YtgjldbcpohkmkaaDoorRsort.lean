/- slices.SortFunc over nodes, by the order of their paths. -/
import Derived.Test.YtgjldbcpohkmkaaDoorRtree3
import Derived.Test.YtgjldbcpohkmkaaDoorMore
import Derived.Shelf.SlSortCmp.NoneTotal
namespace Go.Proofs.YtgjldbcpohkmkaaDoor.Abs
open Go.RowKit Go.MapKept
open Go.Sort
set_option linter.unusedVariables false
set_option linter.unusedSimpArgs false
set_option maxRecDepth 100000
set_option maxHeartbeats 4000000
theorem ltS_lex (a b : ByteArray) : ltS a b = decide (lexC cU a.data.toList b.data.toList < 0) := by
  unfold ltS
  rw [ByteArray.toList_eq, ByteArray.toList_eq, less_lex]
theorem cmpS_lex (a b : ByteArray) : cmpS a b = lexC cU a.data.toList b.data.toList := by
  have T := lex_tot cU_tot
  have h := T.rng a.data.toList b.data.toList
  have z := T.zero a.data.toList b.data.toList
  unfold cmpS
  rw [ltS_lex]
  by_cases e : a = b
  · subst e
    rw [z.2 rfl]
    simp
  · have e' : ¬ a.data.toList = b.data.toList := fun h => e (bytes_ext h)
    have h0 : lexC cU a.data.toList b.data.toList ≠ 0 := fun h => e' (z.1 h)
    by_cases h1 : lexC cU a.data.toList b.data.toList < 0
    · rw [if_pos (decide_eq_true h1)]; omega
    · rw [if_neg (by rw [decide_eq_false h1]; decide), if_neg e]; omega
theorem cmpS_tot : Tot cmpS := by
  have T := lex_tot cU_tot
  refine ⟨fun a b => ?_, fun a b => ?_, fun a b d => ?_, fun a b => ?_⟩
  · rw [cmpS_lex, cmpS_lex]; exact T.neg _ _
  · rw [cmpS_lex, T.zero]; exact ⟨bytes_ext, fun h => by rw [h]⟩
  · rw [cmpS_lex, cmpS_lex, cmpS_lex]; exact T.tr _ _ _
  · rw [cmpS_lex]; exact T.rng _ _
theorem mkS_inj {a b : List UInt8} (h : mkS a = mkS b) : a = b := mk_inj.1 h
theorem partsS_inj {a b : ByteArray} (h : partsS a = partsS b) : a = b := by
  unfold partsS at h
  have h2 : cutL 47 a.data.toList = cutL 47 b.data.toList := by
    have := congrArg (List.map fun x : ByteArray => x.data.toList) h
    rw [List.map_map, List.map_map] at this
    have e : ((fun x : ByteArray => x.data.toList) ∘ mkS) = id := funext fun l => mkS_list l
    rwa [e, List.map_id, List.map_id] at this
  exact bytes_ext (cutL_inj 47 h2)
theorem lessF_tot : Tot lessF := by
  have T := lex_tot cmpS_tot
  exact ⟨fun a b => T.neg _ _, fun a b => by
    unfold lessF
    rw [T.zero]
    exact ⟨partsS_inj, fun h => by rw [h]⟩, fun a b d => T.tr _ _ _, fun a b => T.rng _ _⟩
def nodeLe (a b : NodeT) : Bool := decide (lessF a.path b.path ≤ 0)
def sortF (xs : List NodeT) : List NodeT := xs.mergeSort nodeLe
theorem nodup_inj {l : List NodeT} (h : (l.map (·.path)).Nodup) : ∀ a b, a ∈ l → b ∈ l → a.path = b.path → a = b := by
  induction l with
  | nil => intro a b ha; cases ha
  | cons x l ih =>
    rw [List.map_cons, List.nodup_cons] at h
    intro a b ha hb e
    rcases List.mem_cons.1 ha with rfl | ha
    · rcases List.mem_cons.1 hb with rfl | hb
      · rfl
      · exact absurd (List.mem_map.2 ⟨b, hb, e.symm⟩) h.1
    · rcases List.mem_cons.1 hb with hb | hb
      · have hm : b.path ∈ l.map (·.path) := List.mem_map.2 ⟨a, ha, e⟩
        rw [hb] at hm
        exact absurd hm h.1
      · exact ih h.2 a b ha hb e
theorem sorted_is {t ys : List NodeT} (hd : (t.map (·.path)).Nodup) (hp : ys.Perm t) (hs : ys.Pairwise (fun a b => lessF a.path b.path ≤ 0)) : ys = sortF t := by
  have T := lessF_tot
  have h2 : (t.mergeSort nodeLe).Pairwise (fun a b => nodeLe a b = true) := List.pairwise_mergeSort (fun a b c h1 h2 => by
    unfold nodeLe at *
    exact decide_eq_true (T.tr _ _ _ (of_decide_eq_true h1) (of_decide_eq_true h2))) (fun a b => by
    unfold nodeLe
    have := T.neg a.path b.path
    rw [Bool.or_eq_true, decide_eq_true_eq, decide_eq_true_eq]
    omega) t
  refine List.Perm.eq_of_pairwise (le := fun a b => lessF a.path b.path ≤ 0) (fun a b ha hb h3 h4 => ?_) hs (h2.imp fun {a b} h => of_decide_eq_true h) (hp.trans (List.mergeSort_perm t nodeLe).symm)
  have h5 := T.neg a.path b.path
  refine nodup_inj hd a b (hp.mem_iff.1 ha) ((List.mergeSort_perm t nodeLe).mem_iff.1 hb) ((T.zero _ _).1 (by omega))
/-- A node in a row, with the slice that its bytes are. -/
structure SN where
  n : NodeT
  A : Option Addr
  len : Nat
  cap : Nat
  hs : n.path.size ≤ 1000000
instance sn_inh : Inhabited SN := ⟨⟨⟨⟨#[]⟩, 0, 0, ⟨#[]⟩, ⟨0, 0, 0, ⟨#[]⟩, ⟨#[]⟩, 0, 0⟩, ⟨#[]⟩⟩, none, 0, 0, by decide⟩⟩
def encSN (x : SN) : List Value := [.string x.n.path, .int .i64 x.n.kind, .int .i64 x.n.same, .string x.n.target, .int .i64 x.n.mt.mode, .int .i64 x.n.mt.uid, .int .i64 x.n.mt.gid, .string x.n.mt.user, .string x.n.mt.group, .int .i64 x.n.mt.second, .int .i64 x.n.mt.nano, .slice x.A x.len x.cap]
/-- The same draws, and blocks behind. -/
theorem grown_of {W w' : World} (h : BelowD true W.heap.size W w') : ∃ q os, w' = grow (W.drewN q) os := by
  refine ⟨w'.drawn - W.drawn, w'.heap.extract W.heap.size w'.heap.size, ?_⟩
  have h1 := h.drawn rfl
  have hh : w'.heap = W.heap ++ w'.heap.extract W.heap.size w'.heap.size := by
    apply Array.ext_getElem?
    intro i
    rw [Array.getElem?_append]
    split
    · rename_i hi; exact h.block i hi
    · rename_i hi
      rw [Array.getElem?_extract]
      have := h.size
      by_cases h2 : i < w'.heap.size
      · rw [if_pos (by omega)]; congr 1; omega
      · rw [if_neg (by omega), Array.getElem?_eq_none (by omega)]
  obtain ⟨h2, h3, h4, _, _⟩ := h.toBelow
  cases w' with
  | mk heap tape drawn os output =>
    simp only at *
    unfold grow World.drewN
    simp only [World.mk.injEq]
    exact ⟨hh, h3, by omega, h2, h4⟩
theorem repV_of {w : World} : ∀ vs : List Value, AV.repVals nob (fun _ => True) w (vs.map AV.v) vs
  | [] => rfl
  | v :: vs => ⟨v, vs, rfl, rfl, repV_of vs⟩
theorem tree2_calls (x y : SN) (W : World) (hg : 1 ≤ W.heap.size) (hG : GX W) :
    Calls Tryd.prog 28 #[.agg (encSN x).toArray, .agg (encSN y).toArray] W fun e w' => e = .returned (.int .i64 (lessF x.n.path y.n.path)) ∧ ∃ q os', w' = grow (W.drewN q) os' := by
  have h := tree2_ac (dr := true) x.n y.n x.A y.A x.len y.len x.cap y.cap x.hs y.hs W [.agg (encSN x).toArray, .agg (encSN y).toArray] (fun _ => True) hg hG ⟨_, _, rfl, ⟨_, rfl, ⟨_, _, rfl, rfl, rfl, _, _, rfl, rfl, rfl, _, _, rfl, rfl, rfl, _, _, rfl, rfl, rfl, _, _, rfl, rfl, rfl, _, _, rfl, rfl, rfl, _, _, rfl, rfl, rfl, _, _, rfl, rfl, rfl, _, _, rfl, rfl, rfl, _, _, rfl, rfl, rfl, _, _, rfl, rfl, rfl, _, _, rfl, rfl, rfl, rfl⟩⟩, _, _, rfl, ⟨_, rfl, ⟨_, _, rfl, rfl, rfl, _, _, rfl, rfl, rfl, _, _, rfl, rfl, rfl, _, _, rfl, rfl, rfl, _, _, rfl, rfl, rfl, _, _, rfl, rfl, rfl, _, _, rfl, rfl, rfl, _, _, rfl, rfl, rfl, _, _, rfl, rfl, rfl, _, _, rfl, rfl, rfl, _, _, rfl, rfl, rfl, _, _, rfl, rfl, rfl, rfl⟩⟩, rfl⟩
  refine h.mono ?_
  rintro e w' ⟨v, rfl, hb, hv⟩
  obtain rfl : v = .int .i64 (lessF x.n.path y.n.path) := hv
  exact ⟨rfl, grown_of hb⟩
theorem flat_enc (d : List SN) : (Go.Sort.flatK encSN 12 d.toArray).toList = (d.map encSN).flatten := by
  have hl : ∀ l : List SN, (l.map encSN).flatten.length = l.length * 12 := by
    intro l
    induction l with
    | nil => rfl
    | cons x l ih => simp only [List.map_cons, List.flatten_cons, List.length_append, ih]; show 12 + _ = (l.length + 1) * 12; omega
  have hget : ∀ (l : List SN) (t : Nat), t < l.length * 12 → (l.map encSN).flatten[t]! = (encSN l.toArray[t / 12]!)[t % 12]! := by
    intro l
    induction l with
    | nil => intro t ht; simp at ht
    | cons x l ih =>
      intro t ht
      simp only [List.map_cons, List.flatten_cons]
      have h12 : (encSN x).length = 12 := rfl
      by_cases h : t < 12
      · rw [show t / 12 = 0 by omega, show t % 12 = t by omega]
        simp only [List.getElem!_eq_getElem?_getD, List.getElem?_append_left (show t < (encSN x).length by omega)]
        rfl
      · have h1 : t / 12 = (t - 12) / 12 + 1 := by omega
        have h2 : t % 12 = (t - 12) % 12 := by omega
        have := ih (t - 12) (by simp at ht; omega)
        rw [h1, h2]
        simp only [List.getElem!_eq_getElem?_getD, List.getElem?_append_right (show (encSN x).length ≤ t by omega), h12] at this ⊢
        rw [this]
        have e : l.toArray[(t - 12) / 12]! = (x :: l).toArray[(t - 12) / 12 + 1]! := by
          simp [List.getElem!_eq_getElem?_getD]
        rw [e]
  apply List.ext_getElem
  · rw [Array.length_toList, Go.Sort.size_flatK, hl]; simp
  · intro t h1 h2
    have h3 : t < d.toArray.size * 12 := by rw [Array.length_toList, Go.Sort.size_flatK] at h1; exact h1
    have e1 := Go.Sort.get_flatK encSN 12 d.toArray t h3
    have e2 := hget d t (by simpa using h3)
    rw [getElem!_pos _ t (by rw [Go.Sort.size_flatK]; exact h3)] at e1
    rw [getElem!_pos _ t h2] at e2
    rw [e2, ← e1]
    rfl
theorem sort_world {W : World} {g : Nat} {cur : Array Value} (hb : W.heap[g]? = some (.cells cur 40 (0, 0))) (d : List SN) (hsz : d.length * 12 ≤ cur.size) (n : Nat) (os : Array Obj) :
    (∃ cur', (sortWorldK encSN 12 W g 0 n d.toArray os).heap[g]? = some (.cells cur' 40 (0, 0)) ∧ cur'.size = cur.size ∧ cur'.toList.take (d.length * 12) = (d.map encSN).flatten) ∧ W.grownBy (sortWorldK encSN 12 W g 0 n d.toArray os) (some g) := by
  have hg : g < W.heap.size := (Array.getElem?_eq_some_iff.1 hb).1
  unfold sortWorldK putRowK putRow mapBlock grow
  refine ⟨⟨putCells id 0 (flatK encSN 12 d.toArray) cur, ?_, by simp [putCells], ?_⟩, ⟨rfl, rfl, rfl, by simp [ahead], fun k hk hne => ?_⟩⟩
  · show ((W.heap.modify g _) ++ os)[g]? = _
    rw [Array.getElem?_append_left (by simpa using hg), Array.getElem?_modify, if_pos rfl, hb]
    rfl
  · have hfl : (flatK encSN 12 d.toArray).size = d.length * 12 := by rw [size_flatK]; simp
    rw [← flat_enc d]
    apply List.ext_getElem
    · simp [putCells, hfl]; omega
    · intro t h1 h2
      have h3 : t < d.length * 12 := by rw [Array.length_toList, hfl] at h2; exact h2
      have h4 : t < (flatK encSN 12 d.toArray).size := by omega
      have h5 : (flatK encSN 12 d.toArray)[t]! = (flatK encSN 12 d.toArray)[t] := getElem!_pos _ t h4
      simp [putCells, h3, hfl, h5]
  · have hne' : g ≠ k := fun e => hne (by rw [e])
    show ((W.heap.modify g _) ++ os)[k]? = _
    rw [Array.getElem?_append_left (by simpa using hk), Array.getElem?_modify, if_neg hne']
theorem ltSN (x y : SN) : ltOf (fun x y : SN => lessF x.n.path y.n.path) x y = decide (lessF x.n.path y.n.path < 0) := rfl
theorem sn_swo : SWO (ltOf fun x y : SN => lessF x.n.path y.n.path) := by
  have T := lessF_tot
  refine ⟨fun x => ?_, fun x y z h1 h2 => ?_, fun x y z h1 h2 => ?_⟩
  · rw [ltSN, (T.zero _ _).2 rfl]; rfl
  · rw [ltSN] at *
    have h1 := of_decide_eq_true h1
    have h2 := of_decide_eq_true h2
    have h3 := T.tr _ _ _ (by omega : lessF x.n.path y.n.path ≤ 0) (by omega : lessF y.n.path z.n.path ≤ 0)
    refine decide_eq_true ?_
    by_cases e : lessF x.n.path z.n.path = 0
    · have := (T.zero _ _).1 e
      rw [this] at h1
      have := T.neg y.n.path z.n.path
      omega
    · omega
  · rw [ltSN] at *
    have h1 := of_decide_eq_false h1
    have h2 := of_decide_eq_false h2
    have n1 := T.neg x.n.path y.n.path
    have n2 := T.neg y.n.path z.n.path
    have n3 := T.neg x.n.path z.n.path
    have h3 := T.tr z.n.path y.n.path x.n.path (by omega) (by omega)
    refine decide_eq_false ?_
    omega
theorem flat_len : ∀ d : List SN, (d.map encSN).flatten.length = d.length * 12
  | [] => rfl
  | y :: d => by
    have h12 : (encSN y).length = 12 := rfl
    rw [List.map_cons, List.flatten_cons, List.length_append, flat_len d, h12, List.length_cons]; omega
theorem sort_calls {W : World} {g cap : Nat} {cur : Array Value} {d : List SN} (hh : W.heap[g]? = some (.cells cur 40 (0, 0))) (hle : d.length * 12 ≤ cur.size) (hc4 : cur.toList.take (d.length * 12) = (d.map encSN).flatten) (hn : d.length < 4611686018427387904) (hg : 1 ≤ g) (hG : GX W) :
    Calls Tryd.prog 27 #[.slice (some ⟨g, 0, none⟩) d.length cap, .func (.func 28) #[] #[]] W fun e w' => e = .returned (.tuple #[]) ∧ ∃ ys : List SN, ys.Perm d ∧ ys.Pairwise (fun a b => lessF a.n.path b.n.path ≤ 0) ∧ (∃ cur', w'.heap[g]? = some (.cells cur' 40 (0, 0)) ∧ cur'.size = cur.size ∧ cur'.toList.take (d.length * 12) = (ys.map encSN).flatten) ∧ W.grownBy w' (some g) := by
  have hlt : g < W.heap.size := (Array.getElem?_eq_some_iff.1 hh).1
  have hH : HoldsK encSN 12 W g 0 d.toArray := by
    intro j hj
    have hj' : j < d.length * 12 := by rw [size_flatK] at hj; simpa using hj
    refine ⟨?_, by rw [Nat.zero_add]; simp [World.frozen?, hh]⟩
    rw [Nat.zero_add, cell_of_blk hh]
    have h5 : (flatK encSN 12 d.toArray).toList = cur.toList.take (d.length * 12) := by rw [flat_enc, hc4]
    rw [getElem!_pos _ j hj]
    have h6 : (flatK encSN 12 d.toArray).toList[j]? = cur.toList[j]? := by rw [h5, List.getElem?_take, if_pos hj']
    rw [Array.getElem?_toList, Array.getElem?_eq_getElem hj] at h6
    rw [← h6]
    rfl
  have hG' : ∀ m os dk, dk.size = d.length → 1 ≤ (sortWorldK encSN 12 W g 0 m dk os).heap.size ∧ GX (sortWorldK encSN 12 W g 0 m dk os) := fun m os dk hd => by
    have := (sort_world hh dk.toList (by rw [Array.length_toList, hd]; exact hle) m os).2
    have h7 : W.grownBy (sortWorldK encSN 12 W g 0 m dk os) (some g) := this
    have h8 := h7.size
    exact ⟨by omega, GX_stab W _ (by omega) (fun b hb => h7.block b (by omega) (fun e => by injection e with e; omega)) hG⟩
  have hcmp : CmpLays Tryd.prog 28 #[] encSN 12 (fun x y => lessF x.n.path y.n.path) g 0 d.toArray.size W := fun m os dk hd x y => tree2_calls x y _ (hG' m os dk (by simpa using hd)).1 (hG' m os dk (by simpa using hd)).2
  have eg : ∀ args w, (callFunc 28 args).run Tryd.prog w = .ok (.enter 28 args) w := enters_of Tryd.func28 (by kernel_rfl) rfl
  have hcon := AnyQ.slices_SortFunc Tryd.sortNode 12 Tryd.isAgg40 Tryd.sizeOf40 encSN (fun _ => rfl) (fun x v hv => by simp [encSN] at hv; rcases hv with rfl | rfl | rfl | rfl | rfl | rfl | rfl | rfl | rfl | rfl | rfl | rfl <;> rfl) (fun x y => lessF x.n.path y.n.path) sn_swo 28 #[] g 0 cap d.toArray W eg hcmp hH hlt (by simpa using hn)
  rw [show (d.toArray.size : Nat) = d.length from by simp] at hcon
  refine hcon.mono ?_
  rintro e w' ⟨he, d', n, os, ⟨hp1, hp2, hp3⟩, hso, rfl⟩
  have hsz : d'.toList.length = d.length := by rw [Array.length_toList, hp1]; simp
  have hperm : d'.toList.Perm d := by
    have h7 : (d'.extract 0 d.length).toList = d'.toList := by rw [Array.toList_extract, ← hsz, List.extract_eq_take_drop, List.drop_zero, Nat.sub_zero, List.take_length]
    have h8 : (d.toArray.extract 0 d.length).toList = d := by rw [Array.toList_extract]; simp
    rw [h7, h8] at hp3
    exact hp3
  obtain ⟨⟨cur', w1, w2, w3⟩, w4⟩ := sort_world hh d'.toList (by rw [hsz]; exact hle) n os
  refine ⟨he, d'.toList, hperm, ?_, ⟨cur', w1, w2, by rw [← hsz]; exact w3⟩, w4⟩
  rw [List.pairwise_iff_getElem]
  intro i j hi hj hij
  have := hso i j (Nat.zero_le _) hij (by rw [← hsz]; exact hj)
  rw [ltSN] at this
  have := of_decide_eq_false this
  rw [getElem!_pos d' j (by simpa using hj), getElem!_pos d' i (by simpa using hi)] at this
  have h9 := lessF_tot.neg (d'[i]'(by simpa using hi)).n.path (d'[j]'(by simpa using hj)).n.path
  simp only [Array.getElem_toList]
  omega
theorem sn_of {β : BMap} {ok : Nat → Prop} {w : World} : ∀ (xs : List NodeT) (cs : List Value), (∀ x ∈ xs, x.path.size ≤ 1000000) → AV.repCells β ok w (xs.map encNode).flatten cs → ∃ d : List SN, d.map (·.n) = xs ∧ cs = (d.map encSN).flatten ∧ ∀ y ∈ d, (AV.row 1 (bytesA y.n.data)).rep β ok w (.slice y.A y.len y.cap)
  | [], cs, _, h => ⟨[], rfl, h, by simp⟩
  | x :: xs, cs, hp, h => by
    rw [List.map_cons, List.flatten_cons] at h
    obtain ⟨_, _, rfl, _, rfl, _, _, rfl, _, rfl, _, _, rfl, _, rfl, _, _, rfl, _, rfl, _, _, rfl, _, rfl, _, _, rfl, _, rfl, _, _, rfl, _, rfl, _, _, rfl, _, rfl, _, _, rfl, _, rfl, _, _, rfl, _, rfl, _, _, rfl, _, rfl, v, rest, rfl, _, hv, h⟩ := h
    obtain ⟨d, h1, h2, h3⟩ := sn_of xs rest (fun y hy => hp y (List.mem_cons_of_mem _ hy)) h
    obtain ⟨A, c, rfl, h5⟩ := hv
    refine ⟨⟨x, A, (bytesA x.data).length, c, hp x (List.mem_cons_self ..)⟩ :: d, by rw [List.map_cons, h1], by rw [List.map_cons, List.flatten_cons, h2]; rfl, fun y hy => ?_⟩
    rcases List.mem_cons.1 hy with rfl | hy
    · exact ⟨A, c, rfl, h5⟩
    · exact h3 y hy
theorem sn_rep {β : BMap} {ok : Nat → Prop} {w : World} : ∀ (d : List SN), (∀ y ∈ d, (AV.row 1 (bytesA y.n.data)).rep β ok w (.slice y.A y.len y.cap)) → AV.repCells β ok w ((d.map (·.n)).map encNode).flatten (d.map encSN).flatten
  | [], _ => rfl
  | y :: d, h => by
    rw [List.map_cons, List.map_cons, List.flatten_cons, List.map_cons, List.flatten_cons]
    refine repCells_append ?_ (sn_rep d fun z hz => h z (List.mem_cons_of_mem _ hz))
    exact ⟨_, _, rfl, rfl, rfl, _, _, rfl, rfl, rfl, _, _, rfl, rfl, rfl, _, _, rfl, rfl, rfl, _, _, rfl, rfl, rfl, _, _, rfl, rfl, rfl, _, _, rfl, rfl, rfl, _, _, rfl, rfl, rfl, _, _, rfl, rfl, rfl, _, _, rfl, rfl, rfl, _, _, rfl, rfl, rfl, _, _, rfl, rfl, h y (List.mem_cons_self ..), rfl⟩
theorem two_live {i : Nat} {t t' sz : Nat} {els : List (List AV)} {cs : List AV} : liveIn [.row t sz els, .cells t' cs] i ↔ i < 2 := by
  constructor
  · rintro ⟨bc, h1, _⟩
    have := (List.getElem?_eq_some_iff.1 h1).1
    simpa using this
  · intro h
    match i, h with
    | 0, _ => exact ⟨_, rfl, rfl⟩
    | 1, _ => exact ⟨_, rfl, rfl⟩
theorem sort_ac (xs : List NodeT) (hl : xs.length ≤ 1000000000) (hp : ∀ x ∈ xs, x.path.size ≤ 1000000) (hd : (xs.map (·.path)).Nodup) :
    ACB CX 27 [.own 0 12 0 xs.length, .fn (.func 28) []] [.row 40 12 (xs.map encNode), .cells 34 [.own 0 12 0 xs.length]] (.v (.tuple #[])) [.row 40 12 ((sortF xs).map encNode), .cells 34 [.own 0 12 0 xs.length]] := by
  intro w vs β ok hgd hG hr hB
  obtain ⟨v1, _, rfl, hv1, v2, _, rfl, ⟨cs, rfl, hcs⟩, rfl⟩ := hr
  obtain rfl : cs = [] := hcs
  have hb0 := hB.rep 0 _ rfl
  have hb1 := hB.rep 1 _ rfl
  rw [AV.rep] at hv1
  simp only [BoxC.rep] at hb0
  have hinj : ∀ i j b, liveIn [.row 40 12 ((sortF xs).map encNode), .cells 34 [.own 0 12 0 xs.length]] i → liveIn [.row 40 12 ((sortF xs).map encNode), .cells 34 [.own 0 12 0 xs.length]] j → β i = some b → β j = some b → i = j := fun i j b h1 h2 => hB.inj i j b (two_live.2 (two_live.1 h1)) (two_live.2 (two_live.1 h2))
  have key : ∀ w' : World, w.heap.size ≤ w'.heap.size → (∀ b', b' < w.heap.size → some b' ≠ β 0 → w'.heap[b']? = w.heap[b']?) → (∀ b' s, w.shape? b' = some s → w'.shape? b' = some s) → Ext β ok (fun b' => (ok b' ∨ w.heap.size ≤ b') ∧ ∀ i, liveIn [.row 40 12 ((sortF xs).map encNode), .cells 34 [.own 0 12 0 xs.length]] i → β i ≠ some b') w w' ∧ (BoxC.cells 34 [.own 0 12 0 xs.length]).rep β (fun b' => (ok b' ∨ w.heap.size ≤ b') ∧ ∀ i, liveIn [.row 40 12 ((sortF xs).map encNode), .cells 34 [.own 0 12 0 xs.length]] i → β i ≠ some b') w' 1 := by
    intro w' hsz hblk hshp
    have hE : Ext β ok (fun b' => (ok b' ∨ w.heap.size ≤ b') ∧ ∀ i, liveIn [.row 40 12 ((sortF xs).map encNode), .cells 34 [.own 0 12 0 xs.length]] i → β i ≠ some b') w w' :=
      ⟨hsz, fun b' h _ => ⟨.inl h, fun i hi he => (hB.fresh i b' (two_live.2 (two_live.1 hi)) he).2.2 h⟩, fun b' h hlt => hblk b' hlt (fun e => (hB.fresh 0 b' (two_live.2 (by decide)) e.symm).2.2 h), fun i b' s _ hs => hshp b' s hs⟩
    refine ⟨hE, BoxC.rep_mono hE _ (fun _ _ => rfl) (fun _ => rfl) (fun b' hb' _ => hblk b' (hB.fresh 1 b' (two_live.2 (by decide)) hb').2.1 (fun e => ?_)) hb1⟩
    have := hB.inj 0 1 b' (two_live.2 (by decide)) (two_live.2 (by decide)) e.symm hb'
    cases this
  cases hβ : β 0 with
  | none =>
    rw [hβ] at hv1 hb0
    simp only at hb0 hv1
    obtain rfl : xs = [] := List.map_eq_nil_iff.1 hb0
    obtain ⟨rfl, _⟩ := hv1
    refine (AnyF.slices_SortFunc_none Tryd.sortNode none 0 (.func (.func 28) #[] #[]) w).mono ?_
    rintro e w' ⟨rfl, rfl⟩
    obtain ⟨hE, hc⟩ := key w' (Nat.le_refl _) (fun _ _ _ => rfl) (fun _ _ h => h)
    refine ⟨_, β, rfl, ⟨rfl, rfl, rfl, fun h => (by cases h), Nat.le_refl _, fun _ _ _ => rfl, fun _ _ h => h, fun i bc _ _ => rfl, rfl, fun i bc hi => ?_, hinj, fun i b hi hb => ?_⟩⟩
    · match i, hi with
      | 0, hi =>
        have e : BoxC.row 40 12 ((sortF []).map encNode) = bc := by simpa using hi
        subst e
        simp only [BoxC.rep, hβ]
        simp [sortF]
      | 1, hi =>
        have e : BoxC.cells 34 [.own 0 12 0 ([] : List NodeT).length] = bc := by simpa using hi
        subst e
        exact hc
      | _ + 2, hi => simp at hi
    · exact ⟨.inr ⟨i, two_live.2 (two_live.1 hi), hb⟩, (hB.fresh i b (two_live.2 (two_live.1 hi)) hb).2.1⟩
  | some b =>
    rw [hβ] at hv1 hb0
    obtain ⟨cur, tl, h1, h2, cs, h3, h4, h5⟩ := hb0
    obtain ⟨cap, e, rfl, h6, h7, h8⟩ := hv1
    obtain ⟨d, d1, d2, d3⟩ := sn_of xs cs hp h5
    have hdl : d.length = xs.length := by rw [← d1, List.length_map]
    rw [List.length_map] at h4
    obtain ⟨f1, f2, f3⟩ := hB.fresh 0 b (two_live.2 (by decide)) hβ
    have hcl : cur.size = xs.length * 12 + tl.length := by rw [← Array.length_toList, h3, List.length_append, h4]
    have htake : cur.toList.take (d.length * 12) = (d.map encSN).flatten := by rw [h3, hdl, ← h4, List.take_left, d2]
    have hsc := sort_calls (cap := cap) h1 (by rw [hdl, hcl]; omega) htake (by omega) f1 hG
    rw [hdl] at hsc
    rw [Nat.zero_mul]
    refine hsc.mono ?_
    rintro e w' ⟨rfl, ys, hpm, hpw, ⟨cur', g1, g2, g3⟩, hgr⟩
    have hys : ys.map (·.n) = sortF xs := sorted_is hd (by rw [← d1]; exact hpm.map _) (by rw [List.pairwise_map]; exact hpw)
    have hshp : ∀ b' s, w.shape? b' = some s → w'.shape? b' = some s := fun b' s hs => by
      by_cases e : b' = b
      · subst e
        rw [shape_of_blk h1] at hs
        rw [shape_of_blk g1, g2]
        exact hs
      · rw [shape_same (hgr.block b' (shape_lt hs) (fun q => by injection q with q; exact e q))]
        exact hs
    obtain ⟨hE, hc⟩ := key w' hgr.size (fun b' hlt hn => hgr.block b' hlt (by rw [hβ] at hn; exact hn)) hshp
    refine ⟨_, β, rfl, ⟨hgr.os, hgr.tape, hgr.output, fun h => (by cases h), hgr.size, fun b' hlt hn => hgr.block b' hlt (fun e => ?_), hshp, fun i bc _ _ => rfl, rfl, fun i bc hi => ?_, hinj, fun i b' hi hb => ?_⟩⟩
    · injection e with e
      subst e
      exact hn ⟨0, two_live.2 (by decide), hβ⟩
    · match i, hi with
      | 0, hi =>
        have e : BoxC.row 40 12 ((sortF xs).map encNode) = bc := by simpa using hi
        subst e
        simp only [BoxC.rep, hβ]
        refine ⟨cur', cur'.toList.drop (xs.length * 12), g1, fun l hl => ?_, (ys.map encSN).flatten, ?_, ?_, ?_⟩
        · obtain ⟨x, _, rfl⟩ := List.mem_map.1 hl
          rfl
        · rw [← g3, List.take_append_drop]
        · rw [flat_len, List.length_map, ← hys, List.length_map]
        · have hsr := sn_rep ys fun y hy => AV.rep_mono hE _ _ (fun _ _ => rfl) (d3 y (hpm.mem_iff.1 hy))
          rw [hys] at hsr
          exact hsr
      | 1, hi =>
        have e : BoxC.cells 34 [.own 0 12 0 xs.length] = bc := by simpa using hi
        subst e
        exact hc
      | _ + 2, hi => simp at hi
    · exact ⟨.inr ⟨i, two_live.2 (two_live.1 hi), hb⟩, Nat.lt_of_lt_of_le (hB.fresh i b' (two_live.2 (two_live.1 hi)) hb).2.1 hgr.size⟩
end Go.Proofs.YtgjldbcpohkmkaaDoor.Abs
