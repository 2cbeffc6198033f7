/- Abstract values, and walks over them. -/
import Derived.OrdersHeld
import Derived.Below
import Derived.Tactics
import Derived.Laws.AppendOwn
import Derived.MapKept
import Derived.Deep.MidRow
import Derived.Laws.IdiomStrings
import Derived.Laws.OwnMore
import Derived.Great.BuildSlice
import Derived.Laws.IdiomCopy
namespace Go.Proofs.YtnfbomhhgjlacaaDoor.Abs
open Go.RowKit Go.MapKept
set_option linter.unusedVariables false
set_option linter.unusedSimpArgs false

/-- Later blocks and draws; where dr is set, no draw is taken back. -/
structure BelowD (dr : Bool) (B : Nat) (w w' : World) : Prop extends Below B w w' where
  drawn : dr = true → w.drawn ≤ w'.drawn
theorem BelowD.alloc {dr : Bool} {B : Nat} {w w' : World} (h : BelowD dr B w w') (hB : B ≤ w'.heap.size) (o : Obj) : BelowD dr B w (w'.alloc o) := ⟨h.toBelow.alloc hB o, h.drawn⟩
theorem BelowD.refl {dr : Bool} (B : Nat) (w : World) : BelowD dr B w w := ⟨Below.refl B w, fun _ => Nat.le_refl _⟩
/-- Abstract values. -/
inductive AV where
  | v (x : Value)
  | row (sz : Nat) (els : List (List AV))
  | eptr (cells : List AV)
  | fn (f : Fn) (caps : List AV)
  | ptr (i off : Nat)
  | own (i sz off len : Nat)
  | mp (i : Nat)
  | agg (l : List AV)
  | tup (l : List AV)
  | junk
instance : Inhabited AV := ⟨.junk⟩
abbrev BMap := Nat → Option Nat
def nob : BMap := fun _ => none
mutual
def AV.rep (β : BMap) (ok : Nat → Prop) (w : World) : AV → Value → Prop
  | .v x, u => u = x
  | .row sz els, u => ∃ A c, u = .slice A els.length c ∧ els.length ≤ c ∧ (0 < els.length → ∃ b off, A = some ⟨b, off, none⟩ ∧ ok b ∧ b < w.heap.size ∧ AV.repRows nob ok w sz b off els)
  | .eptr cs, u => ∃ b off, u = .pointer (some ⟨b, off, none⟩) ∧ ok b ∧ b < w.heap.size ∧ AV.repAt nob ok w b off cs
  | .fn f caps, u => ∃ cs : List Value, u = .func f #[] cs.toArray ∧ AV.repVals β ok w caps cs
  | .ptr i off, u => ∃ b, β i = some b ∧ u = .pointer (some ⟨b, off, none⟩)
  | .own i sz off len, u => match β i with
    | none => u = .slice none 0 0 ∧ off = 0 ∧ len = 0
    | some b => ∃ cap e, u = .slice (some ⟨b, off * sz, none⟩) len cap ∧ len ≤ cap ∧ cap ≤ maxLen ∧ w.shape? b = some (e, (off + cap) * sz)
  | .mp i, u => ∃ b, β i = some b ∧ u = .map (some b)
  | .agg l, u => ∃ cs : List Value, u = .agg cs.toArray ∧ AV.repCells β ok w l cs
  | .tup l, u => ∃ cs : List Value, u = .tuple cs.toArray ∧ AV.repVals β ok w l cs
  | .junk, _ => True
def AV.repCells (β : BMap) (ok : Nat → Prop) (w : World) : List AV → List Value → Prop
  | [], vs => vs = []
  | x :: l, vs => ∃ v rest, vs = v :: rest ∧ v.oneCell' = true ∧ AV.rep β ok w x v ∧ AV.repCells β ok w l rest
def AV.repVals (β : BMap) (ok : Nat → Prop) (w : World) : List AV → List Value → Prop
  | [], vs => vs = []
  | x :: l, vs => ∃ v rest, vs = v :: rest ∧ AV.rep β ok w x v ∧ AV.repVals β ok w l rest
def AV.repAt (β : BMap) (ok : Nat → Prop) (w : World) (b : Nat) (off : Nat) : List AV → Prop
  | [] => True
  | x :: l => (∃ v, w.cell? ⟨b, off, none⟩ = some v ∧ v.oneCell' = true ∧ AV.rep β ok w x v) ∧ AV.repAt β ok w b (off + 1) l
def AV.repRows (β : BMap) (ok : Nat → Prop) (w : World) (sz b off : Nat) : List (List AV) → Prop
  | [] => True
  | l :: ls => l.length = sz ∧ AV.repAt β ok w b off l ∧ AV.repRows β ok w sz b (off + sz) ls
end
mutual
/-- The value says nothing of box i. -/
def AV.avoids (i : Nat) : AV → Bool
  | .fn _ caps => AV.avoidsL i caps
  | .ptr j _ => i != j
  | .own j _ _ _ => i != j
  | .mp j => i != j
  | .agg l => AV.avoidsL i l
  | .tup l => AV.avoidsL i l
  | _ => true
def AV.avoidsL (i : Nat) : List AV → Bool
  | [] => true
  | x :: l => AV.avoids i x && AV.avoidsL i l
end
/-- What lies in ok's blocks reads as it did, and the boxes have their shapes. -/
structure Ext (β : BMap) (ok ok' : Nat → Prop) (w w' : World) : Prop where
  size : w.heap.size ≤ w'.heap.size
  sub : ∀ b, ok b → b < w.heap.size → ok' b
  cell : ∀ b, ok b → b < w.heap.size → w'.heap[b]? = w.heap[b]?
  shape : ∀ i b s, β i = some b → w.shape? b = some s → w'.shape? b = some s
theorem cell_lt {w : World} {b off : Nat} {v : Value} (h : w.cell? ⟨b, off, none⟩ = some v) : b < w.heap.size := World.block_lt_of_cell? w _ h
theorem cell_same {w w' : World} {b off : Nat} (h : w'.heap[b]? = w.heap[b]?) : w'.cell? ⟨b, off, none⟩ = w.cell? ⟨b, off, none⟩ := World.cell?_of_block (a := ⟨b, off, none⟩) h
theorem Ext.nob {β : BMap} {ok ok' : Nat → Prop} {w w' : World} (h : Ext β ok ok' w w') : Ext nob ok ok' w w' := ⟨h.size, h.sub, h.cell, fun _ _ _ hb => by cases hb⟩
mutual
theorem AV.rep_mono {β β' : BMap} {ok ok' : Nat → Prop} {w w' : World} (hE : Ext β ok ok' w w') : ∀ (x : AV) (u : Value), (∀ i, x.avoids i = false → β' i = β i) → x.rep β ok w u → x.rep β' ok' w' u
  | .v _, _, _, h => h
  | .row sz els, u, _, h => by
    obtain ⟨A, c, h1, h2, h3⟩ := h
    refine ⟨A, c, h1, h2, fun hn => ?_⟩
    obtain ⟨b, off, h4, h5, h6, h7⟩ := h3 hn
    have hc := hE.cell b h5 h6
    exact ⟨b, off, h4, hE.sub b h5 h6, Nat.lt_of_lt_of_le h6 hE.size, AV.repRows_mono hE hc sz off els h7⟩
  | .eptr cs, u, _, h => by
    obtain ⟨b, off, h4, h5, h6, h7⟩ := h
    have hc := hE.cell b h5 h6
    exact ⟨b, off, h4, hE.sub b h5 h6, Nat.lt_of_lt_of_le h6 hE.size, AV.repAt_mono hE hc off cs h7⟩
  | .fn f caps, u, ha, h => by
    obtain ⟨cs, h1, h2⟩ := h
    exact ⟨cs, h1, AV.repVals_mono hE caps cs (fun i hi => ha i (by simpa [AV.avoids] using hi)) h2⟩
  | .ptr i off, u, ha, h => by
    obtain ⟨b, h1, h2⟩ := h
    exact ⟨b, by rw [ha i (by simp [AV.avoids])]; exact h1, h2⟩
  | .own i sz off len, u, ha, h => by
    rw [AV.rep] at h ⊢
    rw [ha i (by simp [AV.avoids])]
    cases hb : β i with
    | none => rw [hb] at h; exact h
    | some b =>
      rw [hb] at h
      obtain ⟨cap, e, h1, h2, h3, h4⟩ := h
      exact ⟨cap, e, h1, h2, h3, hE.shape i b _ hb h4⟩
  | .mp i, u, ha, h => by
    obtain ⟨b, h1, h2⟩ := h
    exact ⟨b, by rw [ha i (by simp [AV.avoids])]; exact h1, h2⟩
  | .agg l, u, ha, h => by
    obtain ⟨cs, h1, h2⟩ := h
    exact ⟨cs, h1, AV.repCells_mono hE l cs (fun i hi => ha i (by simpa [AV.avoids] using hi)) h2⟩
  | .tup l, u, ha, h => by
    obtain ⟨cs, h1, h2⟩ := h
    exact ⟨cs, h1, AV.repVals_mono hE l cs (fun i hi => ha i (by simpa [AV.avoids] using hi)) h2⟩
  | .junk, _, _, _ => trivial
theorem AV.repCells_mono {β β' : BMap} {ok ok' : Nat → Prop} {w w' : World} (hE : Ext β ok ok' w w') : ∀ (l : List AV) (cs : List Value), (∀ i, AV.avoidsL i l = false → β' i = β i) → AV.repCells β ok w l cs → AV.repCells β' ok' w' l cs
  | [], _, _, h => h
  | x :: l, cs, ha, h => by
    obtain ⟨v, rest, h1, h2, h3, h4⟩ := h
    exact ⟨v, rest, h1, h2, AV.rep_mono hE x v (fun i hi => ha i (by simp [AV.avoidsL, hi])) h3, AV.repCells_mono hE l rest (fun i hi => ha i (by simp [AV.avoidsL, hi])) h4⟩
theorem AV.repVals_mono {β β' : BMap} {ok ok' : Nat → Prop} {w w' : World} (hE : Ext β ok ok' w w') : ∀ (l : List AV) (cs : List Value), (∀ i, AV.avoidsL i l = false → β' i = β i) → AV.repVals β ok w l cs → AV.repVals β' ok' w' l cs
  | [], _, _, h => h
  | x :: l, cs, ha, h => by
    obtain ⟨v, rest, h1, h3, h4⟩ := h
    exact ⟨v, rest, h1, AV.rep_mono hE x v (fun i hi => ha i (by simp [AV.avoidsL, hi])) h3, AV.repVals_mono hE l rest (fun i hi => ha i (by simp [AV.avoidsL, hi])) h4⟩
theorem AV.repAt_mono {β : BMap} {ok ok' : Nat → Prop} {w w' : World} (hE : Ext β ok ok' w w') {b : Nat} (hc : w'.heap[b]? = w.heap[b]?) : ∀ (off : Nat) (l : List AV), AV.repAt nob ok w b off l → AV.repAt nob ok' w' b off l
  | _, [], _ => trivial
  | off, x :: l, h => by
    obtain ⟨⟨v, h1, h2, h3⟩, h4⟩ := h
    exact ⟨⟨v, (cell_same hc).trans h1, h2, AV.rep_mono (β' := nob) hE.nob x v (fun _ _ => rfl) h3⟩, AV.repAt_mono hE hc (off + 1) l h4⟩
theorem AV.repRows_mono {β : BMap} {ok ok' : Nat → Prop} {w w' : World} (hE : Ext β ok ok' w w') {b : Nat} (hc : w'.heap[b]? = w.heap[b]?) : ∀ (sz off : Nat) (ls : List (List AV)), AV.repRows nob ok w sz b off ls → AV.repRows nob ok' w' sz b off ls
  | _, _, [], _ => trivial
  | sz, off, l :: ls, h => by
    obtain ⟨h1, h2, h3⟩ := h
    exact ⟨h1, AV.repAt_mono hE hc off l h2, AV.repRows_mono hE hc sz (off + sz) ls h3⟩
end

/-- No cell of a block of so many is frozen. -/
def Fz (fz : Nat × Nat) (n : Nat) : Prop := fz = (0, 0) ∨ n ≤ fz.1
/-- What is true of the block of a row: its cells, none frozen. -/
def RowBlk (w : World) (b : Nat) (cur : Array Value) (t : TypeId) : Prop := ∃ fz, w.heap[b]? = some (.cells cur t fz) ∧ Fz fz cur.size
theorem RowBlk.of {w : World} {b : Nat} {cur : Array Value} {t : TypeId} (h : w.heap[b]? = some (.cells cur t (0, 0))) : RowBlk w b cur t := ⟨_, h, .inl rfl⟩
theorem RowBlk.cell {w : World} {b off : Nat} {cur : Array Value} {t : TypeId} (h : RowBlk w b cur t) : w.cell? ⟨b, off, none⟩ = cur.toList[off]? := by
  obtain ⟨fz, h, _⟩ := h
  simp [World.cell?, h]
theorem RowBlk.shape {w : World} {b : Nat} {cur : Array Value} {t : TypeId} (h : RowBlk w b cur t) : w.shape? b = some (t, cur.size) := by
  obtain ⟨fz, h, _⟩ := h
  simp [World.shape?, h]
theorem RowBlk.frozen {w : World} {b off : Nat} {cur : Array Value} {t : TypeId} (h : RowBlk w b cur t) (ho : off < cur.size) : w.frozen? ⟨b, off, none⟩ = false := by
  obtain ⟨⟨lo, hi⟩, h, hf⟩ := h
  simp only [World.frozen?, h]
  rcases hf with e | e
  · injection e with e1 e2
    subst e1; subst e2
    simp
  · have e : cur.size ≤ lo := e
    simp
    omega
/-- What a box holds: a variable of fixed cells; a row (what lies behind its elements is not told); a map. -/
inductive BoxC where
  | none
  | cells (t : TypeId) (cs : List AV)
  | row (t : TypeId) (sz : Nat) (els : List (List AV))
  | map (d : TypeDesc) (kvs : List (Value × AV))
instance : Inhabited BoxC := ⟨.none⟩
def BoxC.live : BoxC → Bool
  | .none => false
  | _ => true
def repKV (β : BMap) (ok : Nat → Prop) (w : World) : List (Value × AV) → List MapEntry → Prop
  | [], es => es = []
  | kv :: l, es => ∃ e rest, es = e :: rest ∧ e.key = kv.1 ∧ kv.2.rep β ok w e.val ∧ repKV β ok w l rest
def BoxC.rep (β : BMap) (ok : Nat → Prop) (w : World) (i : Nat) : BoxC → Prop
  | .none => True
  | .cells t cs => ∃ b cur, β i = some b ∧ w.heap[b]? = some (.cells cur t (0, 0)) ∧ AV.repCells β ok w cs cur.toList
  | .row t sz els => match β i with
    | .none => els = []
    | some b => ∃ cur tl, RowBlk w b cur t ∧ (∀ l ∈ els, l.length = sz) ∧ ∃ cs, cur.toList = cs ++ tl ∧ cs.length = els.length * sz ∧ AV.repCells β ok w els.flatten cs
  | .map d kvs => ∃ b es clock, β i = some b ∧ w.heap[b]? = some (.map es clock) ∧ repKV β ok w kvs es.toList ∧ ∀ p ∈ kvs, IsKey d p.1
def avoidsLL (i : Nat) : List (List AV) → Bool
  | [] => true
  | l :: ls => AV.avoidsL i l && avoidsLL i ls
def avoidsKV (i : Nat) : List (Value × AV) → Bool
  | [] => true
  | kv :: ls => kv.2.avoids i && avoidsKV i ls
def BoxC.avoids (i : Nat) : BoxC → Bool
  | .none => true
  | .cells _ cs => AV.avoidsL i cs
  | .row _ _ els => avoidsLL i els
  | .map _ kvs => avoidsKV i kvs
theorem avoidsL_append (i : Nat) (l m : List AV) : AV.avoidsL i (l ++ m) = (AV.avoidsL i l && AV.avoidsL i m) := by
  induction l with
  | nil => simp [AV.avoidsL]
  | cons x l ih => simp [AV.avoidsL, ih, Bool.and_assoc]
theorem avoidsL_flatten (i : Nat) (ls : List (List AV)) : AV.avoidsL i ls.flatten = avoidsLL i ls := by
  induction ls with
  | nil => rfl
  | cons l ls ih => simp [avoidsLL, avoidsL_append, ih]
theorem repKV_mono {β β' : BMap} {ok ok' : Nat → Prop} {w w' : World} (hE : Ext β ok ok' w w') : ∀ (l : List (Value × AV)) (es : List MapEntry), (∀ i, avoidsKV i l = false → β' i = β i) → repKV β ok w l es → repKV β' ok' w' l es
  | [], _, _, h => h
  | kv :: l, es, ha, h => by
    obtain ⟨e, rest, h1, h2, h3, h4⟩ := h
    exact ⟨e, rest, h1, h2, AV.rep_mono hE _ _ (fun i hi => ha i (by simp [avoidsKV, hi])) h3, repKV_mono hE l rest (fun i hi => ha i (by simp [avoidsKV, hi])) h4⟩
/-- A box whose own block stays. -/
theorem BoxC.rep_mono {β β' : BMap} {ok ok' : Nat → Prop} {w w' : World} {i : Nat} (hE : Ext β ok ok' w w') (bc : BoxC) (ha : ∀ j, bc.avoids j = false → β' j = β j) (hi : bc.live = true → β' i = β i) (hb : ∀ b, β i = some b → bc.live = true → w'.heap[b]? = w.heap[b]?) (h : bc.rep β ok w i) : bc.rep β' ok' w' i := by
  cases bc with
  | none => trivial
  | cells t cs =>
    obtain ⟨b, cur, h1, h2, h3⟩ := h
    exact ⟨b, cur, (hi rfl).trans h1, (hb b h1 rfl).trans h2, AV.repCells_mono hE _ _ ha h3⟩
  | row t sz els =>
    have hi := hi rfl
    simp only [BoxC.rep] at h ⊢
    rw [hi]
    cases hβ : β i with
    | none => rw [hβ] at h; exact h
    | some b =>
      rw [hβ] at h
      obtain ⟨cur, tl, h1, h2, cs, h3, h4, h5⟩ := h
      obtain ⟨fz, h1, hfz⟩ := h1
      exact ⟨cur, tl, ⟨fz, (hb b hβ rfl).trans h1, hfz⟩, h2, cs, h3, h4, AV.repCells_mono hE _ _ (fun j hj => ha j (by rw [avoidsL_flatten] at hj; exact hj)) h5⟩
  | map d kvs =>
    obtain ⟨b, es, clock, h1, h2, h3, h4⟩ := h
    exact ⟨b, es, clock, (hi rfl).trans h1, (hb b h1 rfl).trans h2, repKV_mono hE _ _ ha h3, h4⟩

/-- What is known: of live slots, of boxes. -/
structure St where
  slots : List (Nat × AV)
  boxes : List BoxC
/-- The library's fact: of the blocks below 'gd'. -/
structure Ctx where
  P : Program
  dr : Bool
  gd : Nat
  G : World → Prop
  stab : ∀ w w', gd ≤ w.heap.size → (∀ b, b < gd → w'.heap[b]? = w.heap[b]?) → G w → G w'
structure Env where
  w0 : World
  ok0 : Nat → Prop
  arg : Nat → Prop
  ex : Nat → Prop
  npin : Nat
  pin : Nat → Option Nat
  nt : Nat
  dr : Bool
def Env.base (E : Env) : Nat := E.w0.heap.size
structure Kept (E : Env) (w : World) : Prop where
  os : w.os = E.w0.os
  tape : w.tape = E.w0.tape
  output : w.output = E.w0.output
  size : E.base ≤ w.heap.size
  block : ∀ b, b < E.base → ¬ E.arg b → w.heap[b]? = E.w0.heap[b]?
  shape : ∀ b s, E.w0.shape? b = some s → w.shape? b = some s
  drawn : E.dr = true → E.w0.drawn ≤ w.drawn
structure EnvOk (C : Ctx) (E : Env) : Prop where
  dr : E.dr = C.dr
  gd : C.gd ≤ E.base
  G : C.G E.w0
  arg : ∀ b, E.arg b → C.gd ≤ b ∧ b < E.base
  ok : ∀ b, E.ok0 b → b < E.base → ¬ E.arg b
def St.liveB (st : St) (i : Nat) : Prop := ∃ bc, st.boxes[i]? = some bc ∧ bc.live = true
def okB (E : Env) (β : BMap) (st : St) (b : Nat) : Prop := (E.ok0 b ∨ E.base ≤ b) ∧ ¬ E.ex b ∧ ∀ i, st.liveB i → β i ≠ some b
structure Holds (C : Ctx) (E : Env) (β : BMap) (st : St) (a : Act) (w : World) : Prop where
  env : EnvOk C E
  size : a.tmps.size = E.nt
  defers : a.defers = []
  kept : Kept E w
  slots : ∀ t x, (t, x) ∈ st.slots → x.rep β (okB E β st) w (a.tmps.getD t undef)
  lim : ∀ t x, (t, x) ∈ st.slots → ∀ i, st.boxes.length ≤ i → x.avoids i = true
  boxes : ∀ (i : Nat) (bc : BoxC), st.boxes[i]? = some bc → bc.rep β (okB E β st) w i
  blim : ∀ (i : Nat) (bc : BoxC), st.boxes[i]? = some bc → ∀ j, st.boxes.length ≤ j → bc.avoids j = true
  inj : ∀ i j b, st.liveB i → st.liveB j → β i = some b → β j = some b → i = j
  fresh : ∀ i b, st.liveB i → β i = some b → (E.base ≤ b ∨ E.arg b) ∧ ¬ E.ex b ∧ b < w.heap.size
  ex : ∀ b, E.ex b → b < w.heap.size
  pin : E.npin ≤ st.boxes.length ∧ ∀ i b, i < E.npin → E.pin i = some b → β i = some b
theorem liveB_lt {st : St} {i : Nat} (h : st.liveB i) : i < st.boxes.length := by
  obtain ⟨bc, h1, _⟩ := h
  exact (List.getElem?_eq_some_iff.1 h1).1
section
variable {C : Ctx} {E : Env} {β : BMap} {st : St} {a : Act} {w w' : World}
theorem Holds.G (h : Holds C E β st a w) : C.gd ≤ w.heap.size ∧ C.G w := by
  refine ⟨Nat.le_trans h.env.gd h.kept.size, C.stab E.w0 w h.env.gd (fun b hb => ?_) h.env.G⟩
  have := h.env.gd
  exact h.kept.block b (by unfold Env.base at *; omega) (fun ha => by have := (h.env.arg b ha).1; omega)
theorem shape_same {w w' : World} {b : Nat} (h : w'.heap[b]? = w.heap[b]?) : w'.shape? b = w.shape? b := by simp [World.shape?, h]
theorem shape_lt {w : World} {b : Nat} {s : TypeId × Nat} (h : w.shape? b = some s) : b < w.heap.size := by
  rcases Nat.lt_or_ge b w.heap.size with h' | h'
  · exact h'
  · simp [World.shape?, Array.getElem?_eq_none h'] at h
theorem Kept.below (h : Kept E w) (hb : BelowD E.dr w.heap.size w w') : Kept E w' :=
  ⟨hb.os.trans h.os, hb.tape.trans h.tape, hb.output.trans h.output, Nat.le_trans h.size hb.size, fun b h1 h2 => (hb.block b (Nat.lt_of_lt_of_le h1 h.size)).trans (h.block b h1 h2), fun b s hs => by rw [shape_same (hb.block b (Nat.lt_of_lt_of_le (shape_lt hs) h.size))]; exact h.shape b s hs, fun hd => Nat.le_trans (h.drawn hd) (hb.drawn hd)⟩
theorem ext_below {ok : Nat → Prop} (hb : Below w.heap.size w w') : Ext β ok ok w w' :=
  ⟨hb.size, fun _ h _ => h, fun b _ h => hb.block b h, fun i b s _ h => by rw [shape_same (hb.block b (shape_lt h))]; exact h⟩
/-- The world goes on: later blocks and draws. -/
theorem Holds.below (h : Holds C E β st a w) (hbd : BelowD C.dr w.heap.size w w') : Holds C E β st a w' := by
  have hb := hbd.toBelow
  refine ⟨h.env, h.size, h.defers, h.kept.below (by rw [h.env.dr]; exact hbd), fun t x hx => ?_, h.lim, fun i bc hi => ?_, h.blim, h.inj, fun i b h1 h2 => ?_, fun b hb' => Nat.lt_of_lt_of_le (h.ex b hb') hb.size, h.pin⟩
  · exact AV.rep_mono (ext_below hb) _ _ (fun _ _ => rfl) (h.slots t x hx)
  · refine BoxC.rep_mono (ext_below hb) bc (fun _ _ => rfl) (fun _ => rfl) (fun b h1 h2 => hb.block b ?_) (h.boxes i bc hi)
    exact (h.fresh i b ⟨bc, hi, h2⟩ h1).2.2
  · have := h.fresh i b h1 h2
    exact ⟨this.1, this.2.1, Nat.lt_of_lt_of_le this.2.2 hb.size⟩
def St.put (st : St) (d : Nat) (x : AV) : St := { st with slots := (d, x) :: st.slots.filter (fun p => p.1 != d) }
theorem liveB_put {d : Nat} {x : AV} {i : Nat} : (st.put d x).liveB i ↔ st.liveB i := Iff.rfl
theorem okB_put {d : Nat} {x : AV} : okB E β (st.put d x) = okB E β st := rfl
theorem put_getD_ne (a : Act) {d t : Nat} (v : Value) (h : t ≠ d) : (a.put (some d) v).tmps.getD t undef = a.tmps.getD t undef := by
  simp only [Act.put, Array.getD_eq_getD_getElem?]
  rw [Array.getElem?_setIfInBounds_ne (Ne.symm h)]
theorem put_getD_eq (a : Act) {d : Nat} (v : Value) (h : d < a.tmps.size) : (a.put (some d) v).tmps.getD d undef = v := by
  simp [Act.put, Array.getD_eq_getD_getElem?, h]
theorem Holds.put (h : Holds C E β st a w) {d : Nat} {x : AV} {v : Value} (hd : d < E.nt) (hx : x.rep β (okB E β st) w v) (hl : ∀ i, st.boxes.length ≤ i → x.avoids i = true) : Holds C E β (st.put d x) (a.put (some d) v) w := by
  have key : ∀ t y, (t, y) ∈ (st.put d x).slots → (t = d ∧ y = x) ∨ (t ≠ d ∧ (t, y) ∈ st.slots) := by
    intro t y hy
    rcases List.mem_cons.1 hy with hy | hy
    · injection hy with h1 h2; exact .inl ⟨h1, h2⟩
    · rw [List.mem_filter] at hy
      exact .inr ⟨by simpa using hy.2, hy.1⟩
  refine ⟨h.env, by simpa [Act.put] using h.size, h.defers, h.kept, fun t y hy => ?_, fun t y hy => ?_, h.boxes, h.blim, h.inj, h.fresh, h.ex, h.pin⟩
  · rcases key t y hy with ⟨rfl, rfl⟩ | ⟨h1, h2⟩
    · rw [put_getD_eq a v (by rw [h.size]; exact hd)]; exact hx
    · rw [put_getD_ne a v h1]; exact h.slots t y h2
  · rcases key t y hy with ⟨rfl, rfl⟩ | ⟨h1, h2⟩
    · exact hl
    · exact h.lim t y h2
/-- Slots that are no longer of interest. -/
theorem Holds.sub (h : Holds C E β st a w) {sl : List (Nat × AV)} (hs : ∀ p ∈ sl, p ∈ st.slots) : Holds C E β { st with slots := sl } a w :=
  ⟨h.env, h.size, h.defers, h.kept, fun t x hx => h.slots t x (hs _ hx), fun t x hx => h.lim t x (hs _ hx), h.boxes, h.blim, h.inj, h.fresh, h.ex, h.pin⟩
end

abbrev AQ := Exit → St → Prop
def lift (C : Ctx) (E : Env) (Q : AQ) : Exit → Act → World → Prop := fun e a w => ∃ st β, Q e st ∧ Holds C E β st a w
/-- The abstract triple. -/
def AW (C : Ctx) (E : Env) (c : Code) (Q : AQ) (st : St) : Prop := ∀ β a w, Holds C E β st a w → c.wp C.P (lift C E Q) a w
def thenA (next : St → Prop) (Q : AQ) : AQ
  | .normal, st => next st
  | e, st => Q e st
def blockA (id : Nat) (Q : AQ) : AQ
  | .exit id', st => if id' = id then Q .normal st else Q (.exit id') st
  | e, st => Q e st
def St.look (st : St) : Operand → AV
  | .tmp t => (st.slots.lookup t).getD .junk
  | .const v => .v v
  | .global g => .v (.pointer (some ⟨g, 0, none⟩))
  | .func f => .fn (.func f) []
theorem mem_of_lookup {l : List (Nat × AV)} {t : Nat} {x : AV} (h : l.lookup t = some x) : (t, x) ∈ l := by
  induction l with
  | nil => cases h
  | cons p l ih =>
    obtain ⟨k, y⟩ := p
    rw [List.lookup_cons] at h
    split at h
    · rename_i hk
      have hk : t = k := by simpa using hk
      injection h with h
      subst hk; subst h
      exact List.mem_cons_self ..
    · exact List.mem_cons_of_mem _ (ih h)
section
variable {C : Ctx} {E : Env} {β : BMap} {st : St} {a : Act} {w w' : World} {Q : AQ}
theorem Holds.look (h : Holds C E β st a w) (x : Operand) : (st.look x).rep β (okB E β st) w (a.eval x) := by
  cases x with
  | tmp t =>
    show AV.rep β _ w ((st.slots.lookup t).getD .junk) _
    cases hl : st.slots.lookup t with
    | none => simp [AV.rep]
    | some y => exact h.slots t y (mem_of_lookup hl)
  | const v => simp [St.look, AV.rep, Act.eval]
  | global g => simp [St.look, AV.rep, Act.eval]
  | func f => exact ⟨[], rfl, by simp [AV.repVals]⟩
theorem Holds.looklim (h : Holds C E β st a w) (x : Operand) : ∀ i, st.boxes.length ≤ i → (st.look x).avoids i = true := by
  cases x with
  | tmp t =>
    show ∀ i, _ → AV.avoids i ((st.slots.lookup t).getD .junk) = true
    cases hl : st.slots.lookup t with
    | none => intro i _; simp [AV.avoids]
    | some y => exact h.lim t y (mem_of_lookup hl)
  | const v => intro i _; simp [St.look, AV.avoids]
  | global g => intro i _; simp [St.look, AV.avoids]
  | func f => intro i _; simp [St.look, AV.avoids, AV.avoidsL]
theorem AW_mono {c : Code} {Q' : AQ} (hq : ∀ e st, Q e st → Q' e st) (h : AW C E c Q st) : AW C E c Q' st :=
  fun β a w H => wp_mono (h β a w H) fun e a w ⟨st', β', q, hh⟩ => ⟨st', β', hq _ _ q, hh⟩
theorem AW_skip (h : Q .normal st) : AW C E .skip Q st := fun β a w H => wp_skip ⟨st, β, h, H⟩
theorem AW_ret (h : Q .ret st) : AW C E .ret Q st := fun β a w H => wp_ret ⟨st, β, h, H⟩
theorem AW_exit {id : Nat} (h : Q (.exit id) st) : AW C E (.exit id) Q st := fun β a w H => wp_exit ⟨st, β, h, H⟩
theorem AW_seq {x y : Code} (h : AW C E x (thenA (AW C E y Q) Q) st) : AW C E (.seq x y) Q st := by
  intro β a w H
  refine wp_seq (wp_mono (h β a w H) ?_)
  rintro e a' w' ⟨st', β', hq, hH⟩
  cases e with
  | normal => exact hq β' a' w' hH
  | exit id => exact ⟨st', β', hq, hH⟩
  | goto l => exact ⟨st', β', hq, hH⟩
  | ret => exact ⟨st', β', hq, hH⟩
  | panic ch => exact ⟨st', β', hq, hH⟩
  | outgrown => exact ⟨st', β', hq, hH⟩
theorem AW_block {id : Nat} {c : Code} (h : AW C E c (blockA id Q) st) : AW C E (.block id c) Q st := by
  intro β a w H
  refine wp_block (wp_mono (h β a w H) ?_)
  rintro e a' w' ⟨st', β', hq, hH⟩
  cases e with
  | exit id' =>
    unfold Exit.inBlock
    unfold blockA at hq
    by_cases hid : id' = id
    · simp only [hid, if_true] at hq ⊢
      exact ⟨st', β', hq, hH⟩
    · simp only [hid, if_false] at hq ⊢
      exact ⟨st', β', hq, hH⟩
  | normal => exact ⟨st', β', hq, hH⟩
  | goto l => exact ⟨st', β', hq, hH⟩
  | ret => exact ⟨st', β', hq, hH⟩
  | panic ch => exact ⟨st', β', hq, hH⟩
  | outgrown => exact ⟨st', β', hq, hH⟩
theorem AW_cond {c : Operand} {x y : Code} {t : Bool} (hc : st.look c = .v (.bool t)) (ht : t = true → AW C E x Q st) (hf : t = false → AW C E y Q st) : AW C E (.cond c x y) Q st := by
  intro β a w H
  have h := H.look c
  rw [hc] at h
  exact wp_cond_split (t := t) h (fun e => ht e β a w H) (fun e => hf e β a w H)
theorem AW_true {c : Operand} {x y : Code} {t : Bool} (hc : st.look c = .v (.bool t)) (ht : t = true) (h : AW C E x Q st) : AW C E (.cond c x y) Q st :=
  AW_cond hc (fun _ => h) (fun e => absurd (ht.symm.trans e) (by decide))
theorem AW_false {c : Operand} {x y : Code} {t : Bool} (hc : st.look c = .v (.bool t)) (ht : t = false) (h : AW C E y Q st) : AW C E (.cond c x y) Q st :=
  AW_cond hc (fun e => absurd (ht.symm.trans e) (by decide)) (fun _ => h)
theorem AW_loop {c : Code} {γ : Type} (μ : γ → Nat) (I : γ → St → Prop) (g0 : γ) (h0 : I g0 st) (round : ∀ g st, I g st → AW C E c (thenA (fun st' => ∃ g', μ g' < μ g ∧ I g' st') Q) st) : AW C E (.loop c) Q st := by
  intro β a w H b k cs
  have key : ∀ n g st β a w, μ g = n → I g st → Holds C E β st a w →
      ∃ e a' w', lift C E Q e a' w' ∧ Arrives C.P (lone (b.at a (.code c :: .inLoop c :: k)) cs w) b k cs e a' w' := by
    intro n
    induction n using Nat.strongRecOn with
    | _ n ih =>
      intro g st β a w hn hI hH
      obtain ⟨e, a₁, w₁, ⟨st₁, β₁, hq, hH₁⟩, harr⟩ := round g st hI β a w hH b (.inLoop c :: k) cs
      cases e with
      | normal =>
        obtain ⟨g', hlt, hI₁⟩ := hq
        obtain ⟨e₂, a₂, w₂, hq₂, harr₂⟩ := ih (μ g') (hn ▸ hlt) g' st₁ β₁ a₁ w₁ rfl hI₁ hH₁
        exact ⟨e₂, a₂, w₂, hq₂, .of_steps (Steps.trans harr (.one step_inLoop)) harr₂⟩
      | exit id => exact ⟨_, a₁, w₁, ⟨st₁, β₁, hq, hH₁⟩, .pass (x := .inLoop c) rfl (fun _ _ => .inl (by simp)) harr⟩
      | goto l => exact ⟨_, a₁, w₁, ⟨st₁, β₁, hq, hH₁⟩, .pass (x := .inLoop c) rfl (fun _ _ => .inl (by simp)) harr⟩
      | ret => exact ⟨_, a₁, w₁, ⟨st₁, β₁, hq, hH₁⟩, .pass (x := .inLoop c) rfl (fun _ _ => .inl (by simp)) harr⟩
      | panic ch => exact ⟨_, a₁, w₁, ⟨st₁, β₁, hq, hH₁⟩, .pass (x := .inLoop c) rfl (fun _ _ => .inl (by simp)) harr⟩
      | outgrown => exact ⟨_, a₁, w₁, ⟨st₁, β₁, hq, hH₁⟩, .pass (x := .inLoop c) rfl (fun _ _ => .inl (by simp)) harr⟩
  obtain ⟨e, a', w', hq, harr⟩ := key _ g0 st β a w rfl h0 H
  exact ⟨e, a', w', hq, .of_steps (.one step_loop) harr⟩
/-- A state that says less. -/
theorem AW_sub {c : Code} {sl : List (Nat × AV)} (hs : ∀ p ∈ sl, p ∈ st.slots) (h : AW C E c Q { st with slots := sl }) : AW C E c Q st :=
  fun β a w H => h β a w (H.sub hs)
def St.keep (st : St) (ks : List Nat) : St := { st with slots := ks.filterMap fun k => (st.slots.lookup k).map fun x => (k, x) }
theorem keep_mem {st : St} {ks : List Nat} {p : Nat × AV} (hp : p ∈ (st.keep ks).slots) : p ∈ st.slots := by
  obtain ⟨k, _, hk⟩ := List.mem_filterMap.1 hp
  obtain ⟨x, hx, rfl⟩ := Option.map_eq_some_iff.1 hk
  exact mem_of_lookup hx
theorem AW_keep {c : Code} (ks : List Nat) {st' : St} (he : st.keep ks = st') (h : AW C E c Q st') : AW C E c Q st := by
  subst he
  exact AW_sub (fun p hp => keep_mem hp) h
theorem AW_eq {c : Code} {st' : St} (he : st = st') (h : AW C E c Q st') : AW C E c Q st := he ▸ h

/-! ### Regions in the text's order -/
def AL (C : Ctx) (E : Env) (ops : Array Oper) (rest : List Oper) (Q : AQ) (st : St) : Prop := ∀ β a w, Holds C E β st a w → wpList C.P ops (lift C E Q) rest a w
variable {ops : Array Oper} {rest : List Oper} {o : Oper}
theorem AW_region {id : Nat} (h : AL C E ops ops.toList Q st) : AW C E (.region id ops false) Q st := fun β a w H => wp_region_list (h β a w H)
theorem AL_nil (h : Q .normal st) : AL C E ops [] Q st := fun β a w H => wpList_nil ⟨st, β, h, H⟩
theorem AL_keep (ks : List Nat) {st' : St} (he : st.keep ks = st') (h : AL C E ops rest Q st') : AL C E ops rest Q st := by
  subst he
  exact fun β a w H => h β a w (H.sub (fun p hp => keep_mem hp))
theorem AL_eq {st' : St} (he : st = st') (h : AL C E ops rest Q st') : AL C E ops rest Q st := he ▸ h
/-- The operation is done: it has no guard, or its guard's slot says so. -/
def Wanted (ops : Array Oper) (o : Oper) (st : St) : Prop := o.guard = none ∨ ∃ j b d, o.guard = some (j, b) ∧ (ops[j]?).bind (·.dst) = some d ∧ st.look (.tmp d) = .v (.bool b)
def Unwanted (ops : Array Oper) (o : Oper) (st : St) : Prop := ∃ j b d, o.guard = some (j, b) ∧ (ops[j]?).bind (·.dst) = some d ∧ (st.look (.tmp d) = .v (.bool (!b)) ∨ st.look (.tmp d) = .v undef)
theorem yielded_look (h : Holds C E β st a w) {j d : Nat} {b : Bool} (h1 : (ops[j]?).bind (·.dst) = some d) (h2 : st.look (.tmp d) = .v (.bool b)) : yielded ops a.tmps j = some b := by
  have h3 := h.look (.tmp d)
  rw [h2] at h3
  have h3 : a.tmps.getD d undef = .bool b := h3
  unfold yielded
  rw [h1, Option.bind_some]
  rw [Array.getD_eq_getD_getElem?] at h3
  cases h4 : a.tmps[d]? with
  | none => rw [h4] at h3; cases h3
  | some v => rw [h4] at h3; have h3 : v = .bool b := h3; subst h3; rfl
theorem yielded_undef (h : Holds C E β st a w) {j d : Nat} (h1 : (ops[j]?).bind (·.dst) = some d) (h2 : st.look (.tmp d) = .v undef) : yielded ops a.tmps j = none := by
  have h3 := h.look (.tmp d)
  rw [h2] at h3
  have h3 : a.tmps.getD d undef = undef := h3
  unfold yielded
  rw [h1, Option.bind_some]
  rw [Array.getD_eq_getD_getElem?] at h3
  cases h4 : a.tmps[d]? with
  | none => rfl
  | some v => rw [h4] at h3; have h3 : v = undef := h3; subst h3; rfl
theorem wanted_of (h : Holds C E β st a w) (hw : Wanted ops o st) : Region.wanted o (yielded ops a.tmps) = true := by
  rcases hw with hw | ⟨j, b, d, h1, h2, h3⟩
  · simp [Region.wanted, hw]
  · simp [Region.wanted, h1, yielded_look h h2 h3]
theorem unwanted_of (h : Holds C E β st a w) (hw : Unwanted ops o st) : Region.wanted o (yielded ops a.tmps) = false := by
  obtain ⟨j, b, d, h1, h2, h3 | h3⟩ := hw
  · simp [Region.wanted, h1, yielded_look h h2 h3]
  · simp [Region.wanted, h1, yielded_undef h h2 h3]
theorem AL_skip {d : Nat} (hw : Unwanted ops o st) (hd : o.dst = some d) (hlt : d < E.nt) (h : AL C E ops rest Q (st.put d (.v undef))) : AL C E ops (o :: rest) Q st := by
  intro β a w H
  refine wpList_step fun K hK => ?_
  rw [unwanted_of H hw]
  simp only [Bool.false_eq_true, if_false]
  rw [hd]
  exact hK _ _ (h _ _ _ (H.put hlt (by simp [AV.rep]) (fun _ _ => by simp [AV.avoids])))
theorem AL_skip0 (hw : Unwanted ops o st) (hd : o.dst = none) (h : AL C E ops rest Q st) : AL C E ops (o :: rest) Q st := by
  intro β a w H
  refine wpList_step fun K hK => ?_
  rw [unwanted_of H hw]
  simp only [Bool.false_eq_true, if_false]
  rw [hd]
  exact hK _ _ (h _ _ _ H)
def upd (β : BMap) (n : Nat) (g : Option Nat) : BMap := fun i => if i = n then g else β i
theorem upd_eq (β : BMap) (n : Nat) (g : Option Nat) : upd β n g n = g := by simp [upd]
theorem upd_ne (β : BMap) {n i : Nat} (g : Option Nat) (h : i ≠ n) : upd β n g i = β i := by simp [upd, h]
def Env.exc (E : Env) (X : Nat → Prop) : Env := { E with ex := fun b => E.ex b ∨ X b }
/-- What an operation leaves: its value, and a box of its own, if it makes one. -/
def Res (E : Env) (β : BMap) (st : St) (w : World) (x : AV) (nb : Option (Nat × BoxC)) (v : Value) (w' : World) : Prop :=
  match nb with
  | none => x.rep β (okB E β st) w' v ∧ ∀ i, st.boxes.length ≤ i → x.avoids i = true
  | some (n, bc) => ∃ g : Option Nat, (∀ b, g = some b → w.heap.size ≤ b ∧ b < w'.heap.size) ∧ x.rep (upd β n g) (fun b => okB E β st b ∧ g ≠ some b) w' v ∧ bc.rep (upd β n g) (fun b => okB E β st b ∧ g ≠ some b) w' n ∧
      (∀ i, st.boxes.length ≤ i → x.avoids i = true) ∧ (∀ i, st.boxes.length ≤ i → bc.avoids i = true)
/-- Nothing is said of box n. -/
def FreshAt (st : St) (n : Nat) : Prop := st.boxes[n]? = some .none ∧ (∀ t x, (t, x) ∈ st.slots → x.avoids n = true) ∧ ∀ (i : Nat) (b : BoxC), st.boxes[i]? = some b → b.avoids n = true
def Yields (C : Ctx) (E : Env) (st : St) (o : Oper) (x : AV) (nb : Option (Nat × BoxC)) : Prop :=
  ∀ X β a w, Holds C (E.exc X) β st a w → (∀ n bc, nb = some (n, bc) → FreshAt st n) → ∀ (K : Act → World → Prop) (Q : Exit → Act → World → Prop),
    (∀ v w', BelowD C.dr w.heap.size w w' → Res (E.exc X) β st w x nb v w' → K (a.put o.dst v) w') → o.wp C.P a w K Q
theorem exc_none (E : Env) : E.exc (fun _ => False) = E := by simp [Env.exc]
def St.setBox (st : St) (n : Nat) (bc : BoxC) : St := { st with boxes := st.boxes.set n bc }
def St.ext (st : St) : St := { st with boxes := st.boxes ++ [.none] }
def St.add (st : St) (bc : BoxC) : St := { st with boxes := st.boxes ++ [bc] }
theorem ext_set (st : St) (bc : BoxC) : st.ext.setBox st.boxes.length bc = st.add bc := by simp [St.ext, St.setBox, St.add]
theorem ext_live {st : St} {i : Nat} : st.ext.liveB i ↔ st.liveB i := by
  unfold St.liveB St.ext
  constructor
  · rintro ⟨bc, h1, h2⟩
    rw [List.getElem?_append] at h1
    split at h1
    · exact ⟨bc, h1, h2⟩
    · rename_i h
      cases hk : i - st.boxes.length with
      | zero => rw [hk] at h1; have : BoxC.none = bc := by simpa using h1
                subst this; cases h2
      | succ k => rw [hk] at h1; simp at h1
  · rintro ⟨bc, h1, h2⟩
    exact ⟨bc, by rw [List.getElem?_append_left (List.getElem?_eq_some_iff.1 h1).1]; exact h1, h2⟩
theorem ext_ok : okB E β st.ext = okB E β st := by
  funext b
  unfold okB
  simp only [ext_live]
theorem Holds.ext (h : Holds C E β st a w) : Holds C E β st.ext a w := by
  have hl : st.ext.boxes.length = st.boxes.length + 1 := by simp [St.ext]
  have hb : ∀ (i : Nat) (bc : BoxC), st.ext.boxes[i]? = some bc → st.boxes[i]? = some bc ∨ bc = .none := by
    intro i bc hi
    unfold St.ext at hi
    rw [List.getElem?_append] at hi
    split at hi
    · exact .inl hi
    · rename_i h
      cases hk : i - st.boxes.length with
      | zero => rw [hk] at hi; exact .inr (by simpa using hi.symm)
      | succ k => rw [hk] at hi; simp at hi
  refine ⟨h.env, h.size, h.defers, h.kept, fun t x hx => ?_, fun t x hx i hi => h.lim t x hx i (by omega), fun i bc hi => ?_, fun i bc hi j hj => ?_, fun i j b h1 h2 => h.inj i j b (ext_live.1 h1) (ext_live.1 h2), fun i b h1 => h.fresh i b (ext_live.1 h1), h.ex, ⟨by have := h.pin.1; omega, h.pin.2⟩⟩
  · rw [ext_ok]; exact h.slots t x hx
  · rw [ext_ok]
    rcases hb i bc hi with h1 | rfl
    · exact h.boxes i bc h1
    · trivial
  · rcases hb i bc hi with h1 | rfl
    · exact h.blim i bc h1 j (by omega)
    · rfl
/-- A box of its own is laid where none was. -/
theorem Holds.setBox (h : Holds C E β st a w) (hbd : BelowD C.dr w.heap.size w w') {n : Nat} {bc : BoxC} {g : Option Nat} (hn : st.boxes[n]? = some .none) (hav : ∀ t x, (t, x) ∈ st.slots → x.avoids n = true) (hbv : ∀ (i : Nat) (b : BoxC), st.boxes[i]? = some b → b.avoids n = true)
    (hg : ∀ b, g = some b → w.heap.size ≤ b ∧ b < w'.heap.size) (hr : bc.rep (upd β n g) (fun b => okB E β st b ∧ g ≠ some b) w' n) (hl : ∀ i, st.boxes.length ≤ i → bc.avoids i = true) (hnp : E.npin ≤ n) :
    Holds C E (upd β n g) (st.setBox n bc) a w' := by
  have hbl := hbd.toBelow
  have H := h.below hbd
  have hlen : (st.setBox n bc).boxes.length = st.boxes.length := by simp [St.setBox]
  have hnl : n < st.boxes.length := (List.getElem?_eq_some_iff.1 hn).1
  have hget : ∀ (i : Nat) (b : BoxC), (st.setBox n bc).boxes[i]? = some b → (i = n ∧ b = bc) ∨ (i ≠ n ∧ st.boxes[i]? = some b) := by
    intro i b hi
    unfold St.setBox at hi
    by_cases e : n = i
    · subst e
      rw [List.getElem?_set_self hnl] at hi
      injection hi with hi
      exact .inl ⟨rfl, hi.symm⟩
    · rw [List.getElem?_set_ne e] at hi
      exact .inr ⟨Ne.symm e, hi⟩
  have hlv : ∀ i, (st.setBox n bc).liveB i → i ≠ n → st.liveB i := by
    rintro i ⟨b, h1, h2⟩ hne
    rcases hget i b h1 with ⟨rfl, _⟩ | ⟨_, h3⟩
    · exact absurd rfl hne
    · exact ⟨b, h3, h2⟩
  have hlv' : ∀ i, st.liveB i → (st.setBox n bc).liveB i ∧ i ≠ n := by
    rintro i ⟨b, h1, h2⟩
    have hne : i ≠ n := fun e => by subst e; rw [hn] at h1; injection h1 with h1; subst h1; cases h2
    exact ⟨⟨b, by unfold St.setBox; rw [List.getElem?_set_ne (Ne.symm hne)]; exact h1, h2⟩, hne⟩
  have hok1 : ∀ b, okB E β st b → g ≠ some b → okB E (upd β n g) (st.setBox n bc) b := by
    rintro b ⟨h1, h2, h3⟩ h4
    refine ⟨h1, h2, fun i hi => ?_⟩
    by_cases e : i = n
    · subst e; rw [upd_eq]; exact h4
    · rw [upd_ne _ _ e]; exact h3 i (hlv i hi e)
  have hE1 : Ext β (okB E β st) (okB E (upd β n g) (st.setBox n bc)) w w' := by
    refine ⟨hbl.size, fun b h1 h2 => hok1 b h1 (fun e => ?_), fun b _ h2 => hbl.block b h2, fun i b s _ hs => by rw [shape_same (hbl.block b (shape_lt hs))]; exact hs⟩
    have := (hg b e).1; omega
  have hE2 : Ext (upd β n g) (fun b => okB E β st b ∧ g ≠ some b) (okB E (upd β n g) (st.setBox n bc)) w' w' :=
    ⟨Nat.le_refl _, fun b h1 _ => hok1 b h1.1 h1.2, fun _ _ _ => rfl, fun _ _ _ _ h => h⟩
  refine ⟨h.env, h.size, h.defers, H.kept, fun t x hx => ?_, fun t x hx i hi => h.lim t x hx i (by omega), fun i b hi => ?_, fun i b hi j hj => ?_, fun i j b h1 h2 h3 h4 => ?_, fun i b h1 h2 => ?_, H.ex, ⟨by have := h.pin.1; omega, fun i b h1 h2 => by rw [upd_ne _ _ (by omega)]; exact h.pin.2 i b h1 h2⟩⟩
  · exact AV.rep_mono hE1 _ _ (fun i hi => upd_ne _ _ (fun e => by subst e; rw [hav t x hx] at hi; cases hi)) (h.slots t x hx)
  · rcases hget i b hi with ⟨rfl, rfl⟩ | ⟨h1, h2⟩
    · exact BoxC.rep_mono hE2 _ (fun _ _ => rfl) (fun _ => rfl) (fun _ _ _ => rfl) hr
    · exact BoxC.rep_mono hE1 b (fun j hj => upd_ne _ _ (fun e => by subst e; rw [hbv i b h2] at hj; cases hj)) (fun _ => upd_ne _ _ h1) (fun k h3 h4 => hbl.block k (h.fresh i k ⟨b, h2, h4⟩ h3).2.2) (h.boxes i b h2)
  · rcases hget i b hi with ⟨rfl, rfl⟩ | ⟨h1, h2⟩
    · exact hl j (by omega)
    · exact h.blim i b h2 j (by omega)
  · by_cases e1 : i = n
    · by_cases e2 : j = n
      · exact e1.trans e2.symm
      · exfalso
        subst e1
        rw [upd_eq] at h3
        rw [upd_ne _ _ e2] at h4
        have := (h.fresh j b (hlv j h2 e2) h4).2.2
        have := (hg b h3).1
        omega
    · by_cases e2 : j = n
      · exfalso
        subst e2
        rw [upd_eq] at h4
        rw [upd_ne _ _ e1] at h3
        have := (h.fresh i b (hlv i h1 e1) h3).2.2
        have := (hg b h4).1
        omega
      · rw [upd_ne _ _ e1] at h3
        rw [upd_ne _ _ e2] at h4
        exact h.inj i j b (hlv i h1 e1) (hlv j h2 e2) h3 h4
  · by_cases e : i = n
    · subst e
      rw [upd_eq] at h2
      obtain ⟨h3, h4⟩ := hg b h2
      exact ⟨.inl (Nat.le_trans h.kept.size h3), fun hx => by have := h.ex b hx; omega, h4⟩
    · rw [upd_ne _ _ e] at h2
      exact H.fresh i b (hlv i h1 e) h2
theorem okB_setBox {n : Nat} {bc : BoxC} {g : Option Nat} (hn : st.boxes[n]? = some .none) (b : Nat) (h : okB E β st b ∧ g ≠ some b) : okB E (upd β n g) (st.setBox n bc) b := by
  obtain ⟨⟨h1, h2, h3⟩, h4⟩ := h
  refine ⟨h1, h2, fun i ⟨b', hi, hl⟩ => ?_⟩
  by_cases e : i = n
  · subst e; rw [upd_eq]; exact h4
  · rw [upd_ne _ _ e]
    refine h3 i ⟨b', ?_, hl⟩
    unfold St.setBox at hi
    rw [List.getElem?_set_ne (Ne.symm e)] at hi
    exact hi
theorem AL_y {d : Nat} {x : AV} (hw : Wanted ops o st) (hd : o.dst = some d) (hlt : d < E.nt) (hy : Yields C E st o x none) (h : AL C E ops rest Q (st.put d x)) : AL C E ops (o :: rest) Q st := by
  intro β a w H
  refine wpList_step fun K hK => ?_
  rw [wanted_of H hw]
  simp only [if_true]
  have H' : Holds C (E.exc fun _ => False) β st a w := by rw [exc_none]; exact H
  refine hy _ β a w H' (fun n bc h => by cases h) K _ fun v w' hb hr => hK _ _ (h β _ _ ?_)
  rw [exc_none] at hr
  rw [hd]
  exact (H.below hb).put hlt hr.1 hr.2
/-- An operation without a slot, or whose value is of no interest. -/
theorem AL_y0 {x : AV} (hw : Wanted ops o st) (hd : o.dst = none) (hy : Yields C E st o x none) (h : AL C E ops rest Q st) : AL C E ops (o :: rest) Q st := by
  intro β a w H
  refine wpList_step fun K hK => ?_
  rw [wanted_of H hw]
  simp only [if_true]
  have H' : Holds C (E.exc fun _ => False) β st a w := by rw [exc_none]; exact H
  refine hy _ β a w H' (fun n bc h => by cases h) K _ fun v w' hb hr => hK _ _ (h β _ _ ?_)
  rw [hd]
  exact H.below hb
theorem AL_b {d : Nat} {x : AV} {bc : BoxC} (hw : Wanted ops o st) (hd : o.dst = some d) (hlt : d < E.nt) (hy : Yields C E st.ext o x (some (st.boxes.length, bc))) (h : AL C E ops rest Q ((st.add bc).put d x)) : AL C E ops (o :: rest) Q st := by
  intro β a w H
  refine wpList_step fun K hK => ?_
  rw [wanted_of H hw]
  simp only [if_true]
  have He := H.ext
  have H' : Holds C (E.exc fun _ => False) β st.ext a w := by rw [exc_none]; exact He
  have hn : st.ext.boxes[st.boxes.length]? = some .none := by simp [St.ext]
  have hbv : ∀ (i : Nat) (b : BoxC), st.ext.boxes[i]? = some b → b.avoids st.boxes.length = true := by
    intro i b hi
    unfold St.ext at hi
    rw [List.getElem?_append] at hi
    split at hi
    · exact H.blim i b hi _ (Nat.le_refl _)
    · rename_i h'
      cases hk : i - st.boxes.length with
      | zero => rw [hk] at hi; have : BoxC.none = b := by simpa using hi
                subst this; rfl
      | succ k => rw [hk] at hi; simp at hi
  have hav : ∀ t x, (t, x) ∈ st.ext.slots → x.avoids st.boxes.length = true := fun t x hx => H.lim t x hx _ (Nat.le_refl _)
  refine hy _ β a w H' (fun n bc h => by injection h with h; injection h with h1 _; subst h1; exact ⟨hn, hav, hbv⟩) K _ fun v w' hb hr => hK _ _ ?_
  rw [exc_none] at hr
  obtain ⟨g, hg, hx, hbc, hl1, hl2⟩ := hr
  have H2 := He.setBox hb hn hav hbv hg hbc hl2 H.pin.1
  rw [hd]
  refine h (upd β st.boxes.length g) _ _ ?_
  rw [← ext_set]
  refine H2.put hlt ?_ (fun i hi => hl1 i (by simpa [St.setBox] using hi))
  exact AV.rep_mono ⟨Nat.le_refl _, fun b h1 _ => okB_setBox hn b h1, fun _ _ _ => rfl, fun _ _ _ _ h => h⟩ _ _ (fun _ _ => rfl) hx
end

theorem wp_val {P : Program} {o : Oper} {a : Act} {w w' : World} {v : Value} {K : Act → World → Prop} {Q : Exit → Act → World → Prop} (h : (execOp a.eval o).run P w = .ok (.value v) w') (hk : K (a.put o.dst v) w') : o.wp P a w K Q := by
  unfold Oper.wp; rw [h]; exact hk
section
variable {C : Ctx} {E : Env} {st : St} {o : Oper}
theorem Y_of {x : AV} (h : ∀ E' β a w, Holds C E' β st a w → ∃ v, (execOp a.eval o).run C.P w = .ok (.value v) w ∧ x.rep β (okB E' β st) w v ∧ ∀ i, st.boxes.length ≤ i → x.avoids i = true) : Yields C E st o x none := by
  intro X β a w H _ K Q hk
  obtain ⟨v, h1, h2, h3⟩ := h _ β a w H
  exact wp_val h1 (hk v w (BelowD.refl _ _) ⟨h2, h3⟩)
/-- The same, in a world that grew. -/
theorem Y_of_below {x : AV} (h : ∀ E' β a w, Holds C E' β st a w → ∃ v w', (execOp a.eval o).run C.P w = .ok (.value v) w' ∧ BelowD C.dr w.heap.size w w' ∧ x.rep β (okB E' β st) w' v ∧ ∀ i, st.boxes.length ≤ i → x.avoids i = true) : Yields C E st o x none := by
  intro X β a w H _ K Q hk
  obtain ⟨v, w', h1, hb, h2, h3⟩ := h _ β a w H
  exact wp_val h1 (hk v w' hb ⟨h2, h3⟩)
theorem Y_move {y : Operand} {x : AV} (ho : o.op = .move y ∨ o.op = .assign y) (hx : st.look y = x) : Yields C E st o x none :=
  Y_of fun E' β a w H => ⟨a.eval y, by rcases ho with ho | ho <;> simp [execOp, ho], hx ▸ H.look y, hx ▸ H.looklim y⟩
theorem avoids_v {u : Value} (i : Nat) : (AV.v u).avoids i = true := by simp [AV.avoids]
theorem look_v {β : BMap} {E' : Env} {a : Act} {w : World} (H : Holds C E' β st a w) {y : Operand} {u : Value} (h : st.look y = .v u) : a.eval y = u := by
  have := H.look y
  rw [h] at this
  exact this
theorem Y_bin {bo : BinOp} {ty tr : TypeId} {y z : Operand} {u u' r : Value} (ho : o.op = .binOp bo ty y z tr) (hy : st.look y = .v u) (hz : st.look z = .v u')
    (hr : ∀ w, (do eqGuard bo ty y z u u'; binOp bo ty u u' : Sem Value).run C.P w = .ok r w) : Yields C E st o (.v r) none :=
  Y_of fun E' β a w H => ⟨r, by
    simp only [execOp, ho, look_v H hy, look_v H hz, Sem.run_bind]
    have := hr w
    simp only [Sem.run_bind] at this
    rw [this]
    rfl, rfl, fun i _ => avoids_v i⟩
theorem Y_un {uo : UnOp} {ty : TypeId} {y : Operand} {u r : Value} (ho : o.op = .unOp uo ty y) (hy : st.look y = .v u) (hr : ∀ w, (Op.unary uo u).run C.P w = .ok r w) : Yields C E st o (.v r) none :=
  Y_of fun E' β a w H => ⟨r, by
    simp only [execOp, ho, look_v H hy, Sem.run_bind, hr w]
    rfl, rfl, fun i _ => avoids_v i⟩
theorem Y_conv {s d : TypeId} {y : Operand} {u r : Value} (ho : o.op = .convert s d y) (hy : st.look y = .v u) (hr : ∀ w, (convert s d u).run C.P w = .ok r w) : Yields C E st o (.v r) none :=
  Y_of fun E' β a w H => ⟨r, by
    simp only [execOp, ho, look_v H hy, Sem.run_bind, hr w]
    rfl, rfl, fun i _ => avoids_v i⟩
/-- A conversion that turns nothing, of whatever value (a named slice type, say): its type's name alone. -/
theorem Y_index {ty : TypeId} {y z : Operand} {u u' r : Value} (ho : o.op = .index ty y z) (hy : st.look y = .v u) (hz : st.look z = .v u') (hr : ∀ w, (Instr.index ty u u').run C.P w = .ok r w) : Yields C E st o (.v r) none :=
  Y_of fun E' β a w H => ⟨r, by
    simp only [execOp, ho, look_v H hy, look_v H hz, Sem.run_bind, hr w]
    rfl, rfl, fun i _ => avoids_v i⟩
theorem Y_pick {c y z : Operand} {b : Bool} {x : AV} (ho : o.op = .pick c y z) (hc : st.look c = .v (.bool b)) (hx : (if b then st.look y else st.look z) = x) : Yields C E st o x none :=
  Y_of fun E' β a w H => ⟨if b then a.eval y else a.eval z, by
    simp only [execOp, ho, look_v H hc]
    cases b <;> rfl, by
    subst hx
    cases b
    · exact H.look z
    · exact H.look y, by
    subst hx
    cases b
    · exact H.looklim z
    · exact H.looklim y⟩
theorem repVals_get {β : BMap} {ok : Nat → Prop} {w : World} : ∀ {l : List AV} {vs : List Value} {i : Nat} {x : AV}, AV.repVals β ok w l vs → l[i]? = some x → ∃ v, vs[i]? = some v ∧ x.rep β ok w v
  | y :: l, vs, 0, x, h, hi => by
    obtain ⟨v, rest, rfl, h2, h3⟩ := h
    injection hi with hi
    subst hi
    exact ⟨v, rfl, h2⟩
  | y :: l, vs, i + 1, x, h, hi => by
    obtain ⟨v, rest, rfl, h2, h3⟩ := h
    obtain ⟨u, h4, h5⟩ := repVals_get h3 (by simpa using hi)
    exact ⟨u, by simpa using h4, h5⟩
theorem repCells_get {β : BMap} {ok : Nat → Prop} {w : World} : ∀ {l : List AV} {vs : List Value} {i : Nat} {x : AV}, AV.repCells β ok w l vs → l[i]? = some x → ∃ v, vs[i]? = some v ∧ v.oneCell' = true ∧ x.rep β ok w v
  | y :: l, vs, 0, x, h, hi => by
    obtain ⟨v, rest, rfl, h1, h2, h3⟩ := h
    injection hi with hi
    subst hi
    exact ⟨v, rfl, h1, h2⟩
  | y :: l, vs, i + 1, x, h, hi => by
    obtain ⟨v, rest, rfl, h1, h2, h3⟩ := h
    obtain ⟨u, h4, h5⟩ := repCells_get h3 (by simpa using hi)
    exact ⟨u, by simpa using h4, h5⟩
theorem repCells_len {β : BMap} {ok : Nat → Prop} {w : World} : ∀ {l : List AV} {vs : List Value}, AV.repCells β ok w l vs → vs.length = l.length
  | [], vs, h => by have : vs = [] := h; subst this; rfl
  | y :: l, vs, h => by
    obtain ⟨v, rest, rfl, h1, h2, h3⟩ := h
    simp [repCells_len h3]
theorem repCells_one {β : BMap} {ok : Nat → Prop} {w : World} : ∀ {l : List AV} {vs : List Value}, AV.repCells β ok w l vs → ∀ u ∈ vs, u.oneCell' = true
  | [], vs, h => by have : vs = [] := h; subst this; simp
  | y :: l, vs, h => by
    obtain ⟨v, rest, rfl, h1, h2, h3⟩ := h
    intro u hu
    rcases List.mem_cons.1 hu with rfl | hu
    · exact h1
    · exact repCells_one h3 u hu
theorem repCells_take {β : BMap} {ok : Nat → Prop} {w : World} : ∀ (n : Nat) {l : List AV} {vs : List Value}, AV.repCells β ok w l vs → AV.repCells β ok w (l.take n) (vs.take n)
  | 0, _, _, _ => by simp [AV.repCells]
  | n + 1, [], vs, h => by have : vs = [] := h; subst this; simp [AV.repCells]
  | n + 1, y :: l, vs, h => by
    obtain ⟨v, rest, rfl, h1, h2, h3⟩ := h
    exact ⟨v, rest.take n, rfl, h1, h2, repCells_take n h3⟩
theorem repCells_drop {β : BMap} {ok : Nat → Prop} {w : World} : ∀ (n : Nat) {l : List AV} {vs : List Value}, AV.repCells β ok w l vs → AV.repCells β ok w (l.drop n) (vs.drop n)
  | 0, _, _, h => h
  | n + 1, [], vs, h => by have : vs = [] := h; subst this; simp [AV.repCells]
  | n + 1, y :: l, vs, h => by
    obtain ⟨v, rest, rfl, h1, h2, h3⟩ := h
    exact repCells_drop n h3
theorem repCells_append {β : BMap} {ok : Nat → Prop} {w : World} : ∀ {l m : List AV} {vs us : List Value}, AV.repCells β ok w l vs → AV.repCells β ok w m us → AV.repCells β ok w (l ++ m) (vs ++ us)
  | [], m, vs, us, h, h' => by have : vs = [] := h; subst this; exact h'
  | y :: l, m, vs, us, h, h' => by
    obtain ⟨v, rest, rfl, h1, h2, h3⟩ := h
    exact ⟨v, rest ++ us, rfl, h1, h2, repCells_append h3 h'⟩
theorem repCells_set {β : BMap} {ok : Nat → Prop} {w : World} : ∀ {l : List AV} {vs : List Value} (i : Nat) {x : AV} {u : Value}, AV.repCells β ok w l vs → x.rep β ok w u → u.oneCell' = true → AV.repCells β ok w (l.set i x) (vs.set i u)
  | [], vs, _, _, _, h, _, _ => by have : vs = [] := h; subst this; simp [AV.repCells]
  | y :: l, vs, 0, x, u, h, hx, hu => by
    obtain ⟨v, rest, rfl, h1, h2, h3⟩ := h
    exact ⟨u, rest, rfl, hu, hx, h3⟩
  | y :: l, vs, i + 1, x, u, h, hx, hu => by
    obtain ⟨v, rest, rfl, h1, h2, h3⟩ := h
    exact ⟨v, rest.set i u, rfl, h1, h2, repCells_set i h3 hx hu⟩
theorem avoidsL_get {i : Nat} : ∀ {l : List AV} {k : Nat} {x : AV}, AV.avoidsL i l = true → l[k]? = some x → x.avoids i = true
  | y :: l, 0, x, h, hk => by
    injection hk with hk
    subst hk
    simp [AV.avoidsL] at h
    exact h.1
  | y :: l, k + 1, x, h, hk => by
    simp [AV.avoidsL] at h
    exact avoidsL_get h.2 (by simpa using hk)
theorem avoidsL_take {i : Nat} : ∀ (n : Nat) {l : List AV}, AV.avoidsL i l = true → AV.avoidsL i (l.take n) = true
  | 0, _, _ => by simp [AV.avoidsL]
  | n + 1, [], _ => by simp [AV.avoidsL]
  | n + 1, y :: l, h => by
    simp [AV.avoidsL] at h ⊢
    exact ⟨h.1, avoidsL_take n h.2⟩
theorem avoidsL_drop {i : Nat} : ∀ (n : Nat) {l : List AV}, AV.avoidsL i l = true → AV.avoidsL i (l.drop n) = true
  | 0, _, h => h
  | n + 1, [], _ => by simp [AV.avoidsL]
  | n + 1, y :: l, h => by
    simp [AV.avoidsL] at h
    exact avoidsL_drop n h.2
theorem avoidsL_mem {i : Nat} : ∀ {l : List AV}, (∀ x ∈ l, x.avoids i = true) → AV.avoidsL i l = true
  | [], _ => rfl
  | y :: l, h => by simp [AV.avoidsL]; exact ⟨h y (List.mem_cons_self ..), avoidsL_mem fun x hx => h x (List.mem_cons_of_mem _ hx)⟩
theorem Y_extract {y : Operand} {ix : Nat} {l : List AV} {x : AV} (ho : o.op = .extract y ix) (hy : st.look y = .tup l) (hx : l[ix]? = some x) : Yields C E st o x none :=
  Y_of fun E' β a w H => by
    have h := H.look y
    have hl := H.looklim y
    rw [hy] at h hl
    obtain ⟨cs, h1, h2⟩ := h
    obtain ⟨v, h3, h4⟩ := repVals_get h2 hx
    refine ⟨v, ?_, h4, fun i hi => avoidsL_get (by simpa [AV.avoids] using hl i hi) hx⟩
    simp [execOp, ho, h1, Instr.extract, h3]
/-- Field f of struct type s: its place, its size, is it a struct or an array itself. -/
def fieldInfo (P : Program) (s : TypeId) (f : Nat) : Option (Nat × Nat × Bool) :=
  match P.underlying s with
  | some (.struct fs) => match fs[f]? with
    | some fl => match P.info? fl.type, P.underlying fl.type with
      | some i, some d => some (fl.offset, i.size, d.isRow)
      | _, _ => none
    | none => none
  | _ => none
theorem fieldInfo_some {P : Program} {s f k n : Nat} {r : Bool} (h : fieldInfo P s f = some (k, n, r)) : ∃ fs fl i d, P.underlying s = some (.struct fs) ∧ fs[f]? = some fl ∧ P.info? fl.type = some i ∧ P.underlying fl.type = some d ∧ fl.offset = k ∧ i.size = n ∧ d.isRow = r := by
  unfold fieldInfo at h
  split at h
  · rename_i fs hs
    split at h
    · rename_i fl hf
      split at h
      · rename_i i d h1 h2
        simp only [Option.some.injEq, Prod.mk.injEq] at h
        exact ⟨fs, fl, i, d, hs, hf, h1, h2, h.1, h.2.1, h.2.2⟩
      · cases h
    · cases h
  · cases h
theorem run_isAgg {P : Program} {w : World} {t : TypeId} {d : TypeDesc} (h : P.underlying t = some d) : (isAgg t).run P w = .ok d.isRow w := by
  unfold isAgg
  rw [Sem.run_bind, run_underlying h w]
  cases d <;> simp_all [TypeDesc.isRow]
theorem Y_field1 {t : TypeId} {y : Operand} {f k n : Nat} {l : List AV} {x : AV} (ho : o.op = .field t y f) (hy : st.look y = .agg l) (hf : fieldInfo C.P t f = some (k, n, false)) (hx : l[k]? = some x) : Yields C E st o x none :=
  Y_of fun E' β a w H => by
    have h := H.look y
    have hl := H.looklim y
    rw [hy] at h hl
    obtain ⟨cs, h1, h2⟩ := h
    obtain ⟨v, h3, _, h4⟩ := repCells_get h2 hx
    obtain ⟨fs, fl, i, d, e1, e2, e3, e4, rfl, rfl, e5⟩ := fieldInfo_some hf
    refine ⟨v, ?_, h4, fun i hi => avoidsL_get (by simpa [AV.avoids] using hl i hi) hx⟩
    simp [execOp, ho, h1, Instr.field, run_underlying e1, e2, asAgg, part, run_isAgg e4, e5, h3]
theorem Y_fieldA {t : TypeId} {y : Operand} {f k n : Nat} {l : List AV} (ho : o.op = .field t y f) (hy : st.look y = .agg l) (hf : fieldInfo C.P t f = some (k, n, true)) {m : List AV} (hm : (l.drop k).take n = m) : Yields C E st o (.agg m) none :=
  Y_of fun E' β a w H => by
    have h := H.look y
    have hl := H.looklim y
    rw [hy] at h hl
    obtain ⟨cs, h1, h2⟩ := h
    obtain ⟨fs, fl, i, d, e1, e2, e3, e4, rfl, rfl, e5⟩ := fieldInfo_some hf
    refine ⟨.agg ((cs.drop fl.offset).take i.size).toArray, ?_, ⟨_, rfl, hm ▸ repCells_take _ (repCells_drop _ h2)⟩, fun j hj => ?_⟩
    · simp [execOp, ho, h1, Instr.field, run_underlying e1, e2, asAgg, part, run_isAgg e4, e5, sizeOf, typeInfo, e3, List.take_drop]
    · subst hm
      simp only [AV.avoids]
      exact avoidsL_take _ (avoidsL_drop _ (by simpa [AV.avoids] using hl j hj))
theorem addr_add (b o k : Nat) : (⟨b, o, none⟩ : Addr).add k = ⟨b, o + k, none⟩ := Addr.add_mid b o k
theorem repAt_drop {β : BMap} {ok : Nat → Prop} {w : World} {b : Nat} : ∀ (n : Nat) {off : Nat} {l : List AV}, AV.repAt β ok w b off l → n ≤ l.length → AV.repAt β ok w b (off + n) (l.drop n)
  | 0, _, _, h, _ => h
  | n + 1, off, x :: l, h, hn => by
    have := repAt_drop n h.2 (by simpa using hn)
    rw [show off + (n + 1) = off + 1 + n by omega]
    exact this
theorem Y_fieldAddrE {t : TypeId} {y : Operand} {f k n : Nat} {r : Bool} {l m : List AV} (ho : o.op = .fieldAddr t y f) (hy : st.look y = .eptr l) (hf : fieldInfo C.P t f = some (k, n, r)) (hn : n ≠ 0) (hk : k ≤ l.length) (hm : l.drop k = m) : Yields C E st o (.eptr m) none :=
  Y_of fun E' β a w H => by
    have h := H.look y
    rw [hy] at h
    obtain ⟨b, off, h1, h2, h3, h4⟩ := h
    obtain ⟨fs, fl, i, d, e1, e2, e3, e4, rfl, rfl, e5⟩ := fieldInfo_some hf
    refine ⟨.pointer (some ⟨b, off + fl.offset, none⟩), ?_, ⟨b, _, rfl, h2, h3, hm ▸ repAt_drop _ h4 hk⟩, fun j hj => by simp [AV.avoids]⟩
    simp [execOp, ho, h1, Instr.fieldAt, run_underlying e1, e2, Instr.sureAddr, fieldPlace, sizeOf, typeInfo, e3, hn, addr_add]
theorem Y_fieldAddrP {t : TypeId} {y : Operand} {f k n i off : Nat} {r : Bool} (ho : o.op = .fieldAddr t y f) (hy : st.look y = .ptr i off) (hf : fieldInfo C.P t f = some (k, n, r)) (hn : n ≠ 0) {off' : Nat} (hm : off + k = off') : Yields C E st o (.ptr i off') none :=
  Y_of fun E' β a w H => by
    have h := H.look y
    have hl := H.looklim y
    rw [hy] at h hl
    obtain ⟨b, h1, h2⟩ := h
    obtain ⟨fs, fl, i, d, e1, e2, e3, e4, rfl, rfl, e5⟩ := fieldInfo_some hf
    subst hm
    refine ⟨.pointer (some ⟨b, off + fl.offset, none⟩), ?_, ⟨b, h1, rfl⟩, fun j hj => by simpa [AV.avoids] using hl j hj⟩
    simp [execOp, ho, h2, Instr.fieldAt, run_underlying e1, e2, Instr.sureAddr, fieldPlace, sizeOf, typeInfo, e3, hn, addr_add]
theorem Y_nilCheckP {y : Operand} {i off : Nat} (ho : o.op = .nilCheck y) (hy : st.look y = .ptr i off) : Yields C E st o (.ptr i off) none :=
  Y_of fun E' β a w H => by
    have h := H.look y
    have hl := H.looklim y
    rw [hy] at h hl
    obtain ⟨b, h1, h2⟩ := h
    exact ⟨_, by simp [execOp, ho, h2], ⟨b, h1, rfl⟩, hl⟩
/-- Element type of slice type t, with its size. -/
def elemSize (P : Program) (t : TypeId) : Option Nat :=
  match P.underlying t with
  | some (.slice e) => (P.info? e).map (·.size)
  | _ => none
theorem elemSize_some {P : Program} {t sz : Nat} (h : elemSize P t = some sz) : ∃ e i, P.underlying t = some (.slice e) ∧ P.info? e = some i ∧ i.size = sz := by
  unfold elemSize at h
  split at h
  · rename_i e he
    cases hi : P.info? e with
    | none => rw [hi] at h; cases h
    | some i => rw [hi] at h; injection h with h; exact ⟨e, i, he, hi, h⟩
  · cases h
theorem repRows_get {β : BMap} {ok : Nat → Prop} {w : World} {sz b : Nat} : ∀ {ls : List (List AV)} {off i : Nat} {l : List AV}, AV.repRows β ok w sz b off ls → ls[i]? = some l → l.length = sz ∧ AV.repAt β ok w b (off + i * sz) l
  | m :: ls, off, 0, l, h, hi => by
    injection hi with hi
    subst hi
    exact ⟨h.1, by simpa using h.2.1⟩
  | m :: ls, off, i + 1, l, h, hi => by
    have := repRows_get h.2.2 (by simpa using hi)
    rw [show off + (i + 1) * sz = off + sz + i * sz by rw [Nat.add_mul]; omega]
    exact this
theorem Y_indexAddrR {t : TypeId} {y z : Operand} {sz : Nat} {els : List (List AV)} {k : IntKind} {i : Int} {l : List AV} (ho : o.op = .indexAddr t y z) (hy : st.look y = .row sz els) (hz : st.look z = .v (.int k i)) (he : elemSize C.P t = some sz) (h0 : 0 ≤ i) (hi : els[i.toNat]? = some l) : Yields C E st o (.eptr l) none :=
  Y_of fun E' β a w H => by
    have h := H.look y
    rw [hy] at h
    obtain ⟨A, c, h1, h2, h3⟩ := h
    have hlt : i.toNat < els.length := (List.getElem?_eq_some_iff.1 hi).1
    obtain ⟨b, off, rfl, h4, h5, h6⟩ := h3 (by omega)
    obtain ⟨e, ti, e1, e2, rfl⟩ := elemSize_some he
    refine ⟨.pointer (some ⟨b, off + i.toNat * ti.size, none⟩), ?_, ⟨b, _, rfl, h4, h5, (repRows_get h6 hi).2⟩, fun j hj => by simp [AV.avoids]⟩
    have hb : 0 ≤ i ∧ i < (els.length : Int) := ⟨h0, by omega⟩
    simp [execOp, ho, h1, look_v H hz, Instr.indexAt, asIntOf, run_underlying e1, hb, sizeOf, typeInfo, e2, addr_add]
theorem Y_indexAddrO {t : TypeId} {y z : Operand} {sz b off len : Nat} {k : IntKind} {i : Int} (ho : o.op = .indexAddr t y z) (hy : st.look y = .own b sz off len) (hz : st.look z = .v (.int k i)) (he : elemSize C.P t = some sz) (h0 : 0 ≤ i) (hi : i < len) {off' : Nat} (hm : (off + i.toNat) * sz = off') : Yields C E st o (.ptr b off') none :=
  Y_of fun E' β a w H => by
    have h := H.look y
    have hl := H.looklim y
    rw [hy] at h hl
    rw [AV.rep] at h
    cases hb : β b with
    | none => rw [hb] at h; have := h.2.2; omega
    | some g =>
      rw [hb] at h
      obtain ⟨cap, e', h1, h2, h3, h4⟩ := h
      obtain ⟨e, ti, e1, e2, rfl⟩ := elemSize_some he
      subst hm
      refine ⟨.pointer (some ⟨g, (off + i.toNat) * ti.size, none⟩), ?_, ⟨g, hb, rfl⟩, fun j hj => by simpa [AV.avoids] using hl j hj⟩
      have hb : 0 ≤ i ∧ i < (len : Int) := ⟨h0, hi⟩
      simp [execOp, ho, h1, look_v H hz, Instr.indexAt, asIntOf, run_underlying e1, hb, sizeOf, typeInfo, e2, addr_add, Nat.add_mul]
theorem repAt_range {β : BMap} {ok : Nat → Prop} {w : World} {b : Nat} : ∀ {l : List AV} {off : Nat}, AV.repAt β ok w b off l → ∃ cs, AV.repCells β ok w l cs ∧ w.rangeAt b off cs
  | [], off, _ => ⟨[], rfl, fun j v h => by simp at h⟩
  | x :: l, off, h => by
    obtain ⟨⟨v, h1, h2, h3⟩, h4⟩ := h
    obtain ⟨cs, h5, h6⟩ := repAt_range h4
    refine ⟨v :: cs, ⟨v, cs, rfl, h2, h3, h5⟩, fun j u hu => ?_⟩
    cases j with
    | zero => have hu : v = u := by simpa using hu
              subst hu; simpa using h1
    | succ j =>
      have := h6 j u (by simpa using hu)
      rw [show off + (j + 1) = off + 1 + j by omega]
      exact this
theorem rangeAt_take {w : World} {b off n : Nat} {cs : List Value} (h : w.rangeAt b off cs) : w.rangeAt b off (cs.take n) := fun j v hv => by
  rw [List.getElem?_take] at hv
  split at hv
  · exact h j v hv
  · cases hv
/-- A type's size, and is it a struct or an array. -/
def loadInfo (P : Program) (t : TypeId) : Option (Nat × Bool) :=
  match P.info? t, P.underlying t with
  | some i, some d => some (i.size, d.isRow)
  | _, _ => none
theorem loadInfo_some {P : Program} {t n : Nat} {r : Bool} (h : loadInfo P t = some (n, r)) : ∃ i d, P.info? t = some i ∧ P.underlying t = some d ∧ i.size = n ∧ d.isRow = r := by
  unfold loadInfo at h
  split at h
  · rename_i i d h1 h2
    simp only [Option.some.injEq, Prod.mk.injEq] at h
    exact ⟨i, d, h1, h2, h.1, h.2⟩
  · cases h
end

section
variable {C : Ctx} {E : Env} {st : St} {o : Oper}
theorem rep_closed {β : BMap} {ok : Nat → Prop} {w : World} {x : AV} {u : Value} (hc : ∀ i, x.avoids i = true) (h : x.rep nob ok w u) : x.rep β ok w u :=
  AV.rep_mono ⟨Nat.le_refl _, fun _ h _ => h, fun _ _ _ => rfl, fun _ _ _ h => by cases h⟩ x u (fun i hi => by rw [hc i] at hi; cases hi) h
theorem repCells_closed {β : BMap} {ok : Nat → Prop} {w : World} {l : List AV} {cs : List Value} (hc : ∀ i, AV.avoidsL i l = true) (h : AV.repCells nob ok w l cs) : AV.repCells β ok w l cs :=
  AV.repCells_mono ⟨Nat.le_refl _, fun _ h _ => h, fun _ _ _ => rfl, fun _ _ _ h => by cases h⟩ l cs (fun i hi => by rw [hc i] at hi; cases hi) h
/-- A whole struct is read out of what is only read. -/
theorem Y_loadA {t : TypeId} {y : Operand} {n : Nat} {l m : List AV} (ho : o.op = .load t y) (hy : st.look y = .eptr l) (hi : loadInfo C.P t = some (n, true)) (hm : l.take n = m) (hn : m.length = n) (hc : ∀ i, AV.avoidsL i m = true) : Yields C E st o (.agg m) none :=
  Y_of fun E' β a w H => by
    have h := H.look y
    rw [hy] at h
    obtain ⟨b, off, h1, h2, h3, h4⟩ := h
    obtain ⟨cs, h5, h6⟩ := repAt_range h4
    obtain ⟨ti, d, e1, e2, rfl, e4⟩ := loadInfo_some hi
    subst hm
    have h7 := repCells_take ti.size h5
    have hl := repCells_len h7
    rw [hn] at hl
    refine ⟨.agg (cs.take ti.size).toArray, ?_, ⟨_, rfl, repCells_closed hc h7⟩, fun j _ => by simp [AV.avoids, hc j]⟩
    have hr := run_loadAt_mid (P := C.P) w b off t (cs.take ti.size) d (rangeAt_take h6) e2 e4 (by rw [e1, hl]; rfl)
    simp only [execOp, ho, h1, hr, Sem.run_bind]
    rfl
theorem run_load_one {P : Program} {w : World} {t : TypeId} {d : TypeDesc} {b off : Nat} {v : Value} (hd : P.underlying t = some d) (hr : d.isRow = false) (hv : w.cell? ⟨b, off, none⟩ = some v) : (Instr.loadAt t (.pointer (some ⟨b, off, none⟩))).run P w = .ok v w := by
  simp [Instr.loadAt, Instr.sureAddr, loadVar, run_isAgg hd, hr, hv]
theorem Y_load1 {t : TypeId} {y : Operand} {n : Nat} {l : List AV} {x : AV} (ho : o.op = .load t y) (hy : st.look y = .eptr l) (hi : loadInfo C.P t = some (n, false)) (hx : l[0]? = some x) (hc : ∀ i, x.avoids i = true) : Yields C E st o x none :=
  Y_of fun E' β a w H => by
    have h := H.look y
    rw [hy] at h
    obtain ⟨b, off, h1, h2, h3, h4⟩ := h
    cases l with
    | nil => cases hx
    | cons z l =>
      injection hx with hx
      subst hx
      obtain ⟨⟨v, h5, _, h6⟩, _⟩ := h4
      obtain ⟨ti, d, e1, e2, rfl, e4⟩ := loadInfo_some hi
      refine ⟨v, ?_, rep_closed hc h6, fun j _ => hc j⟩
      simp only [execOp, ho, h1, run_load_one e2 e4 h5, Sem.run_bind]
      rfl
/-- The cells of a box that are known. -/
def BoxC.known : BoxC → List AV
  | .cells _ cs => cs
  | .row _ _ els => els.flatten
  | _ => []
theorem box_range {β : BMap} {ok : Nat → Prop} {w : World} {i b : Nat} {bc : BoxC} (h : bc.rep β ok w i) (hb : β i = some b) : (bc.known = []) ∨ ∃ cs cur tl t, RowBlk w b cur t ∧ cur.toList = cs ++ tl ∧ AV.repCells β ok w bc.known cs := by
  cases bc with
  | none => exact .inl rfl
  | map d kvs => exact .inl rfl
  | cells t cs =>
    obtain ⟨b', cur, h1, h2, h3⟩ := h
    rw [hb] at h1
    injection h1 with h1
    subst h1
    exact .inr ⟨cur.toList, cur, [], t, .of h2, by simp, h3⟩
  | row t sz els =>
    simp only [BoxC.rep, hb] at h
    obtain ⟨cur, tl, h1, h2, cs, h3, h4, h5⟩ := h
    exact .inr ⟨cs, cur, tl, t, h1, h3, h5⟩
theorem cell_of_blk {w : World} {b off : Nat} {cur : Array Value} {t : TypeId} {fz : Nat × Nat} (h : w.heap[b]? = some (.cells cur t fz)) : w.cell? ⟨b, off, none⟩ = cur.toList[off]? := by
  simp [World.cell?, h]
theorem box_avoids {β : BMap} {E' : Env} {a : Act} {w : World} (H : Holds C E' β st a w) {i : Nat} {bc : BoxC} (hi : st.boxes[i]? = some bc) (j : Nat) (hj : st.boxes.length ≤ j) : AV.avoidsL j bc.known = true := by
  have := H.blim i bc hi j hj
  cases bc with
  | none => rfl
  | map d kvs => rfl
  | cells t cs => exact this
  | row t sz els => show AV.avoidsL j els.flatten = true; rw [avoidsL_flatten]; exact this
theorem Y_loadPA {t : TypeId} {y : Operand} {n i off : Nat} {bc : BoxC} {m : List AV} (ho : o.op = .load t y) (hy : st.look y = .ptr i off) (hi : loadInfo C.P t = some (n, true)) (hb : st.boxes[i]? = some bc) (hm : (bc.known.drop off).take n = m) (hn : m.length = n) (h0 : 0 < n) : Yields C E st o (.agg m) none :=
  Y_of fun E' β a w H => by
    have h := H.look y
    rw [hy] at h
    obtain ⟨b, h1, h2⟩ := h
    subst hm
    rcases box_range (H.boxes i bc hb) h1 with h3 | ⟨cs, cur, tl, t', h3, h4, h5⟩
    · rw [h3] at hn; simp at hn; omega
    · obtain ⟨ti, d, e1, e2, rfl, e4⟩ := loadInfo_some hi
      have h7 := repCells_take ti.size (repCells_drop off h5)
      have hl := repCells_len h7
      rw [hn] at hl
      refine ⟨.agg ((cs.drop off).take ti.size).toArray, ?_, ⟨_, rfl, h7⟩, fun j hj => ?_⟩
      · have hr := run_loadAt_mid (P := C.P) w b off t ((cs.drop off).take ti.size) d (fun j v hv => by
          rw [h3.cell, h4]
          rw [List.getElem?_take] at hv
          split at hv
          · rw [List.getElem?_drop] at hv
            rw [List.getElem?_append_left (List.getElem?_eq_some_iff.1 hv).1]
            exact hv
          · cases hv) e2 e4 (by rw [e1, hl]; rfl)
        simp only [execOp, ho, h2, hr, Sem.run_bind]
        rfl
      · simp only [AV.avoids]
        exact avoidsL_take _ (avoidsL_drop _ (box_avoids H hb j hj))
theorem Y_loadP1 {t : TypeId} {y : Operand} {n i off : Nat} {bc : BoxC} {x : AV} (ho : o.op = .load t y) (hy : st.look y = .ptr i off) (hi : loadInfo C.P t = some (n, false)) (hb : st.boxes[i]? = some bc) (hx : bc.known[off]? = some x) : Yields C E st o x none :=
  Y_of fun E' β a w H => by
    have h := H.look y
    rw [hy] at h
    obtain ⟨b, h1, h2⟩ := h
    rcases box_range (H.boxes i bc hb) h1 with h3 | ⟨cs, cur, tl, t', h3, h4, h5⟩
    · rw [h3] at hx; simp at hx
    · obtain ⟨ti, d, e1, e2, rfl, e4⟩ := loadInfo_some hi
      obtain ⟨v, h6, _, h7⟩ := repCells_get h5 hx
      refine ⟨v, ?_, h7, fun j hj => avoidsL_get (box_avoids H hb j hj) hx⟩
      have hc : w.cell? ⟨b, off, none⟩ = some v := by
        rw [h3.cell, h4, List.getElem?_append_left (List.getElem?_eq_some_iff.1 h6).1]
        exact h6
      simp only [execOp, ho, h2, run_load_one e2 e4 hc, Sem.run_bind]
      rfl
theorem Y_lenR {y : Operand} {t : TypeId} {e : TypeId} {sz : Nat} {els : List (List AV)} {n : Int} (ho : o.op = .call { callee := .builtin .len, args := #[y], argTypes := #[t] }) (hy : st.look y = .row sz els) (ht : C.P.underlying t = some (.slice e)) (hn : (els.length : Int) = n) : Yields C E st o (.v (.int .i64 n)) none :=
  Y_of fun E' β a w H => by
    have h := H.look y
    rw [hy] at h
    obtain ⟨A, c, h1, h2, h3⟩ := h
    subst hn
    refine ⟨.int .i64 els.length, ?_, rfl, fun i _ => avoids_v i⟩
    simp [execOp, ho, h1, resolve, invoke, builtin, Builtin.len_, run_underlying ht, goInt]
theorem Y_lenO {y : Operand} {t : TypeId} {e : TypeId} {b sz off len : Nat} (ho : o.op = .call { callee := .builtin .len, args := #[y], argTypes := #[t] }) (hy : st.look y = .own b sz off len) (ht : C.P.underlying t = some (.slice e)) {n : Int} (hn : (len : Int) = n) : Yields C E st o (.v (.int .i64 n)) none :=
  Y_of fun E' β a w H => by
    have h := H.look y
    rw [hy] at h
    rw [AV.rep] at h
    subst hn
    refine ⟨.int .i64 len, ?_, rfl, fun i _ => avoids_v i⟩
    cases hb : β b with
    | none =>
      rw [hb] at h
      obtain ⟨h1, _, h3⟩ := h
      subst h3
      simp [execOp, ho, h1, resolve, invoke, builtin, Builtin.len_, run_underlying ht, goInt]
    | some g =>
      rw [hb] at h
      obtain ⟨cap, e', h1, _⟩ := h
      simp [execOp, ho, h1, resolve, invoke, builtin, Builtin.len_, run_underlying ht, goInt]
/-- len, min, max and such of values that are known: whatever the model answers. -/
theorem Y_builtin1 {b : Builtin} {y : Operand} {t : TypeId} {u r : Value} (ho : o.op = .call { callee := .builtin b, args := #[y], argTypes := #[t] }) (hy : st.look y = .v u) (hr : ∀ w cs, (builtin b #[t] o.type cs #[u]).run C.P w = .ok (.value r) w) : Yields C E st o (.v r) none :=
  Y_of fun E' β a w H => ⟨r, by simp only [execOp, ho, resolve, Sem.run_bind, Sem.run_pure, Result.andThen_ok, invoke, List.map_toArray, List.map_cons, List.map_nil, look_v H hy]; exact hr w _, rfl, fun i _ => avoids_v i⟩
theorem Y_builtin2 {b : Builtin} {y z : Operand} {t t' : TypeId} {u u' r : Value} (ho : o.op = .call { callee := .builtin b, args := #[y, z], argTypes := #[t, t'] }) (hy : st.look y = .v u) (hz : st.look z = .v u') (hr : ∀ w cs, (builtin b #[t, t'] o.type cs #[u, u']).run C.P w = .ok (.value r) w) : Yields C E st o (.v r) none :=
  Y_of fun E' β a w H => ⟨r, by simp only [execOp, ho, resolve, Sem.run_bind, Sem.run_pure, Result.andThen_ok, invoke, List.map_toArray, List.map_cons, List.map_nil, look_v H hy, look_v H hz]; exact hr w _, rfl, fun i _ => avoids_v i⟩
theorem run_sliceBounds_ok {P : Program} {w : World} (isS : Bool) (len cap l h : Nat) (lo hi : Option Value) (hlo : (lo = none ∧ l = 0) ∨ ∃ k, lo = some (.int k (l : Int))) (hhi : (hi = none ∧ h = len) ∨ ∃ k, hi = some (.int k (h : Int))) (h1 : l ≤ h) (h2 : h ≤ cap) :
    (Instr.sliceBounds isS len cap lo hi none).run P w = .ok (l, h, cap) w := by
  have hb : ∀ (k : IntKind) (x y : Nat) (code : BoundsCode), x ≤ y → (Instr.sliceBound (.int k (x : Int)) y code).run P w = .ok x w := by
    intro k x y code hxy
    have hc : 0 ≤ (x : Int) ∧ (x : Int) ≤ (y : Int) := ⟨by omega, by omega⟩
    simp [Instr.sliceBound, asIntOf, hc, hxy]
  unfold Instr.sliceBounds
  rcases hhi with ⟨rfl, rfl⟩ | ⟨k, rfl⟩
  · rcases hlo with ⟨rfl, rfl⟩ | ⟨k', rfl⟩
    · simp
    · simp [hb _ _ _ _ h1]
  · rcases hlo with ⟨rfl, rfl⟩ | ⟨k', rfl⟩
    · simp [hb _ _ _ _ h2]
    · simp [hb _ _ _ _ h2, hb _ _ _ _ h1]
/-- A bound of a cut: none, or a whole number that is not below 0. -/
def Bnd (st : St) (x : Option Operand) (dflt n : Nat) : Prop := (x = none ∧ n = dflt) ∨ ∃ y k, x = some y ∧ st.look y = .v (.int k (n : Int))
theorem bnd_eval {β : BMap} {E' : Env} {a : Act} {w : World} (H : Holds C E' β st a w) {x : Option Operand} {d n : Nat} (h : Bnd st x d n) : (x.map a.eval = none ∧ n = d) ∨ ∃ k, x.map a.eval = some (.int k (n : Int)) := by
  rcases h with ⟨rfl, h⟩ | ⟨y, k, rfl, h⟩
  · exact .inl ⟨rfl, h⟩
  · exact .inr ⟨k, by simp [look_v H h]⟩
theorem Y_sliceS {t : TypeId} {y : Operand} {lo hi : Option Operand} {s r : ByteArray} {l h : Nat} (ho : o.op = .slice t y lo hi none) (hy : st.look y = .v (.string s)) (ht : C.P.underlying t = some .string) (hlo : Bnd st lo 0 l) (hhi : Bnd st hi s.size h) (h1 : l ≤ h) (h2 : h ≤ s.size) (hr : s.extract l h = r) : Yields C E st o (.v (.string r)) none :=
  Y_of fun E' β a w H => ⟨.string r, by
    have := run_sliceBounds_ok (P := C.P) (w := w) false s.size s.size l h _ _ (bnd_eval H hlo) (bnd_eval H hhi) h1 h2
    subst hr
    simp [execOp, ho, look_v H hy, Instr.sliceAt, run_underlying ht, Instr.slice, this], rfl, fun i _ => avoids_v i⟩
theorem repRows_cut {β : BMap} {ok : Nat → Prop} {w : World} {sz b : Nat} : ∀ {ls : List (List AV)} {off : Nat} (l h : Nat), l ≤ h → h ≤ ls.length → AV.repRows β ok w sz b off ls → AV.repRows β ok w sz b (off + l * sz) ((ls.take h).drop l)
  | [], off, l, h, h1, h2, hr => by simp [AV.repRows]
  | m :: ls, off, 0, 0, h1, h2, hr => by simp [AV.repRows]
  | m :: ls, off, 0, h + 1, h1, h2, hr => by
    have := repRows_cut (ls := ls) (off := off + sz) 0 h (by omega) (by simpa using h2) hr.2.2
    simp at this ⊢
    exact ⟨hr.1, hr.2.1, by simpa using this⟩
  | m :: ls, off, l + 1, 0, h1, h2, hr => by omega
  | m :: ls, off, l + 1, h + 1, h1, h2, hr => by
    have := repRows_cut (ls := ls) (off := off + sz) l h (by omega) (by simpa using h2) hr.2.2
    rw [show off + (l + 1) * sz = off + sz + l * sz by rw [Nat.add_mul]; omega]
    simpa using this
theorem Y_sliceR {t : TypeId} {y : Operand} {lo hi : Option Operand} {sz : Nat} {els r : List (List AV)} {l h : Nat} (ho : o.op = .slice t y lo hi none) (hy : st.look y = .row sz els) (ht : elemSize C.P t = some sz) (hlo : Bnd st lo 0 l) (hhi : Bnd st hi els.length h) (h1 : l ≤ h) (h2 : h ≤ els.length) (hr : (els.take h).drop l = r) : Yields C E st o (.row sz r) none :=
  Y_of fun E' β a w H => by
    have h3 := H.look y
    rw [hy] at h3
    obtain ⟨A, c, e1, e2, e3⟩ := h3
    obtain ⟨e, ti, e4, e5, rfl⟩ := elemSize_some ht
    have hb := run_sliceBounds_ok (P := C.P) (w := w) true els.length c l h _ _ (bnd_eval H hlo) (bnd_eval H hhi) h1 (by omega)
    have hlen : r.length = h - l := by subst hr; simp; omega
    refine ⟨.slice (if c = l then A else A.map (·.add (l * ti.size))) (h - l) (c - l), ?_, ⟨_, c - l, by rw [hlen], by omega, fun hp => ?_⟩, fun i _ => by simp [AV.avoids]⟩
    · simp [execOp, ho, e1, Instr.sliceAt, run_underlying e4, Instr.slice, hb, sizeOf, typeInfo, e5]
    · obtain ⟨b, off, rfl, h4, h5, h6⟩ := e3 (by omega)
      refine ⟨b, off + l * ti.size, ?_, h4, h5, hr ▸ repRows_cut l h h1 h2 h6⟩
      rw [if_neg (by omega)]
      simp [addr_add]
theorem repVals_of {β : BMap} {ok : Nat → Prop} {w : World} {a : Act} : ∀ (l : List Operand) (f : Operand → AV), (∀ y ∈ l, (f y).rep β ok w (a.eval y)) → AV.repVals β ok w (l.map f) (l.map a.eval)
  | [], _, _ => rfl
  | y :: l, f, h => ⟨a.eval y, l.map a.eval, rfl, h y (List.mem_cons_self ..), repVals_of l f fun z hz => h z (List.mem_cons_of_mem _ hz)⟩
theorem Y_makeFunc {f : Fn} {caps : Array Operand} {l : List AV} (ho : o.op = .makeFunc f #[] caps) (hl : caps.toList.map st.look = l) : Yields C E st o (.fn f l) none :=
  Y_of fun E' β a w H => by
    subst hl
    refine ⟨.func f #[] (caps.map a.eval), ?_, ⟨caps.toList.map a.eval, by rw [← Array.toList_map, Array.toArray_toList], repVals_of _ _ fun y _ => H.look y⟩, fun i hi => ?_⟩
    · simp [execOp, ho, Instr.makeFunc]
    · simp only [AV.avoids]
      exact avoidsL_mem fun x hx => by
        obtain ⟨y, _, rfl⟩ := List.mem_map.1 hx
        exact H.looklim y i hi
end

def AV.cellsA : AV → List AV
  | .agg l => l
  | .v (.agg cs) => cs.toList.map .v
  | x => [x]
/-- Its value is one cell. -/
def AV.one : AV → Bool
  | .v u => u.oneCell'
  | .agg _ => false
  | .tup _ => false
  | .junk => false
  | _ => true
def AV.whole : AV → Bool
  | .agg _ => true
  | .v (.agg cs) => cs.all (·.oneCell')
  | x => x.one
theorem one_of {β : BMap} {ok : Nat → Prop} {w : World} {x : AV} {u : Value} (h : x.one = true) (hr : x.rep β ok w u) : u.oneCell' = true := by
  cases x with
  | v y => have hr : u = y := hr; subst hr; exact h
  | row sz els => obtain ⟨A, c, rfl, _⟩ := hr; rfl
  | eptr cs => obtain ⟨b, off, rfl, _⟩ := hr; rfl
  | fn f caps => obtain ⟨cs, rfl, _⟩ := hr; rfl
  | ptr i off => obtain ⟨b, _, rfl⟩ := hr; rfl
  | own i sz off len =>
    rw [AV.rep] at hr
    split at hr
    · obtain ⟨rfl, _⟩ := hr; rfl
    · obtain ⟨cap, e, rfl, _⟩ := hr; rfl
  | mp i => obtain ⟨b, _, rfl⟩ := hr; rfl
  | agg l => cases h
  | tup l => cases h
  | junk => cases h
theorem cells_single {u : Value} (h : u.oneCell' = true) : u.cells = #[u] := by cases u <;> first | rfl | cases h
theorem repCells_v {β : BMap} {ok : Nat → Prop} {w : World} : ∀ (l : List Value), (∀ u ∈ l, u.oneCell' = true) → AV.repCells β ok w (l.map .v) l
  | [], _ => rfl
  | u :: l, h => ⟨u, l, rfl, h u (List.mem_cons_self ..), rfl, repCells_v l fun x hx => h x (List.mem_cons_of_mem _ hx)⟩
theorem cellsA_rep {β : BMap} {ok : Nat → Prop} {w : World} {x : AV} {u : Value} (h : x.whole = true) (hr : x.rep β ok w u) : AV.repCells β ok w x.cellsA u.cells.toList := by
  have single : x.one = true → x.cellsA = [x] → AV.repCells β ok w x.cellsA u.cells.toList := by
    intro h1 h2
    rw [h2, cells_single (one_of h1 hr)]
    exact ⟨u, [], rfl, one_of h1 hr, hr, rfl⟩
  cases x with
  | v y =>
    have hr' : u = y := hr
    subst hr'
    by_cases ha : ∃ cs, u = .agg cs
    · obtain ⟨cs, rfl⟩ := ha
      exact repCells_v _ fun z hz => (Array.all_eq_true_iff_forall_mem.1 h) z (by simpa using hz)
    · cases u <;> first | exact absurd ⟨_, rfl⟩ ha | exact single h rfl
  | agg l => obtain ⟨cs, rfl, h2⟩ := hr; exact h2
  | row sz els => exact single h rfl
  | eptr cs => exact single h rfl
  | fn f caps => exact single h rfl
  | ptr i off => exact single h rfl
  | own i sz off len => exact single h rfl
  | mp i => exact single h rfl
  | tup l => cases h
  | junk => cases h
theorem cellsA_avoids {i : Nat} {x : AV} (h : x.avoids i = true) : AV.avoidsL i x.cellsA = true := by
  have single : x.cellsA = [x] → AV.avoidsL i x.cellsA = true := by
    intro h2; rw [h2]; simp [AV.avoidsL, h]
  cases x with
  | v y =>
    by_cases ha : ∃ cs, y = .agg cs
    · obtain ⟨cs, rfl⟩ := ha
      exact avoidsL_mem fun z hz => by obtain ⟨q, _, rfl⟩ := List.mem_map.1 hz; exact avoids_v i
    · cases y <;> first | exact absurd ⟨_, rfl⟩ ha | exact single rfl
  | agg l => exact h
  | _ => exact single rfl
/-- 'fill', of abstract cells. -/
def fillA (place : Nat → Option (Nat × Nat)) (cells : List AV) : List (Nat × AV) → Option (List AV)
  | [] => some cells
  | (i, x) :: rest =>
    match place i with
    | none => none
    | some (off, size) =>
      if x.whole = true ∧ x.cellsA.length = size ∧ off + size ≤ cells.length then fillA place (cells.take off ++ x.cellsA ++ cells.drop (off + size)) rest else none
theorem fold_set (off : Nat) : ∀ (vs : List Value) (k : Nat) (cs : Array Value), off + k + vs.length ≤ cs.size →
    (((vs.zipIdx k).foldl (fun (cs : Array Value) (p : Value × Nat) => cs.setIfInBounds (off + p.2) p.1) cs).toList = cs.toList.take (off + k) ++ vs ++ cs.toList.drop (off + k + vs.length)) ∧ ((vs.zipIdx k).foldl (fun (cs : Array Value) (p : Value × Nat) => cs.setIfInBounds (off + p.2) p.1) cs).size = cs.size
  | [], k, cs, h => by simp
  | v :: vs, k, cs, h => by
    simp only [List.zipIdx_cons, List.foldl_cons]
    have := fold_set off vs (k + 1) (cs.setIfInBounds (off + k) v) (by simp at h ⊢; omega)
    refine ⟨?_, by rw [this.2]; simp⟩
    rw [this.1]
    have hk : off + k < cs.toList.length := by rw [Array.length_toList]; simp at h; omega
    simp only [Array.toList_setIfInBounds]
    rw [List.drop_set_of_lt (by omega), show off + (k + 1) = off + k + 1 by omega, List.take_succ_eq_append_getElem (by simpa using hk)]
    simp
    rw [show off + k + 1 + vs.length = off + k + (vs.length + 1) by omega, List.take_set_of_le (Nat.le_refl _)]
theorem fill_rep {β : BMap} {ok : Nat → Prop} {w : World} {a : Act} {f : Operand → AV} (place : Nat → Option (Nat × Nat)) : ∀ (parts : List (Nat × Operand)) (cells : List AV) (cs : Array Value) (r : List AV), (∀ p ∈ parts, (f p.2).rep β ok w (a.eval p.2)) → AV.repCells β ok w cells cs.toList → fillA place cells (parts.map fun p => (p.1, f p.2)) = some r →
    ∃ cs', Instr.fill place cs (parts.map fun p => (p.1, a.eval p.2)) = some cs' ∧ AV.repCells β ok w r cs'.toList
  | [], cells, cs, r, _, hc, h => by
    injection h with h
    subst h
    exact ⟨cs, rfl, hc⟩
  | (i, y) :: parts, cells, cs, r, hp, hc, h => by
    simp only [List.map_cons, fillA] at h
    cases hpl : place i with
    | none => rw [hpl] at h; cases h
    | some os =>
      obtain ⟨off, size⟩ := os
      rw [hpl] at h
      simp only at h
      split at h
      · rename_i hcond
        obtain ⟨h1, h2, h3⟩ := hcond
        have hx := cellsA_rep h1 (hp _ (List.mem_cons_self ..))
        have hxl := repCells_len hx
        have hcl := repCells_len hc
        simp at hxl hcl
        have hf := fold_set off (a.eval y).cells.toList 0 cs (by simp; omega)
        simp only [Nat.add_zero] at hf
        have hnew : AV.repCells β ok w (cells.take off ++ (f y).cellsA ++ cells.drop (off + size)) (((a.eval y).cells.toList.zipIdx 0).foldl (fun (cs : Array Value) (p : Value × Nat) => cs.setIfInBounds (off + p.2) p.1) cs).toList := by
          rw [hf.1]
          have : (a.eval y).cells.toList.length = size := by simp; omega
          rw [this]
          exact repCells_append (repCells_append (repCells_take _ hc) hx) (repCells_drop _ hc)
        obtain ⟨cs', h5, h6⟩ := fill_rep place parts _ _ r (fun p hp' => hp p (List.mem_cons_of_mem _ hp')) hnew h
        refine ⟨cs', ?_, h6⟩
        simp only [List.map_cons, Instr.fill, hpl]
        rw [if_neg (by simp; omega)]
        have e : (a.eval y).cells.zipIdx.foldl (fun cs (p : Value × Nat) => match p with | (c, j) => cs.setIfInBounds (off + j) c) cs = (((a.eval y).cells.toList.zipIdx 0).foldl (fun (cs : Array Value) (p : Value × Nat) => cs.setIfInBounds (off + p.2) p.1) cs) := by
          rw [← Array.foldl_toList]
          simp
        rw [e]
        exact h5
      · cases h
theorem fillA_avoids {i : Nat} (place : Nat → Option (Nat × Nat)) : ∀ (parts : List (Nat × AV)) (cells r : List AV), (∀ p ∈ parts, p.2.avoids i = true) → AV.avoidsL i cells = true → fillA place cells parts = some r → AV.avoidsL i r = true
  | [], cells, r, _, hc, h => by injection h with h; subst h; exact hc
  | (k, x) :: parts, cells, r, hp, hc, h => by
    simp only [fillA] at h
    split at h
    · cases h
    · split at h
      · refine fillA_avoids place parts _ r (fun p hp' => hp p (List.mem_cons_of_mem _ hp')) ?_ h
        simp only [avoidsL_append, Bool.and_eq_true]
        exact ⟨⟨avoidsL_take _ hc, cellsA_avoids (hp _ (List.mem_cons_self ..))⟩, avoidsL_drop _ hc⟩
      · cases h
theorem run_mapM {P : Program} {w : World} {α γ : Type} (f : α → Sem γ) (g : α → γ) : ∀ (l : List α), (∀ x ∈ l, (f x).run P w = .ok (g x) w) → (l.mapM f).run P w = .ok (l.map g) w
  | [], _ => by simp
  | x :: l, h => by
    have := run_mapM f g l fun y hy => h y (List.mem_cons_of_mem _ hy)
    simp [h x (List.mem_cons_self ..), this]
/-- A struct type: places of its fields, zero cells. -/
def structInfo (P : Program) (t : TypeId) : Option (List (Nat × Nat) × List Value) :=
  match P.underlying t, (P.info? t).bind (·.zero) with
  | some (.struct fs), some z =>
    if fs.toList.all (fun f => (P.info? f.type).isSome) && z.cells.toList.all (·.oneCell') then some (fs.toList.map (fun f => (f.offset, ((P.info? f.type).map (·.size)).getD 0)), z.cells.toList) else none
  | _, _ => none
variable {C : Ctx} {E : Env} {st : St} {o : Oper}
theorem Y_build {t : TypeId} {parts : Array (Nat × Operand)} {pl : List (Nat × Nat)} {zs : List Value} {r : List AV} (ho : o.op = .build t parts) (hs : structInfo C.P t = some (pl, zs)) (hf : fillA (fun i => pl[i]?) (zs.map .v) (parts.toList.map fun p => (p.1, st.look p.2)) = some r) : Yields C E st o (.agg r) none :=
  Y_of fun E' β a w H => by
    unfold structInfo at hs
    split at hs
    · rename_i fs z h1 h2
      split at hs
      · rename_i hc
        simp only [Option.some.injEq, Prod.mk.injEq] at hs
        obtain ⟨rfl, rfl⟩ := hs
        simp only [Bool.and_eq_true, List.all_eq_true] at hc
        obtain ⟨i, hi, hz⟩ := Option.bind_eq_some_iff.1 h2
        obtain ⟨cs', h5, h6⟩ := fill_rep (f := st.look) (a := a) (β := β) (ok := okB E' β st) (w := w) _ parts.toList _ z.cells r (fun p _ => H.look p.2) (repCells_v _ hc.2) hf
        refine ⟨.agg cs', ?_, ⟨cs'.toList, by simp, h6⟩, fun j hj => ?_⟩
        · have hm : (fs.mapM fun f => (do pure (f.offset, ← sizeOf f.type) : Sem (Nat × Nat))).run C.P w = .ok (fs.toList.map (fun f => (f.offset, ((C.P.info? f.type).map (·.size)).getD 0))).toArray w := by
            rw [Array.mapM_eq_mapM_toList]
            have := run_mapM (P := C.P) (w := w) (fun f : Field => (do pure (f.offset, ← sizeOf f.type) : Sem (Nat × Nat))) (fun f => (f.offset, ((C.P.info? f.type).map (·.size)).getD 0)) fs.toList (fun f hf' => by
              obtain ⟨ti, hti⟩ := Option.isSome_iff_exists.1 (hc.1 f hf')
              simp [sizeOf, typeInfo, hti])
            simp only [Sem.run_map, this]
            rfl
          have hp : (parts.map fun (p : Nat × Operand) => (p.1, a.eval p.2)).toList = parts.toList.map fun p => (p.1, a.eval p.2) := by simp
          have hzv : (zeroValue t).run C.P w = .ok z w := by simp [zeroValue, typeInfo, hi, hz]
          simp only [execOp, ho, Instr.build, Sem.run_bind, hzv, Sem.run_pure, Result.andThen_ok, run_underlying h1, hm]
          have h5' : Instr.fill (fun x => (fs.toList.map (fun f => (f.offset, ((C.P.info? f.type).map (·.size)).getD 0))).toArray[x]?) z.cells (parts.map fun x => (x.1, a.eval x.2)).toList = some cs' := by
            rw [hp, ← h5]
            congr 1
            funext x
            simp
          rw [h5']
          simp
        · simp only [AV.avoids]
          refine fillA_avoids _ _ _ r (fun p hp => ?_) (avoidsL_mem fun x hx => ?_) hf
          · obtain ⟨q, _, rfl⟩ := List.mem_map.1 hp
            exact H.looklim q.2 j hj
          · obtain ⟨q, _, rfl⟩ := List.mem_map.1 hx
            exact avoids_v j
      · cases hs
    · cases hs

theorem below_alloc' {dr : Bool} (w : World) (ob : Obj) : BelowD dr w.heap.size w (w.alloc ob) := ⟨(Below.refl _ _).alloc (Nat.le_refl _) ob, fun _ => Nat.le_refl _⟩
theorem below_drew' {dr : Bool} (w : World) : BelowD dr w.heap.size w w.drew := ⟨⟨rfl, rfl, rfl, Nat.le_refl _, fun _ _ => rfl⟩, fun _ => Nat.le_succ _⟩
theorem shape_alloc (w : World) (c : Array Value) (e : TypeId) (f : Nat × Nat) : (w.alloc (.cells c e f)).shape? w.heap.size = some (e, c.size) := by
  unfold World.shape?
  rw [heap_alloc_new]
section
variable {C : Ctx} {E : Env} {st : St} {o : Oper} {β : BMap} {a : Act} {w w' : World}
theorem Holds.ok_new (H : Holds C E β st a w) {g : Nat} (hg : w.heap.size ≤ g) : okB E β st g :=
  ⟨.inr (Nat.le_trans H.kept.size hg), fun hx => by have := H.ex g hx; omega, fun i hi he => by have := (H.fresh i g hi he).2.2; omega⟩
def okNew (E : Env) (β : BMap) (st : St) (w : World) : Nat → Prop := fun b => okB E β st b ∧ some w.heap.size ≠ some b
theorem ext_new (hb : Below w.heap.size w w') : Ext β (okB E β st) (okNew E β st w) w w' :=
  ⟨hb.size, fun b h1 h2 => ⟨h1, fun e => by injection e with e; omega⟩, fun b _ h => hb.block b h, fun i b s _ hs => by rw [shape_same (hb.block b (shape_lt hs))]; exact hs⟩
theorem Y_new {x : AV} {n : Nat} {bc : BoxC} (h : ∀ E' β a w, Holds C E' β st a w → FreshAt st n → ∃ v w', (execOp a.eval o).run C.P w = .ok (.value v) w' ∧ BelowD C.dr w.heap.size w w' ∧ w.heap.size < w'.heap.size ∧
      x.rep (upd β n (some w.heap.size)) (okNew E' β st w) w' v ∧ bc.rep (upd β n (some w.heap.size)) (okNew E' β st w) w' n ∧ (∀ i, st.boxes.length ≤ i → x.avoids i = true) ∧ (∀ i, st.boxes.length ≤ i → bc.avoids i = true)) : Yields C E st o x (some (n, bc)) := by
  intro X β a w H hF K Q hk
  obtain ⟨v, w', h1, hb, hs, h2, h3, h4, h5⟩ := h _ β a w H (hF n bc rfl)
  refine wp_val h1 (hk v w' hb ⟨some w.heap.size, fun b hb => ?_, h2, h3, h4, h5⟩)
  injection hb with hb
  subst hb
  exact ⟨Nat.le_refl _, hs⟩
theorem size_alloc' (w : World) (ob : Obj) : w.heap.size < (w.alloc ob).heap.size := by simp
theorem fresh_lt {n : Nat} (h : FreshAt st n) : n < st.boxes.length := (List.getElem?_eq_some_iff.1 h.1).1
theorem look_avoids {n : Nat} (h : FreshAt st n) (y : Operand) : (st.look y).avoids n = true := by
  cases y with
  | tmp t =>
    show AV.avoids n ((st.slots.lookup t).getD .junk) = true
    cases hl : st.slots.lookup t with
    | none => simp [AV.avoids]
    | some x => exact h.2.1 t x (mem_of_lookup hl)
  | const v => simp [St.look, AV.avoids]
  | global g => simp [St.look, AV.avoids]
  | func f => simp [St.look, AV.avoids, AV.avoidsL]
theorem Y_box {e : TypeId} {y : Operand} {n : Nat} {x : AV} {cs : List AV} (ho : o.op = .box e y) (hy : st.look y = x) (hw : x.whole = true) (hc : x.cellsA = cs) : Yields C E st o (.ptr n 0) (some (n, .cells e cs)) :=
  Y_new fun E' β a w H hF => by
    have h := H.look y
    have hl := H.looklim y
    have hav := look_avoids hF y
    rw [hy] at h hl hav
    subst hc
    refine ⟨.pointer (some ⟨w.heap.size, 0, none⟩), w.alloc (.cells (a.eval y).cells e), ?_, below_alloc' _ _, size_alloc' _ _, ⟨_, upd_eq _ _ _, rfl⟩, ⟨_, _, upd_eq _ _ _, heap_alloc_new _ _, ?_⟩, fun i hi => ?_, fun i hi => cellsA_avoids (hl i hi)⟩
    · simp [execOp, ho, Instr.box, newVar, newRow]
    · exact AV.repCells_mono (ext_new (below_alloc' (dr := C.dr) _ _).toBelow) _ _ (fun j hj => upd_ne _ _ (fun e => by subst e; rw [cellsA_avoids hav] at hj; cases hj)) (cellsA_rep hw h)
    · have := fresh_lt hF
      simp [AV.avoids]; omega
def zeroOf (P : Program) (t : TypeId) : Option Value := (P.info? t).bind (·.zero)
theorem run_zero {P : Program} {t : TypeId} {z : Value} {w : World} (h : zeroOf P t = some z) : (zeroValue t).run P w = .ok z w := by
  obtain ⟨i, hi, hz⟩ := Option.bind_eq_some_iff.1 h
  simp [zeroValue, typeInfo, hi, hz]
theorem Y_alloc {e : TypeId} {n : Nat} {z : Value} {cs : List AV} (ho : o.op = .alloc e) (hz : zeroOf C.P e = some z) (h1 : z.cells.all (·.oneCell') = true) (hc : z.cells.toList.map .v = cs) : Yields C E st o (.ptr n 0) (some (n, .cells e cs)) :=
  Y_new fun E' β a w H hF => by
    subst hc
    refine ⟨.pointer (some ⟨w.heap.size, 0, none⟩), w.alloc (.cells z.cells e), ?_, below_alloc' _ _, size_alloc' _ _, ⟨_, upd_eq _ _ _, rfl⟩, ⟨_, _, upd_eq _ _ _, heap_alloc_new _ _, repCells_v _ fun u hu => (Array.all_eq_true_iff_forall_mem.1 h1) u (by simpa using hu)⟩, fun i hi => ?_, fun i hi => ?_⟩
    · simp [execOp, ho, Instr.alloc, run_zero hz, newVar, newRow]
    · have := fresh_lt hF
      simp [AV.avoids]; omega
    · exact avoidsL_mem fun x hx => by obtain ⟨q, _, rfl⟩ := List.mem_map.1 hx; exact avoids_v i
theorem Y_makeMap {t : TypeId} {n : Nat} (d : TypeDesc) (ho : o.op = .makeMap t none) : Yields C E st o (.mp n) (some (n, .map d [])) :=
  Y_new fun E' β a w H hF => by
    refine ⟨.map (some w.heap.size), w.alloc (.map #[] 0), ?_, below_alloc' _ _, size_alloc' _ _, ⟨_, upd_eq _ _ _, rfl⟩, ⟨_, _, _, upd_eq _ _ _, heap_alloc_new _ _, rfl, by simp⟩, fun i hi => ?_, fun i hi => rfl⟩
    · simp [execOp, ho, Instr.makeMap]
    · have := fresh_lt hF
      simp [AV.avoids]; omega
/-- 'make([]T, n, c)' where n is 0. -/
theorem Y_make0 {t e : TypeId} {y z : Operand} {n sz : Nat} {k k' : IntKind} {c : Int} {i : TypeInfo} {zv : Value} (ho : o.op = .makeSlice t y z) (hy : st.look y = .v (.int k 0)) (hz : st.look z = .v (.int k' c)) (ht : C.P.underlying t = some (.slice e)) (hi : C.P.info? e = some i) (hzv : i.zero = some zv) (hs : i.size = sz) (h0 : 0 ≤ c) (hb : (i.bytes : Int) * c ≤ 281474976710656) (h63 : c ≤ 9223372036854775807) : Yields C E st o (.own n sz 0 0) (some (n, .row e sz [])) :=
  Y_new fun E' β a w H hF => by
    have hr := run_make (P := C.P) w t e i zv ht hi hzv k k' 0 c (Int.le_refl _) h0 hb h63
    refine ⟨_, _, by simp [execOp, ho, look_v H hy, look_v H hz, hr]; exact ⟨rfl, rfl⟩, below_alloc' _ _, size_alloc' _ _, ?_, ?_, fun i hi => ?_, fun i hi => rfl⟩
    · rw [AV.rep, upd_eq]
      refine ⟨c.toNat, e, by simp, Nat.zero_le _, by unfold maxLen; omega, ?_⟩
      rw [shape_alloc, size_madeCells, hs]; simp
    · simp only [BoxC.rep, upd_eq]
      exact ⟨_, _, .of (heap_alloc_new _ _), by simp, [], rfl, by simp, rfl⟩
    · have := fresh_lt hF
      simp [AV.avoids]; omega
/-- 'make([]T, n)', an element one cell. -/
theorem Y_make1 {t e : TypeId} {y z : Operand} {n : Nat} {k k' : IntKind} {m : Nat} {i : TypeInfo} {zv : Value} (ho : o.op = .makeSlice t y z) (hy : st.look y = .v (.int k (m : Int))) (hz : st.look z = .v (.int k' (m : Int))) (ht : C.P.underlying t = some (.slice e)) (hi : C.P.info? e = some i) (hzv : i.zero = some zv) (hs : i.size = 1) (h1 : zv.cells = #[zv]) (ho1 : zv.oneCell' = true) (hb : i.bytes * m ≤ 281474976710656) (h63 : m ≤ maxLen) {els : List (List AV)} (he : List.replicate m [.v zv] = els) : Yields C E st o (.own n 1 0 m) (some (n, .row e 1 els)) :=
  Y_new fun E' β a w H hF => by
    have h63' : (m : Int) ≤ 9223372036854775807 := by have h := h63; simp [maxLen] at h; omega
    have hb' : (i.bytes : Int) * (m : Int) ≤ 281474976710656 := by
      have h : ((i.bytes * m : Nat) : Int) ≤ 281474976710656 := by omega
      rwa [Int.natCast_mul] at h
    have hr := run_make (P := C.P) w t e i zv ht hi hzv k k' m m (by omega) (Int.le_refl _) hb' h63'
    subst he
    rw [h1, hs] at hr
    refine ⟨_, _, by simp [execOp, ho, look_v H hy, look_v H hz, hr]; exact ⟨rfl, rfl⟩, below_alloc' _ _, size_alloc' _ _, ?_, ?_, fun i hi => ?_, fun i hi => ?_⟩
    · rw [AV.rep, upd_eq]
      refine ⟨m, e, by simp, Nat.le_refl _, h63, ?_⟩
      rw [shape_alloc, size_madeCells]; simp
    · simp only [BoxC.rep, upd_eq]
      refine ⟨_, [], .of (heap_alloc_new _ _), fun l hl => ?_, List.replicate m zv, by simp [toList_madeCells_one], by simp, ?_⟩
      · rw [List.eq_of_mem_replicate hl]; rfl
      · have : (List.replicate m [AV.v zv]).flatten = (List.replicate m zv).map .v := by
          clear hr hy hz hb hb' h63 h63'
          induction m with
          | zero => rfl
          | succ m ih => simp [List.replicate_succ, ih]
        rw [this]
        exact repCells_v _ fun u hu => by rw [List.eq_of_mem_replicate hu]; exact ho1
    · have := fresh_lt hF
      simp [AV.avoids]; omega
    · clear hr hy hz hb hb' h63 h63'
      show avoidsLL i _ = true
      induction m with
      | zero => rfl
      | succ m ih => simp [List.replicate_succ, avoidsLL, AV.avoidsL, AV.avoids, ih]
/-! ### Strings and bytes -/
def bytesA (s : ByteArray) : List (List AV) := s.data.toList.map fun b => [.v (.int .u8 (b.toNat : Int))]
theorem bytesA_len (s : ByteArray) : (bytesA s).length = s.size := by simp [bytesA]
theorem repRows_bytes {ok : Nat → Prop} {b : Nat} : ∀ (l : List UInt8) (off : Nat), (∀ (j : Nat) (u : UInt8), l[j]? = some u → w.cell? ⟨b, off + j, none⟩ = some (.int .u8 (u.toNat : Int))) → AV.repRows nob ok w 1 b off (l.map fun b => [.v (.int .u8 (b.toNat : Int))])
  | [], _, _ => trivial
  | x :: l, off, h => by
    refine ⟨rfl, ⟨⟨_, by simpa using h 0 x rfl, rfl, rfl⟩, trivial⟩, repRows_bytes l (off + 1) fun j u hu => ?_⟩
    rw [show off + 1 + j = off + (j + 1) by omega]
    exact h (j + 1) u (by simpa using hu)
theorem rows_bytes {ok : Nat → Prop} {b : Nat} : ∀ (l : List UInt8) (off : Nat), AV.repRows nob ok w 1 b off (l.map fun b => [.v (.int .u8 (b.toNat : Int))]) → ∀ (j : Nat) (u : UInt8), l[j]? = some u → w.cell? ⟨b, off + j, none⟩ = some (.int .u8 (u.toNat : Int))
  | x :: l, off, h, 0, u, hu => by
    injection hu with hu
    subst hu
    obtain ⟨_, ⟨⟨v, h1, _, h2⟩, _⟩, _⟩ := h
    have h2 : v = _ := h2
    subst h2
    simpa using h1
  | x :: l, off, h, j + 1, u, hu => by
    rw [show off + (j + 1) = off + 1 + j by omega]
    exact rows_bytes l (off + 1) h.2.2 j u (by simpa using hu)
theorem Y_strBytes {s d e : TypeId} {y : Operand} {t : ByteArray} (ho : o.op = .convert s d y) (hy : st.look y = .v (.string t)) (hs : C.P.underlying s = some .string) (hd : C.P.underlying d = some (.slice e)) (he : C.P.underlying e = some (.int .u8)) : Yields C E st o (.row 1 (bytesA t)) none :=
  Y_of_below fun E' β a w H => by
    have hr := run_bytes_of_string (P := C.P) w s d e t hs hd he
    have hb : BelowD C.dr w.heap.size w (w.drew.alloc (.cells (bytesRow t (grownCap w t.size 0 e)) e ((bytesRow t (grownCap w t.size 0 e)).size, (bytesRow t (grownCap w t.size 0 e)).size + 1))) := (below_drew' w).alloc (Nat.le_refl _) _
    refine ⟨_, _, by simp only [execOp, ho, look_v H hy, hr, Sem.run_bind]; rfl, hb, ⟨_, _, by rw [bytesA_len], ?_, fun _ => ⟨_, 0, rfl, H.ok_new (Nat.le_refl _), ?_, ?_⟩⟩, fun i _ => by simp [AV.avoids]⟩
    · rw [bytesA_len]; exact grownCap_ge _ _ _ _
    · show w.heap.size < (w.drew.alloc _).heap.size
      simp
    · refine repRows_bytes _ _ fun j u hu => ?_
      have : (w.drew.alloc (.cells (bytesRow t (grownCap w t.size 0 e)) e ((bytesRow t (grownCap w t.size 0 e)).size, (bytesRow t (grownCap w t.size 0 e)).size + 1))).heap[w.heap.size]? = _ := heap_alloc_new w.drew _
      rw [cell_of_blk this]
      have hj := (List.getElem?_eq_some_iff.1 hu).1
      simp only [bytesRow, Array.toList_append, Array.toList_map, Nat.zero_add]
      rw [List.getElem?_append_left (by simpa using hj), List.getElem?_map, hu]
      rfl
theorem run_bytesStr {P : Program} {s d e : TypeId} (hs : P.underlying s = some (.slice e)) (he : P.underlying e = some (.int .u8)) (hd : P.underlying d = some .string) (A : Option Addr) (c : Nat) (t : ByteArray) (h : 0 < t.size → ∃ b off, A = some ⟨b, off, none⟩ ∧ ∀ (j : Nat) (u : UInt8), t.data.toList[j]? = some u → w.cell? ⟨b, off + j, none⟩ = some (.int .u8 (u.toNat : Int))) :
    (convert s d (.slice A t.size c)).run P w = .ok (.string t) w := by
  by_cases h0 : t.size = 0
  · have ht : t = ⟨#[]⟩ := by
      cases t with
      | mk data => have : data.size = 0 := h0; rw [Array.eq_empty_of_size_eq_zero this]
    subst ht
    rw [run_convert_bytes_string w s d e A _ c hs he hd]
    cases A with
    | none => rfl
    | some ad => rfl
  · obtain ⟨b, off, rfl, hc⟩ := h (by omega)
    have := run_convert_bytes_back (P := P) w s d e ⟨b, off, none⟩ c t.data.toList hs he hd (fun j hj => by
      rw [addr_add]
      exact hc j _ (List.getElem?_eq_getElem hj))
    have e1 : t.data.toList.length = t.size := by simp
    rw [e1] at this
    rw [this]
theorem Y_bytesStr {s d e : TypeId} {y : Operand} {t : ByteArray} (ho : o.op = .convert s d y) (hy : st.look y = .row 1 (bytesA t)) (hs : C.P.underlying s = some (.slice e)) (he : C.P.underlying e = some (.int .u8)) (hd : C.P.underlying d = some .string) : Yields C E st o (.v (.string t)) none :=
  Y_of fun E' β a w H => by
    have h := H.look y
    rw [hy] at h
    obtain ⟨A, c, h1, h2, h3⟩ := h
    rw [bytesA_len] at h1 h2 h3
    refine ⟨.string t, ?_, rfl, fun i _ => avoids_v i⟩
    have hr := run_bytesStr (P := C.P) (w := w) hs he hd A c t (fun h0 => by
      obtain ⟨b, off, h4, _, _, h5⟩ := h3 h0
      exact ⟨b, off, h4, rows_bytes _ _ h5⟩)
    simp only [execOp, ho, h1, hr, Sem.run_bind]
    rfl
end

def FnOk (P : Program) (f : FuncId) : Bool := match P.funcs[f]? with
  | some fn => fn.body.isSome && !(fn.name == "runtime.NumGoroutine")
  | none => false
/-- A function's contract: what it answers to these arguments; nothing that was there turns, and what the answer leads to is the arguments' or new. -/
def AC (C : Ctx) (f : FuncId) (args : List AV) (x : AV) : Prop :=
  ∀ (w : World) (vs : List Value) (ok : Nat → Prop), C.gd ≤ w.heap.size → C.G w → AV.repVals nob ok w args vs →
    Calls C.P f vs.toArray w fun e w' => ∃ v, e = .returned v ∧ BelowD C.dr w.heap.size w w' ∧ x.rep nob (fun b => ok b ∨ w.heap.size ≤ b) w' v
mutual
/-- It leads to no memory. -/
def AV.flat : AV → Bool
  | .v _ => true
  | .agg l => AV.flatL l
  | .tup l => AV.flatL l
  | _ => false
def AV.flatL : List AV → Bool
  | [] => true
  | x :: l => AV.flat x && AV.flatL l
end
mutual
theorem flat_rep {β β' : BMap} {ok ok' : Nat → Prop} {w w' : World} : ∀ (x : AV) (u : Value), x.flat = true → x.rep β ok w u → x.rep β' ok' w' u
  | .v _, _, _, h => h
  | .agg l, u, hf, h => by
    obtain ⟨cs, h1, h2⟩ := h
    exact ⟨cs, h1, flat_repC l cs (by simpa [AV.flat] using hf) h2⟩
  | .tup l, u, hf, h => by
    obtain ⟨cs, h1, h2⟩ := h
    exact ⟨cs, h1, flat_repV l cs (by simpa [AV.flat] using hf) h2⟩
  | .row _ _, _, hf, _ => by simp [AV.flat] at hf
  | .eptr _, _, hf, _ => by simp [AV.flat] at hf
  | .fn _ _, _, hf, _ => by simp [AV.flat] at hf
  | .ptr _ _, _, hf, _ => by simp [AV.flat] at hf
  | .own _ _ _ _, _, hf, _ => by simp [AV.flat] at hf
  | .mp _, _, hf, _ => by simp [AV.flat] at hf
  | .junk, _, hf, _ => by simp [AV.flat] at hf
theorem flat_repC {β β' : BMap} {ok ok' : Nat → Prop} {w w' : World} : ∀ (l : List AV) (cs : List Value), AV.flatL l = true → AV.repCells β ok w l cs → AV.repCells β' ok' w' l cs
  | [], _, _, h => h
  | x :: l, cs, hf, h => by
    obtain ⟨v, rest, h1, h2, h3, h4⟩ := h
    simp only [AV.flatL, Bool.and_eq_true] at hf
    exact ⟨v, rest, h1, h2, flat_rep x v hf.1 h3, flat_repC l rest hf.2 h4⟩
theorem flat_repV {β β' : BMap} {ok ok' : Nat → Prop} {w w' : World} : ∀ (l : List AV) (cs : List Value), AV.flatL l = true → AV.repVals β ok w l cs → AV.repVals β' ok' w' l cs
  | [], _, _, h => h
  | x :: l, cs, hf, h => by
    obtain ⟨v, rest, h1, h3, h4⟩ := h
    simp only [AV.flatL, Bool.and_eq_true] at hf
    exact ⟨v, rest, h1, flat_rep x v hf.1 h3, flat_repV l rest hf.2 h4⟩
end
mutual
theorem flat_avoids (i : Nat) : ∀ (x : AV), x.flat = true → x.avoids i = true
  | .v _, _ => by simp [AV.avoids]
  | .agg l, h => by simp only [AV.avoids]; exact flatL_avoids i l (by simpa [AV.flat] using h)
  | .tup l, h => by simp only [AV.avoids]; exact flatL_avoids i l (by simpa [AV.flat] using h)
  | .row _ _, hf => by simp [AV.flat] at hf
  | .eptr _, hf => by simp [AV.flat] at hf
  | .fn _ _, hf => by simp [AV.flat] at hf
  | .ptr _ _, hf => by simp [AV.flat] at hf
  | .own _ _ _ _, hf => by simp [AV.flat] at hf
  | .mp _, hf => by simp [AV.flat] at hf
  | .junk, hf => by simp [AV.flat] at hf
theorem flatL_avoids (i : Nat) : ∀ (l : List AV), AV.flatL l = true → AV.avoidsL i l = true
  | [], _ => rfl
  | x :: l, h => by
    simp only [AV.flatL, Bool.and_eq_true] at h
    simp only [AV.avoidsL, Bool.and_eq_true]
    exact ⟨flat_avoids i x h.1, flatL_avoids i l h.2⟩
end
section
variable {C : Ctx} {E : Env} {st : St} {o : Oper}
/-- What is there as x may be read as y, for as long as nothing of the call's own is written. -/
def Sees (C : Ctx) (st : St) (x y : AV) : Prop := ∀ E' β a w, Holds C E' β st a w → ∀ u, x.rep β (okB E' β st) w u → y.rep nob (fun _ => True) w u
def SeesL (C : Ctx) (st : St) : List AV → List AV → Prop
  | [], l' => l' = []
  | x :: l, l' => ∃ y r, l' = y :: r ∧ Sees C st x y ∧ SeesL C st l r
theorem ext_any {β : BMap} {ok : Nat → Prop} {w : World} : Ext β ok (fun _ => True) w w := ⟨Nat.le_refl _, fun _ _ _ => trivial, fun _ _ _ => rfl, fun _ _ _ _ h => h⟩
theorem sees_closed {x : AV} (hc : ∀ i, x.avoids i = true) : Sees C st x x := fun E' β a w H u h => AV.rep_mono ext_any x u (fun i hi => by rw [hc i] at hi; cases hi) h
theorem seesL_nil : SeesL C st [] [] := rfl
theorem seesL_cons {x y : AV} {l r : List AV} (h : Sees C st x y) (hl : SeesL C st l r) : SeesL C st (x :: l) (y :: r) := ⟨y, r, rfl, h, hl⟩
theorem seesL_vals {E' : Env} {β : BMap} {a : Act} {w : World} (H : Holds C E' β st a w) : ∀ {l l' : List AV} {vs : List Value}, SeesL C st l l' → AV.repVals β (okB E' β st) w l vs → AV.repVals nob (fun _ => True) w l' vs
  | [], l', vs, h, hr => by have h : l' = [] := h; subst h; exact hr
  | x :: l, l', vs, h, hr => by
    obtain ⟨y, r, rfl, h1, h2⟩ := h
    obtain ⟨v, rest, h3, h4, h5⟩ := hr
    exact ⟨v, rest, h3, h1 E' β a w H v h4, seesL_vals H h2 h5⟩
theorem sees_fn {f : Fn} {l l' : List AV} (h : SeesL C st l l') : Sees C st (.fn f l) (.fn f l') := fun E' β a w H u hu => by
  obtain ⟨cs, h1, h2⟩ := hu
  exact ⟨cs, h1, seesL_vals H h h2⟩
theorem repAt_of_cells {ok : Nat → Prop} {w : World} {b : Nat} : ∀ {l : List AV} {cs : List Value} (off : Nat), AV.repCells nob ok w l cs → (∀ j v, cs[j]? = some v → w.cell? ⟨b, off + j, none⟩ = some v) → AV.repAt nob ok w b off l
  | [], _, _, _, _ => trivial
  | x :: l, cs, off, h, hc => by
    obtain ⟨v, rest, rfl, h1, h2, h3⟩ := h
    refine ⟨⟨v, by simpa using hc 0 v rfl, h1, h2⟩, repAt_of_cells (off + 1) h3 fun j u hu => ?_⟩
    rw [show off + 1 + j = off + (j + 1) by omega]
    exact hc (j + 1) u (by simpa using hu)
theorem repRows_of_cells {ok : Nat → Prop} {w : World} {b sz : Nat} : ∀ {els : List (List AV)} {cs : List Value} (off : Nat), (∀ l ∈ els, l.length = sz) → AV.repCells nob ok w els.flatten cs → (∀ j v, cs[j]? = some v → w.cell? ⟨b, off + j, none⟩ = some v) → AV.repRows nob ok w sz b off els
  | [], _, _, _, _, _ => trivial
  | l :: ls, cs, off, hl, h, hc => by
    have h1 := hl l (List.mem_cons_self ..)
    have h2 := repCells_take l.length h
    have h3 := repCells_drop l.length h
    simp only [List.flatten_cons, List.take_left, List.drop_left] at h2 h3
    refine ⟨h1, repAt_of_cells off h2 fun j v hv => ?_, repRows_of_cells (off + sz) (fun m hm => hl m (List.mem_cons_of_mem _ hm)) h3 fun j v hv => ?_⟩
    · rw [List.getElem?_take] at hv
      split at hv
      · exact hc j v hv
      · cases hv
    · rw [List.getElem?_drop, h1] at hv
      rw [show off + sz + j = off + (sz + j) by omega]
      exact hc _ v hv
/-- A slice over a row of the call's own, from its head, whole. -/
theorem sees_own {b sz n : Nat} {t : TypeId} {els : List (List AV)} (hb : st.boxes[b]? = some (.row t sz els)) (hn : els.length = n) (hc : ∀ i, avoidsLL i els = true) : Sees C st (.own b sz 0 n) (.row sz els) := fun E' β a w H u hu => by
  have hbx := H.boxes b _ hb
  have hf := H.fresh b
  rw [AV.rep] at hu
  simp only [BoxC.rep] at hbx
  cases hβ : β b with
  | none =>
    rw [hβ] at hu hbx
    obtain ⟨rfl, _, _⟩ := hu
    simp only at hbx
    subst hbx
    exact ⟨none, 0, rfl, Nat.le_refl _, fun h => by cases h⟩
  | some g =>
    rw [hβ] at hu hbx
    obtain ⟨cap, e, rfl, h2, h3, h4⟩ := hu
    obtain ⟨cur, tl, h5, h6, cs, h7, h8, h9⟩ := hbx
    subst hn
    refine ⟨_, cap, rfl, h2, fun _ => ⟨g, 0, by simp, trivial, (hf g ⟨_, hb, rfl⟩ hβ).2.2, repRows_of_cells (cs := cs) 0 h6 (AV.repCells_mono ext_any _ _ (fun i hi => by rw [avoidsL_flatten, hc i] at hi; cases hi) h9) fun j v hv => ?_⟩⟩
    · rw [h5.cell, h7, Nat.zero_add, List.getElem?_append_left (List.getElem?_eq_some_iff.1 hv).1]
      exact hv
/-- A pointer to a variable of the call's own. -/
theorem sees_ptr {i off : Nat} {t : TypeId} {cs m : List AV} (hb : st.boxes[i]? = some (.cells t cs)) (hm : cs.drop off = m) (hc : ∀ i, AV.avoidsL i m = true) : Sees C st (.ptr i off) (.eptr m) := fun E' β a w H u hu => by
  obtain ⟨b, h1, rfl⟩ := hu
  obtain ⟨b', cur, h2, h3, h4⟩ := H.boxes i _ hb
  rw [h1] at h2
  injection h2 with h2
  subst h2
  subst hm
  have h5 := repCells_drop off h4
  refine ⟨b, off, rfl, trivial, (H.fresh i b ⟨_, hb, rfl⟩ h1).2.2, repAt_of_cells off (AV.repCells_mono ext_any _ _ (fun j hj => by rw [hc j] at hj; cases hj) h5) fun j v hv => ?_⟩
  rw [cell_of_blk h3, ← List.getElem?_drop]
  exact hv
theorem sees_nil {sz : Nat} : Sees C st (.v (.slice none 0 0)) (.row sz []) := fun E' β a w H u hu => by
  have hu : u = _ := hu
  subst hu
  exact ⟨none, 0, rfl, Nat.le_refl _, fun h => by cases h⟩
theorem seesL_cells {E' : Env} {β : BMap} {a : Act} {w : World} (H : Holds C E' β st a w) : ∀ {l l' : List AV} {vs : List Value}, SeesL C st l l' → AV.repCells β (okB E' β st) w l vs → AV.repCells nob (fun _ => True) w l' vs
  | [], l', vs, h, hr => by have h : l' = [] := h; subst h; exact hr
  | x :: l, l', vs, h, hr => by
    obtain ⟨y, r, rfl, h1, h2⟩ := h
    obtain ⟨v, rest, h3, h3', h4, h5⟩ := hr
    exact ⟨v, rest, h3, h3', h1 E' β a w H v h4, seesL_cells H h2 h5⟩
theorem sees_agg {l l' : List AV} (h : SeesL C st l l') : Sees C st (.agg l) (.agg l') := fun E' β a w H u hu => by
  obtain ⟨cs, h1, h2⟩ := hu
  exact ⟨cs, h1, seesL_cells H h h2⟩
theorem exec_call {P : Program} {a : Act} {w : World} {c : Operand} {args : Array Operand} {ts : Array TypeId} {f : FuncId} {cs : List Value} (ho : o.op = .call { callee := .value c, args := args, argTypes := ts }) (hf : FnOk P f = true) (hc : a.eval c = .func (.func f) #[] cs.toArray) :
    (execOp a.eval o).run P w = .ok (.enter f ((args.toList.map a.eval ++ cs).toArray)) w := by
  unfold FnOk at hf
  split at hf
  · rename_i fn hfn
    simp only [Bool.and_eq_true] at hf
    obtain ⟨b, hb⟩ := Option.isSome_iff_exists.1 hf.1
    have hn : (fn.name == "runtime.NumGoroutine") = false := by simpa using hf.2
    have e : Array.map a.eval args ++ cs.toArray = (args.toList.map a.eval ++ cs).toArray := by
      apply Array.toList_inj.1
      simp
    have hn' : ¬ fn.name = "runtime.NumGoroutine" := by simpa using hn
    simp [execOp, ho, resolve, hc, Deferred.ofValue, invoke, callFunc, hfn, hb, hn', e]
  · cases hf
theorem repVals_append {β : BMap} {ok : Nat → Prop} {w : World} : ∀ {l m : List AV} {vs us : List Value}, AV.repVals β ok w l vs → AV.repVals β ok w m us → AV.repVals β ok w (l ++ m) (vs ++ us)
  | [], m, vs, us, h, h' => by have : vs = [] := h; subst this; exact h'
  | y :: l, m, vs, us, h, h' => by
    obtain ⟨v, rest, rfl, h2, h3⟩ := h
    exact ⟨v, rest ++ us, rfl, h2, repVals_append h3 h'⟩
/-- A call whose answer leads to no memory: what is the call's own may be handed on to be read. -/
theorem Y_call {c : Operand} {args : Array Operand} {ts : Array TypeId} {f : FuncId} {caps l : List AV} {x : AV} (ho : o.op = .call { callee := .value c, args := args, argTypes := ts }) (hf : FnOk C.P f = true) (hc : Sees C st (st.look c) (.fn (.func f) caps)) (hl : SeesL C st (args.toList.map st.look) l) (hac : AC C f (l ++ caps) x) (hx : x.flat = true) : Yields C E st o x none := by
  intro X β a w H _ K Q hk
  obtain ⟨cs, h1, h2⟩ := hc _ β a w H _ (H.look c)
  have h3 := seesL_vals H hl (repVals_of (β := β) (ok := okB (E.exc X) β st) (w := w) (a := a) args.toList st.look fun y _ => H.look y)
  unfold Oper.wp
  rw [exec_call ho hf h1]
  refine Calls.mono (hac w _ (fun _ => True) H.G.1 H.G.2 (repVals_append h3 h2)) ?_
  rintro e w' ⟨v, rfl, hb, hr⟩
  exact hk v w' hb ⟨flat_rep x v hx hr, fun i _ => flat_avoids i x hx⟩
def closedL (l : List AV) : Prop := ∀ i, AV.avoidsL i l = true
theorem repVals_closed {β : BMap} {ok : Nat → Prop} {w : World} {l : List AV} {vs : List Value} (hc : closedL l) (h : AV.repVals β ok w l vs) : AV.repVals nob ok w l vs :=
  AV.repVals_mono ⟨Nat.le_refl _, fun _ h _ => h, fun _ _ _ => rfl, fun _ _ _ _ h => h⟩ l vs (fun i hi => by rw [hc i] at hi; cases hi) h
/-- A call that is handed what is only read. -/
theorem Y_callK {c : Operand} {args : Array Operand} {ts : Array TypeId} {f : FuncId} {caps l : List AV} {x : AV} (ho : o.op = .call { callee := .value c, args := args, argTypes := ts }) (hf : FnOk C.P f = true) (hc : st.look c = .fn (.func f) caps) (hl : args.toList.map st.look = l) (hcl : closedL (l ++ caps)) (hac : AC C f (l ++ caps) x) (hx : ∀ i, x.avoids i = true) : Yields C E st o x none := by
  intro X β a w H _ K Q hk
  have h0 := H.look c
  rw [hc] at h0
  obtain ⟨cs, h1, h2⟩ := h0
  have h3 := repVals_of (β := β) (ok := okB (E.exc X) β st) (w := w) (a := a) args.toList st.look fun y _ => H.look y
  rw [hl] at h3
  unfold Oper.wp
  rw [exec_call ho hf h1]
  refine Calls.mono (hac w _ (okB (E.exc X) β st) H.G.1 H.G.2 (repVals_closed hcl (repVals_append h3 h2))) ?_
  rintro e w' ⟨v, rfl, hb, hr⟩
  refine hk v w' hb ⟨?_, fun i _ => hx i⟩
  refine AV.rep_mono ⟨Nat.le_refl _, fun b h _ => ?_, fun _ _ _ => rfl, fun _ _ _ h => by cases h⟩ x v (fun i hi => by rw [hx i] at hi; cases hi) hr
  rcases h with h | h
  · exact h
  · exact H.ok_new h
/-! ### What a function answers -/
def resOf (st : St) (P : Program) : ResultVar → Option AV
  | .tmp t => some (st.look (.tmp t))
  | .cell t T => match st.look (.tmp t), loadInfo P T with
    | .ptr i off, some (n, true) => match st.boxes[i]? with
      | some bc => if 0 < n ∧ ((bc.known.drop off).take n).length = n then some (.agg ((bc.known.drop off).take n)) else none
      | none => none
    | .ptr i off, some (_, false) => match st.boxes[i]? with
      | some bc => bc.known[off]?
      | none => none
    | _, _ => none
def resAll (st : St) (P : Program) : List ResultVar → Option (List AV)
  | [] => some []
  | r :: rs => match resOf st P r, resAll st P rs with
    | some x, some l => some (x :: l)
    | _, _ => none
def tupOf : List AV → AV
  | [x] => x
  | l => .tup l
def resSem (tmps : Array Value) : ResultVar → Sem Value
  | .tmp t => pure (tmps.getD t undef)
  | .cell t T => do loadVar T (← asAddr (tmps.getD t undef))
theorem resOf_run {E' : Env} {β : BMap} {a : Act} {w : World} (H : Holds C E' β st a w) {r : ResultVar} {x : AV} (h : resOf st C.P r = some x) :
    ∃ v, (resSem a.tmps r).run C.P w = .ok v w ∧ x.rep β (okB E' β st) w v := by
  cases r with
  | tmp t =>
    injection h with h
    subst h
    exact ⟨_, rfl, H.look (.tmp t)⟩
  | cell t T =>
    have hp := H.look (.tmp t)
    simp only [resOf] at h
    split at h
    · rename_i i off n hl hi
      rw [hl] at hp
      obtain ⟨b, h1, h2⟩ := hp
      have h2 : a.tmps.getD t undef = _ := h2
      split at h
      · rename_i bc hb
        split at h
        · rename_i hn
          injection h with h
          subst h
          rcases box_range (H.boxes i bc hb) h1 with h3 | ⟨cs, cur, tl, t', h3, h4, h5⟩
          · rw [h3] at hn; simp at hn; omega
          · obtain ⟨ti, d, e1, e2, rfl, e4⟩ := loadInfo_some hi
            have h7 := repCells_take ti.size (repCells_drop off h5)
            have hl := repCells_len h7
            rw [hn.2] at hl
            refine ⟨.agg ((cs.drop off).take ti.size).toArray, ?_, ⟨_, rfl, h7⟩⟩
            have hr := run_loadVar_mid (P := C.P) w b off T ((cs.drop off).take ti.size) d (fun j v hv => by
              rw [h3.cell, h4]
              rw [List.getElem?_take] at hv
              split at hv
              · rw [List.getElem?_drop] at hv
                rw [List.getElem?_append_left (List.getElem?_eq_some_iff.1 hv).1]
                exact hv
              · cases hv) e2 e4 (by rw [e1, hl]; rfl)
            simp [resSem, h2, asAddr, hr]
        · cases h
      · cases h
    · rename_i i off n hl hi
      rw [hl] at hp
      obtain ⟨b, h1, h2⟩ := hp
      have h2 : a.tmps.getD t undef = _ := h2
      split at h
      · rename_i bc hb
        rcases box_range (H.boxes i bc hb) h1 with h3 | ⟨cs, cur, tl, t', h3, h4, h5⟩
        · rw [h3] at h; simp at h
        · obtain ⟨ti, d, e1, e2, rfl, e4⟩ := loadInfo_some hi
          obtain ⟨v, h6, _, h7⟩ := repCells_get h5 h
          refine ⟨v, ?_, h7⟩
          have hc : w.cell? ⟨b, off, none⟩ = some v := by
            rw [h3.cell, h4, List.getElem?_append_left (List.getElem?_eq_some_iff.1 h6).1]
            exact h6
          simp [resSem, h2, asAddr, loadVar, run_isAgg e2, e4, hc]
      · cases h
    · cases h
theorem resAll_run {E' : Env} {β : BMap} {a : Act} {w : World} (H : Holds C E' β st a w) : ∀ {rs : List ResultVar} {l : List AV}, resAll st C.P rs = some l →
    ∃ vs, (rs.mapM (resSem a.tmps)).run C.P w = .ok vs w ∧ AV.repVals β (okB E' β st) w l vs
  | [], l, h => by injection h with h; subst h; exact ⟨[], by simp, rfl⟩
  | r :: rs, l, h => by
    simp only [resAll] at h
    split at h
    · rename_i x l' h1 h2
      injection h with h
      subst h
      obtain ⟨v, h3, h4⟩ := resOf_run H h1
      obtain ⟨vs, h5, h6⟩ := resAll_run H h2
      refine ⟨v :: vs, ?_, ⟨v, vs, rfl, h4, h6⟩⟩
      rw [List.mapM_cons, Sem.run_bind]
      rw [h3]
      simp only [Result.andThen_ok, Sem.run_bind, h5, Sem.run_pure]
    · cases h
theorem results_run {E' : Env} {β : BMap} {a : Act} {w : World} (H : Holds C E' β st a w) {fn : Func} {l : List AV} (h : resAll st C.P fn.results.toList = some l) : ∃ v, (results fn a.tmps).run C.P w = .ok v w ∧ (tupOf l).rep β (okB E' β st) w v := by
  obtain ⟨vs, h1, h2⟩ := resAll_run H h
  refine ⟨if h : vs.toArray.size = 1 then vs.toArray[0] else .tuple vs.toArray, ?_, ?_⟩
  · have e : results fn a.tmps = (do let vs ← fn.results.mapM (resSem a.tmps); pure (if h : vs.size = 1 then vs[0] else .tuple vs)) := by
      unfold results
      congr 2
    rw [e, Array.mapM_eq_mapM_toList, Sem.run_bind, Sem.run_map]
    rw [h1]
    simp [Result.andThen]
  · match l, vs, h2 with
    | [], vs, h2 => have h2 : vs = [] := h2; subst h2; exact ⟨[], rfl, rfl⟩
    | [x], vs, h2 =>
      obtain ⟨v, rest, rfl, h4, h5⟩ := h2
      have h5 : rest = [] := h5
      subst h5
      exact h4
    | x :: y :: l, vs, h2 =>
      obtain ⟨v, rest, rfl, h4, v', rest', rfl, h6, h7⟩ := h2
      exact ⟨v :: v' :: rest', by simp, v, _, rfl, h4, v', rest', rfl, h6, h7⟩
/-- The function ends so, and answers x. -/
def RetA (P : Program) (fn : Func) (x : AV) : AQ := fun e st => (e = .ret ∨ e = .normal) ∧ ∃ l, resAll st P fn.results.toList = some l ∧ tupOf l = x
def argSlots : Nat → List AV → List (Nat × AV)
  | _, [] => []
  | k, x :: l => (k, x) :: argSlots (k + 1) l
theorem argSlots_rep {β : BMap} {ok : Nat → Prop} {w : World} (f : Nat → Value) : ∀ {l : List AV} {vs : List Value} (k : Nat), AV.repVals β ok w l vs → (∀ j v, vs[j]? = some v → f (k + j) = v) → ∀ t x, (t, x) ∈ argSlots k l → x.rep β ok w (f t)
  | [], _, _, _, _, _, _, h => by cases h
  | y :: l, vs, k, hr, hf, t, x, h => by
    obtain ⟨v, rest, rfl, h1, h2⟩ := hr
    rcases List.mem_cons.1 h with h | h
    · injection h with h3 h4
      subst h3; subst h4
      rw [show f t = v by simpa using hf 0 v rfl]
      exact h1
    · exact argSlots_rep f (k + 1) h2 (fun j u hu => by rw [show k + 1 + j = k + (j + 1) by omega]; exact hf (j + 1) u (by simpa using hu)) t x h
theorem argSlots_mem : ∀ {l : List AV} {k t : Nat} {x : AV}, (t, x) ∈ argSlots k l → x ∈ l
  | [], _, _, _, h => by cases h
  | y :: l, k, t, x, h => by
    rcases List.mem_cons.1 h with h | h
    · injection h with _ h4; subst h4; exact List.mem_cons_self ..
    · exact List.mem_cons_of_mem _ (argSlots_mem h)
theorem mem_avoids {i : Nat} : ∀ {l : List AV} {x : AV}, AV.avoidsL i l = true → x ∈ l → x.avoids i = true
  | y :: l, x, h, hx => by
    simp only [AV.avoidsL, Bool.and_eq_true] at h
    rcases List.mem_cons.1 hx with rfl | hx
    · exact h.1
    · exact mem_avoids h.2 hx
/-- A contract out of a walk of the body. -/
theorem AC_body {f : FuncId} {fn : Func} {c : Code} {args : List AV} {x : AV} (hf : C.P.funcs[f]? = some fn) (hb : fn.body = some c) (hn : args.length ≤ fn.ntmps) (hcl : closedL args) (hx : ∀ i, x.avoids i = true)
    (h : ∀ E : Env, E.nt = fn.ntmps → (∀ b, ¬ E.arg b) ∧ E.npin = 0 → AW C E c (RetA C.P fn x) ⟨argSlots 0 args, []⟩) : AC C f args x := by
  intro w vs ok hgd hG hr
  have hlen : vs.length = args.length := by
    clear hf hb hn hcl hx h
    induction args generalizing vs with
    | nil => have hr : vs = [] := hr; subst hr; rfl
    | cons y l ih => obtain ⟨v, rest, rfl, h1, h2⟩ := hr; simp [ih _ h2]
  let E : Env := { w0 := w, ok0 := fun b => ok b ∧ b < w.heap.size, arg := fun _ => False, ex := fun _ => False, npin := 0, pin := fun _ => none, nt := fn.ntmps, dr := C.dr }
  have H0 : Holds C E nob ⟨argSlots 0 args, []⟩ { tmps := vs.toArray ++ Array.replicate (fn.ntmps - vs.toArray.size) undef, defers := [] } w := by
    refine ⟨⟨rfl, hgd, hG, fun b h => h.elim, fun b h _ => id⟩, ?_, rfl, ⟨rfl, rfl, rfl, Nat.le_refl _, fun _ _ _ => rfl, fun _ _ h => h, fun _ => Nat.le_refl _⟩, fun t y hy => ?_, fun t y hy i _ => mem_avoids (hcl i) (argSlots_mem hy), fun i bc hi => by simp at hi, fun i bc hi => by simp at hi, fun i j b hi => ?_, fun i b hi => ?_, fun b h => h.elim, ⟨Nat.zero_le _, fun i b hi _ => absurd hi (Nat.not_lt_zero i)⟩⟩
    · show (vs.toArray ++ Array.replicate _ undef).size = fn.ntmps
      simp; omega
    · have := argSlots_rep (fun t => (vs.toArray ++ Array.replicate (fn.ntmps - vs.toArray.size) undef).getD t undef) 0 hr (fun j v hv => by
        have hj := (List.getElem?_eq_some_iff.1 hv).1
        simp only [Nat.zero_add, Array.getD_eq_getD_getElem?]
        rw [Array.getElem?_append_left (by simpa using hj)]
        simp [hv]) t y hy
      refine AV.rep_mono ⟨Nat.le_refl _, fun b h1 h2 => ⟨.inl ⟨h1, h2⟩, id, fun i ⟨bc, hi, _⟩ => by simp at hi⟩, fun _ _ _ => rfl, fun _ _ _ _ h => h⟩ _ _ (fun _ _ => rfl) this
    · obtain ⟨bc, h1, _⟩ := hi; simp at h1
    · obtain ⟨bc, h1, _⟩ := hi; simp at h1
  refine calls_of_wp hf hb (wp_mono (h E rfl ⟨fun _ => id, rfl⟩ nob _ w H0) ?_)
  rintro e a' w' ⟨st', β', ⟨he, l, hl, rfl⟩, H⟩
  obtain ⟨v, h1, h2⟩ := results_run H hl
  have hend : a'.defers = [] ∧ ∃ v, (results fn a'.tmps).run C.P w' = .ok v w' ∧ ∃ v_1, Ending.returned v = .returned v_1 ∧ BelowD C.dr w.heap.size w w' ∧ (tupOf l).rep nob (fun b => ok b ∨ w.heap.size ≤ b) w' v_1 := by
    refine ⟨H.defers, v, h1, v, rfl, ⟨⟨H.kept.os, H.kept.tape, H.kept.output, H.kept.size, fun b hb => H.kept.block b hb id⟩, H.kept.drawn⟩, ?_⟩
    refine AV.rep_mono ⟨Nat.le_refl _, fun b h3 _ => ?_, fun _ _ _ => rfl, fun _ _ s _ h => h⟩ _ _ (fun i hi => by rw [hx i] at hi; cases hi) h2
    rcases h3.1 with h3 | h3
    · exact .inl h3.1
    · exact .inr h3
  rcases he with rfl | rfl
  · exact hend
  · exact hend
end

/-- Just block g has turned. -/
structure Turned (g : Nat) (w w1 : World) : Prop where
  os : w1.os = w.os
  tape : w1.tape = w.tape
  output : w1.output = w.output
  size : w1.heap.size = w.heap.size
  drawn : w1.drawn = w.drawn
  far : ∀ k, k ≠ g → w1.heap[k]? = w.heap[k]?
theorem Turned.refl (g : Nat) (w : World) : Turned g w w := ⟨rfl, rfl, rfl, rfl, rfl, fun _ _ => rfl⟩
theorem Turned.trans {g : Nat} {w w1 w2 : World} (h : Turned g w w1) (h' : Turned g w1 w2) : Turned g w w2 :=
  ⟨h'.os.trans h.os, h'.tape.trans h.tape, h'.output.trans h.output, h'.size.trans h.size, h'.drawn.trans h.drawn, fun k hk => (h'.far k hk).trans (h.far k hk)⟩
theorem turned_setCell (w : World) (g off : Nat) (v : Value) : Turned g w (w.setCell ⟨g, off, none⟩ v) :=
  ⟨rfl, rfl, rfl, by simp [World.setCell], rfl, fun k hk => Below.heap_setCell _ _ _ _ hk⟩
theorem setCell_blk {w : World} {g off : Nat} {v : Value} {cur : Array Value} {t : TypeId} {fz : Nat × Nat} (h : w.heap[g]? = some (.cells cur t fz)) : (w.setCell ⟨g, off, none⟩ v).heap[g]? = some (.cells (cur.setIfInBounds off v) t fz) := by
  simp [World.setCell, Array.getElem?_modify, h]
theorem setCells_blk {g : Nat} {t : TypeId} {fz : Nat × Nat} : ∀ (vs : List Value) (off : Nat) (w : World) (cur : Array Value), w.heap[g]? = some (.cells cur t fz) → off + vs.length ≤ cur.size →
    Turned g w (w.setCells g off vs) ∧ ∃ cur', (w.setCells g off vs).heap[g]? = some (.cells cur' t fz) ∧ cur'.toList = cur.toList.take off ++ vs ++ cur.toList.drop (off + vs.length)
  | [], off, w, cur, h, _ => ⟨Turned.refl _ _, cur, h, by simp⟩
  | v :: vs, off, w, cur, h, hl => by
    have hl' : off + 1 + vs.length ≤ (cur.setIfInBounds off v).size := by simp at hl ⊢; omega
    obtain ⟨h1, cur', h2, h3⟩ := setCells_blk vs (off + 1) (w.setCell ⟨g, off, none⟩ v) (cur.setIfInBounds off v) (setCell_blk h) hl'
    refine ⟨(turned_setCell w g off v).trans h1, cur', h2, ?_⟩
    rw [h3]
    have hk : off < cur.toList.length := by rw [Array.length_toList]; simp at hl; omega
    simp only [Array.toList_setIfInBounds]
    rw [List.drop_set_of_lt (by omega), List.take_succ_eq_append_getElem (by simpa using hk), List.take_set_of_le (Nat.le_refl _)]
    simp
    congr 1
    omega
section
variable {C : Ctx} {E : Env} {st : St} {o : Oper} {β : BMap} {a : Act} {w w' : World} {Q : AQ} {ops : Array Oper} {rest : List Oper}
theorem setBox_live {n i : Nat} {bc bc' : BoxC} (hi : st.boxes[n]? = some bc) (hl : bc.live = true) (hl' : bc'.live = true) : (st.setBox n bc').liveB i ↔ st.liveB i := by
  have hn := (List.getElem?_eq_some_iff.1 hi).1
  unfold St.liveB St.setBox
  by_cases e : n = i
  · subst e
    constructor
    · intro _; exact ⟨bc, hi, hl⟩
    · intro _; exact ⟨bc', by rw [List.getElem?_set_self hn], hl'⟩
  · simp only [List.getElem?_set_ne e]
theorem setBox_ok {n : Nat} {bc bc' : BoxC} (hi : st.boxes[n]? = some bc) (hl : bc.live = true) (hl' : bc'.live = true) : okB E β (st.setBox n bc') = okB E β st := by
  funext b
  unfold okB
  simp only [setBox_live hi hl hl']
theorem setBox_get {n : Nat} {bc : BoxC} (hn : n < st.boxes.length) {i : Nat} {b : BoxC} (h : (st.setBox n bc).boxes[i]? = some b) : (i = n ∧ b = bc) ∨ (i ≠ n ∧ st.boxes[i]? = some b) := by
  unfold St.setBox at h
  by_cases e : n = i
  · subst e
    rw [List.getElem?_set_self hn] at h
    injection h with h
    exact .inl ⟨rfl, h.symm⟩
  · rw [List.getElem?_set_ne e] at h
    exact .inr ⟨Ne.symm e, h⟩
/-- A box of the call's own is written. -/
theorem Holds.turn (H : Holds C E β st a w) {i b : Nat} {bc bc' : BoxC} (hi : st.boxes[i]? = some bc) (hl : bc.live = true) (hb : β i = some b) (hT : Turned b w w') (hs : w'.shape? b = w.shape? b) (hl' : bc'.live = true) (hav : ∀ j, st.boxes.length ≤ j → bc'.avoids j = true)
    (hr : bc'.rep β (okB E β st) w' i) : Holds C E β (st.setBox i bc') a w' := by
  have hn := (List.getElem?_eq_some_iff.1 hi).1
  have hlen : (st.setBox i bc').boxes.length = st.boxes.length := by simp [St.setBox]
  have hE : Ext β (okB E β st) (okB E β st) w w' := ⟨by rw [hT.size]; exact Nat.le_refl _, fun _ h _ => h, fun k hk _ => hT.far k (fun e => by subst e; exact hk.2.2 i ⟨bc, hi, hl⟩ hb), fun j k s hj hk => by
    by_cases e : k = b
    · subst e; rw [hs]; exact hk
    · rw [shape_same (hT.far k e)]; exact hk⟩
  have hfr := H.fresh i b ⟨bc, hi, hl⟩ hb
  refine ⟨H.env, H.size, H.defers, ⟨hT.os.trans H.kept.os, hT.tape.trans H.kept.tape, hT.output.trans H.kept.output, by rw [hT.size]; exact H.kept.size, fun k h1 h2 => (hT.far k (fun e => by subst e; rcases hfr.1 with h | h; omega; exact h2 h)).trans (H.kept.block k h1 h2), fun k s hk => by
    have h0 := H.kept.shape k s hk
    by_cases e : k = b
    · subst e; rw [hs]; exact h0
    · rw [shape_same (hT.far k e)]; exact h0, fun hd => by rw [hT.drawn]; exact H.kept.drawn hd⟩, fun t x hx => ?_, fun t x hx j hj => H.lim t x hx j (by omega), fun j bj hj => ?_, fun j bj hj k hk => ?_, fun j k c h1 h2 => H.inj j k c ((setBox_live hi hl hl').1 h1) ((setBox_live hi hl hl').1 h2), fun j c h1 h2 => ?_, fun k hk => by rw [hT.size]; exact H.ex k hk, ⟨by rw [hlen]; exact H.pin.1, H.pin.2⟩⟩
  · rw [setBox_ok hi hl hl']
    exact AV.rep_mono hE _ _ (fun _ _ => rfl) (H.slots t x hx)
  · rw [setBox_ok hi hl hl']
    rcases setBox_get hn hj with ⟨rfl, rfl⟩ | ⟨h1, h2⟩
    · exact hr
    · refine BoxC.rep_mono hE bj (fun _ _ => rfl) (fun _ => rfl) (fun k h3 h4 => hT.far k (fun e => ?_)) (H.boxes j bj h2)
      subst e
      exact h1 (H.inj j i k ⟨bj, h2, h4⟩ ⟨bc, hi, hl⟩ h3 hb)
  · rcases setBox_get hn hj with ⟨rfl, rfl⟩ | ⟨h1, h2⟩
    · exact hav k (by omega)
    · exact H.blim j bj h2 k (by omega)
  · have := H.fresh j c ((setBox_live hi hl hl').1 h1) h2
    exact ⟨this.1, this.2.1, by rw [hT.size]; exact this.2.2⟩
theorem run_storeVar {P : Program} {t : TypeId} {v : Value} {i : TypeInfo} {b off : Nat} {cur : Array Value} {t' : TypeId} (hi : P.info? t = some i) (hs : v.cells.size = i.size) (h1 : ∀ u ∈ v.cells.toList, u.oneCell' = true) (hb : RowBlk w b cur t') (hl : off + v.cells.size ≤ cur.size) :
    (storeVar t ⟨b, off, none⟩ v).run P w = .ok () (w.setCells b off v.cells.toList) := by
  have := run_storeCells_cells (P := P) b off v.cells.toList 0 w (fun j hj => by
    rw [hb.cell]
    simp at hj ⊢
    omega) (fun j hj => hb.frozen (by rw [Array.length_toList] at hj; omega)) h1
  simp only [Nat.add_zero] at this
  simp [storeVar, sizeOf, typeInfo, hi, hs, this]
theorem shape_of_blk {w : World} {b : Nat} {cur : Array Value} {t : TypeId} {fz : Nat × Nat} (h : w.heap[b]? = some (.cells cur t fz)) : w.shape? b = some (t, cur.size) := by simp [World.shape?, h]
/-- A store into a variable of the call's own. -/
theorem AL_store {t tb : TypeId} {x y : Operand} {i off n : Nat} {r : Bool} {cs m cs' : List AV} (hw : Wanted ops o st) (ho : o.op = .store t x y) (hd : o.dst = none) (hx : st.look x = .ptr i off) (hb : st.boxes[i]? = some (.cells tb cs)) (hin : loadInfo C.P t = some (n, r))
    (hwh : (st.look y).whole = true) (hm : (st.look y).cellsA = m) (hn : m.length = n) (hl : off + n ≤ cs.length) (hcs : cs.take off ++ m ++ cs.drop (off + n) = cs') (h : AL C E ops rest Q (st.setBox i (.cells tb cs'))) : AL C E ops (o :: rest) Q st := by
  intro β a w H
  refine wpList_step fun K hK => ?_
  rw [wanted_of H hw]
  simp only [if_true]
  have hxr := H.look x
  rw [hx] at hxr
  obtain ⟨b, h1, h2⟩ := hxr
  obtain ⟨b', cur, h3, h4, h5⟩ := H.boxes i _ hb
  rw [h1] at h3
  injection h3 with h3
  subst h3
  obtain ⟨ti, d, e1, e2, rfl, e4⟩ := loadInfo_some hin
  have hy := cellsA_rep hwh (H.look y)
  have hyl := repCells_len hy
  rw [hm, hn] at hyl
  have hcl := repCells_len h5
  simp only [Array.length_toList] at hyl hcl
  have hrun := run_storeVar (P := C.P) (w := w) e1 hyl (repCells_one hy) (.of h4) (off := off) (by omega)
  unfold Oper.wp execOp
  simp only [ho, h2, Instr.storeAt, Instr.sureAddr, Sem.run_bind, Sem.run_pure, Result.andThen_ok, hrun]
  show K (a.put o.dst undef) _
  rw [hd]
  obtain ⟨hT, cur', h6, h7⟩ := setCells_blk (a.eval y).cells.toList off w cur h4 (by simp only [Array.length_toList]; omega)
  refine hK _ _ (h β _ _ ?_)
  have hnew : AV.repCells β (okB E β st) w cs' cur'.toList := by
    rw [h7, ← hcs, ← hm]
    have : (a.eval y).cells.toList.length = ti.size := by simp only [Array.length_toList]; omega
    rw [this]
    exact repCells_append (repCells_append (repCells_take _ h5) hy) (repCells_drop _ h5)
  have hE : Ext β (okB E β st) (okB E β st) w (w.setCells b off (a.eval y).cells.toList) := ⟨by rw [hT.size]; exact Nat.le_refl _, fun _ h _ => h, fun k hk _ => hT.far k (fun e => by subst e; exact hk.2.2 i ⟨_, hb, rfl⟩ h1), fun j k s hj hk => by
    by_cases e : k = b
    · subst e
      rw [shape_of_blk h6, ← hk, shape_of_blk h4]
      have hlen := repCells_len hnew
      have : cur'.size = cur.size := by
        rw [← Array.length_toList, h7]; simp; omega
      rw [this]
    · rw [shape_same (hT.far k e)]; exact hk⟩
  refine H.turn hb rfl h1 hT ?_ rfl (fun j hj => ?_) ⟨b, cur', h1, h6, AV.repCells_mono hE _ _ (fun _ _ => rfl) hnew⟩
  · rw [shape_of_blk h6, shape_of_blk h4]
    have : cur'.size = cur.size := by
      rw [← Array.length_toList, h7]; simp; omega
    rw [this]
  · have h8 := H.blim i _ hb j hj
    have h9 := cellsA_avoids (H.looklim y j hj)
    show AV.avoidsL j cs' = true
    rw [← hcs, ← hm]
    simp only [avoidsL_append, Bool.and_eq_true]
    exact ⟨⟨avoidsL_take _ h8, h9⟩, avoidsL_drop _ h8⟩
theorem take_over {α : Type} (m F : List α) (k : Nat) : (m ++ F).take (m.length + k) = m ++ F.take k := by simp [List.take_append, List.take_of_length_le]
theorem drop_over {α : Type} (m F : List α) (k : Nat) : (m ++ F).drop (m.length + k) = F.drop k := by simp [List.drop_append]
theorem flatten_set {els : List (List AV)} {sz : Nat} (hl : ∀ l ∈ els, l.length = sz) : ∀ {j : Nat} {l' : List AV}, j < els.length → l'.length = sz → (els.set j l').flatten = els.flatten.take (j * sz) ++ l' ++ els.flatten.drop (j * sz + sz) := by
  induction els with
  | nil => intro j l' hj; simp at hj
  | cons m els ih =>
    intro j l' hj hl'
    have hm := hl m (List.mem_cons_self ..)
    cases j with
    | zero =>
      simp only [List.set_cons_zero, List.flatten_cons, Nat.zero_mul, List.take_zero, List.nil_append, Nat.zero_add]
      rw [← hm, List.drop_left]
    | succ j =>
      have := ih (fun l h => hl l (List.mem_cons_of_mem _ h)) (j := j) (l' := l') (by simpa using hj) hl'
      simp only [List.set_cons_succ, List.flatten_cons, this]
      have e1 : (j + 1) * sz = m.length + j * sz := by rw [Nat.add_mul, hm]; omega
      rw [e1, Nat.add_assoc, take_over, drop_over]
      simp
/-- A store into an element of a row of the call's own: element j, from its cell k on. -/
theorem AL_storeRow {t tb : TypeId} {x y : Operand} {i sz off j k n : Nat} {r : Bool} {els : List (List AV)} {l m l' : List AV} (hw : Wanted ops o st) (ho : o.op = .store t x y) (hd : o.dst = none) (hx : st.look x = .ptr i off) (hb : st.boxes[i]? = some (.row tb sz els)) (hin : loadInfo C.P t = some (n, r))
    (hwh : (st.look y).whole = true) (hm : (st.look y).cellsA = m) (hn : m.length = n) (hoff : off = j * sz + k) (hj : els[j]? = some l) (hl : k + n ≤ sz) (hcs : l.take k ++ m ++ l.drop (k + n) = l') (h : AL C E ops rest Q (st.setBox i (.row tb sz (els.set j l')))) : AL C E ops (o :: rest) Q st := by
  intro β a w H
  refine wpList_step fun K hK => ?_
  rw [wanted_of H hw]
  simp only [if_true]
  have hxr := H.look x
  rw [hx] at hxr
  obtain ⟨b, h1, h2⟩ := hxr
  have hbx := H.boxes i _ hb
  simp only [BoxC.rep, h1] at hbx
  obtain ⟨cur, tl, h4, hls, cs, h5, h6, h7⟩ := hbx
  obtain ⟨ti, d, e1, e2, rfl, e4⟩ := loadInfo_some hin
  have hjl := (List.getElem?_eq_some_iff.1 hj).1
  have hlen : l.length = sz := hls l (List.mem_of_getElem? hj)
  have hl' : l'.length = sz := by rw [← hcs]; simp; omega
  have hy := cellsA_rep hwh (H.look y)
  have hyl := repCells_len hy
  rw [hm, hn] at hyl
  have hfl := repCells_len h7
  simp only [Array.length_toList] at hyl
  have hcur : cur.size = cs.length + tl.length := by rw [← Array.length_toList, h5]; simp
  have hfit : j * sz + sz ≤ els.length * sz := by rw [← Nat.succ_mul]; exact Nat.mul_le_mul_right _ hjl
  have hrun := run_storeVar (P := C.P) (w := w) e1 hyl (repCells_one hy) h4 (off := off) (by omega)
  obtain ⟨fz, h4, hfz⟩ := h4
  unfold Oper.wp execOp
  simp only [ho, h2, Instr.storeAt, Instr.sureAddr, Sem.run_bind, Sem.run_pure, Result.andThen_ok, hrun]
  show K (a.put o.dst undef) _
  rw [hd]
  obtain ⟨hT, cur', g6, g7⟩ := setCells_blk (a.eval y).cells.toList off w cur h4 (by simp only [Array.length_toList]; omega)
  refine hK _ _ (h β _ _ ?_)
  have hvl : (a.eval y).cells.toList.length = ti.size := by simp only [Array.length_toList]; omega
  have hget : (els.flatten.drop (j * sz)).take sz = l := by
    have := flatten_set hls (j := j) (l' := l) hjl hlen
    have e : els.set j l = els := by
      obtain ⟨hj1, hj2⟩ := List.getElem?_eq_some_iff.1 hj
      rw [← hj2, List.set_getElem_self]
    rw [e] at this
    rw [this]
    have hq : (els.flatten.take (j * sz)).length = j * sz := by rw [List.length_take]; omega
    rw [List.append_assoc, List.drop_left' hq, ← hlen, List.take_left]
  have hnew : AV.repCells β (okB E β st) w (els.set j l').flatten (cs.take off ++ (a.eval y).cells.toList ++ cs.drop (off + ti.size)) := by
    have e : (els.set j l').flatten = els.flatten.take off ++ m ++ els.flatten.drop (off + ti.size) := by
      rw [flatten_set hls hjl hl', ← hcs, hoff]
      have q1 : els.flatten.take (j * sz + k) = els.flatten.take (j * sz) ++ l.take k := by
        rw [List.take_add, ← hget, List.take_take]
        congr 2
        omega
      have q2 : els.flatten.drop (j * sz + k + ti.size) = l.drop (k + ti.size) ++ els.flatten.drop (j * sz + sz) := by
        rw [← hget, List.drop_take, List.drop_drop]
        rw [show j * sz + (k + ti.size) = j * sz + k + ti.size by omega]
        have := List.take_append_drop (sz - (k + ti.size)) (els.flatten.drop (j * sz + k + ti.size))
        rw [List.drop_drop, show j * sz + k + ti.size + (sz - (k + ti.size)) = j * sz + sz by omega] at this
        exact this.symm
      rw [q1, q2]
      simp
    rw [e, ← hm]
    exact repCells_append (repCells_append (repCells_take _ h7) hy) (repCells_drop _ h7)
  have hcur' : cur'.toList = (cs.take off ++ (a.eval y).cells.toList ++ cs.drop (off + ti.size)) ++ tl := by
    rw [g7, h5, hvl, List.take_append_of_le_length (by omega), List.drop_append_of_le_length (by omega)]
    simp
  have hsz : cur'.size = cur.size := by rw [← Array.length_toList, hcur']; simp; omega
  have hshape : (w.setCells b off (a.eval y).cells.toList).shape? b = w.shape? b := by rw [shape_of_blk g6, shape_of_blk h4, hsz]
  have hE : Ext β (okB E β st) (okB E β st) w (w.setCells b off (a.eval y).cells.toList) := ⟨by rw [hT.size]; exact Nat.le_refl _, fun _ h _ => h, fun k hk _ => hT.far k (fun e => by subst e; exact hk.2.2 i ⟨_, hb, rfl⟩ h1), fun j k s hj hk => by
    by_cases e : k = b
    · subst e; rw [hshape]; exact hk
    · rw [shape_same (hT.far k e)]; exact hk⟩
  refine H.turn hb rfl h1 hT hshape rfl (fun q hq => ?_) ?_
  · have h8 := H.blim i _ hb q hq
    have h9 := cellsA_avoids (H.looklim y q hq)
    rw [hm] at h9
    have h10 : avoidsLL q els = true := h8
    rw [← avoidsL_flatten] at h10
    have h11 : AV.avoidsL q l = true := by rw [← hget]; exact avoidsL_take _ (avoidsL_drop _ h10)
    show avoidsLL q (els.set j l') = true
    rw [← avoidsL_flatten, flatten_set hls hjl hl', ← hcs]
    simp only [avoidsL_append, Bool.and_eq_true]
    exact ⟨⟨avoidsL_take _ h10, ⟨avoidsL_take _ h11, h9⟩, avoidsL_drop _ h11⟩, avoidsL_drop _ h10⟩
  · simp only [BoxC.rep, h1]
    refine ⟨cur', tl, ⟨fz, g6, by unfold Fz at hfz ⊢; rw [hsz]; exact hfz⟩, fun z hz => ?_, _, hcur', ?_, AV.repCells_mono hE _ _ (fun _ _ => rfl) hnew⟩
    · rcases List.mem_or_eq_of_mem_set hz with hz | rfl
      · exact hls z hz
      · exact hl'
    · simp; omega
end

/-- A value that is a row of the call's own, as append asks it. -/
def OwnV (w : World) (t sz : Nat) (v : Value) (n : Nat) (xs : List Value) : Prop :=
  (v = .slice none 0 0 ∧ n = 0 ∧ xs = []) ∨ ∃ b cap cur, v = .slice (some ⟨b, 0, none⟩) n cap ∧ RowBlk w b cur t ∧ n ≤ cap ∧ cap ≤ maxLen ∧ cur.size = cap * sz ∧ cur.toList.take (n * sz) = xs ∧ xs.length = n * sz
theorem run_append_zero {P : Program} {w : World} {T ty t : TypeId} {i : TypeInfo} (ht : P.underlying T = some (.slice t)) (hi : P.info? t = some i) {B A : Option Addr} {n cap c : Nat} (h : n ≤ cap) : (Builtin.append_ #[T, T] ty #[.slice B n cap, .slice A 0 c]).run P w = .ok (.slice B n cap) w := by
  have hf : (Builtin.firstCells i.size 0 (.slice A 0 c)).run P w = .ok #[] w := by
    cases A with
    | none => rfl
    | some ad => simp [Builtin.firstCells, loadCells, loadCellsFrom]
  cases B with
  | none => simp [Builtin.append_, run_underlying ht, sizeOf, typeInfo, hi, Builtin.lenOf, h, hf]
  | some bd => simp [Builtin.append_, run_underlying ht, sizeOf, typeInfo, hi, Builtin.lenOf, h, hf, storeCells]
/-- append in place, into a row of which nothing is frozen. -/
theorem run_append_roomR {P : Program} {w : World} {t ty e : TypeId} {i : TypeInfo} (ht : P.underlying t = some (.slice e)) (hi : P.info? e = some i) (g sLen sCap : Nat) (cur : Array Value) (hg : RowBlk w g cur e) (a : Addr) (m c : Nat) (news : List Value) (hl : news.length = m * i.size) (hnews : ∀ j u, news[j]? = some u → w.cell? (a.add j) = some u) (h1 : ∀ u ∈ news, u.oneCell' = true) (hroom : sLen + m ≤ sCap) (hfit : sLen * i.size + news.length ≤ cur.size) :
    (Builtin.append_ #[t, t] ty #[.slice (some ⟨g, 0, none⟩) sLen sCap, .slice (some a) m c]).run P w = .ok (.slice (some ⟨g, 0, none⟩) (sLen + m) sCap) (w.setCells g (sLen * i.size) news) := by
  have hf := run_firstCells_some (P := P) w i.size m a m c news hl hnews
  have hst := run_storeCells_cells (P := P) g (sLen * i.size) news 0 w (fun j hj => by
    rw [hg.cell]
    have : sLen * i.size + (0 + j) < cur.toList.length := by rw [Array.length_toList]; omega
    simp at this ⊢
    omega) (fun j hj => hg.frozen (by omega)) h1
  simp only [Nat.add_zero] at hst
  simp [Builtin.append_, run_underlying ht, sizeOf, typeInfo, hi, Builtin.lenOf, hroom, hf, Addr.add_lit, hst]
theorem run_append_abs {dr : Bool} {P : Program} {w : World} {T ty t : TypeId} {i : TypeInfo} {z : Value} (ht : P.underlying T = some (.slice t)) (hi : P.info? t = some i) (hz : i.zero = some z) (hzs : z.cells.size = i.size) (hs0 : 0 < i.size)
    {v : Value} {n m c : Nat} {xs news : List Value} {A : Option Addr} (hv : OwnV w t i.size v n xs) (hl : news.length = m * i.size) (hA : 0 < m → ∃ ad, A = some ad ∧ ∀ j u, news[j]? = some u → w.cell? (ad.add j) = some u) (h1 : ∀ u ∈ news, u.oneCell' = true) (hb : (n + m) * i.bytes ≤ 140737488355328) (h63 : n + m ≤ maxLen) :
    ∃ v' w', (Builtin.append_ #[T, T] ty #[v, .slice A m c]).run P w = .ok v' w' ∧ OwnV w' t i.size v' (n + m) (xs ++ news) ∧
      ((v' = v ∧ w' = w ∧ m = 0) ∨ (∃ b cap cap', v = .slice (some ⟨b, 0, none⟩) n cap ∧ v' = .slice (some ⟨b, 0, none⟩) (n + m) cap' ∧ Turned b w w' ∧ w'.shape? b = w.shape? b) ∨ (∃ cap', v' = .slice (some ⟨w.heap.size, 0, none⟩) (n + m) cap' ∧ BelowD dr w.heap.size w w' ∧ w.heap.size < w'.heap.size)) := by
  rcases Nat.eq_zero_or_pos m with hm | hm
  · subst hm
    have hn : news = [] := List.eq_nil_of_length_eq_zero (by simpa using hl)
    subst hn
    refine ⟨v, w, ?_, by simpa using hv, .inl ⟨rfl, rfl, rfl⟩⟩
    rcases hv with ⟨rfl, rfl, rfl⟩ | ⟨b, cap, cur, rfl, _, h, _⟩
    · exact run_append_zero ht hi (Nat.le_refl _)
    · exact run_append_zero ht hi h
  · obtain ⟨ad, rfl, hnews⟩ := hA hm
    have h63' : ((n + m : Nat) : Int) ≤ 9223372036854775807 := by have h := h63; simp [maxLen] at h; omega
    have mk : ∀ (old : Nat), ∀ (os : List Value), os.length = n * i.size → OwnV (w.drew.alloc (.cells (os.toArray ++ news.toArray ++ Builtin.zeroCells z.cells (grownCap w (n + m) old t - (n + m))) t)) t i.size (.slice (some ⟨w.heap.size, 0, none⟩) (n + m) (grownCap w (n + m) old t)) (n + m) (os ++ news) ∧ BelowD dr w.heap.size w (w.drew.alloc (.cells (os.toArray ++ news.toArray ++ Builtin.zeroCells z.cells (grownCap w (n + m) old t - (n + m))) t)) ∧ w.heap.size < (w.drew.alloc (.cells (os.toArray ++ news.toArray ++ Builtin.zeroCells z.cells (grownCap w (n + m) old t - (n + m))) t)).heap.size := by
      intro old os hos
      have hge := grownCap_ge w (n + m) old t
      have hcm := grownCap_le_maxLen w (n + m) old t h63
      have hlen : (os ++ news).length = (n + m) * i.size := by rw [List.length_append, hos, hl, Nat.add_mul]
      refine ⟨.inr ⟨_, _, _, rfl, .of (heap_alloc_new w.drew _), hge, hcm, ?_, ?_, hlen⟩, (below_drew' w).alloc (Nat.le_refl _) _, by show w.heap.size < (w.drew.alloc _).heap.size; simp⟩
      · simp only [Array.size_append, List.size_toArray, size_zeroCells, hzs, hos, hl, ← Nat.add_mul]
        congr 1
        omega
      · simp only [Array.toList_append, List.append_assoc]
        rw [← List.append_assoc, ← hlen]
        exact List.take_left
    rcases hv with ⟨rfl, rfl, rfl⟩ | ⟨b, cap, cur, rfl, hg, hnc, hcm, hcs, htake, hxl⟩
    · have hr := run_append_nil (P := P) w T ty t i z ht hi hz ad m c news hl hnews hm (by simpa using h63') (by simp only [Nat.zero_add] at hb; omega)
      obtain ⟨h2, h3, h4⟩ := mk 0 [] (by simp)
      simp only [Nat.zero_add, List.nil_append, Array.empty_append] at h2 h3 h4 ⊢
      exact ⟨_, _, hr, h2, .inr (.inr ⟨_, rfl, h3, h4⟩)⟩
    · by_cases hroom : n + m ≤ cap
      · have hfit : n * i.size + news.length ≤ cur.size := by rw [hl, hcs, ← Nat.add_mul]; exact Nat.mul_le_mul_right _ hroom
        have hr := run_append_roomR (P := P) (w := w) (ty := ty) ht hi b n cap cur hg ad m c news hl hnews h1 hroom hfit
        obtain ⟨fz, hg0, hfz⟩ := hg
        obtain ⟨hT, cur', g6, g7⟩ := setCells_blk news (n * i.size) w cur hg0 hfit
        have hsz : cur'.size = cur.size := by
          rw [← Array.length_toList, g7]
          simp only [List.length_append, List.length_take, List.length_drop, Array.length_toList]
          omega
        have hlen : (xs ++ news).length = (n + m) * i.size := by rw [List.length_append, hxl, hl, Nat.add_mul]
        refine ⟨_, _, hr, .inr ⟨b, cap, cur', rfl, ⟨fz, g6, by unfold Fz at hfz ⊢; rw [hsz]; exact hfz⟩, hroom, hcm, by rw [hsz, hcs], ?_, hlen⟩, .inr (.inl ⟨b, cap, cap, rfl, rfl, hT, by rw [shape_of_blk g6, shape_of_blk hg0, hsz]⟩)⟩
        rw [g7]
        rw [htake, ← hlen]
        exact List.take_left
      · have holds : ∀ j u, xs[j]? = some u → w.cell? ((⟨b, 0, none⟩ : Addr).add j) = some u := fun j u hu => by
          rw [addr_add, Nat.zero_add, hg.cell]
          rw [← htake, List.getElem?_take] at hu
          split at hu
          · exact hu
          · cases hu
        have hr := run_append_grow (P := P) w T ty t i z ht hi hz ⟨b, 0, none⟩ n cap xs hxl holds ad m c news hl hnews (by omega) h63' (growslice_fits (by omega) hb)
        obtain ⟨h2, h3, h4⟩ := mk cap xs hxl
        exact ⟨_, _, hr, h2, .inr (.inr ⟨_, rfl, h3, h4⟩)⟩
section
variable {C : Ctx} {E : Env} {st : St} {o : Oper} {β : BMap} {a : Act} {w w' : World} {Q : AQ} {ops : Array Oper} {rest : List Oper}
/-- A box without what it says of box i. -/
def BoxC.strip (i : Nat) : BoxC → BoxC
  | .cells t cs => .cells t (cs.map fun x => if x.avoids i then x else .junk)
  | b => b
def St.noBox (st : St) (i : Nat) : St := { slots := st.slots.filter (fun p => p.2.avoids i), boxes := st.boxes.map (BoxC.strip i) }
theorem strip_live {i : Nat} {b : BoxC} : (b.strip i).live = b.live := by cases b <;> rfl
theorem repCells_strip {ok : Nat → Prop} {i : Nat} : ∀ {l : List AV} {cs : List Value}, AV.repCells β ok w l cs → AV.repCells β ok w (l.map fun x => if x.avoids i then x else .junk) cs
  | [], _, h => h
  | x :: l, cs, h => by
    obtain ⟨v, rest, rfl, h1, h2, h3⟩ := h
    refine ⟨v, rest, rfl, h1, ?_, repCells_strip h3⟩
    show AV.rep β ok w (if x.avoids i then x else .junk) v
    split
    · exact h2
    · simp [AV.rep]
theorem strip_rep {ok : Nat → Prop} {i k : Nat} {b : BoxC} (h : b.rep β ok w k) : (b.strip i).rep β ok w k := by
  cases b with
  | cells t cs =>
    obtain ⟨g, cur, h1, h2, h3⟩ := h
    exact ⟨g, cur, h1, h2, repCells_strip h3⟩
  | _ => exact h
theorem strip_avoids {i j : Nat} {b : BoxC} (h : b.avoids j = true) : (b.strip i).avoids j = true := by
  cases b with
  | cells t cs =>
    refine avoidsL_mem fun x hx => ?_
    obtain ⟨y, hy, rfl⟩ := List.mem_map.1 hx
    split
    · exact mem_avoids h hy
    · simp [AV.avoids]
  | _ => exact h
theorem strip_avoid {i : Nat} {b : BoxC} (h : (match b with | .cells _ _ => true | b => b.avoids i) = true) : (b.strip i).avoids i = true := by
  cases b with
  | cells t cs =>
    refine avoidsL_mem fun x hx => ?_
    obtain ⟨y, hy, rfl⟩ := List.mem_map.1 hx
    split
    · assumption
    · simp [AV.avoids]
  | _ => exact h
theorem Holds.strip (H : Holds C E β st a w) (i : Nat) : Holds C E β (st.noBox i) a w := by
  have hlv : ∀ k, (st.noBox i).liveB k ↔ st.liveB k := by
    intro k
    unfold St.liveB St.noBox
    simp only [List.getElem?_map]
    constructor
    · rintro ⟨b, h1, h2⟩
      obtain ⟨b', h3, rfl⟩ := Option.map_eq_some_iff.1 h1
      exact ⟨b', h3, by rwa [strip_live] at h2⟩
    · rintro ⟨b, h1, h2⟩
      exact ⟨b.strip i, by rw [h1]; rfl, by rw [strip_live]; exact h2⟩
  have hok : okB E β (st.noBox i) = okB E β st := by
    funext b
    unfold okB
    simp only [hlv]
  have hlen : (st.noBox i).boxes.length = st.boxes.length := by simp [St.noBox]
  have hb : ∀ (k : Nat) (b : BoxC), (st.noBox i).boxes[k]? = some b → ∃ b', st.boxes[k]? = some b' ∧ b = b'.strip i := by
    intro k b h
    unfold St.noBox at h
    simp only [List.getElem?_map] at h
    obtain ⟨b', h3, rfl⟩ := Option.map_eq_some_iff.1 h
    exact ⟨b', h3, rfl⟩
  refine ⟨H.env, H.size, H.defers, H.kept, fun t x hx => by rw [hok]; exact H.slots t x (List.mem_filter.1 hx).1, fun t x hx k hk => H.lim t x (List.mem_filter.1 hx).1 k (by rw [hlen] at hk; exact hk), fun k b hk => ?_, fun k b hk j hj => ?_, fun k j b h1 h2 => H.inj k j b ((hlv k).1 h1) ((hlv j).1 h2), fun k b h1 => H.fresh k b ((hlv k).1 h1), H.ex, ⟨by rw [hlen]; exact H.pin.1, H.pin.2⟩⟩
  · obtain ⟨b', h3, rfl⟩ := hb k b hk
    rw [hok]
    exact strip_rep (H.boxes k b' h3)
  · obtain ⟨b', h3, rfl⟩ := hb k b hk
    exact strip_avoids (H.blim k b' h3 j (by rw [hlen] at hj; exact hj))
theorem noBox_get {i k : Nat} {b : BoxC} (h : (st.noBox i).boxes[k]? = some b) : ∃ b', st.boxes[k]? = some b' ∧ b = b'.strip i := by
  unfold St.noBox at h
  simp only [List.getElem?_map] at h
  obtain ⟨b', h3, rfl⟩ := Option.map_eq_some_iff.1 h
  exact ⟨b', h3, rfl⟩
/-- A box's block is another one from now on: what speaks of it is forgotten. -/
theorem Holds.rebox (H : Holds C E β st a w) (hbd : BelowD C.dr w.heap.size w w') {i : Nat} {bc bc' : BoxC} {g : Nat} (hi : st.boxes[i]? = some bc) (hl : bc.live = true) (hl' : bc'.live = true) (hpin : E.npin ≤ i ∨ E.pin i = none) (hav : ∀ (j : Nat) (b : BoxC), j ≠ i → st.boxes[j]? = some b → (match b with | .cells _ _ => true | b => b.avoids i) = true)
    (hg : w.heap.size ≤ g ∧ g < w'.heap.size) (hr : bc'.rep (upd β i (some g)) (fun b => okB E β st b ∧ some g ≠ some b) w' i) (hla : ∀ j, st.boxes.length ≤ j → bc'.avoids j = true) :
    Holds C E (upd β i (some g)) ((st.noBox i).setBox i bc') a w' := by
  have H0 : Holds C E β (st.noBox i) a w := H.strip i
  have hn := (List.getElem?_eq_some_iff.1 hi).1
  have hn' : i < (st.noBox i).boxes.length := by simpa [St.noBox] using hn
  have hlen0 : (st.noBox i).boxes.length = st.boxes.length := by simp [St.noBox]
  have hlvs : ∀ k, (st.noBox i).liveB k → st.liveB k := by
    rintro k ⟨b, h1, h2⟩
    obtain ⟨b', h3, rfl⟩ := noBox_get h1
    exact ⟨b', h3, by rwa [strip_live] at h2⟩
  -- the box is struck first, and the pins are told anew
  have H1 : Holds C { E with npin := 0 } β ((st.noBox i).setBox i .none) a w := by
    have hlv : ∀ k, ((st.noBox i).setBox i .none).liveB k → st.liveB k := by
      rintro k ⟨b, h1, h2⟩
      rcases setBox_get (st := st.noBox i) hn' h1 with ⟨_, rfl⟩ | ⟨_, h3⟩
      · cases h2
      · exact hlvs k ⟨b, h3, h2⟩
    have hlen : ((st.noBox i).setBox i .none).boxes.length = st.boxes.length := by simp [St.setBox, St.noBox]
    have hE : Ext β (okB E β (st.noBox i)) (okB E β ((st.noBox i).setBox i .none)) w w := ⟨Nat.le_refl _, fun b h _ => ⟨h.1, h.2.1, fun k hk => h.2.2 k (by
      obtain ⟨b', h1, h2⟩ := hk
      rcases setBox_get (st := st.noBox i) hn' h1 with ⟨_, rfl⟩ | ⟨_, h3⟩
      · cases h2
      · exact ⟨b', h3, h2⟩)⟩, fun _ _ _ => rfl, fun _ _ _ _ h => h⟩
    refine ⟨⟨H.env.dr, H.env.gd, H.env.G, H.env.arg, H.env.ok⟩, H.size, H.defers, ⟨H.kept.os, H.kept.tape, H.kept.output, H.kept.size, H.kept.block, H.kept.shape, H.kept.drawn⟩, fun t x hx => AV.rep_mono hE _ _ (fun _ _ => rfl) (H0.slots t x hx), fun t x hx k hk => H0.lim t x hx k (by rw [hlen] at hk; rw [hlen0]; exact hk), fun k b hk => ?_, fun k b hk q hq => ?_, fun k q b h1 h2 => H.inj k q b (hlv k h1) (hlv q h2), fun k b h1 => H.fresh k b (hlv k h1), H.ex, ⟨Nat.zero_le _, fun i b hi _ => absurd hi (Nat.not_lt_zero i)⟩⟩
    · rcases setBox_get (st := st.noBox i) hn' hk with ⟨_, rfl⟩ | ⟨_, h3⟩
      · trivial
      · exact BoxC.rep_mono hE b (fun _ _ => rfl) (fun _ => rfl) (fun _ _ _ => rfl) (H0.boxes k b h3)
    · rcases setBox_get (st := st.noBox i) hn' hk with ⟨_, rfl⟩ | ⟨_, h3⟩
      · rfl
      · exact H0.blim k b h3 q (by rw [hlen] at hq; rw [hlen0]; exact hq)
  have hni : ((st.noBox i).setBox i .none).boxes[i]? = some .none := by
    show ((st.noBox i).boxes.set i .none)[i]? = _
    rw [List.getElem?_set_self hn']
  have H2 := H1.setBox hbd (bc := bc') (g := some g) hni (fun t x hx => by
    have : (t, x) ∈ st.slots.filter (fun p => p.2.avoids i) := hx
    exact (List.mem_filter.1 this).2) (fun k b hk => by
    rcases setBox_get (st := st.noBox i) hn' hk with ⟨_, rfl⟩ | ⟨h2, h3⟩
    · rfl
    · obtain ⟨b', h4, rfl⟩ := noBox_get h3
      exact strip_avoid (hav k b' h2 h4)) (fun b hb => by injection hb with hb; subst hb; exact hg) ?_ (fun j hj => hla j (by simpa [St.setBox, St.noBox] using hj)) (Nat.zero_le _)
  · have e : ((st.noBox i).setBox i .none).setBox i bc' = (st.noBox i).setBox i bc' := by simp [St.setBox, St.noBox]
    rw [e] at H2
    exact ⟨⟨H.env.dr, H.env.gd, H.env.G, H.env.arg, H.env.ok⟩, H2.size, H2.defers, ⟨H2.kept.os, H2.kept.tape, H2.kept.output, H2.kept.size, H2.kept.block, H2.kept.shape, H2.kept.drawn⟩, H2.slots, H2.lim, H2.boxes, H2.blim, H2.inj, H2.fresh, H2.ex, ⟨by have := H.pin.1; simp [St.setBox, St.noBox]; omega, fun k b hk hp => by
      by_cases e : k = i
      · subst e
        rcases hpin with h | h
        · omega
        · rw [h] at hp; cases hp
      · rw [upd_ne _ _ e]; exact H.pin.2 k b hk hp⟩⟩
  · refine BoxC.rep_mono ⟨Nat.le_refl _, fun b h _ => ⟨⟨h.1.1, h.1.2.1, fun k hk => h.1.2.2 k ?_⟩, h.2⟩, fun _ _ _ => rfl, fun _ _ _ _ h => h⟩ bc' (fun _ _ => rfl) (fun _ => rfl) (fun _ _ _ => rfl) hr
    obtain ⟨b', h1, h2⟩ := hk
    rcases setBox_get (st := st.noBox i) hn' h1 with ⟨_, rfl⟩ | ⟨_, h3⟩
    · cases h2
    · exact hlvs k ⟨b', h3, h2⟩
theorem repAt_cells {ok : Nat → Prop} {w : World} {b : Nat} : ∀ {l : List AV} {off : Nat}, AV.repAt nob ok w b off l → ∃ cs, AV.repCells nob ok w l cs ∧ ∀ j u, cs[j]? = some u → w.cell? ⟨b, off + j, none⟩ = some u := fun h => repAt_range h
theorem repRows_cells {ok : Nat → Prop} {w : World} {b sz : Nat} : ∀ {els : List (List AV)} {off : Nat}, AV.repRows nob ok w sz b off els → ∃ cs, AV.repCells nob ok w els.flatten cs ∧ cs.length = els.length * sz ∧ (∀ l ∈ els, l.length = sz) ∧ ∀ j u, cs[j]? = some u → w.cell? ⟨b, off + j, none⟩ = some u
  | [], off, _ => ⟨[], rfl, by simp, by simp, fun j u h => by simp at h⟩
  | l :: ls, off, h => by
    obtain ⟨cs, h1, h2⟩ := repAt_range h.2.1
    obtain ⟨ds, h3, h4, h5, h6⟩ := repRows_cells h.2.2
    have hcl := repCells_len h1
    have hlen : cs.length = sz := by rw [hcl, h.1]
    refine ⟨cs ++ ds, by rw [List.flatten_cons]; exact repCells_append h1 h3, by simp [hlen, h4, Nat.add_mul]; omega, fun m hm => ?_, fun j u hu => ?_⟩
    · rcases List.mem_cons.1 hm with rfl | hm
      · exact h.1
      · exact h5 m hm
    · rw [List.getElem?_append] at hu
      split at hu
      · exact h2 j u hu
      · have := h6 _ u hu
        rw [show off + j = off + sz + (j - cs.length) by omega]
        exact this
/-- What a slice that is only read has, as append takes it. -/
theorem row_news {ok : Nat → Prop} {w : World} {sz : Nat} {els : List (List AV)} {u : Value} (h : AV.rep β ok w (.row sz els) u) : ∃ A c news, u = .slice A els.length c ∧ news.length = els.length * sz ∧ AV.repCells nob ok w els.flatten news ∧ (∀ l ∈ els, 0 < els.length → l.length = sz) ∧ (0 < els.length → ∃ ad, A = some ad ∧ ∀ j u, news[j]? = some u → w.cell? (ad.add j) = some u) := by
  obtain ⟨A, c, h1, h2, h3⟩ := h
  rcases Nat.eq_zero_or_pos els.length with h0 | h0
  · have : els = [] := List.eq_nil_of_length_eq_zero h0
    subst this
    exact ⟨A, c, [], h1, by simp, rfl, by simp, fun h => by simp at h⟩
  · obtain ⟨b, off, rfl, h4, h5, h6⟩ := h3 h0
    obtain ⟨cs, g1, g2, g3, g4⟩ := repRows_cells h6
    exact ⟨_, c, cs, h1, g2, g1, fun l hl _ => g3 l hl, fun _ => ⟨_, rfl, fun j u hu => by rw [addr_add]; exact g4 j u hu⟩⟩
/-- What append asks of an element's type. -/
def elemInfo (P : Program) (T : TypeId) : Option (Nat × Nat × Nat) :=
  match P.underlying T with
  | some (.slice t) => match P.info? t with
    | some i => match i.zero with
      | some z => if z.cells.size = i.size ∧ 0 < i.size then some (t, i.size, i.bytes) else none
      | none => none
    | none => none
  | _ => none
theorem elemInfo_some {P : Program} {T t sz by_ : Nat} (h : elemInfo P T = some (t, sz, by_)) : ∃ i z, P.underlying T = some (.slice t) ∧ P.info? t = some i ∧ i.zero = some z ∧ z.cells.size = i.size ∧ 0 < i.size ∧ i.size = sz ∧ i.bytes = by_ := by
  unfold elemInfo at h
  split at h
  · rename_i t' ht
    split at h
    · rename_i i hi
      split at h
      · rename_i z hz
        split at h
        · rename_i hc
          simp only [Option.some.injEq, Prod.mk.injEq] at h
          obtain ⟨rfl, h2, h3⟩ := h
          exact ⟨i, z, ht, hi, hz, hc.1, hc.2, h2, h3⟩
        · cases h
      · cases h
    · cases h
  · cases h
theorem flatten_len {sz : Nat} {els : List (List AV)} (h : ∀ l ∈ els, l.length = sz) : els.flatten.length = els.length * sz := by
  induction els with
  | nil => simp
  | cons l ls ih =>
    have := ih fun m hm => h m (List.mem_cons_of_mem _ hm)
    rw [List.flatten_cons, List.length_append, this, h l (List.mem_cons_self ..), List.length_cons, Nat.succ_mul]
    omega
/-- append to a row of the call's own, of what is only read. -/
theorem AL_append {T t sz by_ : Nat} {x y : Operand} {i n d : Nat} {els els2 : List (List AV)} (hw : Wanted ops o st) (ho : o.op = .call { callee := .builtin .append, args := #[x, y], argTypes := #[T, T] }) (hd : o.dst = some d) (hlt : d < E.nt)
    (hx : st.look x = .own i sz 0 n) (hy : st.look y = .row sz els2) (hb : st.boxes[i]? = some (.row t sz els)) (hn : els.length = n) (hin : elemInfo C.P T = some (t, sz, by_)) (hbd : (n + els2.length) * by_ ≤ 140737488355328) (h63 : n + els2.length ≤ maxLen)
    (hpin : E.npin ≤ i ∨ E.pin i = none) (hav : ∀ (j : Nat) (b : BoxC), j ≠ i → st.boxes[j]? = some b → (match b with | .cells _ _ => true | b => b.avoids i) = true) (hcl : ∀ j, avoidsLL j els2 = true) (hself : avoidsLL i els = true)
    (h : AL C E ops rest Q (((st.noBox i).setBox i (.row t sz (els ++ els2))).put d (.own i sz 0 (n + els2.length)))) : AL C E ops (o :: rest) Q st := by
  intro β a w H
  refine wpList_step fun K hK => ?_
  rw [wanted_of H hw]
  simp only [if_true]
  have hxr := H.look x
  have hyr := H.look y
  rw [hx] at hxr
  rw [hy] at hyr
  have hxl := H.looklim x
  rw [hx] at hxl
  obtain ⟨A, c, news, e1, hnl, hnr, hels2, hA⟩ := row_news hyr
  obtain ⟨ti, z, i1, i2, i3, i4, i5, rfl, rfl⟩ := elemInfo_some hin
  have hbx := H.boxes i _ hb
  have hbl := H.blim i _ hb
  have hil : i < st.boxes.length := (List.getElem?_eq_some_iff.1 hb).1
  have hels2' : ∀ l ∈ els2, l.length = ti.size := fun l hl => hels2 l hl (List.length_pos_of_mem hl)
  rw [AV.rep] at hxr
  simp only [BoxC.rep] at hbx
  -- the row, as append asks it
  have hown : ∃ xs, OwnV w t ti.size (a.eval x) n xs ∧ AV.repCells β (okB E β st) w els.flatten xs ∧ (∀ l ∈ els, l.length = ti.size) ∧ (β i = none → a.eval x = .slice none 0 0) ∧ (∀ b, β i = some b → (∃ cap, a.eval x = .slice (some ⟨b, 0, none⟩) n cap) ∧ ∃ cur tl, RowBlk w b cur t ∧ cur.toList = xs ++ tl) := by
    cases hβ : β i with
    | none =>
      rw [hβ] at hxr hbx
      simp only at hbx
      subst hbx
      obtain ⟨h1, _, h3⟩ := hxr
      exact ⟨[], .inl ⟨h1, h3, rfl⟩, rfl, by simp, fun _ => h1, fun b hb => by cases hb⟩
    | some b =>
      rw [hβ] at hxr hbx
      obtain ⟨cap, e, h1, h2, h3, h4⟩ := hxr
      obtain ⟨cur, tl, h5, h6, cs, h7, h8, h9⟩ := hbx
      rw [h5.shape] at h4
      have hcs : cur.size = cap * ti.size := by injection h4 with h4; injection h4 with _ h4; simpa using h4
      simp only [Nat.zero_mul] at h1
      refine ⟨cs, .inr ⟨b, cap, cur, h1, h5, h2, h3, hcs, ?_, by rw [h8, hn]⟩, h9, h6, (fun h => by cases h), fun b' hb' => ?_⟩
      · rw [h7, ← hn, ← h8, List.take_left]
      · injection hb' with hb'; subst hb'; exact ⟨⟨cap, h1⟩, cur, tl, h5, h7⟩
  obtain ⟨xs, hv, hxs, hels, hnone, hsome⟩ := hown
  obtain ⟨v', w', hrun, hv', hcase⟩ := run_append_abs (dr := C.dr) (P := C.P) (T := T) (ty := o.type) (c := c) i1 i2 i3 i4 i5 hv hnl hA (repCells_one hnr) hbd h63
  have hexec : (execOp a.eval o).run C.P w = .ok (.value v') w' := by
    simp only [execOp, ho, resolve, Sem.run_bind, Sem.run_pure, Result.andThen_ok, invoke, builtin, List.map_toArray, List.map_cons, List.map_nil, e1, hrun]
  refine wp_val hexec ?_
  rw [hd]
  have hall : ∀ l ∈ els ++ els2, l.length = ti.size := fun l hl => by
    rcases List.mem_append.1 hl with hl | hl
    · exact hels l hl
    · exact hels2' l hl
  have hlim : ∀ j, st.boxes.length ≤ j → (BoxC.row t ti.size (els ++ els2)).avoids j = true := fun j hj => by
    have h1 : avoidsLL j els = true := hbl j hj
    have h2 := hcl j
    show avoidsLL j (els ++ els2) = true
    rw [← avoidsL_flatten] at h1 h2 ⊢
    rw [List.flatten_append, avoidsL_append, h1, h2]
    rfl
  have hplim : ∀ k, ((st.noBox i).setBox i (BoxC.row t ti.size (els ++ els2))).boxes.length ≤ k → (AV.own i ti.size 0 (n + els2.length)).avoids k = true := fun k hk => by
    simp [St.setBox, St.noBox] at hk
    simp [AV.avoids]; omega
  have hlenall : (els ++ els2).length * ti.size = (xs ++ news).length := by
    have := repCells_len hxs
    rw [flatten_len hels] at this
    rw [List.length_append, List.length_append, Nat.add_mul, this, hnl]
  rcases hcase with ⟨rfl, rfl, hm⟩ | ⟨b, cap, cap', hvb, rfl, hT, hsh⟩ | ⟨cap', rfl, hbw, hsz⟩
  · -- nothing comes
    have h2 : els2 = [] := List.eq_nil_of_length_eq_zero hm
    subst h2
    refine hK _ _ (h β _ _ ?_)
    have H1 : Holds C E β (st.noBox i) a w' := H.strip i
    have e : (st.noBox i).setBox i (BoxC.row t ti.size (els ++ [])) = st.noBox i := by
      rw [List.append_nil]
      unfold St.setBox St.noBox
      congr 1
      obtain ⟨h3, h4⟩ := List.getElem?_eq_some_iff.1 hb
      apply List.ext_getElem?
      intro k
      rw [List.getElem?_set]
      split
      · rename_i e
        subst e
        simp [h3, h4, BoxC.strip]
      · rfl
    rw [e]
    refine H1.put hlt ?_ (fun k hk => by rw [e] at hplim; exact hplim k hk)
    simpa [AV.rep] using hxr
  · -- in place
    have hβ : β i = some b := by
      cases hβ : β i with
      | none => have := hnone hβ; rw [hvb] at this; cases this
      | some b' => obtain ⟨⟨c', h1⟩, _⟩ := hsome b' hβ; rw [hvb] at h1; injection h1 with h1 _ _; injection h1 with h1; injection h1 with h1 _ _; rw [h1]
    obtain ⟨_, cur, tl, h5, h7⟩ := hsome b hβ
    rcases hv' with ⟨h1, _⟩ | ⟨b2, cap2, cur2, h1, h2, h3, h4, h6, h8, h9⟩
    · cases h1
    · injection h1 with h1 _ hc2
      injection h1 with h1
      injection h1 with h1 _ _
      subst h1; subst hc2
      refine hK _ _ (h β _ _ ?_)
      have hE : Ext β (okB E β st) (okB E β st) w w' := ⟨by rw [hT.size]; exact Nat.le_refl _, fun _ h _ => h, fun k hk _ => hT.far k (fun e => by subst e; exact hk.2.2 i ⟨_, hb, rfl⟩ hβ), fun j k s hj hk => by
        by_cases e : k = b
        · subst e; rw [hsh]; exact hk
        · rw [shape_same (hT.far k e)]; exact hk⟩
      have hnew : AV.repCells β (okB E β st) w (els ++ els2).flatten (xs ++ news) := by
        rw [List.flatten_append]
        exact repCells_append hxs (repCells_closed (fun k => by rw [avoidsL_flatten]; exact hcl k) hnr)
      have H1 : Holds C E β (st.setBox i (.row t ti.size (els ++ els2))) a w' := H.turn hb rfl hβ hT hsh rfl hlim (by
        simp only [BoxC.rep, hβ]
        refine ⟨cur2, cur2.toList.drop ((n + els2.length) * ti.size), h2, hall, xs ++ news, ?_, hlenall.symm, AV.repCells_mono hE _ _ (fun _ _ => rfl) hnew⟩
        have := List.take_append_drop ((n + els2.length) * ti.size) cur2.toList
        rw [h8] at this
        exact this.symm)
      have H2 : Holds C E β ((st.noBox i).setBox i (.row t ti.size (els ++ els2))) a w' := by
        have := H1.strip i
        have e : (st.setBox i (.row t ti.size (els ++ els2))).noBox i = (st.noBox i).setBox i (.row t ti.size (els ++ els2)) := by
          unfold St.setBox St.noBox
          simp only [List.map_set]
          rfl
        rw [e] at this
        exact this
      refine H2.put hlt ?_ hplim
      rw [AV.rep, hβ]
      exact ⟨cap', t, by simp, h3, h4, by rw [h2.shape, h6]; simp⟩
  · -- elsewhere
    rcases hv' with ⟨h1, _⟩ | ⟨b2, cap2, cur2, h1, h2, h3, h4, h6, h8, h9⟩
    · cases h1
    · injection h1 with h1 _ hc2
      injection h1 with h1
      injection h1 with h1 _ _
      subst h1; subst hc2
      refine hK _ _ (h (upd β i (some w.heap.size)) _ _ ?_)
      have hnew : AV.repCells (upd β i (some w.heap.size)) (fun b => okB E β st b ∧ some w.heap.size ≠ some b) w' (els ++ els2).flatten (xs ++ news) := by
        rw [List.flatten_append]
        refine repCells_append (AV.repCells_mono (ext_new hbw.toBelow) _ _ (fun j hj => upd_ne _ _ (fun e => by subst e; rw [avoidsL_flatten, hself] at hj; cases hj)) hxs) ?_
        exact AV.repCells_mono (ext_new (β := β) hbw.toBelow) _ _ (fun j hj => by rw [avoidsL_flatten, hcl j] at hj; cases hj) (repCells_closed (β := β) (fun k => by rw [avoidsL_flatten]; exact hcl k) hnr)
      have H1 := H.rebox hbw hb rfl (bc' := .row t ti.size (els ++ els2)) rfl hpin hav ⟨Nat.le_refl _, hsz⟩ (by
        simp only [BoxC.rep, upd_eq]
        refine ⟨cur2, cur2.toList.drop ((n + els2.length) * ti.size), h2, hall, xs ++ news, ?_, hlenall.symm, hnew⟩
        have := List.take_append_drop ((n + els2.length) * ti.size) cur2.toList
        rw [h8] at this
        exact this.symm) hlim
      refine H1.put hlt ?_ hplim
      rw [AV.rep, upd_eq]
      exact ⟨cap', t, by simp, h3, h4, by rw [h2.shape, h6]; simp⟩
end

end Go.Proofs.YtnfbomhhgjlacaaDoor.Abs
