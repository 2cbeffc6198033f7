/- The structs of the program, and their cells. -/
import Derived.Test.YtnfbomhhgjlacaaDoorTab
import Derived.Test.YtnfbomhhgjlacaaDoorDr6
import Derived.WalkKit
namespace Go.Proofs.YtnfbomhhgjlacaaDoor.Abs
open Go.RowKit Go.MapKept
set_option linter.unusedVariables false
structure MetaT where
  mode : Int
  uid : Int
  gid : Int
  user : ByteArray
  group : ByteArray
  second : Int
  nano : Int
deriving DecidableEq
structure NodeT where
  path : ByteArray
  kind : Int
  same : Int
  target : ByteArray
  mt : MetaT
  data : ByteArray
deriving DecidableEq
def encNode (x : NodeT) : List AV := [.v (.string x.path), .v (.int .i64 x.kind), .v (.int .i64 x.same), .v (.string x.target), .v (.int .i64 x.mt.mode), .v (.int .i64 x.mt.uid), .v (.int .i64 x.mt.gid), .v (.string x.mt.user), .v (.string x.mt.group), .v (.int .i64 x.mt.second), .v (.int .i64 x.mt.nano), .row 1 (bytesA x.data)]
/-- What is known of the library's variables. -/
def GX (w : World) : Prop := (∃ m : Int, w.cell? ⟨0, 0, none⟩ = some (.int .i64 m)) ∧ GTab w
theorem GX_stab (w w' : World) (h1 : gdN ≤ w.heap.size) (h : ∀ b, b < gdN → w'.heap[b]? = w.heap[b]?) (hG : GX w) : GX w' := by
  obtain ⟨⟨m, hm⟩, ht⟩ := hG
  exact ⟨⟨m, (cell_same (h 0 gdN_one)).trans hm⟩, GTab_stab w w' h ht⟩
noncomputable def CXw (dr : Bool) : Ctx := ⟨Tryd.prog, dr, gdN, GX, GX_stab⟩
noncomputable def CX : Ctx := CXw false
theorem ClosedE_map {α : Type} {f : α → List AV} (h : ∀ i x, AV.avoidsL i (f x) = true) (l : List α) : ClosedE (l.map f) := fun i => avoidsLL_map (h i) l
theorem get_mapN {α : Type} {f : α → List AV} {xs : List α} {k : Nat} {x : α} (h : xs[k]? = some x) : (xs.map f)[k]? = some (f x) := by simp [h]
theorem take_snoc {α : Type} {xs : List α} {k : Nat} {x : α} (h : xs[k]? = some x) : xs.take (k + 1) = xs.take k ++ [x] := by rw [List.take_add_one, h]; rfl
theorem ClosedE_app {a b : List (List AV)} (h : ClosedE a) (h2 : ClosedE b) : ClosedE (a ++ b) := fun i => avoidsLL_append (h i) (h2 i)
theorem below_d {C : Ctx} {B : Nat} {w w' : World} (hd : C.dr = false) (h : Below B w w') : BelowD C.dr B w w' := ⟨h, fun e => by rw [hd] at e; cases e⟩
theorem AC_of_calls {C : Ctx} {f : FuncId} {args : List AV} {x : AV} {u : Value} (hx : ∀ β ok w, x.rep β ok w u) (h : ∀ (w : World) (vs : List Value) (ok : Nat → Prop), C.gd ≤ w.heap.size → C.G w → AV.repVals nob ok w args vs → Calls C.P f vs.toArray w fun e w' => e = .returned u ∧ Below w.heap.size w w') (hd : C.dr = false := by rfl) : AC C f args x :=
  fun w vs ok hgd hG hr => (h w vs ok hgd hG hr).mono fun e w' ⟨he, hb⟩ => ⟨u, he, below_d hd hb, hx _ _ _⟩
theorem AC_calls {C : Ctx} {f : FuncId} {args : List AV} {x : AV} (h : AC C f args x) {w : World} {vs : List Value} (hgd : C.gd ≤ w.heap.size) (hG : C.G w) (hr : AV.repVals nob (fun _ => True) w args vs) {u : Value} (hx : ∀ ok w' v, x.rep nob ok w' v → v = u) : Calls C.P f vs.toArray w fun e w' => e = .returned u ∧ Below w.heap.size w w' :=
  (h w vs _ hgd hG hr).mono fun e w' ⟨v, he, hb, hv⟩ => ⟨by rw [he, hx _ _ _ hv], hb.toBelow⟩
theorem AC_imp {C : Ctx} {f : FuncId} {args : List AV} {x y : AV} (h : AC C f args x) (hi : Imp x y) : AC C f args y := fun w vs ok hgd hG hr =>
  (h w vs ok hgd hG hr).mono fun e w' ⟨v, he, hb, hv⟩ => ⟨v, he, hb, hi _ _ _ _ hv⟩
theorem Imp.refl (x : AV) : Imp x x := fun _ _ _ _ h => h
theorem Imp.nil (sz : Nat) : Imp (.v (.slice none 0 0)) (.row sz []) := fun β ok w u h => by
  obtain rfl : u = .slice none 0 0 := h
  exact ⟨none, 0, rfl, Nat.le_refl _, fun h => absurd h (Nat.lt_irrefl _)⟩
theorem Imp.tup2 {a b c d : AV} (h1 : Imp a c) (h2 : Imp b d) : Imp (.tup [a, b]) (.tup [c, d]) := fun β ok w u h => by
  obtain ⟨cs, rfl, v, _, rfl, h3, v2, _, rfl, h4, rfl⟩ := h
  exact ⟨_, rfl, v, _, rfl, h1 _ _ _ _ h3, v2, _, rfl, h2 _ _ _ _ h4, rfl⟩
/-- A row of one-cell values that was laid just now. -/
theorem repRows_vals {ok : Nat → Prop} {w : World} {b : Nat} : ∀ (vs : List Value) (off : Nat), (∀ v ∈ vs, v.oneCell' = true) → (∀ i v, vs[i]? = some v → w.cell? ⟨b, off + i, none⟩ = some v) → AV.repRows nob ok w 1 b off (vs.map fun v => [.v v])
  | [], _, _, _ => trivial
  | v :: vs, off, ho, h => ⟨rfl, ⟨⟨v, h 0 v rfl, ho v (List.mem_cons_self ..), rfl⟩, trivial⟩, repRows_vals vs (off + 1) (fun x hx => ho x (List.mem_cons_of_mem _ hx)) fun i u hu => by
      rw [show off + 1 + i = off + (i + 1) by omega]
      exact h (i + 1) u (by simpa using hu)⟩
theorem rep_alloc {w : World} {vs : List Value} {t : Nat} {ok : Nat → Prop} (ho : ∀ v ∈ vs, v.oneCell' = true) (hok : ok w.heap.size) : (AV.row 1 (vs.map fun v => [.v v])).rep nob ok (w.alloc (.cells vs.toArray t)) (.slice (some ⟨w.heap.size, 0, none⟩) vs.length vs.length) := by
  refine ⟨_, _, by rw [List.length_map], by rw [List.length_map]; exact Nat.le_refl _, fun _ => ⟨_, _, rfl, hok, ?_, ?_⟩⟩
  · exact (Array.getElem?_eq_some_iff.1 (heap_alloc_new w (.cells vs.toArray t))).1
  · refine repRows_vals vs 0 ho fun i v hv => ?_
    have hb := heap_alloc_new w (.cells vs.toArray t)
    unfold World.cell?
    rw [hb]
    simp [hv]
/-- What the driver leaves behind. -/
structure Hid (q : Prop) : Prop where
  out : q
/-- The driver: on to where something is to be given. -/
theorem goT {p q : Prop} (h2 : q) (h : Hid q → p := by
  intro hq
  repeat (first | ((with_reducible show W _ _ _ _ _ _); first | refine W_seq ?_ | refine W_block ?_ | refine W_region (by assumption) ?_ | refine W_cond ?_ | refine W_skip ?_ | refine W_exit ?_ | refine W_ret ?_) | ((fail_if_success (with_reducible show W _ _ _ _ _ _)); show W _ _ _ _ _ _) | refine andA ?_ | refine condT ?_ | refine condF ?_ | refine exB ?_ | refine exL ?_ | refine Exists.intro _ (And.intro rfl ?_) | refine Exists.intro _ (And.intro (get_mapN (by assumption)) ?_) | ((fail_if_success (with_reducible show LoopEnd _ _ _ _ _ _ _)); show LoopEnd _ _ _ _ _ _ _) | ((fail_if_success (with_reducible show JoinEnd _ _ _ _ _)); show JoinEnd _ _ _ _ _) | ((fail_if_success (with_reducible show JoinG _ _ _ _ _)); show JoinG _ _ _ _ _))
  exact hq.out) : p := h ⟨h2⟩
end Go.Proofs.YtnfbomhhgjlacaaDoor.Abs
