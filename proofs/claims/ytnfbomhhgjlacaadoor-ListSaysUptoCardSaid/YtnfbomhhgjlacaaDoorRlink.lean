/- The first of each group of links. -/
import Derived.Test.YtnfbomhhgjlacaaDoorRtree3
namespace Go.Proofs.YtnfbomhhgjlacaaDoor.Abs
open Go.RowKit Go.MapKept
set_option linter.unusedVariables false
set_option linter.unusedSimpArgs false
set_option maxRecDepth 100000
set_option maxHeartbeats 4000000
def kvI (p : Int × Int) : Value × AV := (.int .i64 p.1, .v (.int .i64 p.2))
def encI (n : Int) : List AV := [.v (.int .i64 n)]
theorem kvI_at {i : Int} : ∀ {m : List (Int × Int)}, kvFind (.int .i64 i) (m.map kvI) = (m.lookup i).map fun x => .v (.int .i64 x)
  | [] => rfl
  | (j, x) :: m => by
    have ih := kvI_at (i := i) (m := m)
    rw [List.map_cons, kvI, kvFind, List.lookup]
    simp only [keyEq, decide_true, Bool.true_and]
    cases hq : i == j with
    | true => rfl
    | false => simpa using ih
def meetR (same at_ : Int) (m : List (Int × Int)) : Int × List (Int × Int) := if same = 0 then (at_, m) else match m.lookup same with
  | some j => (j, m)
  | none => (at_, m ++ [(same, at_)])
theorem meet_zero {same at_ : Int} {m : List (Int × Int)} (h : same = 0) : meetR same at_ m = (at_, m) := if_pos h
theorem meet_some {same at_ j : Int} {m : List (Int × Int)} (h : ¬ same = 0) (h2 : m.lookup same = some j) : meetR same at_ m = (j, m) := by unfold meetR; rw [if_neg h, h2]
theorem meet_none {same at_ : Int} {m : List (Int × Int)} (h : ¬ same = 0) (h2 : m.lookup same = none) : meetR same at_ m = (at_, m ++ [(same, at_)]) := by unfold meetR; rw [if_neg h, h2]
theorem cKI (m : List (Int × Int)) : ClosedK (m.map kvI) := fun j => avoids_kv (fun _ => rfl) m
def firstsL : List NodeT → Nat → List (Int × Int) → List Int × List (Int × Int)
  | [], _, m => ([], m)
  | n :: r, k, m => ((meetR n.same k m).1 :: (firstsL r (k + 1) (meetR n.same k m).2).1, (firstsL r (k + 1) (meetR n.same k m).2).2)
def eqI : List Int → List Int → Bool
  | [], [] => true
  | a :: l, b :: m => decide (a = b) && eqI l m
  | _, _ => false
def smallM : MetaT := ⟨0, 0, 0, ⟨#[]⟩, ⟨#[]⟩, 0, 0⟩
def smallT : List NodeT := [⟨⟨#[97]⟩, 2, 0, ⟨#[]⟩, smallM, ⟨#[]⟩⟩, ⟨⟨#[97, 47, 98]⟩, 1, 0, ⟨#[]⟩, smallM, ⟨#[120]⟩⟩, ⟨⟨#[99]⟩, 3, 0, ⟨#[97, 47, 98]⟩, smallM, ⟨#[]⟩⟩]
def ImpL : List AV → List AV → Prop
  | [], [] => True
  | x :: l, y :: m => Imp x y ∧ ImpL l m
  | _, _ => False
def ImpLL : List (List AV) → List (List AV) → Prop
  | [], [] => True
  | x :: l, y :: m => ImpL x y ∧ ImpLL l m
  | _, _ => False
theorem ImpL.len : ∀ {l m : List AV}, ImpL l m → l.length = m.length
  | [], [], _ => rfl
  | _ :: l, _ :: m, h => by rw [List.length_cons, List.length_cons, ImpL.len h.2]
theorem ImpLL.len : ∀ {l m : List (List AV)}, ImpLL l m → l.length = m.length
  | [], [], _ => rfl
  | _ :: l, _ :: m, h => by rw [List.length_cons, List.length_cons, ImpLL.len h.2]
theorem repAt_imp {ok : Nat → Prop} {w : World} {b : Nat} : ∀ {l m : List AV} {off : Nat}, ImpL l m → AV.repAt nob ok w b off l → AV.repAt nob ok w b off m
  | [], [], _, _, _ => trivial
  | x :: l, y :: m, off, h, hr => by
    obtain ⟨⟨v, h1, h2, h3⟩, h4⟩ := hr
    exact ⟨⟨v, h1, h2, h.1 _ _ _ _ h3⟩, repAt_imp h.2 h4⟩
theorem repRows_imp {ok : Nat → Prop} {w : World} {b sz : Nat} : ∀ {l m : List (List AV)} {off : Nat}, ImpLL l m → AV.repRows nob ok w sz b off l → AV.repRows nob ok w sz b off m
  | [], [], _, _, _ => trivial
  | x :: l, y :: m, off, h, hr => ⟨(ImpL.len h.1).symm.trans hr.1, repAt_imp h.1 hr.2.1, repRows_imp h.2 hr.2.2⟩
theorem Imp.row {sz : Nat} {l m : List (List AV)} (h : ImpLL l m) : Imp (.row sz l) (.row sz m) := fun β ok w u hr => by
  obtain ⟨A, c, h1, h2, h3⟩ := hr
  have hl := ImpLL.len h
  refine ⟨A, c, by rw [← hl]; exact h1, by rw [← hl]; exact h2, fun hn => ?_⟩
  obtain ⟨b, off, h4, h5, h6, h7⟩ := h3 (by rw [hl]; exact hn)
  exact ⟨b, off, h4, h5, h6, repRows_imp h h7⟩
theorem ImpL.refl : ∀ l : List AV, ImpL l l
  | [] => trivial
  | x :: l => ⟨Imp.refl x, ImpL.refl l⟩
/-- A node's cells where its bytes are nil. -/
def encNil (x : NodeT) : List AV := [.v (.string x.path), .v (.int .i64 x.kind), .v (.int .i64 x.same), .v (.string x.target), .v (.int .i64 x.mt.mode), .v (.int .i64 x.mt.uid), .v (.int .i64 x.mt.gid), .v (.string x.mt.user), .v (.string x.mt.group), .v (.int .i64 x.mt.second), .v (.int .i64 x.mt.nano), .v (.slice none 0 0)]
theorem encNil_imp {x : NodeT} (h : bytesA x.data = []) : ImpL (encNil x) (encNode x) := by
  unfold encNil encNode
  rw [h]
  exact ⟨Imp.refl _, Imp.refl _, Imp.refl _, Imp.refl _, Imp.refl _, Imp.refl _, Imp.refl _, Imp.refl _, Imp.refl _, Imp.refl _, Imp.refl _, Imp.nil 1, trivial⟩
def smallA : NodeT := ⟨⟨#[97]⟩, 2, 0, ⟨#[]⟩, smallM, ⟨#[]⟩⟩
def smallB : NodeT := ⟨⟨#[97, 47, 98]⟩, 1, 0, ⟨#[]⟩, smallM, ⟨#[120]⟩⟩
def smallC : NodeT := ⟨⟨#[99]⟩, 3, 0, ⟨#[97, 47, 98]⟩, smallM, ⟨#[]⟩⟩
theorem small_ac : AC CX 28 [] (.row 12 (smallT.map encNode)) := by
  suffices h : AC CX 28 [] (.row 12 [encNil smallA, encNode smallB, encNil smallC]) from AC_imp h (Imp.row ⟨encNil_imp rfl, ImpL.refl _, encNil_imp rfl, trivial⟩)
  refine AC_walk ⟨TB, 7, 0, [], []⟩ (fn := Tryd.f28) TB_ok Tryd.func28 rfl rfl rfl rfl rfl (fun _ => rfl) (fun _ => rfl) ?_; intro E hna hX
  refine W_seq ?_
  refine W_region hX ?_
  show W _ _ _ _ _ _
  refine W_seq ?_
  refine ⟨AW_region ?_⟩
  refine AL_first hX ?_
  refine AL_lit2R hX [[.v (.int .u8 120)]] rfl rfl rfl rfl rfl rfl (by decide) rfl rfl rfl rfl rfl rfl rfl (by simp) rfl (fun _ => rfl) ?_
  refine AL_run hX ?_
  refine goT ?_
  rfl
end Go.Proofs.YtnfbomhhgjlacaaDoor.Abs
