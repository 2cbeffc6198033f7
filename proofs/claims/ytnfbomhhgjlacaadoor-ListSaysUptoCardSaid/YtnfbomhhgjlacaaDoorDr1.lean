/- Walks by computing: what an operation asks for, and what goes on behind it, as one proposition. -/
import Derived.Test.YtnfbomhhgjlacaaDoorDr0
import Derived.Laws.Small
import Derived.Laws.StructEq
namespace Go.Proofs.YtnfbomhhgjlacaaDoor.Abs
open Go.RowKit Go.MapKept
set_option linter.unusedVariables false
set_option linter.unusedSimpArgs false
def look1 {α : Type} (t : Nat) : List (Nat × α) → Option α
  | [] => none
  | p :: l => match Nat.beq p.1 t with
    | true => some p.2
    | false => look1 t l
theorem look1_mem {α : Type} {t : Nat} {x : α} : ∀ {l : List (Nat × α)}, look1 t l = some x → (t, x) ∈ l
  | p :: l, h => by
    unfold look1 at h
    split at h
    · rename_i hb
      injection h with h
      have := Nat.eq_of_beq_eq_true hb
      subst h; subst this
      exact List.mem_cons_self ..
    · exact List.mem_cons_of_mem _ (look1_mem h)
def nthA {α : Type} : List α → Nat → Option α
  | [], _ => none
  | x :: _, 0 => some x
  | _ :: l, n + 1 => nthA l n
theorem nthA_eq {α : Type} : ∀ (l : List α) (n : Nat), nthA l n = l[n]?
  | [], n => by simp [nthA]
  | x :: l, 0 => rfl
  | x :: l, n + 1 => by rw [nthA, nthA_eq l n]; simp
def sameK (a b : IntKind) : Bool := match a, b with
  | .i64, .i64 => true
  | .u8, .u8 => true
  | .i32, .i32 => true
  | .u64, .u64 => true
  | _, _ => false
theorem sameK_eq {a b : IntKind} (h : sameK a b = true) : a = b := by cases a <;> cases b <;> first | rfl | cases h
/-- A struct of whole numbers and strings, one cell each. -/
inductive SK where
  | int (k : IntKind)
  | str
def SKOk (P : Program) (i : Nat) : List Field → List SK → Prop
  | [], [] => True
  | f :: fs, .int k :: ks => (f.name == "_") = false ∧ f.offset = i ∧ P.underlying f.type = some (.int k) ∧ SKOk P (i + 1) fs ks
  | f :: fs, .str :: ks => (f.name == "_") = false ∧ f.offset = i ∧ P.underlying f.type = some .string ∧ SKOk P (i + 1) fs ks
  | _, _ => False
def StructOk (P : Program) (t : Nat) (ks : List SK) : Prop := ∃ fs, P.underlying t = some (.struct fs) ∧ P.stoodInHeld t = false ∧ P.eqGuardType P.depth t = false ∧ SKOk P 0 fs.toList ks
/-- Cells of such a struct, and whether all are the same. -/
def eqCells : List SK → List Value → List Value → Option Bool
  | [], [], [] => some true
  | .int _ :: ks, .int k a :: us, .int k' b :: vs => match sameK k k' with
    | true => (eqCells ks us vs).map fun r => decide (a = b) && r
    | false => none
  | .str :: ks, .string a :: us, .string b :: vs => (eqCells ks us vs).map fun r => decide (a = b) && r
  | _, _, _ => none
theorem part_one {P : Program} {t : TypeId} {cs : Array Value} {i : Nat} {v : Value} {w : World} (ht : (∃ k, P.underlying t = some (.int k)) ∨ P.underlying t = some .string) (h : cs[i]? = some v) : (part t cs i).run P w = .ok v w := by
  have hi : (isAgg t).run P w = .ok false w := by
    unfold isAgg
    rcases ht with ⟨k, ht⟩ | ht
    · simp [run_underlying (w := w) ht, Result.andThen]
    · simp [run_underlying (w := w) ht, Result.andThen]
  unfold part
  simp [hi, h, Result.andThen]
theorem eqf_run {P : Program} {d : Nat} {xs ys : Array Value} {w : World} : ∀ (fs : List Field) (ks : List SK) (us vs : List Value) (i : Nat) (r : Bool), SKOk P i fs ks → xs.toList.drop i = us → ys.toList.drop i = vs → eqCells ks us vs = some r → (Op.eqFields (d + 1) xs ys fs).run P w = .ok r w := by
  intro fs
  induction fs with
  | nil =>
    intro ks us vs i r hk hx hy he
    cases ks with
    | nil =>
      cases us <;> cases vs <;> first | (injection he with he; subst he; simp [Op.eqFields]) | cases he
    | cons => exact hk.elim
  | cons f fs ih =>
    intro ks us vs i r hk hx hy he
    have key : ∀ (u v : Value) (us' vs' : List Value) (ks' : List SK) (q r' : Bool), us = u :: us' → vs = v :: vs' → (f.name == "_") = false → f.offset = i → ((∃ k, P.underlying f.type = some (.int k)) ∨ P.underlying f.type = some .string) → (Op.equalIn (d + 1) f.type u v).run P w = .ok q w → SKOk P (i + 1) fs ks' → eqCells ks' us' vs' = some r' → (Op.eqFields (d + 1) xs ys (f :: fs)).run P w = .ok (q && r') w := by
      intro u v us' vs' ks' q r' hu hv hn ho ht hq hk' he'
      have hn' : f.name ≠ "_" := by simpa using hn
      have gx : xs[f.offset]? = some u := by
        rw [ho, ← Array.getElem?_toList]
        have := congrArg (fun l => l[0]?) (hx.trans hu)
        simpa using this
      have gy : ys[f.offset]? = some v := by
        rw [ho, ← Array.getElem?_toList]
        have := congrArg (fun l => l[0]?) (hy.trans hv)
        simpa using this
      have hr := ih ks' us' vs' (i + 1) r' hk' (by rw [← List.drop_drop, hx, hu]; rfl) (by rw [← List.drop_drop, hy, hv]; rfl) he'
      rw [Op.eqFields]
      simp only [if_pos hn', Sem.run_bind, part_one ht gx, part_one ht gy, hq, Result.andThen_ok]
      cases q
      · simp
      · simpa using hr
    cases ks with
    | nil => exact hk.elim
    | cons k ks =>
      cases k with
      | int k =>
        obtain ⟨h1, h2, h3, h4⟩ := hk
        cases us with
        | nil => cases he
        | cons u us =>
          cases vs with
          | nil => cases u <;> cases he
          | cons v vs =>
            cases u <;> cases v <;> first | cases he | skip
            rename_i k1 a k2 b
            rw [eqCells] at he
            split at he
            case h_2 => cases he
            rename_i hkk
            obtain rfl := sameK_eq hkk
            obtain ⟨r', he', rfl⟩ := Option.map_eq_some_iff.1 he
            exact key _ _ us vs ks (decide (a = b)) r' rfl rfl h1 h2 (.inl ⟨k, h3⟩) (run_equalIn_int w d f.type k1 k a b h3) h4 he'
      | str =>
        obtain ⟨h1, h2, h3, h4⟩ := hk
        cases us with
        | nil => cases he
        | cons u us =>
          cases vs with
          | nil => cases u <;> cases he
          | cons v vs =>
            cases u <;> cases v <;> first | cases he | skip
            rename_i a b
            simp only [eqCells, Option.map_eq_some_iff] at he
            obtain ⟨r', he', rfl⟩ := he
            exact key _ _ us vs ks (decide (a = b)) r' rfl rfl h1 h2 (.inr h3) (by rw [run_equalIn_string w d f.type a b h3, ← bytes_eq]) h4 he'
theorem bin_struct {P : Program} {t : TypeId} {ks : List SK} (h : StructOk P t ks) {us vs : List Value} {r : Bool} (he : eqCells ks us vs = some r) {x y : Operand} (w : World) : (do eqGuard .eql t x y (.agg us.toArray) (.agg vs.toArray); binOp .eql t (.agg us.toArray) (.agg vs.toArray) : Sem Value).run P w = .ok (.bool r) w := by
  obtain ⟨fs, h1, h2, h3, h4⟩ := h
  have hf : P.fieldsOf t = fs := by simp [Program.fieldsOf, h1]
  have hq : (Op.equalIn (9999 + 1) t (.agg us.toArray) (.agg vs.toArray)).run P w = .ok r w := by
    rw [run_equalIn_struct (P := P) w 9999 t _ _ (by rw [hf]; exact h1) h2, hf]
    exact eqf_run fs.toList ks us vs 0 r h4 (by simp) (by simp) he
  simp only [Sem.run_bind, run_eqGuard_agg w .eql t x y _ _ h3, Result.andThen_ok, run_eql_struct]
  rw [show (10000 : Nat) = 9999 + 1 from rfl, hq]
  rfl
theorem bin_structN {P : Program} {t : TypeId} {ks : List SK} (h : StructOk P t ks) {us vs : List Value} {r : Bool} (he : eqCells ks us vs = some r) {x y : Operand} (w : World) : (do eqGuard .neq t x y (.agg us.toArray) (.agg vs.toArray); binOp .neq t (.agg us.toArray) (.agg vs.toArray) : Sem Value).run P w = .ok (.bool (!r)) w := by
  obtain ⟨fs, h1, h2, h3, h4⟩ := h
  have hf : P.fieldsOf t = fs := by simp [Program.fieldsOf, h1]
  have hq : (Op.equalIn (9999 + 1) t (.agg us.toArray) (.agg vs.toArray)).run P w = .ok r w := by
    rw [run_equalIn_struct (P := P) w 9999 t _ _ (by rw [hf]; exact h1) h2, hf]
    exact eqf_run fs.toList ks us vs 0 r h4 (by simp) (by simp) he
  simp only [Sem.run_bind, run_eqGuard_agg w .neq t x y _ _ h3, Result.andThen_ok, run_neq_struct]
  rw [show (10000 : Nat) = 9999 + 1 from rfl, hq]
  rfl
/-- What is known of the program's types. -/
structure Tab where
  fld : List (Nat × List (Nat × Nat × Bool))
  lod : List (Nat × Nat × Bool)
  elm : List (Nat × Nat)
  app : List (Nat × Nat × Nat × Nat)
  str : List (Nat × List (Nat × Nat) × List Value)
  sls : List (Nat × Nat × Nat × List Value)
  int : List (Nat × IntKind)
  stg : List (Nat × Unit)
  bol : List (Nat × Unit)
  byt : List (Nat × Nat)
  slc : List (Nat × Nat)
  zer : List (Nat × Value)
  seq : List (Nat × List SK)
  mpi : List (Nat × TypeDesc × Value)
def AllP {α : Type} (p : α → Prop) : List α → Prop
  | [] => True
  | x :: l => p x ∧ AllP p l
theorem AllP_mem {α : Type} {p : α → Prop} : ∀ {l : List α}, AllP p l → ∀ x ∈ l, p x
  | y :: l, h, x, hx => by
    rcases List.mem_cons.1 hx with rfl | hx
    · exact h.1
    · exact AllP_mem h.2 x hx
structure TabOk (P : Program) (T : Tab) : Prop where
  fld : (T.fld.all fun p => (List.range p.2.length).all fun f => fieldInfo P p.1 f == p.2[f]?) = true
  lod : (T.lod.all fun p => loadInfo P p.1 == some p.2) = true
  elm : (T.elm.all fun p => elemSize P p.1 == some p.2) = true
  app : (T.app.all fun p => elemInfo P p.1 == some p.2) = true
  str : AllP (fun p => structInfo P p.1 = some p.2) T.str
  sls : AllP (fun p => sliceInfo P p.1 = some p.2) T.sls
  int : AllP (fun p => P.underlying p.1 = some (.int p.2)) T.int
  stg : AllP (fun p => P.underlying p.1 = some .string) T.stg
  bol : AllP (fun p => P.underlying p.1 = some .bool) T.bol
  byt : AllP (fun p => P.underlying p.1 = some (.slice p.2) ∧ P.underlying p.2 = some (.int .u8)) T.byt
  slc : AllP (fun p => P.underlying p.1 = some (.slice p.2)) T.slc
  zer : AllP (fun p => zeroOf P p.1 = some p.2 ∧ p.2.cells.all (·.oneCell') = true) T.zer
  seq : AllP (fun p => StructOk P p.1 p.2) T.seq
  mpi : AllP (fun p => mapInfo P p.1 = some p.2 ∧ p.2.2.cells.all (·.oneCell') = true) T.mpi
section
variable {P : Program} {T : Tab} (hT : TabOk P T)
include hT
theorem TabOk.fld_at {t f : Nat} {l : List (Nat × Nat × Bool)} {q : Nat × Nat × Bool} (h : look1 t T.fld = some l) (h2 : nthA l f = some q) : fieldInfo P t f = some q := by
  have h3 := List.all_eq_true.1 hT.fld _ (look1_mem h)
  rw [nthA_eq] at h2
  have h4 := List.all_eq_true.1 h3 f (List.mem_range.2 (List.getElem?_eq_some_iff.1 h2).1)
  rw [beq_iff_eq] at h4
  exact h4.trans h2
theorem TabOk.lod_at {t : Nat} {q : Nat × Bool} (h : look1 t T.lod = some q) : loadInfo P t = some q := by
  simpa using List.all_eq_true.1 hT.lod _ (look1_mem h)
theorem TabOk.elm_at {t q : Nat} (h : look1 t T.elm = some q) : elemSize P t = some q := by
  simpa using List.all_eq_true.1 hT.elm _ (look1_mem h)
theorem TabOk.app_at {t : Nat} {q : Nat × Nat × Nat} (h : look1 t T.app = some q) : elemInfo P t = some q := by
  simpa using List.all_eq_true.1 hT.app _ (look1_mem h)
end
/-- Both ways, as the test comes out. -/
def condB (c : Bool) (A B : Prop) : Prop := match c with
  | true => A
  | false => B
theorem condB_intro {c : Bool} {A B : Prop} (h : c = true → A) (h2 : c = false → B) : condB c A B := by
  cases c
  · exact h2 rfl
  · exact h rfl
theorem condB_true {c : Bool} {A B : Prop} (h : c = true) (h2 : A) : condB c A B := by subst h; exact h2
theorem condB_false {c : Bool} {A B : Prop} (h : c = false) (h2 : B) : condB c A B := by subst h; exact h2
theorem condB_dest {c : Bool} {A B R : Prop} (h : condB c A B) (h1 : c = true → A → R) (h2 : c = false → B → R) : R := by
  cases c
  · exact h2 rfl h
  · exact h1 rfl h
def lkS (t : Nat) : List (Nat × AV) → AV
  | [] => .junk
  | p :: l => match Nat.beq p.1 t with
    | true => p.2
    | false => lkS t l
def lk (st : St) : Operand → AV
  | .tmp t => lkS t st.slots
  | .const v => .v v
  | .global g => .v (.pointer (some ⟨g, 0, none⟩))
  | .func f => .fn (.func f) []
theorem lk_eq (st : St) (x : Operand) : lk st x = st.look x := by
  cases x with
  | tmp t =>
    show lkS t st.slots = (st.slots.lookup t).getD .junk
    induction st.slots with
    | nil => rfl
    | cons p l ih =>
      obtain ⟨k, y⟩ := p
      rw [lkS, List.lookup_cons]
      by_cases e : k = t
      · subst e
        simp
      · have e1 : Nat.beq k t = false := by
          cases hq : Nat.beq k t with
          | false => rfl
          | true => exact absurd (Nat.eq_of_beq_eq_true hq) e
        have e2 : (t == k) = false := by simpa using fun h => e h.symm
        simp only [e1, e2]
        exact ih
  | const v => rfl
  | global g => rfl
  | func f => rfl
theorem lk_look {st : St} {y : Operand} {x : AV} (h : lk st y = x) : st.look y = x := (lk_eq st y).symm.trans h
def optR {α : Type} (o : Option α) (K : α → Prop) : Prop := match o with
  | some x => K x
  | none => False
theorem optR_dest {α : Type} {o : Option α} {K : α → Prop} (h : optR o K) : ∃ x, o = some x ∧ K x := by
  cases o with
  | none => exact h.elim
  | some x => exact ⟨x, rfl, h⟩
def intR (k : IntKind) (r : Int) (K : AV → Prop) : Prop := match k with
  | .i64 => (-9223372036854775808 ≤ r ∧ r ≤ 9223372036854775807) ∧ K (.v (.int .i64 r))
  | k => K (.v (.int k (k.wrap r)))
theorem intR_dest {k : IntKind} {r : Int} {K : AV → Prop} (h : intR k r K) : K (.v (.int k (k.wrap r))) := by
  cases k <;> first | exact h | skip
  obtain ⟨⟨h1, h2⟩, h3⟩ := h
  rw [wrap_in h1 h2]
  exact h3
theorem bin_ari {P : Program} {bo : BinOp} {k : IntKind} {a b r : Int} {t : TypeId} {x y : Operand} (h : (match bo with | .add => some (a + b) | .sub => some (a - b) | .mul => some (a * b) | _ => none) = some r) : ∀ w, (do eqGuard bo t x y (.int k a) (.int k b); binOp bo t (.int k a) (.int k b) : Sem Value).run P w = .ok (.int k (k.wrap r)) w := fun w => by
  cases bo <;> first | (injection h with h; subst h; simp [eqGuard, binOp, Op.intArith]; done) | cases h
theorem bin_beq {P : Program} {a b : Bool} {t : TypeId} {x y : Operand} (ht : P.underlying t = some .bool) (w : World) : (do eqGuard .eql t x y (.bool a) (.bool b); binOp .eql t (.bool a) (.bool b) : Sem Value).run P w = .ok (.bool (a == b)) w := by
  show (binOp .eql t (.bool a) (.bool b)).run P w = _
  exact run_eql_bool w t a b ht
theorem bin_bne {P : Program} {a b : Bool} {t : TypeId} {x y : Operand} (ht : P.underlying t = some .bool) (w : World) : (do eqGuard .neq t x y (.bool a) (.bool b); binOp .neq t (.bool a) (.bool b) : Sem Value).run P w = .ok (.bool (!(a == b))) w := by
  show (binOp .neq t (.bool a) (.bool b)).run P w = _
  exact run_neq_bool w t a b ht
theorem bin_shr {P : Program} {k : IntKind} {a b : Int} {t : TypeId} {x y : Operand} (h : 0 ≤ b) : ∀ w, (do eqGuard .shr t x y (.int k a) (.int k b); binOp .shr t (.int k a) (.int k b) : Sem Value).run P w = .ok (.int k (a.fdiv (2 ^ (min b.toNat k.bits)))) w := fun w => by
  have h2 : ¬ b < 0 := by omega
  simp [eqGuard, binOp, Op.shift, h2]
theorem bin_shl {P : Program} {k : IntKind} {a b : Int} {t : TypeId} {x y : Operand} (h : 0 ≤ b) : ∀ w, (do eqGuard .shl t x y (.int k a) (.int k b); binOp .shl t (.int k a) (.int k b) : Sem Value).run P w = .ok (.int k (k.wrap (a * 2 ^ (min b.toNat k.bits)))) w := fun w => by
  have h2 : ¬ b < 0 := by omega
  simp [eqGuard, binOp, Op.shift, h2]
def bitsI (bo : BinOp) (k : IntKind) (a b : Int) : Int := match bo with
  | .and => k.wrap ((BitVec.ofInt k.bits a &&& BitVec.ofInt k.bits b).toNat : Int)
  | .or => k.wrap ((BitVec.ofInt k.bits a ||| BitVec.ofInt k.bits b).toNat : Int)
  | _ => k.wrap ((BitVec.ofInt k.bits a ^^^ BitVec.ofInt k.bits b).toNat : Int)
theorem bin_bits {P : Program} {bo : BinOp} {k : IntKind} {a b : Int} {t : TypeId} {x y : Operand} (h : bo = .and ∨ bo = .or ∨ bo = .xor) : ∀ w, (do eqGuard bo t x y (.int k a) (.int k b); binOp bo t (.int k a) (.int k b) : Sem Value).run P w = .ok (.int k (bitsI bo k a b)) w := fun w => by
  rcases h with rfl | rfl | rfl <;> simp [eqGuard, binOp, Op.intBits, bitsI]
def binI (bo : BinOp) (k : IntKind) (a b : Int) (K : AV → Prop) : Prop := match bo with
  | .shr => 0 ≤ b ∧ K (.v (.int k (a.fdiv (2 ^ (min b.toNat k.bits)))))
  | .shl => 0 ≤ b ∧ intR k (a * 2 ^ (min b.toNat k.bits)) K
  | .and => K (.v (.int k (bitsI .and k a b)))
  | .or => K (.v (.int k (bitsI .or k a b)))
  | .xor => K (.v (.int k (bitsI .xor k a b)))
  | .add => intR k (a + b) K
  | .sub => intR k (a - b) K
  | .mul => intR k (a * b) K
  | .quo => b ≠ 0 ∧ intR k (a.tdiv b) K
  | .rem => b ≠ 0 ∧ K (.v (.int k (a.tmod b)))
  | .lss => K (.v (.bool (decide (a < b))))
  | .leq => K (.v (.bool (decide (a ≤ b))))
  | .gtr => K (.v (.bool (decide (a > b))))
  | .geq => K (.v (.bool (decide (a ≥ b))))
  | .eql => K (.v (.bool (decide (a = b))))
  | .neq => K (.v (.bool (!decide (a = b))))
  | _ => False
def ltS (a b : ByteArray) : Bool := Op.bytesLess a.toList b.toList
theorem bin_slt {P : Program} {bo : BinOp} {a b : ByteArray} {t : TypeId} {x y : Operand} {r : Bool} (h : (match bo with | .lss => some (ltS a b) | .leq => some (ltS a b || decide (a = b)) | .gtr => some (!(ltS a b || decide (a = b))) | .geq => some (!ltS a b) | _ => none) = some r) : ∀ w, (do eqGuard bo t x y (.string a) (.string b); binOp bo t (.string a) (.string b) : Sem Value).run P w = .ok (.bool r) w :=
  bin_str fun w => by
    cases bo <;> first | (injection h with h; subst h; rw [← bytes_eq]; rfl) | (injection h with h; subst h; rfl) | cases h
def binS (bo : BinOp) (a b : ByteArray) (K : AV → Prop) : Prop := match bo with
  | .add => a.size + b.size ≤ 9223372036854775807 ∧ K (.v (.string (a ++ b)))
  | .eql => K (.v (.bool (decide (a = b))))
  | .neq => K (.v (.bool (!decide (a = b))))
  | .lss => K (.v (.bool (ltS a b)))
  | .leq => K (.v (.bool (ltS a b || decide (a = b))))
  | .gtr => K (.v (.bool (!(ltS a b || decide (a = b)))))
  | .geq => K (.v (.bool (!ltS a b)))
  | _ => False
def binB (bo : BinOp) (a b : Bool) (K : AV → Prop) : Prop := match bo with
  | .eql => K (.v (.bool (a == b)))
  | .neq => K (.v (.bool (!(a == b))))
  | _ => False
def binR (T : Tab) (t : TypeId) (bo : BinOp) (u u' : Value) (K : AV → Prop) : Prop := match u, u' with
  | .int k a, .int k' b => match sameK k k' with
    | true => binI bo k a b K
    | false => False
  | .string a, .string b => binS bo a b K
  | .bool a, .bool b => optR (look1 t T.bol) fun _ => binB bo a b K
  | _, _ => False
theorem binR_dest {P : Program} {T : Tab} (hT : TabOk P T) {bo : BinOp} {u u' : Value} {t : TypeId} {x y : Operand} {K : AV → Prop} (h : binR T t bo u u' K) : ∃ r, (∀ w, (do eqGuard bo t x y u u'; binOp bo t u u' : Sem Value).run P w = .ok r w) ∧ K (.v r) := by
  unfold binR at h
  split at h
  · rename_i k a k' b
    split at h
    · rename_i hk
      obtain rfl := sameK_eq hk
      unfold binI at h
      split at h
      · exact ⟨_, bin_shr h.1, h.2⟩
      · exact ⟨_, bin_shl h.1, intR_dest h.2⟩
      · exact ⟨_, bin_bits (.inl rfl), h⟩
      · exact ⟨_, bin_bits (.inr (.inl rfl)), h⟩
      · exact ⟨_, bin_bits (.inr (.inr rfl)), h⟩
      · exact ⟨_, bin_ari rfl, intR_dest h⟩
      · exact ⟨_, bin_ari rfl, intR_dest h⟩
      · exact ⟨_, bin_ari rfl, intR_dest h⟩
      · exact ⟨_, bin_quo h.1 rfl, intR_dest h.2⟩
      · exact ⟨_, bin_rem h.1 rfl, h.2⟩
      · exact ⟨_, bin_cmp rfl, h⟩
      · exact ⟨_, bin_cmp rfl, h⟩
      · exact ⟨_, bin_cmp rfl, h⟩
      · exact ⟨_, bin_cmp rfl, h⟩
      · exact ⟨_, bin_cmp rfl, h⟩
      · exact ⟨_, bin_cmp rfl, h⟩
      · exact h.elim
    · exact h.elim
  · rename_i a b
    unfold binS at h
    split at h
    · exact ⟨_, bin_sadd h.1 rfl, h.2⟩
    · exact ⟨_, bin_seq, h⟩
    · exact ⟨_, bin_sne, h⟩
    · exact ⟨_, bin_slt rfl, h⟩
    · exact ⟨_, bin_slt rfl, h⟩
    · exact ⟨_, bin_slt rfl, h⟩
    · exact ⟨_, bin_slt rfl, h⟩
    · exact h.elim
  · rename_i a b
    obtain ⟨_, ht, h⟩ := optR_dest h
    have ht := AllP_mem hT.bol _ (look1_mem ht)
    unfold binB at h
    split at h
    · exact ⟨_, fun w => bin_beq ht w, h⟩
    · exact ⟨_, fun w => bin_bne ht w, h⟩
    · exact h.elim
  · exact h.elim
def unR (uo : UnOp) (u : Value) (K : AV → Prop) : Prop := match uo, u with
  | .not, .bool b => K (.v (.bool (!b)))
  | .neg, .int .i64 a => (-9223372036854775808 ≤ 0 - a ∧ 0 - a ≤ 9223372036854775807) ∧ K (.v (.int .i64 (0 - a)))
  | _, _ => False
theorem unR_dest {P : Program} {uo : UnOp} {u : Value} {K : AV → Prop} (h : unR uo u K) : ∃ r, (∀ w, (Op.unary uo u).run P w = .ok r w) ∧ K (.v r) := by
  unfold unR at h
  split at h
  · exact ⟨_, fun w => rfl, h⟩
  · rename_i a
    obtain ⟨⟨h1, h2⟩, h3⟩ := h
    refine ⟨_, fun w => ?_, h3⟩
    show (Op.intArith .sub .i64 0 a).run P w = _
    show Result.ok (Value.int .i64 (IntKind.i64.wrap (0 - a))) w = _
    rw [wrap_in h1 h2]
  · exact h.elim
end Go.Proofs.YtnfbomhhgjlacaaDoor.Abs
