/- Texts in fields: field.*. -/
import Derived.Test.YtnfbomhhgjlacaaDoorRheadp
import Derived.Test.YtnfbomhhgjlacaaDoorRpad
namespace Go.Proofs.YtnfbomhhgjlacaaDoor.Abs
open Go.RowKit Go.MapKept
set_option linter.unusedVariables false
set_option linter.unusedSimpArgs false
set_option maxRecDepth 100000
set_option maxHeartbeats 4000000
theorem rep0 (n : Nat) : Lib.repeatL ([0] : List UInt8) n = List.replicate n 0 := by
  induction n with
  | zero => rfl
  | succ n ih =>
    rw [List.replicate_succ, ← ih]
    rfl
theorem zeros_ac (n : Nat) (h : n ≤ 1000000) : AC CX 41 [.v (.string ⟨#[0]⟩), .v (.int .i64 n)] (.v (.string (zB n))) := by
  have hr := repeat_ac ⟨#[0]⟩ (n : Int) (by omega) (by show 1 * _ ≤ _; omega) (by omega)
  rw [Int.toNat_natCast, show (⟨#[0]⟩ : ByteArray).data.toList = [0] from rfl, rep0] at hr
  exact hr
theorem fieldWrite_ac (s : ByteArray) (w : Nat) (b : Bool) (hw : w ≤ 512) (h1 : 1 ≤ w) (hs : s.size ≤ w) (hb : b = false → s.size < w) (h0 : (0 : UInt8) ∉ s.data.toList) : AC CX 39 [.v (.string s), .v (.int .i64 w), .v (.bool b)] (.tup [.v (.string (fldB s w)), .v (.int .i64 0)]) := by
  have hix := indexByte_ac s 0
  rw [idx_none _ _ h0] at hix
  have hz := zeros_ac (w - s.size) (by omega)
  rw [show ((w - s.size : Nat) : Int) = (w : Int) - (s.size : Int) by omega] at hz
  have hfs := fldB_size hs
  have hzs := zB_size (w - s.size)
  cases b
  · have hlt := hb rfl
    refine AC_walk ⟨TB, 34, 0, [], []⟩ (fn := Tryd.f39) TB_ok Tryd.func39 rfl rfl rfl rfl rfl (fun _ => rfl) (fun _ => rfl) ?_; intro E hna hX
    refine goT ?_
    refine ⟨_, hix, by kernel_rfl, fun _ => rfl, ?_⟩
    refine goT ?_
    refine ⟨_, hz, by kernel_rfl, fun _ => rfl, ?_⟩
    refine goT ?_
    rfl
  · refine AC_walk ⟨TB, 34, 0, [], []⟩ (fn := Tryd.f39) TB_ok Tryd.func39 rfl rfl rfl rfl rfl (fun _ => rfl) (fun _ => rfl) ?_; intro E hna hX
    refine goT ?_
    refine ⟨_, hix, by kernel_rfl, fun _ => rfl, ?_⟩
    refine goT ?_
    refine ⟨_, hz, by kernel_rfl, fun _ => rfl, ?_⟩
    refine goT ?_
    rfl
theorem ext_listF (s : ByteArray) (a b : Nat) : (s.extract a b).data.toList = (s.data.toList.take b).drop a := by
  rw [ByteArray.data_extract, Array.toList_extract, List.extract_eq_take_drop, List.drop_take]
theorem fieldRead_ac (s : ByteArray) (w : Nat) (b : Bool) (hw : w ≤ 512) (h1 : 1 ≤ w) (hs : s.size ≤ w) (hb : b = false → s.size < w) (h0 : (0 : UInt8) ∉ s.data.toList) : AC CX 93 [.v (.string (fldB s w)), .v (.bool b)] (.tup [.v (.string s), .v (.int .i64 0)]) := by
  have hfs := fldB_size hs
  have hix := indexByte_ac (fldB s w) 0
  have hfl := fldB_list s w
  by_cases e : s.size = w
  · have hf : fldB s w = s := by
      apply bytes_ext
      rw [hfl, e, Nat.sub_self, List.replicate_zero, List.append_nil]
    rw [hf] at hix hfs ⊢
    rw [idx_none _ _ h0] at hix
    have hbt : b = true := by cases b with
      | true => rfl
      | false => have := hb rfl; omega
    subst hbt
    have htr : AC CX 113 [.v (.string ⟨#[]⟩), .v (.string ⟨#[0]⟩)] (.v (.string ⟨#[]⟩)) := trim0_ac ⟨#[]⟩ (by simp) (by decide)
    refine AC_walk ⟨TB, 40, 0, [], []⟩ (fn := Tryd.f93) TB_ok Tryd.func93 rfl rfl rfl rfl rfl (fun _ => rfl) (fun _ => rfl) ?_; intro E hna hX
    refine goT ?_
    refine ⟨_, hix, by kernel_rfl, fun _ => rfl, ?_⟩
    refine goT ?_
    refine ⟨_, htr, by kernel_rfl, fun _ => rfl, ?_⟩
    refine goT ?_
    rfl
  · obtain ⟨q, hq⟩ : ∃ q, w - s.size = q + 1 := ⟨w - s.size - 1, by omega⟩
    rw [hfl, hq, List.replicate_succ, idx_at _ _ _ h0, size_list] at hix
    have htr : AC CX 113 [.v (.string (zB (w - s.size))), .v (.string ⟨#[0]⟩)] (.v (.string ⟨#[]⟩)) := trim0_ac _ (fun x hx => by rw [zB_list] at hx; exact List.eq_of_mem_replicate hx) (by rw [zB_size]; omega)
    have hx1 : (fldB s w).extract 0 s.size = s := by
      apply bytes_ext
      rw [ext_listF, hfl, List.drop_zero]
      exact List.take_left' (size_list s)
    have hx2 : (fldB s w).extract s.size (fldB s w).size = zB (w - s.size) := by
      apply bytes_ext
      rw [ext_listF, List.take_of_length_le (by rw [size_list]; omega), hfl, zB_list]
      exact List.drop_left' (size_list s)
    have hzs := zB_size (w - s.size)
    have hne : ¬ zB (w - s.size) = ⟨#[]⟩ := fun h => by
      have := congrArg ByteArray.size h
      rw [hzs] at this
      have h0 : (⟨#[]⟩ : ByteArray).size = 0 := rfl
      omega
    generalize zB (w - s.size) = z at *
    generalize fldB s w = f at *
    refine AC_walk ⟨TB, 40, 0, [], []⟩ (fn := Tryd.f93) TB_ok Tryd.func93 rfl rfl rfl rfl rfl (fun _ => rfl) (fun _ => rfl) ?_; intro E hna hX
    refine goT ?_
    refine ⟨_, hix, by kernel_rfl, fun _ => rfl, ?_⟩
    refine goT ?_
    refine W_draw hX (n := 7) (follows_mixed Tryd.checked) (ws := [[], [], [(0, 22), (1, 23)], [], [], [(3, 25), (4, 26)], [(0, 22), (1, 23), (2, 24)]]) (ds := [22, 23, 24, 25, 26, 27, 6]) (bi := []) (wa := [(0, 22), (1, 23), (2, 24), (3, 25), (4, 26), (5, 27), (6, 6)]) ⟨by kernel_rfl, by kernel_rfl, by kernel_rfl, by kernel_rfl, by decide, by kernel_rfl, by kernel_rfl, rfl, by decide, rfl⟩ ?_
    refine goT ?_
    rw [hx1, hx2]
    refine goT ?_
    refine ⟨_, htr, by kernel_rfl, fun _ => rfl, ?_⟩
    refine goT ?_
    rfl
end Go.Proofs.YtnfbomhhgjlacaaDoor.Abs
