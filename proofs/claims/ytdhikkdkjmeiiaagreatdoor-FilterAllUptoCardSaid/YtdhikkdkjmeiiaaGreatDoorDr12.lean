/- Walks by computing: a region some of whose calls lay memory, and in which rows of the call's own are frozen. -/
import Derived.Test.YtdhikkdkjmeiiaaGreatDoorDr7
namespace Go.Proofs.YtdhikkdkjmeiiaaGreatDoor.Abs
open Go.RowKit Go.MapKept
set_option linter.unusedVariables false
set_option linter.unusedSimpArgs false
/-- How an operation is taken: plainly; as a call that lays memory; with a row frozen ahead of it. -/
inductive Md
  | n
  | lay
  | frz (i : Nat) (ts : List Nat)
structure FrzOk (st : St) (i sz : Nat) (els : List (List AV)) (ts : List Nat) (n : Nat) : Prop where
  hts : ∀ t ∈ ts, lkS t st.slots = .own i sz 0 n
  hn : els.length = n
  hc : ClosedE els
  ho : othersR i 0 st.boxes
  hcs : cellsAv i st.boxes = true
def frzR (st : St) (i : Nat) (ts : List Nat) (K : St → Prop) : Prop := match nthA st.boxes i with
  | some (.row _ sz els) => (∃ n, FrzOk st i sz els ts n) ∧ forceSt (st.frozen i sz els ts) K
  | _ => False
def runM (X : RX) (C : Ctx) (ops : List Oper) : List Md → List Oper → St → (St → Prop) → Prop
  | _, [], st, K => K st
  | [], o :: rest, st, K => runR X C ops (o :: rest) st K
  | m :: ms, o :: rest, st, K => match m with
    | .n => guardR ops o st (stepR X C o st fun st => runM X C ops ms rest st K) (putR X o.dst (.v undef) st fun st => runM X C ops ms rest st K)
    | .lay => guardR ops o st (match o.op with
      | .call { callee := .value c, args := args, argTypes := _ } => forceS (mapLk st args.toList) fun l => calN X C st o.dst (lk st c) l fun st => runM X C ops ms rest st K
      | _ => False) (putR X o.dst (.v undef) st fun st => runM X C ops ms rest st K)
    | .frz i ts => frzR st i ts fun st => guardR ops o st (stepR X C o st fun st => runM X C ops ms rest st K) (putR X o.dst (.v undef) st fun st => runM X C ops ms rest st K)
section
variable {X : RX} {C : Ctx} {E : Env} (hX : RXok X C E) {ops : Array Oper} {rest : List Oper} {o : Oper} {Q : AQ} {st : St} {K : St → Prop}
theorem frzR_sound (hna : ∀ b, ¬ E.arg b) {i : Nat} {ts : List Nat} (h : frzR st i ts K) (hK : ∀ st, K st → AL C E ops rest Q st) : AL C E ops rest Q st := by
  unfold frzR at h
  split at h
  · rename_i tb sz els hb
    obtain ⟨⟨n, hF⟩, h2⟩ := h
    rw [forceSt_iff] at h2
    rw [nthA_eq] at hb
    refine AL_freeze hna (n := n) ts hb (fun t ht => ?_) hF.hn hF.hc (av_full (others_full (cellsAv_mem hF.hcs) hF.ho)) rfl (hK _ h2)
    have h1 := hF.hts t ht
    rcases lkS_mem (l := st.slots) (k := t) with h' | h'
    · rw [h1] at h'; cases h'
    · rw [h1] at h'; exact h'
  · exact h.elim
include hX
theorem runM_sound (hna : ∀ b, ¬ E.arg b) : ∀ (ms : List Md) (rest : List Oper) (st : St) (K : St → Prop), (∀ st, K st → Q .normal st) → runM X C ops.toList ms rest st K → AL C E ops rest Q st
  | ms, [], st, K, hK, h => by
    have h : runR X C ops.toList [] st K := by cases ms <;> exact h
    exact runR_sound hX [] st K hK h
  | [], o :: rest, st, K, hK, h => runR_sound hX (o :: rest) st K hK h
  | m :: ms, o :: rest, st, K, hK, h => by
    cases m with
    | n =>
      rw [runM] at h
      refine guardR_dest h (fun hw h' => ?_) (fun hw h' => ?_)
      · exact stepR_sound hX hw h' fun st h => runM_sound hna ms rest st K hK h
      · exact AL_skp hX hw h' fun st h => runM_sound hna ms rest st K hK h
    | lay =>
      rw [runM] at h
      refine guardR_dest h (fun hw h' => ?_) (fun hw h' => ?_)
      · split at h'
        · rename_i c args ts ho
          rw [forceS_iff] at h'
          exact calN_sound hX hw ho h' fun st h => runM_sound hna ms rest st K hK h
        · exact h'.elim
      · exact AL_skp hX hw h' fun st h => runM_sound hna ms rest st K hK h
    | frz i ts =>
      rw [runM] at h
      refine frzR_sound hna h fun st h => ?_
      refine guardR_dest h (fun hw h' => ?_) (fun hw h' => ?_)
      · exact stepR_sound hX hw h' fun st h => runM_sound hna ms rest st K hK h
      · exact AL_skp hX hw h' fun st h => runM_sound hna ms rest st K hK h
/-- A region whose operations are taken as told. -/
theorem W_regionM (hna : ∀ b, ¬ E.arg b) (ms : List Md) {id : Nat} {ops : Array Oper} (h : runM X C ops.toList ms ops.toList st fun st => Q .normal st) : W X C E (.region id ops false) Q st :=
  ⟨AW_region (runM_sound hX hna ms _ _ _ (fun _ h => h) h)⟩
end
end Go.Proofs.YtdhikkdkjmeiiaaGreatDoor.Abs
