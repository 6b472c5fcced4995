/-
  Turns.
-/
import Derived.Test.YtjklefjjmfpnoaaGreatCtG5
import Derived.Test.YtjklefjjmfpnoaaGreatCtG8
import Derived.Test.YtjklefjjmfpnoaaGreatPlT
namespace Go.Fw
set_option linter.unusedSimpArgs false
set_option linter.unusedVariables false
set_option maxRecDepth 100000
set_option maxHeartbeats 4000000
open Go.Proofs.Tryz (prog)
open Go.Pl

theorem turnE_len {n : Int} {es : List E} {e : E} : (turnE n es e).length ≤ 41 := by
  unfold turnE
  cases h : turnOK n es e
  · simp
  · simp only [turnOK, Bool.and_eq_true] at h
    have hl := (gvB_iff.1 h.1).2.2.1
    simp only [if_true]
    split
    · exact Nat.le_trans (List.length_filter_le _ _) (by omega)
    · rw [putE_length]; omega
theorem turn_put {n : Int} {es : List E} {e : E} (h : (gvB n es && decide (e ∈ es)) = false) : putOK n es e = turnOK n es e ∧ (if putOK n es e then n else 0) = turnN n es e ∧ (if putOK n es e then putE es e else []) = turnE n es e := by
  have h1 : putOK n es e = turnOK n es e := by
    unfold putOK turnOK
    cases a : gvB n es <;> cases b : decide (e ∈ es) <;> simp_all
  refine ⟨h1, by rw [h1]; rfl, ?_⟩
  rw [h1]; unfold turnE
  cases q : turnOK n es e
  · simp
  · have : ¬ e ∈ es := fun k => by simp only [turnOK, Bool.and_eq_true] at q; simp [q.1, k] at h
    simp [this]
theorem turn_cut {n : Int} {es : List E} {e : E} (h : (gvB n es && decide (e ∈ es)) = true) : turnOK n es e = true ∧ turnN n es e = n ∧ turnE n es e = es.filter (fun x => !decide (x = e)) := by
  simp only [Bool.and_eq_true, decide_eq_true_eq] at h
  have h1 : turnOK n es e = true := by simp [turnOK, h.1, h.2]
  exact ⟨h1, by simp [turnN, h1], by simp [turnE, h1, h.2, cutE]⟩
theorem TurnEdge_is (t : Bool) (n : Int) (es : List E) (e : E) (hl : es.length ≤ 1048576) :
    Is prog fid_impl_TurnEdge [Gr t n es, Ed1 e] (.tup [.agg [.i .i64 (turnN n es e), .ow true 2 (encE (turnE n es e))], .b (turnOK n es e)]) := by
  refine MCall.run mixed get_impl_TurnEdge ok_impl_TurnEdge (Nat.le_of_ble_eq_true rfl) (by decide) ?_
  unfold mc_impl_TurnEdge
  simp (maxSteps := 9999999) -implicitDefEqProofs only [go_sem, mwp_draw]
  refine callK_is (HasEdge_is _ n es e hl) ?_
  cases h : gvB n es && decide (e ∈ es)
  · simp (maxSteps := 9999999) -implicitDefEqProofs only [go_sem, mwp_draw]
    refine callK_is (PutEdge_is _ n es e hl) ?_
    simp (maxSteps := 9999999) -implicitDefEqProofs only [go_sem, mwp_draw]
    obtain ⟨e1, e2, e3⟩ := turn_put h
    rw [e2, e3, e1]
  · simp (maxSteps := 9999999) -implicitDefEqProofs only [go_sem, mwp_draw]
    refine callK_is (CutEdge_is _ n es e hl) ?_
    simp (maxSteps := 9999999) -implicitDefEqProofs only [go_sem, mwp_draw]
    obtain ⟨e1, e2, e3⟩ := turn_cut h
    rw [e2, e3, e1, h]
    rfl
theorem TurnEdgeS_is (t : Bool) (n : Int) (es : List E) (e : E) (hl : es.length ≤ 1048576) :
    Is prog fid_spec_TurnEdge [Gr t n es, Ed1 e] (.tup [.agg [.i .i64 (turnN n es e), .ow true 2 (encE (turnE n es e))], .b (turnOK n es e)]) := by
  refine MCall.run mixed get_spec_TurnEdge ok_spec_TurnEdge (Nat.le_of_ble_eq_true rfl) (by decide) ?_
  unfold mc_spec_TurnEdge
  simp (maxSteps := 9999999) -implicitDefEqProofs only [go_sem, mwp_draw]
  refine callK_is (HasEdgeS_is _ n es e hl) ?_
  cases h : gvB n es && decide (e ∈ es)
  · simp (maxSteps := 9999999) -implicitDefEqProofs only [go_sem, mwp_draw]
    refine callK_is (PutEdgeS_is _ n es e hl) ?_
    simp (maxSteps := 9999999) -implicitDefEqProofs only [go_sem, mwp_draw]
    obtain ⟨e1, e2, e3⟩ := turn_put h
    rw [e2, e3, e1]
  · simp (maxSteps := 9999999) -implicitDefEqProofs only [go_sem, mwp_draw]
    refine callK_is (CutEdgeS_is _ n es e hl) ?_
    simp (maxSteps := 9999999) -implicitDefEqProofs only [go_sem, mwp_draw]
    obtain ⟨e1, e2, e3⟩ := turn_cut h
    rw [e2, e3, e1, h]
    rfl
end Go.Fw
