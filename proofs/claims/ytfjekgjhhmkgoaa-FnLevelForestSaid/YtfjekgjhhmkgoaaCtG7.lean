/-
  Graphs: what is connected; forests; bridges.
-/
import Derived.Test.YtfjekgjhhmkgoaaCtG6
import Derived.Test.YtfjekgjhhmkgoaaCtG4
namespace Go.Fw
set_option linter.unusedSimpArgs false
set_option linter.unusedVariables false
set_option maxRecDepth 100000
set_option maxHeartbeats 4000000
open Go.Proofs.Try (prog)
open Go.Pl

theorem connected_is (t : Bool) (n : Int) (es : List E) (x y : Int) (hg : GE n es) (hx : 0 ≤ x ∧ x < n) (hy : 0 ≤ y ∧ y < n) : Is prog fid_impl_Graph_connected [Gr t n es, .i .i64 x, .i .i64 y] (.b (jn n es x y)) := by
  have hl := labL_length n es
  have gx := labL_get (n := n) (es := es) hx
  have gy := labL_get (n := n) (es := es) hy
  refine MCall.run mixed get_impl_Graph_connected ok_impl_Graph_connected (Nat.le_of_ble_eq_true rfl) (by decide) ?_
  unfold mc_impl_Graph_connected
  simp (config := { maxSteps := 10000000, implicitDefEqProofs := false }) only [go_sem, ↓reduceIte, Nat.reduceAdd, Nat.reduceMul, Nat.reduceEqDiff, Nat.reduceSub, Nat.reduceLT, reduceCtorEq, Nat.reduceLeDiff, Nat.reduceBEq, mwp_draw]
  refine callK_is (parts_is _ n es hg) ?_
  simp (config := { maxSteps := 10000000, implicitDefEqProofs := false }) only [go_sem, ↓reduceIte, Nat.reduceAdd, Nat.reduceMul, Nat.reduceEqDiff, Nat.reduceSub, Nat.reduceLT, reduceCtorEq, Nat.reduceLeDiff, Nat.reduceBEq, mwp_draw, gx, gy]
  first | exact ⟨by omega, by omega, by omega, by omega, by omega, by omega, by kernel_rfl, rfl⟩ | exact ⟨by omega, by omega, by omega, by omega, by omega, by omega, by kernel_rfl⟩
theorem l2Joined_is (t : Bool) (n : Int) (es : List E) (x y : Int) (hg : GE n es) (hx : 0 ≤ x ∧ x < n) (hy : 0 ≤ y ∧ y < n) : Is prog fid_spec_l2Joined [Gr t n es, .i .i64 x, .i .i64 y] (.b (jn n es x y)) := by
  have hl := labL_length n es
  have gx := labL_get (n := n) (es := es) hx
  have gy := labL_get (n := n) (es := es) hy
  refine MCall.run mixed get_spec_l2Joined ok_spec_l2Joined (Nat.le_of_ble_eq_true rfl) (by decide) ?_
  unfold mc_spec_l2Joined
  simp (config := { maxSteps := 10000000, implicitDefEqProofs := false }) only [go_sem, ↓reduceIte, Nat.reduceAdd, Nat.reduceMul, Nat.reduceEqDiff, Nat.reduceSub, Nat.reduceLT, reduceCtorEq, Nat.reduceLeDiff, Nat.reduceBEq, mwp_draw]
  refine callK_is (l2Labels_is _ n es hg) ?_
  simp (config := { maxSteps := 10000000, implicitDefEqProofs := false }) only [go_sem, ↓reduceIte, Nat.reduceAdd, Nat.reduceMul, Nat.reduceEqDiff, Nat.reduceSub, Nat.reduceLT, reduceCtorEq, Nat.reduceLeDiff, Nat.reduceBEq, mwp_draw, gx, gy]
  first | exact ⟨by omega, by omega, by omega, by omega, by omega, by omega, by kernel_rfl, rfl⟩ | exact ⟨by omega, by omega, by omega, by omega, by omega, by omega, by kernel_rfl⟩
/-- A node of a valid graph. -/
def gnB (n : Int) (es : List E) (x : Int) : Bool := gvB n es && decide (0 ≤ x) && decide (x < n)
theorem l2Node_is (t : Bool) (n : Int) (es : List E) (x : Int) (hl : es.length ≤ 1048576) : Is prog fid_spec_l2Node [Gr t n es, .i .i64 x] (.b (gnB n es x)) := by
  refine MCall.run mixed get_spec_l2Node ok_spec_l2Node (Nat.le_of_ble_eq_true rfl) (by decide) ?_
  unfold mc_spec_l2Node
  simp (config := { maxSteps := 10000000, implicitDefEqProofs := false }) only [go_sem, ↓reduceIte, Nat.reduceAdd, Nat.reduceMul, Nat.reduceEqDiff, Nat.reduceSub, Nat.reduceLT, reduceCtorEq, Nat.reduceLeDiff, Nat.reduceBEq, mwp_draw]
  refine callK_is (GraphValidS_is _ n es hl) ?_
  cases h : gvB n es
  · simp (config := { maxSteps := 10000000, implicitDefEqProofs := false }) only [go_sem, ↓reduceIte, Nat.reduceAdd, Nat.reduceMul, Nat.reduceEqDiff, Nat.reduceSub, Nat.reduceLT, reduceCtorEq, Nat.reduceLeDiff, Nat.reduceBEq, mwp_draw]
    simp [gnB, h]
  · simp (config := { maxSteps := 10000000, implicitDefEqProofs := false }) only [go_sem, ↓reduceIte, Nat.reduceAdd, Nat.reduceMul, Nat.reduceEqDiff, Nat.reduceSub, Nat.reduceLT, reduceCtorEq, Nat.reduceLeDiff, Nat.reduceBEq, mwp_draw]
    refine ⟨fun p1 => mvb ?_, fun p1 => mvb ?_⟩ <;> simp [gnB, h, p1]
theorem gnB_get {n : Int} {es : List E} {x : Int} (h : gnB n es x = true) : GE n es ∧ 0 ≤ x ∧ x < n := by
  simp only [gnB, Bool.and_eq_true, decide_eq_true_eq] at h
  exact ⟨GE_of (gvB_iff.1 h.1.1), h.1.2, h.2⟩
/-- Are two nodes of a valid graph connected? -/
def conB (n : Int) (es : List E) (x y : Int) : Bool := gnB n es x && gnB n es y && jn n es x y
/-- An edge is a bridge of a graph. -/
def brB (n : Int) (es : List E) (e : E) : Bool := !jn n (es.filter fun x => !decide (x = e)) e.1 e.2
theorem GE_filter {n : Int} {es : List E} (h : GE n es) (p : E → Bool) : GE n (es.filter p) :=
  ⟨h.1, h.2.1, Nat.le_trans (List.length_filter_le _ _) h.2.2.1, fun e he => h.2.2.2 e (List.mem_filter.1 he).1⟩
end Go.Fw
