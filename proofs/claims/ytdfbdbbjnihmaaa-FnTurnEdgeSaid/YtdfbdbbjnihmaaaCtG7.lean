/-
  Graphs: what is connected; forests; bridges.
-/
import Derived.Test.YtdfbdbbjnihmaaaCtG6
import Derived.Test.YtdfbdbbjnihmaaaCtG4
namespace Go.Fw
set_option linter.unusedSimpArgs false
set_option linter.unusedVariables false
set_option maxRecDepth 100000
set_option maxHeartbeats 4000000
open Go.Proofs.Try (prog)
open Go.Pl

theorem connected_is (t : Bool) (n : Int) (es : List E) (x y : Int) (hg : GE n es) (hx : 0 ≤ x ∧ x < n) (hy : 0 ≤ y ∧ y < n) : Is prog fid_impl_Graph_connected [Gr t n es, .i .i64 x, .i .i64 y] (.b (jn n es x y)) := by
  have hl := labL_length n es
  have gx := labL_get (n := n) (es := es) hx
  have gy := labL_get (n := n) (es := es) hy
  refine MCall.run mixed get_impl_Graph_connected ok_impl_Graph_connected (Nat.le_of_ble_eq_true rfl) (by decide) ?_
  unfold mc_impl_Graph_connected
  simp (config := { maxSteps := 10000000, implicitDefEqProofs := false }) only [go_sem, ↓reduceIte, Nat.reduceAdd, Nat.reduceMul, Nat.reduceEqDiff, Nat.reduceSub, Nat.reduceLT, reduceCtorEq, Nat.reduceLeDiff, Nat.reduceBEq, mwp_draw]
  refine callK_is (parts_is _ n es hg) ?_
  simp (config := { maxSteps := 10000000, implicitDefEqProofs := false }) only [go_sem, ↓reduceIte, Nat.reduceAdd, Nat.reduceMul, Nat.reduceEqDiff, Nat.reduceSub, Nat.reduceLT, reduceCtorEq, Nat.reduceLeDiff, Nat.reduceBEq, mwp_draw, gx, gy]
  first | exact ⟨by omega, by omega, by omega, by omega, by omega, by omega, by kernel_rfl, rfl⟩ | exact ⟨by omega, by omega, by omega, by omega, by omega, by omega, by kernel_rfl⟩
theorem l2Joined_is (t : Bool) (n : Int) (es : List E) (x y : Int) (hg : GE n es) (hx : 0 ≤ x ∧ x < n) (hy : 0 ≤ y ∧ y < n) : Is prog fid_spec_l2Joined [Gr t n es, .i .i64 x, .i .i64 y] (.b (jn n es x y)) := by
  have hl := labL_length n es
  have gx := labL_get (n := n) (es := es) hx
  have gy := labL_get (n := n) (es := es) hy
  refine MCall.run mixed get_spec_l2Joined ok_spec_l2Joined (Nat.le_of_ble_eq_true rfl) (by decide) ?_
  unfold mc_spec_l2Joined
  simp (config := { maxSteps := 10000000, implicitDefEqProofs := false }) only [go_sem, ↓reduceIte, Nat.reduceAdd, Nat.reduceMul, Nat.reduceEqDiff, Nat.reduceSub, Nat.reduceLT, reduceCtorEq, Nat.reduceLeDiff, Nat.reduceBEq, mwp_draw]
  refine callK_is (l2Labels_is _ n es hg) ?_
  simp (config := { maxSteps := 10000000, implicitDefEqProofs := false }) only [go_sem, ↓reduceIte, Nat.reduceAdd, Nat.reduceMul, Nat.reduceEqDiff, Nat.reduceSub, Nat.reduceLT, reduceCtorEq, Nat.reduceLeDiff, Nat.reduceBEq, mwp_draw, gx, gy]
  first | exact ⟨by omega, by omega, by omega, by omega, by omega, by omega, by kernel_rfl, rfl⟩ | exact ⟨by omega, by omega, by omega, by omega, by omega, by omega, by kernel_rfl⟩
/-- A node of a valid graph. -/
def gnB (n : Int) (es : List E) (x : Int) : Bool := gvB n es && decide (0 ≤ x) && decide (x < n)
theorem ghasNode_is (t : Bool) (n : Int) (es : List E) (x : Int) (hl : es.length ≤ 1048576) : Is prog fid_impl_Graph_hasNode [Gr t n es, .i .i64 x] (.b (gnB n es x)) := by
  refine MCall.run mixed get_impl_Graph_hasNode ok_impl_Graph_hasNode (Nat.le_of_ble_eq_true rfl) (by decide) ?_
  unfold mc_impl_Graph_hasNode
  simp (config := { maxSteps := 10000000, implicitDefEqProofs := false }) only [go_sem, ↓reduceIte, Nat.reduceAdd, Nat.reduceMul, Nat.reduceEqDiff, Nat.reduceSub, Nat.reduceLT, reduceCtorEq, Nat.reduceLeDiff, Nat.reduceBEq, mwp_draw]
  refine callK_is (GraphValid_is _ n es hl) ?_
  cases h : gvB n es
  · simp (config := { maxSteps := 10000000, implicitDefEqProofs := false }) only [go_sem, ↓reduceIte, Nat.reduceAdd, Nat.reduceMul, Nat.reduceEqDiff, Nat.reduceSub, Nat.reduceLT, reduceCtorEq, Nat.reduceLeDiff, Nat.reduceBEq, mwp_draw]
    simp [gnB, h]
  · simp (config := { maxSteps := 10000000, implicitDefEqProofs := false }) only [go_sem, ↓reduceIte, Nat.reduceAdd, Nat.reduceMul, Nat.reduceEqDiff, Nat.reduceSub, Nat.reduceLT, reduceCtorEq, Nat.reduceLeDiff, Nat.reduceBEq, mwp_draw]
    refine ⟨fun p1 => mvb ?_, fun p1 => mvb ?_⟩ <;> simp [gnB, h, p1]
theorem l2Node_is (t : Bool) (n : Int) (es : List E) (x : Int) (hl : es.length ≤ 1048576) : Is prog fid_spec_l2Node [Gr t n es, .i .i64 x] (.b (gnB n es x)) := by
  refine MCall.run mixed get_spec_l2Node ok_spec_l2Node (Nat.le_of_ble_eq_true rfl) (by decide) ?_
  unfold mc_spec_l2Node
  simp (config := { maxSteps := 10000000, implicitDefEqProofs := false }) only [go_sem, ↓reduceIte, Nat.reduceAdd, Nat.reduceMul, Nat.reduceEqDiff, Nat.reduceSub, Nat.reduceLT, reduceCtorEq, Nat.reduceLeDiff, Nat.reduceBEq, mwp_draw]
  refine callK_is (GraphValidS_is _ n es hl) ?_
  cases h : gvB n es
  · simp (config := { maxSteps := 10000000, implicitDefEqProofs := false }) only [go_sem, ↓reduceIte, Nat.reduceAdd, Nat.reduceMul, Nat.reduceEqDiff, Nat.reduceSub, Nat.reduceLT, reduceCtorEq, Nat.reduceLeDiff, Nat.reduceBEq, mwp_draw]
    simp [gnB, h]
  · simp (config := { maxSteps := 10000000, implicitDefEqProofs := false }) only [go_sem, ↓reduceIte, Nat.reduceAdd, Nat.reduceMul, Nat.reduceEqDiff, Nat.reduceSub, Nat.reduceLT, reduceCtorEq, Nat.reduceLeDiff, Nat.reduceBEq, mwp_draw]
    refine ⟨fun p1 => mvb ?_, fun p1 => mvb ?_⟩ <;> simp [gnB, h, p1]
theorem gnB_get {n : Int} {es : List E} {x : Int} (h : gnB n es x = true) : GE n es ∧ 0 ≤ x ∧ x < n := by
  simp only [gnB, Bool.and_eq_true, decide_eq_true_eq] at h
  exact ⟨GE_of (gvB_iff.1 h.1.1), h.1.2, h.2⟩
/-- Are two nodes of a valid graph connected? -/
def conB (n : Int) (es : List E) (x y : Int) : Bool := gnB n es x && gnB n es y && jn n es x y
theorem Connected_is (t : Bool) (n : Int) (es : List E) (x y : Int) (hl : es.length ≤ 1048576) : Is prog fid_impl_Connected [Gr t n es, .i .i64 x, .i .i64 y] (.b (conB n es x y)) := by
  refine MCall.run mixed get_impl_Connected ok_impl_Connected (Nat.le_of_ble_eq_true rfl) (by decide) ?_
  unfold mc_impl_Connected
  simp (config := { maxSteps := 10000000, implicitDefEqProofs := false }) only [go_sem, ↓reduceIte, Nat.reduceAdd, Nat.reduceMul, Nat.reduceEqDiff, Nat.reduceSub, Nat.reduceLT, reduceCtorEq, Nat.reduceLeDiff, Nat.reduceBEq, mwp_draw]
  refine callK_is (ghasNode_is _ n es x hl) ?_
  cases h : gnB n es x
  · simp (config := { maxSteps := 10000000, implicitDefEqProofs := false }) only [go_sem, ↓reduceIte, Nat.reduceAdd, Nat.reduceMul, Nat.reduceEqDiff, Nat.reduceSub, Nat.reduceLT, reduceCtorEq, Nat.reduceLeDiff, Nat.reduceBEq, mwp_draw]
    simp [conB, h]
  · simp (config := { maxSteps := 10000000, implicitDefEqProofs := false }) only [go_sem, ↓reduceIte, Nat.reduceAdd, Nat.reduceMul, Nat.reduceEqDiff, Nat.reduceSub, Nat.reduceLT, reduceCtorEq, Nat.reduceLeDiff, Nat.reduceBEq, mwp_draw]
    refine callK_is (ghasNode_is _ n es y hl) ?_
    cases h2 : gnB n es y
    · simp (config := { maxSteps := 10000000, implicitDefEqProofs := false }) only [go_sem, ↓reduceIte, Nat.reduceAdd, Nat.reduceMul, Nat.reduceEqDiff, Nat.reduceSub, Nat.reduceLT, reduceCtorEq, Nat.reduceLeDiff, Nat.reduceBEq, mwp_draw]
      simp [conB, h, h2]
    · simp (config := { maxSteps := 10000000, implicitDefEqProofs := false }) only [go_sem, ↓reduceIte, Nat.reduceAdd, Nat.reduceMul, Nat.reduceEqDiff, Nat.reduceSub, Nat.reduceLT, reduceCtorEq, Nat.reduceLeDiff, Nat.reduceBEq, mwp_draw]
      obtain ⟨a1, a2⟩ := gnB_get h
      obtain ⟨_, a3⟩ := gnB_get h2
      refine callK_is (connected_is _ n es x y a1 a2 a3) ?_
      simp (config := { maxSteps := 10000000, implicitDefEqProofs := false }) only [go_sem, ↓reduceIte, Nat.reduceAdd, Nat.reduceMul, Nat.reduceEqDiff, Nat.reduceSub, Nat.reduceLT, reduceCtorEq, Nat.reduceLeDiff, Nat.reduceBEq, mwp_draw]
      simp [conB, h, h2]
theorem ConnectedS_is (t : Bool) (n : Int) (es : List E) (x y : Int) (hl : es.length ≤ 1048576) : Is prog fid_spec_Connected [Gr t n es, .i .i64 x, .i .i64 y] (.b (conB n es x y)) := by
  refine MCall.run mixed get_spec_Connected ok_spec_Connected (Nat.le_of_ble_eq_true rfl) (by decide) ?_
  unfold mc_spec_Connected
  simp (config := { maxSteps := 10000000, implicitDefEqProofs := false }) only [go_sem, ↓reduceIte, Nat.reduceAdd, Nat.reduceMul, Nat.reduceEqDiff, Nat.reduceSub, Nat.reduceLT, reduceCtorEq, Nat.reduceLeDiff, Nat.reduceBEq, mwp_draw]
  refine callK_is (l2Node_is _ n es x hl) ?_
  cases h : gnB n es x
  · simp (config := { maxSteps := 10000000, implicitDefEqProofs := false }) only [go_sem, ↓reduceIte, Nat.reduceAdd, Nat.reduceMul, Nat.reduceEqDiff, Nat.reduceSub, Nat.reduceLT, reduceCtorEq, Nat.reduceLeDiff, Nat.reduceBEq, mwp_draw]
    simp [conB, h]
  · simp (config := { maxSteps := 10000000, implicitDefEqProofs := false }) only [go_sem, ↓reduceIte, Nat.reduceAdd, Nat.reduceMul, Nat.reduceEqDiff, Nat.reduceSub, Nat.reduceLT, reduceCtorEq, Nat.reduceLeDiff, Nat.reduceBEq, mwp_draw]
    refine callK_is (l2Node_is _ n es y hl) ?_
    cases h2 : gnB n es y
    · simp (config := { maxSteps := 10000000, implicitDefEqProofs := false }) only [go_sem, ↓reduceIte, Nat.reduceAdd, Nat.reduceMul, Nat.reduceEqDiff, Nat.reduceSub, Nat.reduceLT, reduceCtorEq, Nat.reduceLeDiff, Nat.reduceBEq, mwp_draw]
      simp [conB, h, h2]
    · simp (config := { maxSteps := 10000000, implicitDefEqProofs := false }) only [go_sem, ↓reduceIte, Nat.reduceAdd, Nat.reduceMul, Nat.reduceEqDiff, Nat.reduceSub, Nat.reduceLT, reduceCtorEq, Nat.reduceLeDiff, Nat.reduceBEq, mwp_draw]
      obtain ⟨a1, a2⟩ := gnB_get h
      obtain ⟨_, a3⟩ := gnB_get h2
      refine callK_is (l2Joined_is _ n es x y a1 a2 a3) ?_
      simp (config := { maxSteps := 10000000, implicitDefEqProofs := false }) only [go_sem, ↓reduceIte, Nat.reduceAdd, Nat.reduceMul, Nat.reduceEqDiff, Nat.reduceSub, Nat.reduceLT, reduceCtorEq, Nat.reduceLeDiff, Nat.reduceBEq, mwp_draw]
      simp [conB, h, h2]
/-- An edge is a bridge of a graph. -/
def brB (n : Int) (es : List E) (e : E) : Bool := !jn n (es.filter fun x => !decide (x = e)) e.1 e.2
theorem GE_filter {n : Int} {es : List E} (h : GE n es) (p : E → Bool) : GE n (es.filter p) :=
  ⟨h.1, h.2.1, Nat.le_trans (List.length_filter_le _ _) h.2.2.1, fun e he => h.2.2.2 e (List.mem_filter.1 he).1⟩
theorem isBridge_is (t : Bool) (n : Int) (es : List E) (e : E) (hg : GE n es) (he : EIn n e) : Is prog fid_impl_Graph_isBridge [Gr t n es, Ed1 e] (.b (brB n es e)) := by
  unfold EIn at he
  refine MCall.run mixed get_impl_Graph_isBridge ok_impl_Graph_isBridge (Nat.le_of_ble_eq_true rfl) (by decide) ?_
  unfold mc_impl_Graph_isBridge
  simp (config := { maxSteps := 10000000, implicitDefEqProofs := false }) only [go_sem, ↓reduceIte, Nat.reduceAdd, Nat.reduceMul, Nat.reduceEqDiff, Nat.reduceSub, Nat.reduceLT, reduceCtorEq, Nat.reduceLeDiff, Nat.reduceBEq, mwp_draw]
  refine callK_is (cut_is _ n es e hg.2.2.1) ?_
  simp (config := { maxSteps := 10000000, implicitDefEqProofs := false }) only [go_sem, ↓reduceIte, Nat.reduceAdd, Nat.reduceMul, Nat.reduceEqDiff, Nat.reduceSub, Nat.reduceLT, reduceCtorEq, Nat.reduceLeDiff, Nat.reduceBEq, mwp_draw]
  refine callK_is (connected_is _ n _ e.1 e.2 (GE_filter hg _) (by omega) (by omega)) ?_
  simp (config := { maxSteps := 10000000, implicitDefEqProofs := false }) only [go_sem, ↓reduceIte, Nat.reduceAdd, Nat.reduceMul, Nat.reduceEqDiff, Nat.reduceSub, Nat.reduceLT, reduceCtorEq, Nat.reduceLeDiff, Nat.reduceBEq, mwp_draw]
  first | exact ⟨by kernel_rfl, rfl⟩ | (show _ = true; kernel_rfl)
theorem l4Bridge_is (t : Bool) (n : Int) (es : List E) (e : E) (hg : GE n es) (he : EIn n e) : Is prog fid_spec_l4Bridge [Gr t n es, Ed1 e] (.b (brB n es e)) := by
  unfold EIn at he
  refine MCall.run mixed get_spec_l4Bridge ok_spec_l4Bridge (Nat.le_of_ble_eq_true rfl) (by decide) ?_
  unfold mc_spec_l4Bridge
  simp (config := { maxSteps := 10000000, implicitDefEqProofs := false }) only [go_sem, ↓reduceIte, Nat.reduceAdd, Nat.reduceMul, Nat.reduceEqDiff, Nat.reduceSub, Nat.reduceLT, reduceCtorEq, Nat.reduceLeDiff, Nat.reduceBEq, mwp_draw]
  refine callK_is (l1Without_is _ es e hg.2.2.1) ?_
  simp (config := { maxSteps := 10000000, implicitDefEqProofs := false }) only [go_sem, ↓reduceIte, Nat.reduceAdd, Nat.reduceMul, Nat.reduceEqDiff, Nat.reduceSub, Nat.reduceLT, reduceCtorEq, Nat.reduceLeDiff, Nat.reduceBEq, mwp_draw]
  refine callK_is (l2Joined_is _ n _ e.1 e.2 (GE_filter hg _) (by omega) (by omega)) ?_
  simp (config := { maxSteps := 10000000, implicitDefEqProofs := false }) only [go_sem, ↓reduceIte, Nat.reduceAdd, Nat.reduceMul, Nat.reduceEqDiff, Nat.reduceSub, Nat.reduceLT, reduceCtorEq, Nat.reduceLeDiff, Nat.reduceBEq, mwp_draw]
  first | exact ⟨by kernel_rfl, rfl⟩ | (show _ = true; kernel_rfl)
end Go.Fw
