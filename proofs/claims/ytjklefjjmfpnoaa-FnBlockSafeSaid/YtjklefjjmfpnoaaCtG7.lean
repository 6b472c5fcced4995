/-
  Graphs: what is connected; forests; bridges.
-/
import Derived.Test.YtjklefjjmfpnoaaCtG6
import Derived.Test.YtjklefjjmfpnoaaCtG4
namespace Go.Fw
set_option linter.unusedSimpArgs false
set_option linter.unusedVariables false
set_option maxRecDepth 100000
set_option maxHeartbeats 4000000
open Go.Proofs.Try (prog)
open Go.Pl

theorem connected_is (t : Bool) (n : Int) (es : List E) (x y : Int) (hg : GE n es) (hx : 0 ≤ x ∧ x < n) (hy : 0 ≤ y ∧ y < n) : Is prog fid_impl_Graph_connected [Gr t n es, .i .i64 x, .i .i64 y] (.b (jn n es x y)) := by
  have hl := labL_length n es
  have gx := labL_get (n := n) (es := es) hx
  have gy := labL_get (n := n) (es := es) hy
  refine MCall.run mixed get_impl_Graph_connected ok_impl_Graph_connected (Nat.le_of_ble_eq_true rfl) (by decide) ?_
  unfold mc_impl_Graph_connected
  simp (maxSteps := 9999999) -implicitDefEqProofs only [go_sem, mwp_draw]
  refine callK_is (parts_is _ n es hg) ?_
  simp (maxSteps := 9999999) -implicitDefEqProofs only [go_sem, mwp_draw, gx, gy]
  first | exact ⟨by omega, by omega, by omega, by omega, by omega, by omega, by kernel_rfl, rfl⟩ | exact ⟨by omega, by omega, by omega, by omega, by omega, by omega, by kernel_rfl⟩
theorem l2Joined_is (t : Bool) (n : Int) (es : List E) (x y : Int) (hg : GE n es) (hx : 0 ≤ x ∧ x < n) (hy : 0 ≤ y ∧ y < n) : Is prog fid_spec_l2Joined [Gr t n es, .i .i64 x, .i .i64 y] (.b (jn n es x y)) := by
  have hl := labL_length n es
  have gx := labL_get (n := n) (es := es) hx
  have gy := labL_get (n := n) (es := es) hy
  refine MCall.run mixed get_spec_l2Joined ok_spec_l2Joined (Nat.le_of_ble_eq_true rfl) (by decide) ?_
  unfold mc_spec_l2Joined
  simp (maxSteps := 9999999) -implicitDefEqProofs only [go_sem, mwp_draw]
  refine callK_is (l2Labels_is _ n es hg) ?_
  simp (maxSteps := 9999999) -implicitDefEqProofs only [go_sem, mwp_draw, gx, gy]
  first | exact ⟨by omega, by omega, by omega, by omega, by omega, by omega, by kernel_rfl, rfl⟩ | exact ⟨by omega, by omega, by omega, by omega, by omega, by omega, by kernel_rfl⟩
/-- A node of a valid graph. -/
def gnB (n : Int) (es : List E) (x : Int) : Bool := gvB n es && decide (0 ≤ x) && decide (x < n)
theorem gnB_get {n : Int} {es : List E} {x : Int} (h : gnB n es x = true) : GE n es ∧ 0 ≤ x ∧ x < n := by
  simp only [gnB, Bool.and_eq_true, decide_eq_true_eq] at h
  exact ⟨GE_of (gvB_iff.1 h.1.1), h.1.2, h.2⟩
/-- Are two nodes of a valid graph connected? -/
def conB (n : Int) (es : List E) (x y : Int) : Bool := gnB n es x && gnB n es y && jn n es x y
/-- An edge is a bridge of a graph. -/
def brB (n : Int) (es : List E) (e : E) : Bool := !jn n (es.filter fun x => !decide (x = e)) e.1 e.2
theorem GE_filter {n : Int} {es : List E} (h : GE n es) (p : E → Bool) : GE n (es.filter p) :=
  ⟨h.1, h.2.1, Nat.le_trans (List.length_filter_le _ _) h.2.2.1, fun e he => h.2.2.2 e (List.mem_filter.1 he).1⟩
theorem isBridge_is (t : Bool) (n : Int) (es : List E) (e : E) (hg : GE n es) (he : EIn n e) : Is prog fid_impl_Graph_isBridge [Gr t n es, Ed1 e] (.b (brB n es e)) := by
  unfold EIn at he
  refine MCall.run mixed get_impl_Graph_isBridge ok_impl_Graph_isBridge (Nat.le_of_ble_eq_true rfl) (by decide) ?_
  unfold mc_impl_Graph_isBridge
  simp (maxSteps := 9999999) -implicitDefEqProofs only [go_sem, mwp_draw]
  refine callK_is (cut_is _ n es e hg.2.2.1) ?_
  simp (maxSteps := 9999999) -implicitDefEqProofs only [go_sem, mwp_draw]
  refine callK_is (connected_is _ n _ e.1 e.2 (GE_filter hg _) (by omega) (by omega)) ?_
  simp (maxSteps := 9999999) -implicitDefEqProofs only [go_sem, mwp_draw]
  first | exact ⟨by kernel_rfl, rfl⟩ | (show _ = true; kernel_rfl)
end Go.Fw
