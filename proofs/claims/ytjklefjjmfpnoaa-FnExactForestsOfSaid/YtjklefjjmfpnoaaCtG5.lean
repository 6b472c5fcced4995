/-
  Graphs: edges put in, cut out, in valid graphs.
-/
import Derived.Test.YtjklefjjmfpnoaaCtG4
namespace Go.Fw
set_option linter.unusedSimpArgs false
set_option linter.unusedVariables false
set_option maxRecDepth 100000
set_option maxHeartbeats 4000000
open Go.Proofs.Try (prog)
open Go.Pl

/-- Graphs with an edge more, with one less. -/
def putOK (n : Int) (es : List E) (e : E) : Bool := gvB n es && !decide (e ∈ es) && gvB n (putE es e)
theorem has_is (t : Bool) (n : Int) (l : List E) (e : E) (hl : l.length ≤ 1048576) : Is prog fid_impl_Graph_has [Gr t n l, Ed1 e] (.b (decide (e ∈ l))) := by
  refine MCall.run mixed get_impl_Graph_has ok_impl_Graph_has (Nat.le_of_ble_eq_true rfl) (by decide) ?_
  unfold mc_impl_Graph_has
  simp (maxSteps := 9999999) -implicitDefEqProofs only [go_sem, mwp_draw]
  refine callK_is (ContainsE_is _ l e hl) ?_
  simp (maxSteps := 9999999) -implicitDefEqProofs only [go_sem, mwp_draw]
theorem HasEdge_is (t : Bool) (n : Int) (l : List E) (e : E) (hl : l.length ≤ 1048576) : Is prog fid_impl_HasEdge [Gr t n l, Ed1 e] (.b (gvB n l && decide (e ∈ l))) := by
  refine MCall.run mixed get_impl_HasEdge ok_impl_HasEdge (Nat.le_of_ble_eq_true rfl) (by decide) ?_
  unfold mc_impl_HasEdge
  simp (maxSteps := 9999999) -implicitDefEqProofs only [go_sem, mwp_draw]
  refine callK_is (GraphValid_is _ n l hl) ?_
  cases h : gvB n l
  · simp (maxSteps := 9999999) -implicitDefEqProofs only [go_sem, mwp_draw]
  · simp (maxSteps := 9999999) -implicitDefEqProofs only [go_sem, mwp_draw]
    refine callK_is (has_is _ n l e hl) ?_
    simp (maxSteps := 9999999) -implicitDefEqProofs only [go_sem, mwp_draw]
end Go.Fw
