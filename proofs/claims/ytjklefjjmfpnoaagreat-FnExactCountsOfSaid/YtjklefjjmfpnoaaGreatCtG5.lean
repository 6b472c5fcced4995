/-
  Graphs: edges put in, cut out, in valid graphs.
-/
import Derived.Test.YtjklefjjmfpnoaaGreatCtG4
namespace Go.Fw
set_option linter.unusedSimpArgs false
set_option linter.unusedVariables false
set_option maxRecDepth 100000
set_option maxHeartbeats 4000000
open Go.Proofs.Tryz (prog)
open Go.Pl

/-- Graphs with an edge more, with one less. -/
def putOK (n : Int) (es : List E) (e : E) : Bool := gvB n es && !decide (e ∈ es) && gvB n (putE es e)
theorem has_is (t : Bool) (n : Int) (l : List E) (e : E) (hl : l.length ≤ 1048576) : Is prog fid_impl_Graph_has [Gr t n l, Ed1 e] (.b (decide (e ∈ l))) := by
  refine MCall.run mixed get_impl_Graph_has ok_impl_Graph_has (Nat.le_of_ble_eq_true rfl) (by decide) ?_
  unfold mc_impl_Graph_has
  simp (maxSteps := 9999999) -implicitDefEqProofs only [go_sem, mwp_draw]
  refine callK_is (ContainsE_is _ l e hl) ?_
  simp (maxSteps := 9999999) -implicitDefEqProofs only [go_sem, mwp_draw]
theorem HasEdge_is (t : Bool) (n : Int) (l : List E) (e : E) (hl : l.length ≤ 1048576) : Is prog fid_impl_HasEdge [Gr t n l, Ed1 e] (.b (gvB n l && decide (e ∈ l))) := by
  refine MCall.run mixed get_impl_HasEdge ok_impl_HasEdge (Nat.le_of_ble_eq_true rfl) (by decide) ?_
  unfold mc_impl_HasEdge
  simp (maxSteps := 9999999) -implicitDefEqProofs only [go_sem, mwp_draw]
  refine callK_is (GraphValid_is _ n l hl) ?_
  cases h : gvB n l
  · simp (maxSteps := 9999999) -implicitDefEqProofs only [go_sem, mwp_draw]
  · simp (maxSteps := 9999999) -implicitDefEqProofs only [go_sem, mwp_draw]
    refine callK_is (has_is _ n l e hl) ?_
    simp (maxSteps := 9999999) -implicitDefEqProofs only [go_sem, mwp_draw]
theorem HasEdgeS_is (t : Bool) (n : Int) (l : List E) (e : E) (hl : l.length ≤ 1048576) : Is prog fid_spec_HasEdge [Gr t n l, Ed1 e] (.b (gvB n l && decide (e ∈ l))) := by
  refine MCall.run mixed get_spec_HasEdge ok_spec_HasEdge (Nat.le_of_ble_eq_true rfl) (by decide) ?_
  unfold mc_spec_HasEdge
  simp (maxSteps := 9999999) -implicitDefEqProofs only [go_sem, mwp_draw]
  refine callK_is (GraphValidS_is _ n l hl) ?_
  cases h : gvB n l
  · simp (maxSteps := 9999999) -implicitDefEqProofs only [go_sem, mwp_draw]
  · simp (maxSteps := 9999999) -implicitDefEqProofs only [go_sem, mwp_draw]
    refine callK_is (l1Find_is _ l e hl) ?_
    simp (maxSteps := 9999999) -implicitDefEqProofs only [go_sem, mwp_draw]
    exact mvb (decide_eq_decide.2 idxE_ge)
theorem InsP_is (l : List E) (e : E) (t t' : Bool) (hl : l.length ≤ 1048576) : Is prog fid_slices_Insert_impl_Edge_impl_Edge [.ow t 2 (encE l), .i .i64 (posE l e), .ow t' 2 (encE [e])] (.ow true 2 (encE (putE l e))) :=
  InsertE_is l (posE l e) e t t' (posE_le l e) hl
theorem PutEdge_is (t : Bool) (n : Int) (l : List E) (e : E) (hl : l.length ≤ 1048576) :
    Is prog fid_impl_PutEdge [Gr t n l, Ed1 e] (.tup [.agg [.i .i64 (if putOK n l e then n else 0), .ow true 2 (encE (if putOK n l e then putE l e else []))], .b (putOK n l e)]) := by
  refine MCall.run mixed get_impl_PutEdge ok_impl_PutEdge (Nat.le_of_ble_eq_true rfl) (by decide) ?_
  unfold mc_impl_PutEdge
  simp (maxSteps := 9999999) -implicitDefEqProofs only [go_sem, mwp_draw]
  refine callK_is (GraphValid_is _ n l hl) ?_
  cases h : gvB n l
  · simp (maxSteps := 9999999) -implicitDefEqProofs only [go_sem, mwp_draw]
    simp [putOK, h, encE]
  · simp (maxSteps := 9999999) -implicitDefEqProofs only [go_sem, mwp_draw]
    refine callK_is (has_is _ n l e hl) ?_
    cases h2 : decide (e ∈ l)
    · simp (maxSteps := 9999999) -implicitDefEqProofs only [go_sem, mwp_draw]
      have hG := gvB_iff.1 h
      refine ⟨cmpD, cmpF, fnOk_cmp, ?_⟩
      refine callK_is (BinarySearch_is _ l e hG.2.2.2.2 hl) ?_
      simp (maxSteps := 9999999) -implicitDefEqProofs only [go_sem, mwp_draw]
      refine callK_is (CloneE_is _ l hl) ?_
      simp (maxSteps := 9999999) -implicitDefEqProofs only [go_sem, mwp_draw]
      refine callK_is (InsP_is l e _ _ hl) ?_
      simp (maxSteps := 9999999) -implicitDefEqProofs only [go_sem, mwp_draw]
      refine ⟨by kernel_rfl, ?_⟩
      have hpl := putE_length l e
      have := hG.2.2.1
      refine callK_is (GraphValid_is _ n (putE l e) (by omega)) ?_
      cases h3 : gvB n (putE l e)
      · simp (maxSteps := 9999999) -implicitDefEqProofs only [go_sem, mwp_draw]
        simp [putOK, h, h2, h3, encE]
      · simp (maxSteps := 9999999) -implicitDefEqProofs only [go_sem, mwp_draw]
        simp [putOK, h, h2, h3]
    · simp (maxSteps := 9999999) -implicitDefEqProofs only [go_sem, mwp_draw]
      simp [putOK, h, h2, encE]
theorem PutEdgeS_is (t : Bool) (n : Int) (l : List E) (e : E) (hl : l.length ≤ 1048576) :
    Is prog fid_spec_PutEdge [Gr t n l, Ed1 e] (.tup [.agg [.i .i64 (if putOK n l e then n else 0), .ow true 2 (encE (if putOK n l e then putE l e else []))], .b (putOK n l e)]) := by
  refine MCall.run mixed get_spec_PutEdge ok_spec_PutEdge (Nat.le_of_ble_eq_true rfl) (by decide) ?_
  unfold mc_spec_PutEdge
  simp (maxSteps := 9999999) -implicitDefEqProofs only [go_sem, mwp_draw]
  refine callK_is (GraphValidS_is _ n l hl) ?_
  cases h : gvB n l
  · simp (maxSteps := 9999999) -implicitDefEqProofs only [go_sem, mwp_draw]
    simp [putOK, h, encE]
  · simp (maxSteps := 9999999) -implicitDefEqProofs only [go_sem, mwp_draw]
    refine callK_is (l1Find_is _ l e hl) ?_
    have hG := gvB_iff.1 h
    have hpl := putE_length l e
    have hle := hG.2.2.1
    by_cases h2 : e ∈ l
    · have h2' := idxE_ge.2 h2
      simp (maxSteps := 9999999) -implicitDefEqProofs only [go_sem, mwp_draw, h2']
      simp [putOK, h, h2, encE]
    · have h2' : ¬ 0 ≤ idxE l e := fun q => h2 (idxE_ge.1 q)
      simp (maxSteps := 9999999) -implicitDefEqProofs only [go_sem, mwp_draw, h2']
      refine callK_is (l1Put_is _ l e hl) ?_
      rw [putS_eq hG.2.2.2.2 h2]
      simp (maxSteps := 9999999) -implicitDefEqProofs only [go_sem, mwp_draw]
      refine ⟨by kernel_rfl, callK_is (GraphValidS_is _ n (putE l e) (by omega)) ?_⟩
      cases h3 : gvB n (putE l e)
      · simp (maxSteps := 9999999) -implicitDefEqProofs only [go_sem, mwp_draw]
        simp [putOK, h, h2, h3, encE]
      · simp (maxSteps := 9999999) -implicitDefEqProofs only [go_sem, mwp_draw]
        simp [putOK, h, h2, h3]
theorem CutEdge_is (t : Bool) (n : Int) (l : List E) (e : E) (hl : l.length ≤ 1048576) :
    Is prog fid_impl_CutEdge [Gr t n l, Ed1 e] (.tup [.agg [.i .i64 (if gvB n l && decide (e ∈ l) then n else 0), .ow true 2 (encE (if gvB n l && decide (e ∈ l) then l.filter (fun x => !decide (x = e)) else []))], .b (gvB n l && decide (e ∈ l))]) := by
  refine MCall.run mixed get_impl_CutEdge ok_impl_CutEdge (Nat.le_of_ble_eq_true rfl) (by decide) ?_
  unfold mc_impl_CutEdge
  simp (maxSteps := 9999999) -implicitDefEqProofs only [go_sem, mwp_draw]
  refine callK_is (HasEdge_is _ n l e hl) ?_
  cases h : gvB n l && decide (e ∈ l)
  · simp (maxSteps := 9999999) -implicitDefEqProofs only [go_sem, mwp_draw]
    simp [encE]
  · simp (maxSteps := 9999999) -implicitDefEqProofs only [go_sem, mwp_draw]
    refine callK_is (cut_is _ n l e hl) ?_
    simp (maxSteps := 9999999) -implicitDefEqProofs only [go_sem, mwp_draw]
theorem CutEdgeS_is (t : Bool) (n : Int) (l : List E) (e : E) (hl : l.length ≤ 1048576) :
    Is prog fid_spec_CutEdge [Gr t n l, Ed1 e] (.tup [.agg [.i .i64 (if gvB n l && decide (e ∈ l) then n else 0), .ow true 2 (encE (if gvB n l && decide (e ∈ l) then l.filter (fun x => !decide (x = e)) else []))], .b (gvB n l && decide (e ∈ l))]) := by
  refine MCall.run mixed get_spec_CutEdge ok_spec_CutEdge (Nat.le_of_ble_eq_true rfl) (by decide) ?_
  unfold mc_spec_CutEdge
  simp (maxSteps := 9999999) -implicitDefEqProofs only [go_sem, mwp_draw]
  refine callK_is (GraphValidS_is _ n l hl) ?_
  cases h : gvB n l
  · simp (maxSteps := 9999999) -implicitDefEqProofs only [go_sem, mwp_draw]
    simp [encE]
  · simp (maxSteps := 9999999) -implicitDefEqProofs only [go_sem, mwp_draw]
    refine callK_is (l1Find_is _ l e hl) ?_
    by_cases h2 : e ∈ l
    · have h2' := idxE_ge.2 h2
      have h3 : ¬ idxE l e < 0 := by omega
      simp (maxSteps := 9999999) -implicitDefEqProofs only [go_sem, mwp_draw, h3]
      refine callK_is (l1Without_is _ l e hl) ?_
      simp (maxSteps := 9999999) -implicitDefEqProofs only [go_sem, mwp_draw, h2]
      first | exact ⟨by kernel_rfl, rfl⟩ | (show _ = true; kernel_rfl) | exact ⟨by kernel_rfl, by simp [h2]⟩
    · have h2' : ¬ 0 ≤ idxE l e := fun q => h2 (idxE_ge.1 q)
      have h3 : idxE l e < 0 := by omega
      simp (maxSteps := 9999999) -implicitDefEqProofs only [go_sem, mwp_draw, h3]
      simp [h2, encE]
end Go.Fw
