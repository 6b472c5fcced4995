/-
  Forests are the reference's.
-/
import Derived.Test.YtjklefjjmfpnoaaCtHg
import Derived.Test.YtjklefjjmfpnoaaCtFoN
import Derived.Test.YtjklefjjmfpnoaaCtRow
import Derived.Test.YtjklefjjmfpnoaaKFnExactForestsOf
namespace Go.Fw
set_option linter.unusedSimpArgs false
set_option linter.unusedVariables false
set_option maxRecDepth 100000
set_option maxHeartbeats 4000000
open Go.Proofs.Try (prog)
open Go.Pl

theorem FnExactForestsOf_is (n : Int) (es : List E) (q : Int) (hl0 : es.length ≤ 9223372036854775807) : Is prog fid_laws_FnExactForestsOf [Gr false n es, .i .i64 q] (.b true) := by
  have vl := fsV_len (n := n) (es := es) (k := q)
  have vc := fun c (hc : c ∈ fsV n es q) => fsV_each (n := n) (es := es) (k := q) hc
  have v0 := fsV_no (n := n) (es := es) (k := q)
  refine MCall.run mixed get_laws_FnExactForestsOf ok_laws_FnExactForestsOf (Nat.le_of_ble_eq_true rfl) (by decide) ?_
  unfold mc_laws_FnExactForestsOf
  simp (maxSteps := 9999999) -implicitDefEqProofs only [go_sem, mwp_draw]
  refine callK_is (szGraph_is _ n es 1048576 (by omega) hl0) ?_
  simp (maxSteps := 9999999) -implicitDefEqProofs only [go_sem, mwp_draw]
  refine fun hs0 => ?_
  obtain ⟨g0, q0⟩ := szN_get (by omega) hs0
  refine callK_is (toGraph_is _ n es g0) ?_
  simp (maxSteps := 9999999) -implicitDefEqProofs only [go_sem, mwp_draw]
  try refine ⟨by kernel_rfl, ?_⟩
  refine callK_is (ForestsOfS_is _ n es q (by omega)) ?_
  have hI := fun t => ForestsOf_is t n es q (by omega)
  generalize fsV n es q = L at *
  simp (maxSteps := 9999999) -implicitDefEqProofs only [go_sem, mwp_draw]
  try refine ⟨by kernel_rfl, ?_⟩
  refine callK_is (toGraph_is _ n es g0) ?_
  simp (maxSteps := 9999999) -implicitDefEqProofs only [go_sem, mwp_draw]
  try refine ⟨by kernel_rfl, ?_⟩
  refine callK_any (hI _) ?_
  have e1 : L.take L.length = L := List.take_length
  have rl := mkRE_length L 1
  have kl := mkKE_le L 1 (fun c hc => by have := vc c hc; omega)
  have b1 : (mkKE L 1 < 0) = False := eq_false (by omega)
  rintro o r ⟨rfl, ⟨hg, rfl⟩ | ⟨hg, hs, rfl⟩⟩
  · obtain rfl := v0 hg
    rw [hg]
    simp (maxSteps := 9999999) -implicitDefEqProofs only [go_sem, mwp_draw, encF_nil]
    have b0 : ((1 : Int) < 0) = False := eq_false (by omega)
    refine callK_is (eqEdgeSS0_is _ _) ?_
    simp (maxSteps := 9999999) -implicitDefEqProofs only [go_sem, mwp_draw, encF_nil]
    try refine ⟨by kernel_rfl, ?_⟩
    refine callK_is (toGraph_is _ n es g0) ?_
    simp (maxSteps := 9999999) -implicitDefEqProofs only [go_sem, mwp_draw]
    try refine ⟨by kernel_rfl, ?_⟩
    refine callK_is (eqGraph_is _ _ _ _ _ _ (by omega)) ?_
    simp (maxSteps := 9999999) -implicitDefEqProofs only [go_sem, mwp_draw]
    try refine ⟨by kernel_rfl, ?_⟩
    have b2 : ((1 : Int) + 2 * es.length < 0) = False := eq_false (by omega)
    refine callK_det (markGraph_is _ n es 1 (by omega) (by omega)) ?_
    simp (maxSteps := 9999999) -implicitDefEqProofs only [go_sem, mwp_draw, markE_length, markE_take, encF_nil, b2]
    try refine ⟨by kernel_rfl, ?_⟩
    refine callK_is (eqEdgeSS0_is _ _) ?_
    simp (maxSteps := 9999999) -implicitDefEqProofs only [go_sem, mwp_draw, encF_nil]
    try refine ⟨by kernel_rfl, ?_⟩
    refine callK_det (markEdgeSS0_is _ 1) ?_
    simp (maxSteps := 9999999) -implicitDefEqProofs only [go_sem, mwp_draw, encF_nil]
    try refine ⟨by kernel_rfl, ?_⟩
    refine callK_is (heldEdgeSS0_is _ 1 (by omega)) ?_
    simp (maxSteps := 9999999) -implicitDefEqProofs only [go_sem, mwp_draw, encF_nil, b0]
    try refine ⟨by kernel_rfl, ?_⟩
    refine callK_is (toGraph_is _ n es g0) ?_
    simp (maxSteps := 9999999) -implicitDefEqProofs only [go_sem, mwp_draw]
    try refine ⟨by kernel_rfl, ?_⟩
    refine callK_any (hI _) ?_
    rintro o r ⟨rfl, hr⟩
    obtain rfl : r = .tup [.ow true 1 [], .b false] := by rcases hr with ⟨_, h⟩ | ⟨h, _⟩; exact h; rw [hg] at h; cases h
    simp (maxSteps := 9999999) -implicitDefEqProofs only [go_sem, mwp_draw, encF_nil]
    try refine ⟨by kernel_rfl, ?_⟩
    refine callK_is (eqEdgeSS0_is _ _) ?_
    simp (maxSteps := 9999999) -implicitDefEqProofs only [go_sem, mwp_draw, encF_nil]
    try refine ⟨by kernel_rfl, ?_⟩
    refine callK_is (heldEdgeSS0_is _ 1 (by omega)) ?_
    simp (maxSteps := 9999999) -implicitDefEqProofs only [go_sem, mwp_draw, encF_nil, b0]
    try refine ⟨by kernel_rfl, ?_⟩
    first | done | (show _ = true; kernel_rfl) | exact ⟨by kernel_rfl, rfl⟩
  · rw [hg]
    simp (maxSteps := 9999999) -implicitDefEqProofs only [go_sem, mwp_draw]
    refine callK_is (eqEdgeSS_is _ _ L L (by omega) (fun c hc => by have := vc c hc; omega)) ?_
    simp (maxSteps := 9999999) -implicitDefEqProofs only [go_sem, mwp_draw, rl]
    try refine ⟨by kernel_rfl, ?_⟩
    refine callK_is (toGraph_is _ n es g0) ?_
    simp (maxSteps := 9999999) -implicitDefEqProofs only [go_sem, mwp_draw]
    try refine ⟨by kernel_rfl, ?_⟩
    refine callK_is (eqGraph_is _ _ _ _ _ _ (by omega)) ?_
    simp (maxSteps := 9999999) -implicitDefEqProofs only [go_sem, mwp_draw]
    try refine ⟨by kernel_rfl, ?_⟩
    have b2 : ((1 : Int) + 2 * es.length < 0) = False := eq_false (by omega)
    refine callK_det (markGraph_is _ n es 1 (by omega) (by omega)) ?_
    simp (maxSteps := 9999999) -implicitDefEqProofs only [go_sem, mwp_draw, markE_length, markE_take, encF_nil, b2]
    try refine ⟨by kernel_rfl, ?_⟩
    refine callK_is (eqEdgeSS_is _ _ L L (by omega) (fun c hc => by have := vc c hc; omega)) ?_
    simp (maxSteps := 9999999) -implicitDefEqProofs only [go_sem, mwp_draw, rl]
    try refine ⟨by kernel_rfl, ?_⟩
    refine callK_det (markEdgeSS_is hs L 1 (by omega) (by omega) (fun c hc => by have := vc c hc; omega)) ?_
    simp (maxSteps := 9999999) -implicitDefEqProofs only [go_sem, mwp_draw, rl, e1]
    try refine ⟨by kernel_rfl, ?_⟩
    refine callK_is (heldEdgeSS_is _ L 1 (by omega) (by omega) (fun c hc => by have := vc c hc; omega)) ?_
    simp (maxSteps := 9999999) -implicitDefEqProofs only [go_sem, mwp_draw, rl, e1, b1]
    try refine ⟨by kernel_rfl, ?_⟩
    refine callK_is (toGraph_is _ n es g0) ?_
    simp (maxSteps := 9999999) -implicitDefEqProofs only [go_sem, mwp_draw]
    try refine ⟨by kernel_rfl, ?_⟩
    refine callK_any (hI _) ?_
    rintro o r ⟨rfl, hr⟩
    obtain ⟨hs', rfl⟩ : ∃ hs', r = .tup [.on hs' 2 (rwE L), .b true] := by rcases hr with ⟨h, _⟩ | ⟨_, h⟩; rw [hg] at h; cases h; exact h
    simp (maxSteps := 9999999) -implicitDefEqProofs only [go_sem, mwp_draw]
    try refine ⟨by kernel_rfl, ?_⟩
    refine callK_is (eqEdgeSS_is _ _ L L (by omega) (fun c hc => by have := vc c hc; omega)) ?_
    simp (maxSteps := 9999999) -implicitDefEqProofs only [go_sem, mwp_draw, rl]
    try refine ⟨by kernel_rfl, ?_⟩
    refine callK_is (heldEdgeSS_is _ L 1 (by omega) (by omega) (fun c hc => by have := vc c hc; omega)) ?_
    simp (maxSteps := 9999999) -implicitDefEqProofs only [go_sem, mwp_draw, rl, e1, b1]
    try refine ⟨by kernel_rfl, ?_⟩
    first | done | (show _ = true; kernel_rfl) | exact ⟨by kernel_rfl, rfl⟩
theorem FnExactForestsOf_row (m0 : List MV) (h0 : msOK [.sc (.i .i64), .sl [.i .i64, .i .i64]] m0) (x1 : Int) (_ : (Lit.int .i64 x1).wf = true) : Is prog fid_laws_FnExactForestsOf [.agg m0, .i .i64 x1] (.b true) := by
  obtain ⟨n0, l0, rfl, b0⟩ := gr_row h0
  exact FnExactForestsOf_is n0 l0 x1 (Nat.le_trans b0 (by decide))
end Go.Fw
