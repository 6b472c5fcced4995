/-
  The weakest cut is the reference's.
-/
import Derived.Test.YtjklefjjmfpnoaaCtHg
import Derived.Test.YtjklefjjmfpnoaaCtFf
import Derived.Test.YtjklefjjmfpnoaaCtFh
import Derived.Test.YtjklefjjmfpnoaaCtRow
import Derived.Test.YtjklefjjmfpnoaaKFnExactWeakestCut
namespace Go.Fw
set_option linter.unusedSimpArgs false
set_option linter.unusedVariables false
set_option maxRecDepth 100000
set_option maxHeartbeats 4000000
open Go.Proofs.Try (prog)
open Go.Pl

theorem FnExactWeakestCut_is (n : Int) (es : List E) (hl0 : es.length ≤ 9223372036854775807) : Is prog fid_laws_FnExactWeakestCut [Gr false n es] (.b true) := by
  refine MCall.run mixed get_laws_FnExactWeakestCut ok_laws_FnExactWeakestCut (Nat.le_of_ble_eq_true rfl) (by decide) ?_
  unfold mc_laws_FnExactWeakestCut
  simp (maxSteps := 9999999) -implicitDefEqProofs only [go_sem, mwp_draw]
  refine callK_is (szGraph_is _ n es 1048576 (by omega) hl0) ?_
  simp (maxSteps := 9999999) -implicitDefEqProofs only [go_sem, mwp_draw]
  refine fun hs0 => ?_
  obtain ⟨g0, q0⟩ := szN_get (by omega) hs0
  refine callK_is (toGraph_is _ n es g0) ?_
  simp (maxSteps := 9999999) -implicitDefEqProofs only [go_sem, mwp_draw]
  try refine ⟨by kernel_rfl, ?_⟩
  refine callK_any (WeakestCutS_is _ n es (by omega)) ?_
  rintro o r ⟨rfl, ⟨hw, rfl⟩ | ⟨hw, b, rfl, b40, k1, k2⟩⟩
  · simp (maxSteps := 9999999) -implicitDefEqProofs only [go_sem, mwp_draw]
    try refine ⟨by kernel_rfl, ?_⟩
    refine callK_is (toGraph_is _ n es g0) ?_
    simp (maxSteps := 9999999) -implicitDefEqProofs only [go_sem, mwp_draw]
    try refine ⟨by kernel_rfl, ?_⟩
    refine callK_any (WeakestCut_is _ n es (by omega)) ?_
    rintro o r ⟨rfl, hr⟩
    obtain rfl : r = .tup [.i .i64 0, .b false] := by rcases hr with ⟨_, h⟩ | ⟨h, _⟩; exact h; rw [hw] at h; cases h
    simp (maxSteps := 9999999) -implicitDefEqProofs only [go_sem, mwp_draw]
    try refine ⟨by kernel_rfl, ?_⟩
    refine callK_is (toGraph_is _ n es g0) ?_
    simp (maxSteps := 9999999) -implicitDefEqProofs only [go_sem, mwp_draw]
    try refine ⟨by kernel_rfl, ?_⟩
    refine callK_is (eqGraph_is _ _ _ _ _ _ (by omega)) ?_
    simp (maxSteps := 9999999) -implicitDefEqProofs only [go_sem, mwp_draw]
    try refine ⟨by kernel_rfl, ?_⟩
    first | done | (show _ = true; kernel_rfl) | exact ⟨by kernel_rfl, rfl⟩
  · simp (maxSteps := 9999999) -implicitDefEqProofs only [go_sem, mwp_draw]
    try refine ⟨by kernel_rfl, ?_⟩
    refine callK_is (toGraph_is _ n es g0) ?_
    simp (maxSteps := 9999999) -implicitDefEqProofs only [go_sem, mwp_draw]
    try refine ⟨by kernel_rfl, ?_⟩
    refine callK_any (WeakestCut_is _ n es (by omega)) ?_
    rintro o r ⟨rfl, hr⟩
    obtain rfl : r = .tup [.i .i64 b, .b true] := by
      rcases hr with ⟨h, _⟩ | ⟨_, m, h, _, h1, h2⟩
      · rw [hw] at h; cases h
      · rw [weakest h1 h2 k1 k2] at h; exact h
    simp (maxSteps := 9999999) -implicitDefEqProofs only [go_sem, mwp_draw]
    try refine ⟨by kernel_rfl, ?_⟩
    refine callK_is (toGraph_is _ n es g0) ?_
    simp (maxSteps := 9999999) -implicitDefEqProofs only [go_sem, mwp_draw]
    try refine ⟨by kernel_rfl, ?_⟩
    refine callK_is (eqGraph_is _ _ _ _ _ _ (by omega)) ?_
    simp (maxSteps := 9999999) -implicitDefEqProofs only [go_sem, mwp_draw]
    try refine ⟨by kernel_rfl, ?_⟩
    first | done | (show _ = true; kernel_rfl) | exact ⟨by kernel_rfl, rfl⟩
theorem FnExactWeakestCut_row (m0 : List MV) (h0 : msOK [.sc (.i .i64), .sl [.i .i64, .i .i64]] m0) : Is prog fid_laws_FnExactWeakestCut [.agg m0] (.b true) := by
  obtain ⟨n0, l0, rfl, b0⟩ := gr_row h0
  exact FnExactWeakestCut_is n0 l0 (Nat.le_trans b0 (by decide))
end Go.Fw
