/-
  Chains are the reference's.
-/
import Derived.Test.YtjklefjjmfpnoaaCtHg
import Derived.Test.YtjklefjjmfpnoaaCtChN
import Derived.Test.YtjklefjjmfpnoaaCtRow
import Derived.Test.YtjklefjjmfpnoaaKFnExactChainsOf
namespace Go.Fw
set_option linter.unusedSimpArgs false
set_option linter.unusedVariables false
set_option maxRecDepth 100000
set_option maxHeartbeats 4000000
open Go.Proofs.Try (prog)
open Go.Pl

theorem FnExactChainsOf_is (n : Int) (es : List E) (hl0 : es.length ≤ 9223372036854775807) : Is prog fid_laws_FnExactChainsOf [Gr false n es] (.b true) := by
  have vl := chV_len (n := n) (es := es)
  have vc := fun c (hc : c ∈ chV n es) => chV_each (n := n) (es := es) hc
  have v0 := chV_no (n := n) (es := es)
  refine MCall.run mixed get_laws_FnExactChainsOf ok_laws_FnExactChainsOf (Nat.le_of_ble_eq_true rfl) (by decide) ?_
  unfold mc_laws_FnExactChainsOf
  simp (maxSteps := 9999999) -implicitDefEqProofs only [go_sem, mwp_draw]
  refine callK_is (szGraph_is _ n es 1048576 (by omega) hl0) ?_
  simp (maxSteps := 9999999) -implicitDefEqProofs only [go_sem, mwp_draw]
  refine fun hs0 => ?_
  obtain ⟨g0, q0⟩ := szN_get (by omega) hs0
  refine callK_is (toGraph_is _ n es g0) ?_
  simp (maxSteps := 9999999) -implicitDefEqProofs only [go_sem, mwp_draw]
  try refine ⟨by kernel_rfl, ?_⟩
  refine callK_is (ChainsOfS_is _ n es (by omega)) ?_
  have hI := fun t => ChainsOf_is t n es (by omega)
  generalize chV n es = L at *
  simp (maxSteps := 9999999) -implicitDefEqProofs only [go_sem, mwp_draw]
  try refine ⟨by kernel_rfl, ?_⟩
  refine callK_is (toGraph_is _ n es g0) ?_
  simp (maxSteps := 9999999) -implicitDefEqProofs only [go_sem, mwp_draw]
  try refine ⟨by kernel_rfl, ?_⟩
  refine callK_any (hI _) ?_
  have kl := mkK_le L 1 (fun c hc => by have := vc c hc; omega)
  have rl := mkR_length L 1
  have e1 : L.take L.length = L := List.take_length
  have b1 : (mkK L 1 < 0) = False := eq_false (by omega)
  rintro o r ⟨rfl, ⟨hg, rfl⟩ | ⟨hg, hs, rfl⟩⟩
  · obtain rfl := v0 hg
    simp (maxSteps := 9999999) -implicitDefEqProofs only [go_sem, mwp_draw, encN_nil]
    have b0 : ((1 : Int) < 0) = False := eq_false (by omega)
    refine callK_is (eqIntSS0_is _ _) ?_
    simp (maxSteps := 9999999) -implicitDefEqProofs only [go_sem, mwp_draw, encN_nil]
    try refine ⟨by kernel_rfl, ?_⟩
    refine callK_is (toGraph_is _ n es g0) ?_
    simp (maxSteps := 9999999) -implicitDefEqProofs only [go_sem, mwp_draw]
    try refine ⟨by kernel_rfl, ?_⟩
    refine callK_is (eqGraph_is _ _ _ _ _ _ (by omega)) ?_
    simp (maxSteps := 9999999) -implicitDefEqProofs only [go_sem, mwp_draw]
    try refine ⟨by kernel_rfl, ?_⟩
    have b2 : ((1 : Int) + 2 * es.length < 0) = False := eq_false (by omega)
    refine callK_det (markGraph_is _ n es 1 (by omega) (by omega)) ?_
    simp (maxSteps := 9999999) -implicitDefEqProofs only [go_sem, mwp_draw, markE_length, markE_take, encN_nil, b2]
    refine callK_is (eqIntSS0_is _ _) ?_
    simp (maxSteps := 9999999) -implicitDefEqProofs only [go_sem, mwp_draw, encN_nil]
    try refine ⟨by kernel_rfl, ?_⟩
    refine callK_det (markIntSS0_is _ 1) ?_
    simp (maxSteps := 9999999) -implicitDefEqProofs only [go_sem, mwp_draw, encN_nil]
    try refine ⟨by kernel_rfl, ?_⟩
    refine callK_is (heldIntSS0_is _ 1 (by omega)) ?_
    simp (maxSteps := 9999999) -implicitDefEqProofs only [go_sem, mwp_draw, encN_nil, b0]
    try refine ⟨by kernel_rfl, ?_⟩
    refine callK_is (toGraph_is _ n es g0) ?_
    simp (maxSteps := 9999999) -implicitDefEqProofs only [go_sem, mwp_draw]
    try refine ⟨by kernel_rfl, ?_⟩
    refine callK_any (hI _) ?_
    rintro o r ⟨rfl, hr⟩
    obtain rfl : r = .ow true 1 [] := by rcases hr with ⟨_, h⟩ | ⟨h, _⟩; exact h; rw [hg] at h; cases h
    simp (maxSteps := 9999999) -implicitDefEqProofs only [go_sem, mwp_draw, encN_nil]
    try refine ⟨by kernel_rfl, ?_⟩
    refine callK_is (eqIntSS0_is _ _) ?_
    simp (maxSteps := 9999999) -implicitDefEqProofs only [go_sem, mwp_draw, encN_nil]
    try refine ⟨by kernel_rfl, ?_⟩
    refine callK_is (heldIntSS0_is _ 1 (by omega)) ?_
    simp (maxSteps := 9999999) -implicitDefEqProofs only [go_sem, mwp_draw, encN_nil, b0]
    try refine ⟨by kernel_rfl, ?_⟩
    first | done | (show _ = true; kernel_rfl) | exact ⟨by kernel_rfl, rfl⟩
  · simp (maxSteps := 9999999) -implicitDefEqProofs only [go_sem, mwp_draw]
    refine callK_is (eqIntSS_is _ _ L L (by omega) (fun c hc => by have := vc c hc; omega)) ?_
    simp (maxSteps := 9999999) -implicitDefEqProofs only [go_sem, mwp_draw, rl]
    try refine ⟨by kernel_rfl, ?_⟩
    refine callK_is (toGraph_is _ n es g0) ?_
    simp (maxSteps := 9999999) -implicitDefEqProofs only [go_sem, mwp_draw]
    try refine ⟨by kernel_rfl, ?_⟩
    refine callK_is (eqGraph_is _ _ _ _ _ _ (by omega)) ?_
    simp (maxSteps := 9999999) -implicitDefEqProofs only [go_sem, mwp_draw]
    try refine ⟨by kernel_rfl, ?_⟩
    have b2 : ((1 : Int) + 2 * es.length < 0) = False := eq_false (by omega)
    refine callK_det (markGraph_is _ n es 1 (by omega) (by omega)) ?_
    simp (maxSteps := 9999999) -implicitDefEqProofs only [go_sem, mwp_draw, markE_length, markE_take, encN_nil, b2]
    refine callK_is (eqIntSS_is _ _ L L (by omega) (fun c hc => by have := vc c hc; omega)) ?_
    simp (maxSteps := 9999999) -implicitDefEqProofs only [go_sem, mwp_draw, rl]
    try refine ⟨by kernel_rfl, ?_⟩
    refine callK_det (markIntSS_is hs L 1 (by omega) (by omega) (fun c hc => by have := vc c hc; omega)) ?_
    simp (maxSteps := 9999999) -implicitDefEqProofs only [go_sem, mwp_draw, rl, e1]
    try refine ⟨by kernel_rfl, ?_⟩
    refine callK_is (heldIntSS_is _ L 1 (by omega) (by omega) (fun c hc => by have := vc c hc; omega)) ?_
    simp (maxSteps := 9999999) -implicitDefEqProofs only [go_sem, mwp_draw, rl, e1, b1]
    try refine ⟨by kernel_rfl, ?_⟩
    refine callK_is (toGraph_is _ n es g0) ?_
    simp (maxSteps := 9999999) -implicitDefEqProofs only [go_sem, mwp_draw]
    try refine ⟨by kernel_rfl, ?_⟩
    refine callK_any (hI _) ?_
    rintro o r ⟨rfl, hr⟩
    obtain ⟨hs', rfl⟩ : ∃ hs', r = .on hs' 1 (rwI L) := by rcases hr with ⟨h, _⟩ | ⟨_, h⟩; rw [hg] at h; cases h; exact h
    simp (maxSteps := 9999999) -implicitDefEqProofs only [go_sem, mwp_draw]
    try refine ⟨by kernel_rfl, ?_⟩
    refine callK_is (eqIntSS_is _ _ L L (by omega) (fun c hc => by have := vc c hc; omega)) ?_
    simp (maxSteps := 9999999) -implicitDefEqProofs only [go_sem, mwp_draw, rl]
    try refine ⟨by kernel_rfl, ?_⟩
    refine callK_is (heldIntSS_is _ L 1 (by omega) (by omega) (fun c hc => by have := vc c hc; omega)) ?_
    simp (maxSteps := 9999999) -implicitDefEqProofs only [go_sem, mwp_draw, rl, e1, b1]
    try refine ⟨by kernel_rfl, ?_⟩
    first | done | (show _ = true; kernel_rfl) | exact ⟨by kernel_rfl, rfl⟩
theorem FnExactChainsOf_row (m0 : List MV) (h0 : msOK [.sc (.i .i64), .sl [.i .i64, .i .i64]] m0) : Is prog fid_laws_FnExactChainsOf [.agg m0] (.b true) := by
  obtain ⟨n0, l0, rfl, b0⟩ := gr_row h0
  exact FnExactChainsOf_is n0 l0 (Nat.le_trans b0 (by decide))
end Go.Fw
