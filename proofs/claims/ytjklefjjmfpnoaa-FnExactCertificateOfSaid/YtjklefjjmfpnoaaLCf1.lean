/-
  The certificate is the reference's.
-/
import Derived.Test.YtjklefjjmfpnoaaCtHg
import Derived.Test.YtjklefjjmfpnoaaCtCf
import Derived.Test.YtjklefjjmfpnoaaCtRow
import Derived.Test.YtjklefjjmfpnoaaKFnExactCertificateOf
namespace Go.Fw
set_option linter.unusedSimpArgs false
set_option linter.unusedVariables false
set_option maxRecDepth 100000
set_option maxHeartbeats 4000000
open Go.Proofs.Try (prog)
open Go.Pl

theorem FnExactCertificateOf_is (n : Int) (es : List E) (k : Int) (hl0 : es.length ≤ 9223372036854775807) : Is prog fid_laws_FnExactCertificateOf [Gr false n es, .i .i64 k] (.b true) := by
  have ht := ceV_len (n := n) (es := es) (k := k)
  refine MCall.run mixed get_laws_FnExactCertificateOf ok_laws_FnExactCertificateOf (Nat.le_of_ble_eq_true rfl) (by decide) ?_
  unfold mc_laws_FnExactCertificateOf
  simp (maxSteps := 9999999) -implicitDefEqProofs only [go_sem, mwp_draw]
  refine callK_is (szGraph_is _ n es 1048576 (by omega) hl0) ?_
  simp (maxSteps := 9999999) -implicitDefEqProofs only [go_sem, mwp_draw]
  refine fun hs0 => ?_
  obtain ⟨g0, q0⟩ := szN_get (by omega) hs0
  refine callK_is (toGraph_is _ n es g0) ?_
  simp (maxSteps := 9999999) -implicitDefEqProofs only [go_sem, mwp_draw]
  try refine ⟨by kernel_rfl, ?_⟩
  refine callK_is (CertificateOfS_is _ n es k (by omega)) ?_
  simp (maxSteps := 9999999) -implicitDefEqProofs only [go_sem, mwp_draw]
  try refine ⟨by kernel_rfl, ?_⟩
  refine callK_is (toGraph_is _ n es g0) ?_
  simp (maxSteps := 9999999) -implicitDefEqProofs only [go_sem, mwp_draw]
  try refine ⟨by kernel_rfl, ?_⟩
  refine callK_is (CertificateOf_is _ n es k (by omega)) ?_
  simp (maxSteps := 9999999) -implicitDefEqProofs only [go_sem, mwp_draw]
  try refine ⟨by kernel_rfl, ?_⟩
  refine callK_is (eqGraph_is _ _ _ _ _ _ (by omega)) ?_
  simp (maxSteps := 9999999) -implicitDefEqProofs only [go_sem, mwp_draw]
  try refine ⟨by kernel_rfl, ?_⟩
  refine callK_is (toGraph_is _ n es g0) ?_
  simp (maxSteps := 9999999) -implicitDefEqProofs only [go_sem, mwp_draw]
  try refine ⟨by kernel_rfl, ?_⟩
  refine callK_is (eqGraph_is _ _ _ _ _ _ (by omega)) ?_
  simp (maxSteps := 9999999) -implicitDefEqProofs only [go_sem, mwp_draw]
  try refine ⟨by kernel_rfl, ?_⟩
  refine callK_det (markGraph_is _ n es 1 (by omega) g0) ?_
  simp (maxSteps := 9999999) -implicitDefEqProofs only [go_sem, mwp_draw, markE_length, markE_take, markI_length, markI_take]
  try refine ⟨by kernel_rfl, ?_⟩
  first | refine ⟨fun h => ?_, fun h => by omega⟩ | refine ⟨fun h => by omega, fun h => ?_⟩ | refine fun h => ?_
  refine callK_is (eqGraph_is _ _ _ _ _ _ (by omega)) ?_
  simp (maxSteps := 9999999) -implicitDefEqProofs only [go_sem, mwp_draw, markE_length, markE_take, markI_length, markI_take]
  try refine ⟨by kernel_rfl, ?_⟩
  refine callK_det (markGraph_is _ (ceN n es k) (ceV n es k) 1 (by omega) (by omega)) ?_
  simp (maxSteps := 9999999) -implicitDefEqProofs only [go_sem, mwp_draw, markE_length, markE_take, markI_length, markI_take]
  try refine ⟨by kernel_rfl, ?_⟩
  refine callK_is (heldGraph_is _ (ceN n es k) (ceV n es k).length 1 (by omega) (by omega)) ?_
  simp (maxSteps := 9999999) -implicitDefEqProofs only [go_sem, mwp_draw, markE_length, markE_take, markI_length, markI_take]
  try refine ⟨by kernel_rfl, ?_⟩
  first | refine ⟨fun h => ?_, fun h => by omega⟩ | refine ⟨fun h => by omega, fun h => ?_⟩ | refine fun h => ?_
  refine callK_is (toGraph_is _ n es g0) ?_
  simp (maxSteps := 9999999) -implicitDefEqProofs only [go_sem, mwp_draw]
  try refine ⟨by kernel_rfl, ?_⟩
  refine callK_is (CertificateOf_is _ n es k (by omega)) ?_
  simp (maxSteps := 9999999) -implicitDefEqProofs only [go_sem, mwp_draw, markE_length, markE_take, markI_length, markI_take]
  try refine ⟨by kernel_rfl, ?_⟩
  refine callK_is (eqGraph_is _ _ _ _ _ _ (by omega)) ?_
  simp (maxSteps := 9999999) -implicitDefEqProofs only [go_sem, mwp_draw, markE_length, markE_take, markI_length, markI_take]
  try refine ⟨by kernel_rfl, ?_⟩
  refine callK_is (heldGraph_is _ (ceN n es k) (ceV n es k).length 1 (by omega) (by omega)) ?_
  simp (maxSteps := 9999999) -implicitDefEqProofs only [go_sem, mwp_draw, markE_length, markE_take, markI_length, markI_take]
  try refine ⟨by kernel_rfl, ?_⟩
  first | exact fun h => by omega | skip
theorem FnExactCertificateOf_row (m0 : List MV) (h0 : msOK [.sc (.i .i64), .sl [.i .i64, .i .i64]] m0) (x1 : Int) (_ : (Lit.int .i64 x1).wf = true) : Is prog fid_laws_FnExactCertificateOf [.agg m0, .i .i64 x1] (.b true) := by
  obtain ⟨n0, l0, rfl, b0⟩ := gr_row h0
  exact FnExactCertificateOf_is n0 l0 x1 (Nat.le_trans b0 (by decide))
end Go.Fw
