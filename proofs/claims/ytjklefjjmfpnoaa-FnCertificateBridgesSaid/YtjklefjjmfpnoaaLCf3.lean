/-
  Certificates know parts, bridges and safe parts.
-/
import Derived.Test.YtjklefjjmfpnoaaLCf2
import Derived.Test.YtjklefjjmfpnoaaKFnCertificateBridges
namespace Go.Fw
set_option linter.unusedSimpArgs false
set_option linter.unusedVariables false
set_option maxRecDepth 100000
set_option maxHeartbeats 4000000
open Go.Proofs.Try (prog)
open Go.Pl

def sfL (n : Int) (es : List E) : List Int := labL n (es.filter fun x => !brB n es x)
theorem safeParts_is (t : Bool) (n : Int) (es : List E) (hg : GE n es) : Is prog fid_impl_Graph_safeParts [Gr t n es] (.ow true 1 (encI (sfL n es))) := by
  have hl := hg.2.2.1
  refine MCall.run mixed get_impl_Graph_safeParts ok_impl_Graph_safeParts (Nat.le_of_ble_eq_true rfl) (by decide) ?_
  unfold mc_impl_Graph_safeParts
  simp (maxSteps := 9999999) -implicitDefEqProofs only [go_sem, mwp_draw]
  refine ⟨tdm es, tst (brB n es), bridges_test _ hg rfl rfl, ?_⟩
  refine callK_is (without_is _ n es _ _ _ (tests_tst es _) hl) ?_
  simp (maxSteps := 9999999) -implicitDefEqProofs only [go_sem, mwp_draw]
  refine callK_is (parts_is _ n _ (GE_filter hg _)) ?_
  simp (maxSteps := 9999999) -implicitDefEqProofs only [go_sem, mwp_draw]
  first | done | rfl
def sfV (n : Int) (es : List E) : List Int := if gvB n es then sfL n es else []
theorem SafeParts_is (t : Bool) (n : Int) (es : List E) (hl : es.length ≤ 1048576) : Is prog fid_impl_SafeParts [Gr t n es] (.ow true 1 (encI (sfV n es))) := by
  refine MCall.run mixed get_impl_SafeParts ok_impl_SafeParts (Nat.le_of_ble_eq_true rfl) (by decide) ?_
  unfold mc_impl_SafeParts
  simp (maxSteps := 9999999) -implicitDefEqProofs only [go_sem, mwp_draw]
  refine callK_is (GraphValid_is _ n es hl) ?_
  cases h : gvB n es
  · simp (maxSteps := 9999999) -implicitDefEqProofs only [go_sem, mwp_draw]
    simp [sfV, h, encI]
  · simp (maxSteps := 9999999) -implicitDefEqProofs only [go_sem, mwp_draw]
    refine callK_is (safeParts_is _ n es (GE_of (gvB_iff.1 h))) ?_
    simp (maxSteps := 9999999) -implicitDefEqProofs only [go_sem, mwp_draw]
    simp [sfV, h]
theorem DrawCertificateOf_is (t : Bool) (b : List Int) (hb : Byt b) : MCall prog fid_spec_DrawCertificateOf [.s t 1 (encB b)]
    (fun o r => o = [.u] ∧ ∃ n es k, r = .tup [.agg [.i .i64 n, .ow true 2 (encE es)], .i .i64 k] ∧ es.length ≤ 200) := by
  refine MCall.run mixed get_spec_DrawCertificateOf ok_spec_DrawCertificateOf (Nat.le_of_ble_eq_true rfl) (by decide) ?_
  unfold mc_spec_DrawCertificateOf
  simp (maxSteps := 9999999) -implicitDefEqProofs only [go_sem, mwp_draw]
  refine callK_any (DrawForestsOf_is _ b hb) ?_
  rintro o r ⟨rfl, n, es, k, rfl, w1⟩
  simp (maxSteps := 9999999) -implicitDefEqProofs only [go_sem, mwp_draw]
  first | done | exact ⟨n, es, k, rfl, w1⟩
theorem FnCertificateBridges_is (t : Bool) (b : List Int) (hb : Byt b) : Is prog fid_laws_FnCertificateBridges [.s t 1 (encB b)] (.b true) := by
  refine MCall.run mixed get_laws_FnCertificateBridges ok_laws_FnCertificateBridges (Nat.le_of_ble_eq_true rfl) (by decide) ?_
  unfold mc_laws_FnCertificateBridges
  simp (maxSteps := 9999999) -implicitDefEqProofs only [go_sem, mwp_draw]
  refine fun hlen => callK_any (DrawCertificateOf_is _ b hb) ?_
  rintro o r ⟨rfl, n, es, k, rfl, w1⟩
  simp (maxSteps := 9999999) -implicitDefEqProofs only [go_sem, mwp_draw]
  refine callK_is (CertificateOf_is _ n es k (by omega)) ?_
  simp (maxSteps := 9999999) -implicitDefEqProofs only [go_sem, mwp_draw]
  refine callK_is (CertificateOfS_is _ n es k (by omega)) ?_
  have cl := ceV_len (n := n) (es := es) (k := k)
  simp (maxSteps := 9999999) -implicitDefEqProofs only [go_sem, mwp_draw]
  refine callK_is (GraphSame_is _ _ (ceN n es k) (ceV n es k) (ceN n es k) (ceV n es k) (by omega)) ?_
  cases q : fsB n es k
  · simp (maxSteps := 9999999) -implicitDefEqProofs only [go_sem, mwp_draw]
    refine callK_is (GraphSame_is _ _ (ceN n es k) (ceV n es k) (ceN n es k) (ceV n es k) (by omega)) ?_
    simp (maxSteps := 9999999) -implicitDefEqProofs only [go_sem, mwp_draw]
  · have q' := q
    simp only [fsB, Bool.and_eq_true, decide_eq_true_eq] at q'
    have hgv := q'.1.1
    have hv := gvB_iff.1 hgv
    have hc : ceV n es k = cer n k.toNat es := by simp [ceV, q]
    have hn : ceN n es k = n := by simp [ceN, q]
    have hgc := gv_cer (n := n) hgv (k := k.toNat)
    rw [hc, hn]
    rw [hc] at cl
    have n0 : (0:Int) ≤ n := by have := hv.1; omega
    by_cases h1 : k < 1
    · have e0 : k.toNat = 0 := by omega
      have c1 : (k < 1) = True := eq_true h1
      simp (maxSteps := 9999999) -implicitDefEqProofs only [go_sem, mwp_draw, c1]
      rw [e0, cer_zero]
      first | done | rfl
    · have hk1 : 1 ≤ k.toNat := by omega
      have c1 : (k < 1) = False := eq_false h1
      have lab : labV n (cer n k.toNat es) = labV n es := by
        simp only [labV, hgv, hgc, if_true]
        exact cer_lab hv.2.2.2.1 n0 hk1
      simp (maxSteps := 9999999) -implicitDefEqProofs only [go_sem, mwp_draw, c1]
      refine callK_is (BridgesOf_is _ n es (by omega)) ?_
      have ll := labV_len (n := n) (es := es)
      by_cases h2 : k < 2
      · have c2 : (k < 2) = True := eq_true h2
        simp (maxSteps := 9999999) -implicitDefEqProofs only [go_sem, mwp_draw]
        refine callK_is (PartsOf_is _ n (cer n k.toNat es) (by omega)) ?_
        simp (maxSteps := 9999999) -implicitDefEqProofs only [go_sem, mwp_draw]
        refine callK_is (PartsOf_is _ n es (by omega)) ?_
        rw [lab]
        simp (maxSteps := 9999999) -implicitDefEqProofs only [go_sem, mwp_draw]
        refine callK_is (dyInts_is _ _ (labV n es) (labV n es) (by omega)) ?_
        simp (maxSteps := 9999999) -implicitDefEqProofs only [go_sem, mwp_draw, c2]
        first | done | (show _ = true; kernel_rfl) | exact ⟨by kernel_rfl, rfl⟩
      · have c2 : (k < 2) = False := eq_false h2
        have hk2 : 2 ≤ k.toNat := by omega
        have brs : brV n (cer n k.toNat es) = brV n es := by
          simp only [brV, brL, hgv, hgc, if_true]
          exact cer_bridges hgv hk2
        have sfs : sfV n (cer n k.toNat es) = sfV n es := by
          simp only [sfV, sfL, hgv, hgc, if_true]
          exact cer_safe hgv hk2
        have bl : (brV n es).length ≤ 2000000 := by
          simp only [brV, brL, hgv, if_true]
          exact Nat.le_trans (List.length_filter_le _ _) (by omega)
        have sl : (sfV n es).length ≤ 2000000 := by
          simp only [sfV, sfL, hgv, if_true, labL_length]
          have := hv.2.1; omega
        simp (maxSteps := 9999999) -implicitDefEqProofs only [go_sem, mwp_draw]
        refine callK_is (PartsOf_is _ n (cer n k.toNat es) (by omega)) ?_
        simp (maxSteps := 9999999) -implicitDefEqProofs only [go_sem, mwp_draw]
        refine callK_is (PartsOf_is _ n es (by omega)) ?_
        rw [lab]
        simp (maxSteps := 9999999) -implicitDefEqProofs only [go_sem, mwp_draw]
        refine callK_is (dyInts_is _ _ (labV n es) (labV n es) (by omega)) ?_
        simp (maxSteps := 9999999) -implicitDefEqProofs only [go_sem, mwp_draw, c2]
        refine callK_is (BridgesOf_is _ n (cer n k.toNat es) (by omega)) ?_
        rw [brs]
        simp (maxSteps := 9999999) -implicitDefEqProofs only [go_sem, mwp_draw]
        refine callK_is (dyEdges_is _ _ (brV n es) (brV n es) bl) ?_
        simp (maxSteps := 9999999) -implicitDefEqProofs only [go_sem, mwp_draw]
        refine callK_is (SafeParts_is _ n (cer n k.toNat es) (by omega)) ?_
        rw [sfs]
        simp (maxSteps := 9999999) -implicitDefEqProofs only [go_sem, mwp_draw]
        refine callK_is (SafeParts_is _ n es (by omega)) ?_
        simp (maxSteps := 9999999) -implicitDefEqProofs only [go_sem, mwp_draw]
        refine callK_is (dyInts_is _ _ (sfV n es) (sfV n es) sl) ?_
        simp (maxSteps := 9999999) -implicitDefEqProofs only [go_sem, mwp_draw]
        first | done | (show _ = true; kernel_rfl) | exact ⟨by kernel_rfl, rfl⟩
theorem FnCertificateBridges_row (m : List (List D)) (h : ∀ r ∈ m, rowOK [.i .u8] r) (_ : m.length ≤ maxLen) : Is prog fid_laws_FnCertificateBridges [.s false 1 m] (.b true) := by
  obtain ⟨b, rfl, hb⟩ := rows_bytes h
  exact FnCertificateBridges_is _ b hb
end Go.Fw
