/-
  Draws of graphs for the laws on chains.
-/
import Derived.Test.YtjklefjjmfpnoaaCtM
import Derived.Test.YtjklefjjmfpnoaaCtP
import Derived.Test.YtjklefjjmfpnoaaCtG8
import Derived.Test.YtjklefjjmfpnoaaCtG5
import Derived.Test.YtjklefjjmfpnoaaCtCo
import Derived.Test.YtjklefjjmfpnoaaPlC4
namespace Go.Fw
set_option linter.unusedSimpArgs false
set_option linter.unusedVariables false
set_option maxRecDepth 100000
set_option maxHeartbeats 8000000
open Go.Proofs.Try (prog)
open Go.Pl

abbrev DrW (o : List MV) (r : MV) : Prop := o = [.u] ∧ ∃ n es, r = .agg [.i .i64 n, .ow true 2 (encE es)] ∧ -1 ≤ n ∧ n ≤ 17 ∧ es.length ≤ 200
theorem DrawGraphValid_is (t : Bool) (b : List Int) (hb : Byt b) : MCall prog fid_spec_DrawGraphValid [.s t 1 (encB b)] DrW := by
  refine MCall.run mixed get_spec_DrawGraphValid ok_spec_DrawGraphValid (Nat.le_of_ble_eq_true rfl) (by decide) ?_
  unfold mc_spec_DrawGraphValid
  have hb' := byt_take2 hb 2000
  have hc' : (b.take 2000).length ≤ 2000 := by simp; omega
  simp (maxSteps := 9999999) -implicitDefEqProofs only [go_sem, mwp_draw]
  refine callK_is (l14Open_is b) ?_
  simp (maxSteps := 9999999) -implicitDefEqProofs only [go_sem, mwp_draw]
  generalize b.take 2000 = c at hb' hc'
  refine callK_any (l1Draw_is c 0 hb' hc' (by omega)) ?_
  rintro o r ⟨p, n, es, rfl, rfl, w1, w2, w3, w4, w5⟩
  simp (maxSteps := 9999999) -implicitDefEqProofs only [go_sem, mwp_draw]
  refine callK_any (l1Wrong_is c p _ n es hb' hc' (by omega) (by omega) (by omega)) ?_
  rintro o r ⟨p2, n2, es2, rfl, rfl, v1, v2, v3, v4, v5⟩
  simp (maxSteps := 9999999) -implicitDefEqProofs only [go_sem, mwp_draw]
  refine callK_any (l1Wrong_is c p2 _ n2 es2 hb' hc' (by omega) (by omega) (by omega)) ?_
  rintro o r ⟨p3, n3, es3, rfl, rfl, x1, x2, x3, x4, x5⟩
  simp (maxSteps := 9999999) -implicitDefEqProofs only [go_sem, mwp_draw]
  refine callK_any (l1Wrong_is c p3 _ n3 es3 hb' hc' (by omega) (by omega) (by omega)) ?_
  rintro o r ⟨p4, n4, es4, rfl, rfl, y1, y2, y3, y4, y5⟩
  simp (maxSteps := 9999999) -implicitDefEqProofs only [go_sem, mwp_draw]
  exact ⟨rfl, n4, es4, rfl, y3, y4, by omega⟩
theorem dyEdges_is (t t' : Bool) (l m : List E) (hl : l.length ≤ 2000000) : Is prog fid_laws_dyEdges [.s t 2 (encE l), .s t' 2 (encE m)] (.b (decide (l = m))) := by
  refine MCall.run mixed get_laws_dyEdges ok_laws_dyEdges (Nat.le_of_ble_eq_true rfl) (by decide) ?_
  unfold mc_laws_dyEdges
  simp (maxSteps := 9999999) -implicitDefEqProofs only [go_sem, mwp_draw]
  refine ⟨fun h => mvb (eq_len h).symm, fun h => ?_⟩
  refine mwp_loopk (X := Nat) (fun i => ⟨[(0, .s t 2 (encE l)), (1, .s t' 2 (encE m)), (5, .i .i64 i)], [], 0⟩) (fun i => i ≤ l.length ∧ l.take i = m.take i) (fun i => l.length - i) 0 rfl (by simp) ?_
  rintro i ⟨h1, h2⟩ K kN kE kR
  simp (maxSteps := 9999999) -implicitDefEqProofs only [go_sem, mwp_draw]
  refine ⟨fun h3 => ⟨by omega, h3, fun x hx => ⟨by omega, by omega, fun y hy => ⟨by kernel_rfl, fun h4 => kR _ ?_, fun h4 => ⟨fits64 (by omega) (by omega), kN _ (i + 1) (by rfl) ⟨by omega, eq_step h2 hx hy (by simpa using h4)⟩ (by omega)⟩⟩⟩⟩, fun h3 => kE _ _ ?_⟩
  · simp (maxSteps := 9999999) -implicitDefEqProofs only [go_sem, mwp_draw]
    exact mvb (eq_ne hx hy (by simpa using h4)).symm
  · simp (maxSteps := 9999999) -implicitDefEqProofs only [go_sem, mwp_draw]
    obtain rfl : i = l.length := by omega
    exact mvb (eq_end (by omega) h2).symm
theorem IsBridge_is (t : Bool) (n : Int) (es : List E) (e : E) (hl : es.length ≤ 1048576) : Is prog fid_impl_IsBridge [Gr t n es, Ed1 e] (.b (gvB n es && decide (e ∈ es) && brB n es e)) := by
  refine MCall.run mixed get_impl_IsBridge ok_impl_IsBridge (Nat.le_of_ble_eq_true rfl) (by decide) ?_
  unfold mc_impl_IsBridge
  simp (maxSteps := 9999999) -implicitDefEqProofs only [go_sem, mwp_draw]
  refine callK_is (HasEdge_is _ n es e hl) ?_
  cases h : gvB n es && decide (e ∈ es) with
  | false =>
    simp (maxSteps := 9999999) -implicitDefEqProofs only [go_sem, mwp_draw]
    first | done | rfl | simp
  | true =>
    have h' : gvB n es = true ∧ e ∈ es := by simpa using h
    have hv := gvB_iff.1 h'.1
    simp (maxSteps := 9999999) -implicitDefEqProofs only [go_sem, mwp_draw]
    refine callK_is (isBridge_is _ n es e (GE_of hv) (hv.2.2.2.1 e h'.2)) ?_
    simp (maxSteps := 9999999) -implicitDefEqProofs only [go_sem, mwp_draw]
    first | done | rfl | simp
theorem chV_count {n : Int} {es : List E} (hg : gvB n es = true) : (chV n es).length + (forest n es).length = es.length := by
  have hv := gvB_iff.1 hg
  have hn1 := hv.1
  have h := srch_nf hv.2.2.2.1 (by omega : 0 ≤ n)
  unfold chV
  rw [if_pos hg, (h.chains hv.2.2.2.1).1]
  exact h.count_all (by omega) hv.2.2.2.1 hv.2.2.2.2
end Go.Fw
