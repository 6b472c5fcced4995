/-
  slices.Equal, the same graph, draws of wrong graphs with a known result.
-/
import Derived.Test.YtjklefjjmfpnoaaCtM
import Derived.Test.YtjklefjjmfpnoaaCtH
namespace Go.Fw
set_option linter.unusedSimpArgs false
set_option linter.unusedVariables false
set_option maxRecDepth 100000
set_option maxHeartbeats 4000000
open Go.Proofs.Try (prog)
open Go.Pl

theorem EqualE_is (t t' : Bool) (l m : List E) (hl : l.length ≤ 1048576) : Is prog fid_slices_Equal_impl_Edge_impl_Edge [.s t 2 (encE l), .s t' 2 (encE m)] (.b (decide (l = m))) := by
  refine MCall.run mixed get_slices_Equal_impl_Edge_impl_Edge ok_slices_Equal_impl_Edge_impl_Edge (Nat.le_of_ble_eq_true rfl) (by decide) ?_
  unfold mc_slices_Equal_impl_Edge_impl_Edge
  simp (maxSteps := 9999999) -implicitDefEqProofs only [go_sem, mwp_draw]
  refine ⟨fun h => mvb (eq_len h).symm, fun h => ?_⟩
  refine mwp_loopk (X := Nat) (fun i => ⟨[(0, .s t 2 (encE l)), (1, .s t' 2 (encE m)), (12, .i .i64 l.length), (13, .i .i64 i)], [], 0⟩) (fun i => i ≤ l.length ∧ l.take i = m.take i) (fun i => l.length - i) 0 rfl (by simp) ?_
  rintro i ⟨h1, h2⟩ K kN kE kR
  simp (maxSteps := 9999999) -implicitDefEqProofs only [go_sem, mwp_draw]
  refine ⟨fun h3 => ⟨by omega, h3, fun x hx => ⟨by omega, by omega, fun y hy => ⟨by kernel_rfl, fun h4 => kR _ ?_, fun h4 => ⟨fits64 (by omega) (by omega), kN _ (i + 1) (by rfl) ⟨by omega, eq_step h2 hx hy h4⟩ (by omega)⟩⟩⟩⟩, fun h3 => kE _ _ ?_⟩
  · simp (maxSteps := 9999999) -implicitDefEqProofs only [go_sem, mwp_draw]
    exact mvb (eq_ne hx hy (by simpa using h4)).symm
  · simp (maxSteps := 9999999) -implicitDefEqProofs only [go_sem, mwp_draw]
    obtain rfl : i = l.length := by omega
    exact mvb (eq_end (by omega) h2).symm
theorem GraphSame_is (t t' : Bool) (n : Int) (es : List E) (m : Int) (fs : List E) (hl : es.length ≤ 1048576) : Is prog fid_impl_GraphSame [Gr t n es, Gr t' m fs] (.b (decide (n = m) && decide (es = fs))) := by
  refine MCall.run mixed get_impl_GraphSame ok_impl_GraphSame (Nat.le_of_ble_eq_true rfl) (by decide) ?_
  unfold mc_impl_GraphSame
  by_cases h : n = m
  · have h' : (n = m) = True := eq_true h
    simp (maxSteps := 9999999) -implicitDefEqProofs only [go_sem, mwp_draw, h']
    refine callK_is (EqualE_is _ _ es fs hl) ?_
    simp (maxSteps := 9999999) -implicitDefEqProofs only [go_sem, mwp_draw, h']
    first | done | exact mvb (by simp)
  · have h' : (n = m) = False := eq_false h
    simp (maxSteps := 9999999) -implicitDefEqProofs only [go_sem, mwp_draw, h']
    first | done | exact mvb (by simp)
theorem l1Wrong_det (c : List Int) (p : Int) (t : Bool) (n : Int) (es : List E) (hb : Byt c) (hc : c.length ≤ 2000) (hp : 0 ≤ p ∧ p ≤ 100000000) (hl : es.length ≤ 10000) (hn : -1 ≤ n ∧ n ≤ 17) :
    ∃ p' n' es', p ≤ p' ∧ p' ≤ p + 10 ∧ -1 ≤ n' ∧ n' ≤ 17 ∧ es'.length ≤ es.length + 1 ∧ MCall prog fid_spec_l1Wrong [.pw [.s true 1 (encB c), .i .i64 p], Gr t n es] (fun o r => o = [.pw [.s true 1 (encB c), .i .i64 p'], .u] ∧ r = .agg [.i .i64 n', .ow true 2 (encE es')]) := by
  by_cases q1 : 0 < pickM c p 16
  · refine ⟨p + 1, n, es, by omega, by omega, by omega, by omega, by omega, ?_⟩
    refine MCall.run mixed get_spec_l1Wrong ok_spec_l1Wrong (Nat.le_of_ble_eq_true rfl) (by decide) ?_
    unfold mc_spec_l1Wrong
    simp (maxSteps := 9999999) -implicitDefEqProofs only [go_sem, mwp_draw]
    refine callK_is (l1Copy_is _ n es (by omega)) ?_
    simp (maxSteps := 9999999) -implicitDefEqProofs only [go_sem, mwp_draw]
    refine callK_det (pick_is c p 16 hb hc (by omega) (by omega)) ?_
    simp (maxSteps := 9999999) -implicitDefEqProofs only [go_sem, mwp_draw, q1]
  by_cases q2 : (es.length : Int) = 0
  · refine ⟨p + 1, n, es, by omega, by omega, by omega, by omega, by omega, ?_⟩
    refine MCall.run mixed get_spec_l1Wrong ok_spec_l1Wrong (Nat.le_of_ble_eq_true rfl) (by decide) ?_
    unfold mc_spec_l1Wrong
    simp (maxSteps := 9999999) -implicitDefEqProofs only [go_sem, mwp_draw]
    refine callK_is (l1Copy_is _ n es (by omega)) ?_
    simp (maxSteps := 9999999) -implicitDefEqProofs only [go_sem, mwp_draw]
    refine callK_det (pick_is c p 16 hb hc (by omega) (by omega)) ?_
    simp (maxSteps := 9999999) -implicitDefEqProofs only [go_sem, mwp_draw, q1, q2]
  have r1 := pick_rng (b := c) (p := p + 1) es.length hb hc (by omega)
  obtain ⟨k, hk⟩ : ∃ k, pickM c (p + 1) es.length = k := ⟨_, rfl⟩
  obtain ⟨m, hm⟩ : ∃ m, pickM c (p + 1 + 1) 5 = m := ⟨_, rfl⟩
  rw [hk] at r1
  have r2 := r1.2 (by omega)
  obtain ⟨x, hx⟩ : ∃ x, es[k.toNat]? = some x := ⟨es[k.toNat], List.getElem?_eq_getElem (by omega)⟩
  by_cases w0 : m = 0
  · refine ⟨p + 1 + 1 + 1 + 1, n, es.set k.toNat (x.1, numM c (p + 1 + 1 + 1) [16, -1, 0]), by omega, by omega, by omega, by omega, by simp, ?_⟩
    refine MCall.run mixed get_spec_l1Wrong ok_spec_l1Wrong (Nat.le_of_ble_eq_true rfl) (by decide) ?_
    unfold mc_spec_l1Wrong
    simp (maxSteps := 9999999) -implicitDefEqProofs only [go_sem, mwp_draw]
    refine callK_is (l1Copy_is _ n es (by omega)) ?_
    simp (maxSteps := 9999999) -implicitDefEqProofs only [go_sem, mwp_draw]
    refine callK_det (pick_is c p 16 hb hc (by omega) (by omega)) ?_
    simp (maxSteps := 9999999) -implicitDefEqProofs only [go_sem, mwp_draw, q1, q2]
    refine callK_det (pick_is c (p + 1) es.length hb hc (by omega) (by omega)) ?_
    rw [hk]
    simp (maxSteps := 9999999) -implicitDefEqProofs only [go_sem, mwp_draw]
    refine callK_det (pick_is c (p + 1 + 1) 5 hb hc (by omega) (by omega)) ?_
    rw [hm]
    have b0 : (m = 0) = True := eq_true w0
    simp (maxSteps := 9999999) -implicitDefEqProofs only [go_sem, mwp_draw, b0]
    refine callK_det (num_is _ c (p + 1 + 1 + 1) [16, -1, 0] hb hc (by omega) (by decide)) ?_
    generalize numM c (p + 1 + 1 + 1) [16, -1, 0] = v
    simp (maxSteps := 9999999) -implicitDefEqProofs only [go_sem, mwp_draw, b0]
    refine ⟨by omega, by omega, by omega, fun y hy => ?_⟩
    obtain rfl : x = y := by rw [hx] at hy; exact Option.some.inj hy
    first | exact ⟨by kernel_rfl, rfl⟩ | exact ⟨by kernel_rfl, rfl, rfl⟩ | (show _ = true; kernel_rfl)
  by_cases w1 : m = 1
  · have hmm := num_mem (p := p + 1 + 1 + 1) (l := [0, 17, 1]) hb hc (by omega) (by decide)
    obtain ⟨v, hv⟩ : ∃ v, numM c (p + 1 + 1 + 1) [0, 17, 1] = v := ⟨_, rfl⟩
    rw [hv] at hmm
    have hv2 : 0 ≤ v ∧ v ≤ 17 := by simp at hmm; omega
    refine ⟨p + 1 + 1 + 1 + 1, v, es, by omega, by omega, by omega, by omega, by omega, ?_⟩
    refine MCall.run mixed get_spec_l1Wrong ok_spec_l1Wrong (Nat.le_of_ble_eq_true rfl) (by decide) ?_
    unfold mc_spec_l1Wrong
    simp (maxSteps := 9999999) -implicitDefEqProofs only [go_sem, mwp_draw]
    refine callK_is (l1Copy_is _ n es (by omega)) ?_
    simp (maxSteps := 9999999) -implicitDefEqProofs only [go_sem, mwp_draw]
    refine callK_det (pick_is c p 16 hb hc (by omega) (by omega)) ?_
    simp (maxSteps := 9999999) -implicitDefEqProofs only [go_sem, mwp_draw, q1, q2]
    refine callK_det (pick_is c (p + 1) es.length hb hc (by omega) (by omega)) ?_
    rw [hk]
    simp (maxSteps := 9999999) -implicitDefEqProofs only [go_sem, mwp_draw]
    refine callK_det (pick_is c (p + 1 + 1) 5 hb hc (by omega) (by omega)) ?_
    rw [hm]
    have b0 : (m = 0) = False := eq_false w0
    have b1 : (m = 1) = True := eq_true w1
    simp (maxSteps := 9999999) -implicitDefEqProofs only [go_sem, mwp_draw, b0, b1]
    refine callK_det (num_is _ c (p + 1 + 1 + 1) [0, 17, 1] hb hc (by omega) (by decide)) ?_
    rw [hv]
    simp (maxSteps := 9999999) -implicitDefEqProofs only [go_sem, mwp_draw, b0, b1]
  by_cases w2 : m = 2
  · refine ⟨p + 1 + 1 + 1, n, es ++ [x], by omega, by omega, by omega, by omega, by simp, ?_⟩
    refine MCall.run mixed get_spec_l1Wrong ok_spec_l1Wrong (Nat.le_of_ble_eq_true rfl) (by decide) ?_
    unfold mc_spec_l1Wrong
    simp (maxSteps := 9999999) -implicitDefEqProofs only [go_sem, mwp_draw]
    refine callK_is (l1Copy_is _ n es (by omega)) ?_
    simp (maxSteps := 9999999) -implicitDefEqProofs only [go_sem, mwp_draw]
    refine callK_det (pick_is c p 16 hb hc (by omega) (by omega)) ?_
    simp (maxSteps := 9999999) -implicitDefEqProofs only [go_sem, mwp_draw, q1, q2]
    refine callK_det (pick_is c (p + 1) es.length hb hc (by omega) (by omega)) ?_
    rw [hk]
    simp (maxSteps := 9999999) -implicitDefEqProofs only [go_sem, mwp_draw]
    refine callK_det (pick_is c (p + 1 + 1) 5 hb hc (by omega) (by omega)) ?_
    rw [hm]
    have b0 : (m = 0) = False := eq_false w0
    have b1 : (m = 1) = False := eq_false w1
    have b2 : (m = 2) = True := eq_true w2
    simp (maxSteps := 9999999) -implicitDefEqProofs only [go_sem, mwp_draw, b0, b1, b2]
    refine ⟨by omega, by omega, by omega, fun y hy => ?_⟩
    obtain rfl : x = y := by rw [hx] at hy; exact Option.some.inj hy
    refine ⟨by omega, ?_⟩
    first | exact ⟨by kernel_rfl, rfl⟩ | exact ⟨by kernel_rfl, rfl, rfl⟩ | (show _ = true; kernel_rfl)
  · refine ⟨p + 1 + 1 + 1, n, es, by omega, by omega, by omega, by omega, by omega, ?_⟩
    refine MCall.run mixed get_spec_l1Wrong ok_spec_l1Wrong (Nat.le_of_ble_eq_true rfl) (by decide) ?_
    unfold mc_spec_l1Wrong
    simp (maxSteps := 9999999) -implicitDefEqProofs only [go_sem, mwp_draw]
    refine callK_is (l1Copy_is _ n es (by omega)) ?_
    simp (maxSteps := 9999999) -implicitDefEqProofs only [go_sem, mwp_draw]
    refine callK_det (pick_is c p 16 hb hc (by omega) (by omega)) ?_
    simp (maxSteps := 9999999) -implicitDefEqProofs only [go_sem, mwp_draw, q1, q2]
    refine callK_det (pick_is c (p + 1) es.length hb hc (by omega) (by omega)) ?_
    rw [hk]
    simp (maxSteps := 9999999) -implicitDefEqProofs only [go_sem, mwp_draw]
    refine callK_det (pick_is c (p + 1 + 1) 5 hb hc (by omega) (by omega)) ?_
    rw [hm]
    have b0 : (m = 0) = False := eq_false w0
    have b1 : (m = 1) = False := eq_false w1
    have b2 : (m = 2) = False := eq_false w2
    simp (maxSteps := 9999999) -implicitDefEqProofs only [go_sem, mwp_draw, b0, b1, b2]
end Go.Fw
