/-
  Graphs: valid graphs.
-/
import Derived.Test.YtjklefjjmfpnoaaCtG
namespace Go.Fw
set_option linter.unusedSimpArgs false
set_option linter.unusedVariables false
set_option maxRecDepth 100000
set_option maxHeartbeats 4000000
open Go.Proofs.Try (prog)
open Go.Pl

theorem gv_sz {n : Int} {es : List E} (h : ¬ (1 ≤ n ∧ n ≤ 16 ∧ es.length ≤ 40)) : MV.b false = MV.b (gvB n es) := mvb (by
  symm; rw [gvB_no]; intro g; exact h ⟨g.1, g.2.1, g.2.2.1⟩)
theorem gv_bad {n : Int} {es : List E} {i : Nat} {e : E} (he : es[i]? = some e) (h : ¬ EIn n e) : gvB n es = false := by
  rw [gvB_no]; intro g; exact h (g.2.2.2.1 e (List.mem_of_getElem? he))
theorem gv_ord {n : Int} {es : List E} {i : Nat} {d e : E} (hd : es[i]? = some d) (he : es[i + 1]? = some e) (h : ¬ eLt d e) : gvB n es = false := by
  rw [gvB_no]; intro g; exact h (GV_next g hd he)
theorem GraphValid_is (t : Bool) (n : Int) (es : List E) (hl : es.length ≤ 1048576) : Is prog fid_impl_GraphValid [Gr t n es] (.b (gvB n es)) := by
  refine MCall.run mixed get_impl_GraphValid ok_impl_GraphValid (Nat.le_of_ble_eq_true rfl) (by decide) ?_
  unfold mc_impl_GraphValid
  simp (maxSteps := 9999999) -implicitDefEqProofs only [go_sem, mwp_draw]
  refine ⟨fun a1 => ⟨fun a2 => ⟨fun a3 => gv_sz (by omega), fun a3 => ?_⟩, fun a2 => gv_sz (by omega)⟩, fun a1 => gv_sz (by omega)⟩
  refine mwp_loopk (X := Nat) (fun i => ⟨[(1, .pr 0 0 0), (20, .s t 2 (encE es)), (21, .i .i64 es.length), (22, .i .i64 i)], [(0, .box [.i .i64 n, .s t 2 (encE es)])], 1⟩)
    (fun i => i ≤ es.length ∧ GPre n es i) (fun i => es.length - i) 0 (by rfl) ⟨Nat.zero_le _, GPre_zero⟩ ?_
  rintro i ⟨h1, h2⟩ K kN kE kR
  simp (maxSteps := 9999999) -implicitDefEqProofs only [go_sem]
  refine ⟨fun h4 => ⟨by omega, h4, fun e he => ?_⟩, fun h4 => kE _ _ ?_⟩
  · have bad : gvB n es = false → ∀ hp nx, K .ret ⟨[(2, .b false)], hp, nx⟩ := fun h hp nx => kR _ (by
      simp (maxSteps := 9999999) -implicitDefEqProofs only [go_sem, mwp_draw]
      exact mvb h.symm)
    have good : EIn n e → (∀ j, i = j + 1 → ∀ d, es[j]? = some d → eLt d e) → ∀ s', norm [1, 20, 21, 22] s' = ⟨[(1, .pr 0 0 0), (20, .s t 2 (encE es)), (21, .i .i64 es.length), (22, .i .i64 (i + 1))], [(0, .box [.i .i64 n, .s t 2 (encE es)])], 1⟩ → K .normal s' :=
      fun a b s' hs => kN _ (i + 1) hs ⟨by omega, GPre_succ h2 he a b⟩ (by omega)
    by_cases c1 : e.1 < 0
    · simp (maxSteps := 9999999) -implicitDefEqProofs only [go_sem, mwp_draw, c1]
      exact ⟨by kernel_rfl, bad (gv_bad he (by unfold EIn; omega)) _ _⟩
    by_cases c2 : e.2 ≤ e.1
    · simp (maxSteps := 9999999) -implicitDefEqProofs only [go_sem, mwp_draw, c1, c2]
      exact ⟨by kernel_rfl, bad (gv_bad he (by unfold EIn; omega)) _ _⟩
    by_cases c3 : n ≤ e.2
    · simp (maxSteps := 9999999) -implicitDefEqProofs only [go_sem, mwp_draw, c1, c2, c3]
      exact ⟨by kernel_rfl, bad (gv_bad he (by unfold EIn; omega)) _ _⟩
    cases i with
    | zero =>
      simp (maxSteps := 9999999) -implicitDefEqProofs only [go_sem, mwp_draw, c1, c2, c3, Int.lt_irrefl]
      exact ⟨by kernel_rfl, fits64 (by omega) (by omega), good (by unfold EIn; omega) (fun j hj => by omega) _ (by rfl)⟩
    | succ i =>
      have hi : (0 : Int) < ((i + 1 : Nat) : Int) := by omega
      simp (maxSteps := 9999999) -implicitDefEqProofs only [go_sem, mwp_draw, c1, c2, c3, hi]
      refine ⟨fits64 (by omega) (by omega), by omega, by omega, fun d hd => ?_⟩
      refine callK_is (compareEdges_is d e) ?_
      by_cases c5 : 0 ≤ cmpE d e
      · simp (maxSteps := 9999999) -implicitDefEqProofs only [go_sem, mwp_draw, c1, c2, c3, hi, c5]
        exact ⟨by kernel_rfl, bad (gv_ord (by have e : (((i + 1 : Nat) : Int) - 1).toNat = i := by omega
                                              rw [e] at hd; exact hd) he (cmpE_ge.1 c5)) _ _⟩
      · simp (maxSteps := 9999999) -implicitDefEqProofs only [go_sem, mwp_draw, c1, c2, c3, hi, c5]
        refine ⟨by kernel_rfl, fits64 (by omega) (by omega), good (by unfold EIn; omega) (fun j hj x hx => ?_) _ (by rfl)⟩
        have e : (((i + 1 : Nat) : Int) - 1).toNat = j := by omega
        rw [e, hx] at hd; cases hd
        exact Classical.byContradiction fun q => c5 (cmpE_ge.2 q)
  · simp (maxSteps := 9999999) -implicitDefEqProofs only [go_sem, mwp_draw]
    obtain rfl : i = es.length := by omega
    exact mvb (gvB_iff.2 (GPre_all (by omega) h2)).symm
theorem GraphValidS_is (t : Bool) (n : Int) (es : List E) (hl : es.length ≤ 1048576) : Is prog fid_spec_GraphValid [Gr t n es] (.b (gvB n es)) := by
  refine MCall.run mixed get_spec_GraphValid ok_spec_GraphValid (Nat.le_of_ble_eq_true rfl) (by decide) ?_
  unfold mc_spec_GraphValid
  simp (maxSteps := 9999999) -implicitDefEqProofs only [go_sem, mwp_draw]
  refine ⟨fun a1 => ⟨fun a2 => ⟨fun a3 => gv_sz (by omega), fun a3 => ?_⟩, fun a2 => gv_sz (by omega)⟩, fun a1 => gv_sz (by omega)⟩
  refine mwp_loopk (X := Nat) (fun i => ⟨[(1, .pr 0 0 0), (3, .i .i64 i)], [(0, .box [.i .i64 n, .s t 2 (encE es)])], 1⟩)
    (fun i => i ≤ es.length ∧ GPre n es i) (fun i => es.length - i) 0 (by rfl) ⟨Nat.zero_le _, GPre_zero⟩ ?_
  rintro i ⟨h1, h2⟩ K kN kE kR
  simp (maxSteps := 9999999) -implicitDefEqProofs only [go_sem]
  refine ⟨fun h4 => ⟨by omega, h4, fun e he => ?_⟩, fun h4 => kE _ _ ?_⟩
  · have bad : gvB n es = false → ∀ hp nx, K .ret ⟨[(2, .b false)], hp, nx⟩ := fun h hp nx => kR _ (by
      simp (maxSteps := 9999999) -implicitDefEqProofs only [go_sem, mwp_draw]
      exact mvb h.symm)
    have good : EIn n e → (∀ j, i = j + 1 → ∀ d, es[j]? = some d → eLt d e) → ∀ s', norm [1, 3] s' = ⟨[(1, .pr 0 0 0), (3, .i .i64 (i + 1))], [(0, .box [.i .i64 n, .s t 2 (encE es)])], 1⟩ → K .normal s' :=
      fun a b s' hs => kN _ (i + 1) hs ⟨by omega, GPre_succ h2 he a b⟩ (by omega)
    by_cases c1 : e.1 < 0
    · simp (maxSteps := 9999999) -implicitDefEqProofs only [go_sem, mwp_draw, c1]
      exact ⟨by kernel_rfl, bad (gv_bad he (by unfold EIn; omega)) _ _⟩
    by_cases c2 : e.2 ≤ e.1
    · simp (maxSteps := 9999999) -implicitDefEqProofs only [go_sem, mwp_draw, c1, c2]
      exact ⟨by kernel_rfl, bad (gv_bad he (by unfold EIn; omega)) _ _⟩
    by_cases c3 : n ≤ e.2
    · simp (maxSteps := 9999999) -implicitDefEqProofs only [go_sem, mwp_draw, c1, c2, c3]
      exact ⟨by kernel_rfl, bad (gv_bad he (by unfold EIn; omega)) _ _⟩
    cases i with
    | zero =>
      simp (maxSteps := 9999999) -implicitDefEqProofs only [go_sem, mwp_draw, c1, c2, c3, Int.lt_irrefl]
      exact ⟨by kernel_rfl, fits64 (by omega) (by omega), good (by unfold EIn; omega) (fun j hj => by omega) _ (by rfl)⟩
    | succ i =>
      have hi : (0 : Int) < ((i + 1 : Nat) : Int) := by omega
      simp (maxSteps := 9999999) -implicitDefEqProofs only [go_sem, mwp_draw, c1, c2, c3, hi]
      refine ⟨fits64 (by omega) (by omega), by omega, by omega, fun d hd => ?_⟩
      refine callK_is (l1Less_is d e) ?_
      have e0 : (((i + 1 : Nat) : Int) - 1).toNat = i := by omega
      rw [e0] at hd
      by_cases c5 : eLt d e
      · simp (maxSteps := 9999999) -implicitDefEqProofs only [go_sem, mwp_draw, c1, c2, c3, hi, c5]
        refine ⟨by kernel_rfl, fits64 (by omega) (by omega), good (by unfold EIn; omega) (fun j hj x hx => ?_) _ (by rfl)⟩
        obtain rfl : i = j := by omega
        rw [hx] at hd; cases hd
        exact c5
      · simp (maxSteps := 9999999) -implicitDefEqProofs only [go_sem, mwp_draw, c1, c2, c3, hi, c5]
        exact ⟨by kernel_rfl, bad (gv_ord hd he c5) _ _⟩
  · simp (maxSteps := 9999999) -implicitDefEqProofs only [go_sem, mwp_draw]
    obtain rfl : i = es.length := by omega
    exact mvb (gvB_iff.2 (GPre_all (by omega) h2)).symm

end Go.Fw
