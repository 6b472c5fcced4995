/-
  Turns, one after the other: all graphs, the last one.
-/
import Derived.Test.YtjklefjjmfpnoaaGreatCtG9
import Derived.Test.YtjklefjjmfpnoaaGreatCtP
namespace Go.Fw
set_option linter.unusedSimpArgs false
set_option linter.unusedVariables false
set_option maxRecDepth 100000
set_option maxHeartbeats 4000000
open Go.Proofs.Tryz (prog)
open Go.Pl

def grV (n : Int) (es ts : List E) : List (List E) := if runB n es ts then grs n es ts else []
theorem runB_no {n : Int} {es ts : List E} (h : gvB n es = false ∨ 60 < ts.length ∨ trT n es ts = false) : runB n es ts = false := by
  unfold runB
  rcases h with h | h | h
  · simp [h]
  · have : ¬ ts.length ≤ 60 := by omega
    simp [this]
  · simp [h]
theorem runB_yes {n : Int} {es ts : List E} (h1 : gvB n es = true) (h2 : ts.length ≤ 60) (h3 : trT n es ts = true) : runB n es ts = true := by simp [runB, h1, h2, h3]
theorem grV_no {n : Int} {es ts : List E} (h : runB n es ts = false) : encG n (grV n es ts) = [] := by simp [grV, h, encG]
theorem grV_yes {n : Int} {es ts : List E} (h : runB n es ts = true) : grV n es ts = grs n es ts := by simp [grV, h]
theorem grs_at {n : Int} {es ts : List E} {i : Nat} (hi : i ≤ ts.length) {y : List E} (h : (grs n es (ts.take i))[i]? = some y) : trG n es (ts.take i) = y := by
  rw [grs_get (by simp; omega), List.take_take, Nat.min_self] at h; exact Option.some.inj h
theorem graphsOf_is (t : Bool) (n : Int) (es ts : List E) (hl : es.length ≤ 1048576) (ht : ts.length ≤ 1048576) :
    Is prog fid_impl_graphsOf [Gr true n es, .s t 2 (encE ts)] (.tup [.ow true 2 (encG n (grV n es ts)), .b (runB n es ts)]) := by
  refine MCall.run mixed get_impl_graphsOf ok_impl_graphsOf (Nat.le_of_ble_eq_true rfl) (by decide) ?_
  unfold mc_impl_graphsOf
  simp (maxSteps := 9999999) -implicitDefEqProofs only [go_sem, mwp_draw]
  refine callK_is (GraphValid_is _ n es hl) ?_
  cases h : gvB n es
  · have q := runB_no (ts := ts) (.inl h)
    simp (maxSteps := 9999999) -implicitDefEqProofs only [go_sem, mwp_draw, q, grV_no q]
  · simp (maxSteps := 9999999) -implicitDefEqProofs only [go_sem, mwp_draw]
    refine ⟨fun h2 => ?_, fun h2 => ?_⟩
    · have q := runB_no (n := n) (es := es) (ts := ts) (.inr (.inl (by omega)))
      rw [q, grV_no q]
    · refine mwp_loopk (X := Nat) (fun i => ⟨[(6, .sr 0 0 (i + 1)), (21, .s t 2 (encE ts)), (22, .i .i64 ts.length), (23, .i .i64 i)], [(0, .arr true 2 (encG n (grs n es (ts.take i))))], 1⟩)
        (fun i => i ≤ ts.length ∧ trT n es (ts.take i) = true) (fun i => ts.length - i) 0 (by rfl) ⟨Nat.zero_le _, rfl⟩ ?_
      rintro i ⟨h3, h4⟩ K kN kE kR
      have hlen : (grs n es (ts.take i)).length = i + 1 := by rw [grs_length]; simp; omega
      simp (maxSteps := 9999999) -implicitDefEqProofs only [go_sem, mwp_draw]
      refine ⟨fun c => ⟨by omega, c, fun x hx => ⟨by omega, by omega, by omega, fun y hy => ?_⟩⟩, fun c => kE _ _ ?_⟩
      · obtain rfl := grs_at (by omega) hy
        have hg := gvB_iff.1 (trT_gv h h4)
        have hgl := hg.2.2.1
        refine callK_is (TurnEdge_is _ n _ x (by omega)) ?_
        have hT := trT_next (n := n) (es := es) hx
        have hG := grs_next (n := n) (es := es) hx
        rw [h4, Bool.true_and] at hT
        cases ho : turnOK n (trG n es (ts.take i)) x
        · have q := runB_no (n := n) (es := es) (ts := ts) (.inr (.inr (trT_bad (i := i + 1) (hT.trans ho))))
          simp (maxSteps := 9999999) -implicitDefEqProofs only [go_sem, mwp_draw]
          refine ⟨by kernel_rfl, kR _ ?_⟩
          simp (maxSteps := 9999999) -implicitDefEqProofs only [go_sem, mwp_draw, q, grV_no q]
        · rw [(turnOK_gv ho).2.2]
          simp (maxSteps := 9999999) -implicitDefEqProofs only [go_sem, mwp_draw]
          have ht2 : (grs n es (ts.take i)).take (i + 1) = grs n es (ts.take i) := List.take_of_length_le (by omega)
          rw [ht2, ← hG, hlen]
          exact ⟨by kernel_rfl, by omega, by omega, fits64 (by omega) (by omega), kN _ (i + 1) (by rfl) ⟨by omega, hT.trans ho⟩ (by omega)⟩
      · obtain rfl : i = ts.length := by omega
        have hT := h4
        rw [List.take_length] at hT hlen
        have q := runB_yes h (by omega) hT
        simp (maxSteps := 9999999) -implicitDefEqProofs only [go_sem, mwp_draw, q, grV_yes q, hlen]
        rw [List.take_of_length_le (by omega)]
theorem RunTurnsS_is (t t' : Bool) (n : Int) (es ts : List E) (hl : es.length ≤ 1048576) (ht : ts.length ≤ 1048576) :
    Is prog fid_spec_RunTurns [Gr t n es, .s t' 2 (encE ts)] (.tup [.agg [.i .i64 (rnN n es ts), .ow true 2 (encE (runE n es ts))], .b (runB n es ts)]) := by
  refine MCall.run mixed get_spec_RunTurns ok_spec_RunTurns (Nat.le_of_ble_eq_true rfl) (by decide) ?_
  unfold mc_spec_RunTurns
  simp (maxSteps := 9999999) -implicitDefEqProofs only [go_sem, mwp_draw]
  refine callK_is (GraphValidS_is _ n es hl) ?_
  cases h : gvB n es
  · have q := runB_no (ts := ts) (.inl h)
    simp (maxSteps := 9999999) -implicitDefEqProofs only [go_sem, mwp_draw]
    simp [rnN, runE, q, encE]
  · simp (maxSteps := 9999999) -implicitDefEqProofs only [go_sem, mwp_draw]
    refine ⟨fun h2 => ?_, fun h2 => ?_⟩
    · have q := runB_no (n := n) (es := es) (ts := ts) (.inr (.inl (by omega)))
      simp [rnN, runE, q, encE]
    · refine callK_is (l1Copy_is _ n es hl) ?_
      simp (maxSteps := 9999999) -implicitDefEqProofs only [go_sem, mwp_draw]
      refine mwp_loopk (X := Nat) (fun i => ⟨[(1, .s t' 2 (encE ts)), (4, .pr 0 0 0), (6, .pr 1 0 0), (7, .i .i64 i)], [(0, .box [.i .i64 0, .nl 2]), (1, .box [.i .i64 n, .sr 2 0 (trG n es (ts.take i)).length]), (2, .arr true 2 (encE (trG n es (ts.take i))))], 3⟩)
        (fun i => i ≤ ts.length ∧ trT n es (ts.take i) = true) (fun i => ts.length - i) 0 (by rfl) ⟨Nat.zero_le _, rfl⟩ ?_
      rintro i ⟨h3, h4⟩ K kN kE kR
      have hg := gvB_iff.1 (trT_gv h h4)
      have hgl := hg.2.2.1
      simp (maxSteps := 9999999) -implicitDefEqProofs only [go_sem, mwp_draw]
      refine ⟨fun c => ⟨by omega, c, fun x hx => ?_⟩, fun c => kE _ _ ?_⟩
      · have hT := trT_next (n := n) (es := es) hx
        have hG := trG_next (n := n) (es := es) hx
        rw [h4, Bool.true_and] at hT
        refine callK_is (TurnEdgeS_is _ n _ x (by omega)) ?_
        cases ho : turnOK n (trG n es (ts.take i)) x
        · have q := runB_no (n := n) (es := es) (ts := ts) (.inr (.inr (trT_bad (i := i + 1) (hT.trans ho))))
          simp (maxSteps := 9999999) -implicitDefEqProofs only [go_sem, mwp_draw]
          refine ⟨by kernel_rfl, kR _ ?_⟩
          simp (maxSteps := 9999999) -implicitDefEqProofs only [go_sem, mwp_draw]
          simp [rnN, runE, q, encE]
        · rw [(turnOK_gv ho).2.2]
          simp (maxSteps := 9999999) -implicitDefEqProofs only [go_sem, mwp_draw]
          exact ⟨by kernel_rfl, fits64 (by omega) (by omega), kN _ (i + 1) (by rw [hG]; rfl) ⟨by omega, hT.trans ho⟩ (by omega)⟩
      · obtain rfl : i = ts.length := by omega
        have hT := h4
        rw [List.take_length] at hT
        have q := runB_yes h (by omega) hT
        simp (maxSteps := 9999999) -implicitDefEqProofs only [go_sem, mwp_draw, List.take_length]
        simp [rnN, runE, q]
end Go.Fw
