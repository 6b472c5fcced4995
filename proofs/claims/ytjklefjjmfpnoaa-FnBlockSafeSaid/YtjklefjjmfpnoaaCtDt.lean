/-
  Draws of graphs of few edges; bridges.
-/
import Derived.Test.YtjklefjjmfpnoaaCtM
import Derived.Test.YtjklefjjmfpnoaaCtP
import Derived.Test.YtjklefjjmfpnoaaCtG8
import Derived.Test.YtjklefjjmfpnoaaPlC4
namespace Go.Fw
set_option linter.unusedSimpArgs false
set_option linter.unusedVariables false
set_option maxRecDepth 100000
set_option maxHeartbeats 8000000
open Go.Proofs.Try (prog)
open Go.Pl

abbrev DrW (o : List MV) (r : MV) : Prop := o = [.u] ∧ ∃ n es, r = .agg [.i .i64 n, .ow true 2 (encE es)] ∧ -1 ≤ n ∧ n ≤ 17 ∧ es.length ≤ 200
theorem brB_rch {n : Int} {es : List E} {e : E} (hv : GV n es) (he : e ∈ es) : brB n es e = true ↔ ¬ Rch (butE es e) e.1 e.2 := by
  have hE := hv.2.2.2.1
  have h' := hE e he
  unfold EIn at h'
  have hF : ∀ d ∈ butE es e, EIn n d := fun d hd => hE d (mem_but.1 hd).1
  have j := jn_iff hF (x := e.1) (y := e.2) ⟨by omega, by omega⟩ ⟨by omega, by omega⟩
  unfold brB
  have k : jn n (butE es e) e.1 e.2 = jn n (es.filter fun x => !decide (x = e)) e.1 e.2 := rfl
  rw [k] at j
  rw [← j]; simp
theorem DrawIsSafeGraph_is (t : Bool) (b : List Int) (hb : Byt b) : MCall prog fid_spec_DrawIsSafeGraph [.s t 1 (encB b)] DrW := by
  refine MCall.run mixed get_spec_DrawIsSafeGraph ok_spec_DrawIsSafeGraph (Nat.le_of_ble_eq_true rfl) (by decide) ?_
  unfold mc_spec_DrawIsSafeGraph
  have hb' := byt_take2 hb 2000
  have hc' : (b.take 2000).length ≤ 2000 := by simp; omega
  simp (maxSteps := 9999999) -implicitDefEqProofs only [go_sem, mwp_draw]
  refine callK_is (l14Open_is b) ?_
  simp (maxSteps := 9999999) -implicitDefEqProofs only [go_sem, mwp_draw]
  generalize b.take 2000 = c at hb' hc'
  refine callK_any (l5Small_is c 0 hb' hc' (by omega)) ?_
  rintro o r ⟨p, n, es, rfl, rfl, w1, w2, w3, w4, w5⟩
  simp (maxSteps := 9999999) -implicitDefEqProofs only [go_sem, mwp_draw]
  refine callK_det (pick_is c p 2 hb' hc' (by omega) (by omega)) ?_
  generalize pickM c p 2 = v
  by_cases hv0 : v = 0
  · have v0 := eq_true hv0
    simp (maxSteps := 9999999) -implicitDefEqProofs only [go_sem, mwp_draw, v0]
    refine callK_is (GraphValidS_is _ n es (by omega)) ?_
    cases hg : gvB n es with
    | false =>
      simp (maxSteps := 9999999) -implicitDefEqProofs only [go_sem, mwp_draw]
      exact ⟨rfl, n, es, rfl, w3, w4, by omega⟩
    | true =>
      simp (maxSteps := 9999999) -implicitDefEqProofs only [go_sem, mwp_draw]
      have hv := gvB_iff.1 hg
      have hn1 := hv.1
      have hn16 := hv.2.1
      refine mwp_loopk (X := Nat × Bool × List E) (fun x => ⟨[(2, .pr 0 0 0), (3, .pr 1 0 0), (4, .pr 2 0 0), (5, .i .i64 ((x.1 + 1 : Nat) : Int))],
          [(0, .box [.i .i64 0, .nl 2]), (1, .box [.s false 1 (encB c), .i .i64 (p + 1)]), (2, .box [.i .i64 n, .sr 3 0 x.2.2.length]), (3, .arr x.2.1 2 (encE x.2.2))], 4⟩)
        (fun x => (x.1 : Int) + 1 ≤ n ∧ x.2.2.length ≤ 100 + x.1) (fun x => (n - x.1).toNat) (0, false, es) (by kernel_rfl) ⟨by simp only; omega, by simp only; omega⟩ ?_
      rintro ⟨i, w, fs⟩ ⟨h1, h2⟩ K kN kE kR
      simp only at h1 h2 ⊢
      have tk : fs.take fs.length = fs := List.take_length
      by_cases hi : (i : Int) + 1 < n
      · have c1 : (((i + 1 : Nat) : Int) < n) = True := eq_true (by omega)
        simp (maxSteps := 9999999) -implicitDefEqProofs only [go_sem, mwp_draw, c1, tk]
        repeat (refine ⟨by first | omega | decide | exact fits64 (by omega) (by omega) | kernel_rfl | (intros; omega), ?_⟩)
        refine callK_is (l1Edge_is _ _) ?_
        generalize edgN (((i + 1 : Nat) : Int) - 1) ((i + 1 : Nat) : Int) = e
        simp (maxSteps := 9999999) -implicitDefEqProofs only [go_sem, mwp_draw, tk]
        repeat (refine ⟨by first | omega | decide | exact fits64 (by omega) (by omega) | kernel_rfl | (intros; omega), ?_⟩)
        refine callK_is (l1Find_is _ fs e (by omega)) ?_
        by_cases q : idxE fs e < 0
        · have e1 := eq_true q
          simp (maxSteps := 9999999) -implicitDefEqProofs only [go_sem, mwp_draw, e1, tk]
          repeat (refine ⟨by first | omega | decide | exact fits64 (by omega) (by omega) | kernel_rfl | (intros; omega), ?_⟩)
          refine callK_is (l1Edge_is _ _) ?_
          generalize edgN (((i + 1 : Nat) : Int) - 1) ((i + 1 : Nat) : Int) = e'
          simp (maxSteps := 9999999) -implicitDefEqProofs only [go_sem, mwp_draw, tk]
          repeat (refine ⟨by first | omega | decide | exact fits64 (by omega) (by omega) | kernel_rfl | (intros; omega), ?_⟩)
          refine callK_is (l1Put_is _ fs e' (by omega)) ?_
          have pl := putS_len fs e'
          generalize putS fs e' = gs at *
          simp (maxSteps := 9999999) -implicitDefEqProofs only [go_sem, mwp_draw]
          repeat (refine ⟨by first | omega | decide | exact fits64 (by omega) (by omega) | kernel_rfl | (intros; omega), ?_⟩)
          exact kN _ (i + 1, true, gs) (by kernel_rfl) ⟨by simp only; omega, by simp only; omega⟩ (by simp only; omega)
        · have e1 := eq_false q
          simp (maxSteps := 9999999) -implicitDefEqProofs only [go_sem, mwp_draw, e1, tk]
          repeat (refine ⟨by first | omega | decide | exact fits64 (by omega) (by omega) | kernel_rfl | (intros; omega), ?_⟩)
          exact kN _ (i + 1, w, fs) (by kernel_rfl) ⟨by simp only; omega, by simp only; omega⟩ (by simp only; omega)
      · have c1 : (((i + 1 : Nat) : Int) < n) = False := eq_false (by omega)
        simp (maxSteps := 9999999) -implicitDefEqProofs only [go_sem, mwp_draw, c1]
        refine kE _ _ ?_
        clear kN kE kR
        have fin : ∀ gs : List E, gs.length ≤ 200 → DrW [.u] (.agg [.i .i64 n, .ow true 2 (encE gs)]) := fun gs h => ⟨rfl, n, gs, rfl, w3, w4, h⟩
        by_cases h3 : 2 < n
        · have e3 := eq_true h3
          simp (maxSteps := 9999999) -implicitDefEqProofs only [go_sem, mwp_draw, e3, tk]
          repeat (refine ⟨by first | omega | decide | exact fits64 (by omega) (by omega) | kernel_rfl | (intros; omega), ?_⟩)
          refine callK_is (l1Edge_is _ _) ?_
          generalize edgN 0 (n - 1) = e
          simp (maxSteps := 9999999) -implicitDefEqProofs only [go_sem, mwp_draw, tk]
          repeat (refine ⟨by first | omega | decide | exact fits64 (by omega) (by omega) | kernel_rfl | (intros; omega), ?_⟩)
          refine callK_is (l1Find_is _ fs e (by omega)) ?_
          by_cases q : idxE fs e < 0
          · have e1 := eq_true q
            simp (maxSteps := 9999999) -implicitDefEqProofs only [go_sem, mwp_draw, e1, tk]
            repeat (refine ⟨by first | omega | decide | exact fits64 (by omega) (by omega) | kernel_rfl | (intros; omega), ?_⟩)
            refine callK_det (pick_is c (p + 1) 3 hb' hc' (by omega) (by omega)) ?_
            generalize pickM c (p + 1) 3 = v2
            by_cases q2 : 0 < v2
            · have e2 := eq_true q2
              simp (maxSteps := 9999999) -implicitDefEqProofs only [go_sem, mwp_draw, e2, tk]
              repeat (refine ⟨by first | omega | decide | exact fits64 (by omega) (by omega) | kernel_rfl | (intros; omega), ?_⟩)
              refine callK_is (l1Edge_is _ _) ?_
              generalize edgN 0 (n - 1) = e'
              simp (maxSteps := 9999999) -implicitDefEqProofs only [go_sem, mwp_draw, tk]
              repeat (refine ⟨by first | omega | decide | exact fits64 (by omega) (by omega) | kernel_rfl | (intros; omega), ?_⟩)
              refine callK_is (l1Put_is _ fs e' (by omega)) ?_
              have pl := putS_len fs e'
              generalize putS fs e' = gs at *
              simp (maxSteps := 9999999) -implicitDefEqProofs only [go_sem, mwp_draw]
              repeat (first | exact fin gs (by omega) | refine ⟨by first | omega | kernel_rfl, ?_⟩)
            · have e2 := eq_false q2
              simp (maxSteps := 9999999) -implicitDefEqProofs only [go_sem, mwp_draw, e2, tk]
              repeat (first | exact fin fs (by omega) | refine ⟨by first | omega | kernel_rfl, ?_⟩)
          · have e1 := eq_false q
            simp (maxSteps := 9999999) -implicitDefEqProofs only [go_sem, mwp_draw, e1, tk]
            repeat (first | exact fin fs (by omega) | refine ⟨by first | omega | kernel_rfl, ?_⟩)
        · have e3 := eq_false h3
          simp (maxSteps := 9999999) -implicitDefEqProofs only [go_sem, mwp_draw, e3, tk]
          repeat (first | exact fin fs (by omega) | refine ⟨by first | omega | kernel_rfl, ?_⟩)
  · have v0 := eq_false hv0
    simp (maxSteps := 9999999) -implicitDefEqProofs only [go_sem, mwp_draw, v0]
    exact ⟨rfl, n, es, rfl, w3, w4, by omega⟩
end Go.Fw
