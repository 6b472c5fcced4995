/-
  Draws of graphs with turns.
-/
import Derived.Test.YtedacikdbkpccaaCtS
import Derived.Test.YtedacikdbkpccaaCtJ
namespace Go.Fw
set_option linter.unusedSimpArgs false
set_option linter.unusedVariables false
set_option maxRecDepth 100000
set_option maxHeartbeats 4000000
open Go.Proofs.Try (prog)
open Go.Pl

theorem l11Turns_is (c : List Int) (p : Int) (t : Bool) (n : Int) (es : List E) (hb : Byt c) (hc : c.length ≤ 2000) (hp : 0 ≤ p ∧ p ≤ 100000000) (hl : es.length ≤ 10000) (hn : -1 ≤ n ∧ n ≤ 17) :
    MCall prog fid_spec_l11Turns [.pw [.s true 1 (encB c), .i .i64 p], Gr t n es] (fun o r => ∃ p' ts, o = [.pw [.s true 1 (encB c), .i .i64 p'], .u] ∧ r = .ow true 2 (encE ts) ∧ p ≤ p' ∧ p' ≤ p + 100 ∧ ts.length ≤ 10) := by
  refine MCall.run mixed get_spec_l11Turns ok_spec_l11Turns (Nat.le_of_ble_eq_true rfl) (by decide) ?_
  unfold mc_spec_l11Turns
  simp (config := { maxSteps := 10000000, implicitDefEqProofs := false }) only [go_sem, ↓reduceIte, Nat.reduceAdd, Nat.reduceMul, Nat.reduceEqDiff, Nat.reduceSub, Nat.reduceLT, reduceCtorEq, Nat.reduceLeDiff, Nat.reduceBEq, mwp_draw]
  refine callK_det (num_is _ c p [3, 2, 5, 1, 0, 7] hb hc (by omega) (by decide)) ?_
  have hm := num_mem (p := p) (l := [3, 2, 5, 1, 0, 7]) hb hc (by omega) (by decide)
  generalize numM c p [3, 2, 5, 1, 0, 7] = m0 at hm
  have hm0 : 0 ≤ m0 ∧ m0 ≤ 7 := by simp at hm; omega
  clear hm
  simp (config := { maxSteps := 10000000, implicitDefEqProofs := false }) only [go_sem, ↓reduceIte, Nat.reduceAdd, Nat.reduceMul, Nat.reduceEqDiff, Nat.reduceSub, Nat.reduceLT, reduceCtorEq, Nat.reduceLeDiff, Nat.reduceBEq, mwp_draw]
  refine mwp_loopk (X := Int × Int × List E) (fun x => ⟨[(0, .pr 0 0 0), (3, .pr 1 0 0), (5, .sr 2 0 x.2.2.length), (6, .i .i64 x.1)],
      [(0, .box [.s true 1 (encB c), .i .i64 x.2.1]), (1, .box [.i .i64 n, .s t 2 (encE es)]), (2, .arr true 2 (encE x.2.2))], 3⟩)
    (fun x => 0 ≤ x.1 ∧ p + 1 ≤ x.2.1 ∧ x.2.1 + 5 * x.1 ≤ p + 60 ∧ x.2.2.length + x.1 ≤ 7) (fun x => x.1.toNat) (m0, p + 1, []) (by rfl) (by simp; omega) ?_
  rintro ⟨m, q, ts⟩ ⟨g1, g2, g3, g4⟩ K kN kE kR
  simp only at g1 g2 g3 g4
  simp (config := { maxSteps := 10000000, implicitDefEqProofs := false }) only [go_sem, ↓reduceIte, Nat.reduceAdd, Nat.reduceMul, Nat.reduceEqDiff, Nat.reduceSub, Nat.reduceLT, reduceCtorEq, Nat.reduceLeDiff, Nat.reduceBEq, mwp_draw]
  refine ⟨fun d1 => ?_, fun d1 => kE _ _ ?_⟩
  · refine callK_det (pick_is c q n hb hc (by omega) (by omega)) ?_
    generalize pickM c q n = a
    simp (config := { maxSteps := 10000000, implicitDefEqProofs := false }) only [go_sem, ↓reduceIte, Nat.reduceAdd, Nat.reduceMul, Nat.reduceEqDiff, Nat.reduceSub, Nat.reduceLT, reduceCtorEq, Nat.reduceLeDiff, Nat.reduceBEq, mwp_draw]
    refine callK_det (pick_is c (q + 1) n hb hc (by omega) (by omega)) ?_
    generalize pickM c (q + 1) n = b
    have none : ∀ q', q + 1 ≤ q' → q' ≤ q + 5 → 0 ≤ m - 1 ∧ p + 1 ≤ q' ∧ q' + 5 * (m - 1) ≤ p + 60 ∧ ts.length + (m - 1) ≤ 7 := fun q' h1 h2 => by omega
    have more : ∀ q' (x : E), q + 1 ≤ q' → q' ≤ q + 5 → 0 ≤ m - 1 ∧ p + 1 ≤ q' ∧ q' + 5 * (m - 1) ≤ p + 60 ∧ (ts ++ [x]).length + (m - 1) ≤ 7 := fun q' x h1 h2 => by simp; omega
    have rest : ∀ q', q + 1 ≤ q' → q' ≤ q + 4 → True := fun _ _ _ => trivial
    by_cases e0 : 0 < (es.length : Int)
    · have b0 : (0 < (es.length : Int)) = True := eq_true e0
      simp (config := { maxSteps := 10000000, implicitDefEqProofs := false }) only [go_sem, ↓reduceIte, Nat.reduceAdd, Nat.reduceMul, Nat.reduceEqDiff, Nat.reduceSub, Nat.reduceLT, reduceCtorEq, Nat.reduceLeDiff, Nat.reduceBEq, mwp_draw, b0]
      refine callK_det (pick_is c (q + 1 + 1) 2 hb hc (by omega) (by omega)) ?_
      generalize pickM c (q + 1 + 1) 2 = v
      by_cases v0 : v = 0
      · have b1 : (v = 0) = True := eq_true v0
        simp (config := { maxSteps := 10000000, implicitDefEqProofs := false }) only [go_sem, ↓reduceIte, Nat.reduceAdd, Nat.reduceMul, Nat.reduceEqDiff, Nat.reduceSub, Nat.reduceLT, reduceCtorEq, Nat.reduceLeDiff, Nat.reduceBEq, mwp_draw, b0, b1]
        refine callK_det (pick_is c (q + 1 + 1 + 1) es.length hb hc (by omega) (by omega)) ?_
        have hr := (pick_rng (b := c) (p := q + 1 + 1 + 1) es.length hb hc (by omega))
        generalize pickM c (q + 1 + 1 + 1) es.length = w at hr
        have hr2 := hr.2 (by omega)
        simp (config := { maxSteps := 10000000, implicitDefEqProofs := false }) only [go_sem, ↓reduceIte, Nat.reduceAdd, Nat.reduceMul, Nat.reduceEqDiff, Nat.reduceSub, Nat.reduceLT, reduceCtorEq, Nat.reduceLeDiff, Nat.reduceBEq, mwp_draw]
        refine ⟨by omega, by omega, fun x hx => ⟨by omega, by kernel_rfl, fits64 (by omega) (by omega), kN _ (m - 1, q + 1 + 1 + 1 + 1, ts ++ [x]) (by simp; rfl) (more _ _ (by simp only; omega) (by simp only; omega)) (by simp only; omega)⟩⟩
      · have b1 : (v = 0) = False := eq_false v0
        by_cases ab : a = b
        · have b2 : (a = b) = True := eq_true ab
          simp (config := { maxSteps := 10000000, implicitDefEqProofs := false }) only [go_sem, ↓reduceIte, Nat.reduceAdd, Nat.reduceMul, Nat.reduceEqDiff, Nat.reduceSub, Nat.reduceLT, reduceCtorEq, Nat.reduceLeDiff, Nat.reduceBEq, mwp_draw, b0, b1, b2]
          refine callK_det (pick_is c (q + 1 + 1 + 1) 16 hb hc (by omega) (by omega)) ?_
          generalize pickM c (q + 1 + 1 + 1) 16 = w
          simp (config := { maxSteps := 10000000, implicitDefEqProofs := false }) only [go_sem, ↓reduceIte, Nat.reduceAdd, Nat.reduceMul, Nat.reduceEqDiff, Nat.reduceSub, Nat.reduceLT, reduceCtorEq, Nat.reduceLeDiff, Nat.reduceBEq, mwp_draw]
          refine ⟨fun w0 => ?_, fun w0 => ?_⟩
          · refine callK_is (l1Edge_is a b) ?_
            simp (config := { maxSteps := 10000000, implicitDefEqProofs := false }) only [go_sem, ↓reduceIte, Nat.reduceAdd, Nat.reduceMul, Nat.reduceEqDiff, Nat.reduceSub, Nat.reduceLT, reduceCtorEq, Nat.reduceLeDiff, Nat.reduceBEq, mwp_draw]
            exact ⟨by omega, fits64 (by omega) (by omega), kN _ (m - 1, q + 1 + 1 + 1 + 1, ts ++ [edgN a b]) (by simp; rfl) (more _ _ (by simp only; omega) (by simp only; omega)) (by simp only; omega)⟩
          · exact ⟨fits64 (by omega) (by omega), kN _ (m - 1, q + 1 + 1 + 1 + 1, ts) (by rfl) (none _ (by simp only; omega) (by simp only; omega)) (by simp only; omega)⟩
        · have b2 : (a = b) = False := eq_false ab
          simp (config := { maxSteps := 10000000, implicitDefEqProofs := false }) only [go_sem, ↓reduceIte, Nat.reduceAdd, Nat.reduceMul, Nat.reduceEqDiff, Nat.reduceSub, Nat.reduceLT, reduceCtorEq, Nat.reduceLeDiff, Nat.reduceBEq, mwp_draw, b0, b1, b2]
          refine callK_is (l1Edge_is a b) ?_
          simp (config := { maxSteps := 10000000, implicitDefEqProofs := false }) only [go_sem, ↓reduceIte, Nat.reduceAdd, Nat.reduceMul, Nat.reduceEqDiff, Nat.reduceSub, Nat.reduceLT, reduceCtorEq, Nat.reduceLeDiff, Nat.reduceBEq, mwp_draw]
          exact ⟨by omega, fits64 (by omega) (by omega), kN _ (m - 1, q + 1 + 1 + 1, ts ++ [edgN a b]) (by simp; rfl) (more _ _ (by simp only; omega) (by simp only; omega)) (by simp only; omega)⟩
    · have b0 : (0 < (es.length : Int)) = False := eq_false e0
      by_cases ab : a = b
      · have b2 : (a = b) = True := eq_true ab
        simp (config := { maxSteps := 10000000, implicitDefEqProofs := false }) only [go_sem, ↓reduceIte, Nat.reduceAdd, Nat.reduceMul, Nat.reduceEqDiff, Nat.reduceSub, Nat.reduceLT, reduceCtorEq, Nat.reduceLeDiff, Nat.reduceBEq, mwp_draw, b0, b2]
        refine callK_det (pick_is c (q + 1 + 1) 16 hb hc (by omega) (by omega)) ?_
        generalize pickM c (q + 1 + 1) 16 = w
        simp (config := { maxSteps := 10000000, implicitDefEqProofs := false }) only [go_sem, ↓reduceIte, Nat.reduceAdd, Nat.reduceMul, Nat.reduceEqDiff, Nat.reduceSub, Nat.reduceLT, reduceCtorEq, Nat.reduceLeDiff, Nat.reduceBEq, mwp_draw]
        refine ⟨fun w0 => ?_, fun w0 => ?_⟩
        · refine callK_is (l1Edge_is a b) ?_
          simp (config := { maxSteps := 10000000, implicitDefEqProofs := false }) only [go_sem, ↓reduceIte, Nat.reduceAdd, Nat.reduceMul, Nat.reduceEqDiff, Nat.reduceSub, Nat.reduceLT, reduceCtorEq, Nat.reduceLeDiff, Nat.reduceBEq, mwp_draw]
          exact ⟨by omega, fits64 (by omega) (by omega), kN _ (m - 1, q + 1 + 1 + 1, ts ++ [edgN a b]) (by simp; rfl) (more _ _ (by simp only; omega) (by simp only; omega)) (by simp only; omega)⟩
        · exact ⟨fits64 (by omega) (by omega), kN _ (m - 1, q + 1 + 1 + 1, ts) (by rfl) (none _ (by simp only; omega) (by simp only; omega)) (by simp only; omega)⟩
      · have b2 : (a = b) = False := eq_false ab
        simp (config := { maxSteps := 10000000, implicitDefEqProofs := false }) only [go_sem, ↓reduceIte, Nat.reduceAdd, Nat.reduceMul, Nat.reduceEqDiff, Nat.reduceSub, Nat.reduceLT, reduceCtorEq, Nat.reduceLeDiff, Nat.reduceBEq, mwp_draw, b0, b2]
        refine callK_is (l1Edge_is a b) ?_
        simp (config := { maxSteps := 10000000, implicitDefEqProofs := false }) only [go_sem, ↓reduceIte, Nat.reduceAdd, Nat.reduceMul, Nat.reduceEqDiff, Nat.reduceSub, Nat.reduceLT, reduceCtorEq, Nat.reduceLeDiff, Nat.reduceBEq, mwp_draw]
        exact ⟨by omega, fits64 (by omega) (by omega), kN _ (m - 1, q + 1 + 1, ts ++ [edgN a b]) (by simp; rfl) (more _ _ (by simp only; omega) (by simp only; omega)) (by simp only; omega)⟩
  · simp (config := { maxSteps := 10000000, implicitDefEqProofs := false }) only [go_sem, ↓reduceIte, Nat.reduceAdd, Nat.reduceMul, Nat.reduceEqDiff, Nat.reduceSub, Nat.reduceLT, reduceCtorEq, Nat.reduceLeDiff, Nat.reduceBEq, mwp_draw]
    exact ⟨q, ts, rfl, by simp, by omega, by omega, by omega⟩
/-- A graph and turns that are drawn. -/
def DrT (o : List MV) (r : MV) : Prop := o = [.u] ∧ ∃ n es ts, r = .tup [.agg [.i .i64 n, .ow true 2 (encE es)], .ow true 2 (encE ts)] ∧ -1 ≤ n ∧ n ≤ 17 ∧ es.length ≤ 200 ∧ ts.length ≤ 10
theorem l11Case_is (t : Bool) (b : List Int) (hb : Byt b) : MCall prog fid_spec_l11Case [.s t 1 (encB b)] DrT := by
  refine MCall.run mixed get_spec_l11Case ok_spec_l11Case (Nat.le_of_ble_eq_true rfl) (by decide) ?_
  unfold mc_spec_l11Case
  have hb' := byt_take2 hb 2000
  have hc' : (b.take 2000).length ≤ 2000 := by simp; omega
  simp (config := { maxSteps := 10000000, implicitDefEqProofs := false }) only [go_sem, ↓reduceIte, Nat.reduceAdd, Nat.reduceMul, Nat.reduceEqDiff, Nat.reduceSub, Nat.reduceLT, reduceCtorEq, Nat.reduceLeDiff, Nat.reduceBEq, mwp_draw]
  refine callK_is (l14Open_is b) ?_
  simp (config := { maxSteps := 10000000, implicitDefEqProofs := false }) only [go_sem, ↓reduceIte, Nat.reduceAdd, Nat.reduceMul, Nat.reduceEqDiff, Nat.reduceSub, Nat.reduceLT, reduceCtorEq, Nat.reduceLeDiff, Nat.reduceBEq, mwp_draw]
  generalize b.take 2000 = c at hb' hc'
  refine callK_any (l1Draw_is c 0 hb' hc' (by omega)) ?_
  rintro o r ⟨p, n, es, rfl, rfl, w1, w2, w3, w4, w5⟩
  simp (config := { maxSteps := 10000000, implicitDefEqProofs := false }) only [go_sem, ↓reduceIte, Nat.reduceAdd, Nat.reduceMul, Nat.reduceEqDiff, Nat.reduceSub, Nat.reduceLT, reduceCtorEq, Nat.reduceLeDiff, Nat.reduceBEq, mwp_draw]
  refine callK_any (l11Turns_is c p _ n es hb' hc' (by omega) (by omega) (by omega)) ?_
  rintro o r ⟨p2, ts, rfl, rfl, v1, v2, v3⟩
  simp (config := { maxSteps := 10000000, implicitDefEqProofs := false }) only [go_sem, ↓reduceIte, Nat.reduceAdd, Nat.reduceMul, Nat.reduceEqDiff, Nat.reduceSub, Nat.reduceLT, reduceCtorEq, Nat.reduceLeDiff, Nat.reduceBEq, mwp_draw]
  refine callK_any (l1Wrong_is c p2 _ n es hb' hc' (by omega) (by omega) (by omega)) ?_
  rintro o r ⟨p3, n2, es2, rfl, rfl, u1, u2, u3, u4, u5⟩
  simp (config := { maxSteps := 10000000, implicitDefEqProofs := false }) only [go_sem, ↓reduceIte, Nat.reduceAdd, Nat.reduceMul, Nat.reduceEqDiff, Nat.reduceSub, Nat.reduceLT, reduceCtorEq, Nat.reduceLeDiff, Nat.reduceBEq, mwp_draw]
  refine ⟨rfl, n2, es2, ts, ?_, u3, u4, by omega, by omega⟩
  first | rfl | simp
end Go.Fw
