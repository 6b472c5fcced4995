/-
  Graphs with levels: what the statements draw.
-/
import Derived.Test.YtfjekgjhhmkgoaaCtL7
namespace Go.Fw
set_option linter.unusedSimpArgs false
set_option linter.unusedVariables false
set_option maxRecDepth 100000
set_option maxHeartbeats 4000000
open Go.Proofs.Try (prog)
open Go.Pl

theorem DrawSumLevels_is (t : Bool) (b : List Int) (hb : Byt b) : MCall prog fid_spec_DrawSumLevels [.s t 1 (encB b)] (fun o r => o = [.u] ∧ ∃ n es ls fs, r = LvO n es ls fs ∧ LvD 60 n es ls fs) := by
  refine MCall.run mixed get_spec_DrawSumLevels ok_spec_DrawSumLevels (Nat.le_of_ble_eq_true rfl) (by decide) ?_
  unfold mc_spec_DrawSumLevels
  simp (config := { maxSteps := 10000000, implicitDefEqProofs := false }) only [go_sem, ↓reduceIte, Nat.reduceAdd, Nat.reduceMul, Nat.reduceEqDiff, Nat.reduceSub, Nat.reduceLT, reduceCtorEq, Nat.reduceLeDiff, Nat.reduceBEq, mwp_draw]
  refine callK_any (l7Draw_is _ b hb) ?_
  rintro o r ⟨rfl, n, es, ls, fs, rfl, hv⟩
  simp (config := { maxSteps := 10000000, implicitDefEqProofs := false }) only [go_sem, ↓reduceIte, Nat.reduceAdd, Nat.reduceMul, Nat.reduceEqDiff, Nat.reduceSub, Nat.reduceLT, reduceCtorEq, Nat.reduceLeDiff, Nat.reduceBEq, mwp_draw]
  exact ⟨n, es, ls, fs, rfl, hv⟩
theorem DrawLevelForest_is (t : Bool) (b : List Int) (hb : Byt b) : MCall prog fid_spec_DrawLevelForest [.s t 1 (encB b)]
    (fun o r => o = [.u] ∧ ∃ n es ls fs, ∃ k : Int, r = .tup [LvO n es ls fs, .i .i64 k] ∧ LvD 60 n es ls fs) := by
  refine MCall.run mixed get_spec_DrawLevelForest ok_spec_DrawLevelForest (Nat.le_of_ble_eq_true rfl) (by decide) ?_
  unfold mc_spec_DrawLevelForest
  have hb' := byt_take2 hb 2000
  have hc' : (b.take 2000).length ≤ 2000 := by simp; omega
  simp (config := { maxSteps := 10000000, implicitDefEqProofs := false }) only [go_sem, ↓reduceIte, Nat.reduceAdd, Nat.reduceMul, Nat.reduceEqDiff, Nat.reduceSub, Nat.reduceLT, reduceCtorEq, Nat.reduceLeDiff, Nat.reduceBEq, mwp_draw]
  refine callK_any (l7Draw_is _ b hb) ?_
  rintro o r ⟨rfl, n, es, ls, fs, rfl, hv⟩
  simp (config := { maxSteps := 10000000, implicitDefEqProofs := false }) only [go_sem, ↓reduceIte, Nat.reduceAdd, Nat.reduceMul, Nat.reduceEqDiff, Nat.reduceSub, Nat.reduceLT, reduceCtorEq, Nat.reduceLeDiff, Nat.reduceBEq, mwp_draw]
  refine callK_is (l14Open_is b) ?_
  simp (config := { maxSteps := 10000000, implicitDefEqProofs := false }) only [go_sem, ↓reduceIte, Nat.reduceAdd, Nat.reduceMul, Nat.reduceEqDiff, Nat.reduceSub, Nat.reduceLT, reduceCtorEq, Nat.reduceLeDiff, Nat.reduceBEq, mwp_draw]
  refine callK_det (num_is _ (b.take 2000) 0 [0, 1, 2, 4, 5, -1] hb' hc' (by omega) (by decide)) ?_
  generalize numM (b.take 2000) 0 [0, 1, 2, 4, 5, -1] = k
  simp (config := { maxSteps := 10000000, implicitDefEqProofs := false }) only [go_sem, ↓reduceIte, Nat.reduceAdd, Nat.reduceMul, Nat.reduceEqDiff, Nat.reduceSub, Nat.reduceLT, reduceCtorEq, Nat.reduceLeDiff, Nat.reduceBEq, mwp_draw]
  exact ⟨n, es, ls, fs, k, rfl, hv⟩
theorem DrawPutLevel_is (t : Bool) (b : List Int) (hb : Byt b) : MCall prog fid_spec_DrawPutLevel [.s t 1 (encB b)]
    (fun o r => o = [.u] ∧ ∃ n es ls fs, ∃ e : E, r = .tup [LvO n es ls fs, Ed1 e] ∧ LvD 60 n es ls fs) := by
  refine MCall.run mixed get_spec_DrawPutLevel ok_spec_DrawPutLevel (Nat.le_of_ble_eq_true rfl) (by decide) ?_
  unfold mc_spec_DrawPutLevel
  have hb' := byt_take2 hb 2000
  have hc' : (b.take 2000).length ≤ 2000 := by simp; omega
  simp (config := { maxSteps := 10000000, implicitDefEqProofs := false }) only [go_sem, ↓reduceIte, Nat.reduceAdd, Nat.reduceMul, Nat.reduceEqDiff, Nat.reduceSub, Nat.reduceLT, reduceCtorEq, Nat.reduceLeDiff, Nat.reduceBEq, mwp_draw]
  refine callK_any (l7Draw_is _ b hb) ?_
  rintro o r ⟨rfl, n, es, ls, fs, rfl, hv⟩
  have hv' := hv
  obtain ⟨v1, v2, v3, v4, v5⟩ := hv'
  simp (config := { maxSteps := 10000000, implicitDefEqProofs := false }) only [go_sem, ↓reduceIte, Nat.reduceAdd, Nat.reduceMul, Nat.reduceEqDiff, Nat.reduceSub, Nat.reduceLT, reduceCtorEq, Nat.reduceLeDiff, Nat.reduceBEq, mwp_draw]
  refine callK_is (l14Open_is b) ?_
  simp (config := { maxSteps := 10000000, implicitDefEqProofs := false }) only [go_sem, ↓reduceIte, Nat.reduceAdd, Nat.reduceMul, Nat.reduceEqDiff, Nat.reduceSub, Nat.reduceLT, reduceCtorEq, Nat.reduceLeDiff, Nat.reduceBEq, mwp_draw]
  refine callK_det (pick_is (b.take 2000) 0 n hb' hc' (by omega) (by omega)) ?_
  generalize pickM (b.take 2000) 0 n = x
  simp (config := { maxSteps := 10000000, implicitDefEqProofs := false }) only [go_sem, ↓reduceIte, Nat.reduceAdd, Nat.reduceMul, Nat.reduceEqDiff, Nat.reduceSub, Nat.reduceLT, reduceCtorEq, Nat.reduceLeDiff, Nat.reduceBEq, mwp_draw]
  refine callK_det (pick_is (b.take 2000) (0 + 1) n hb' hc' (by omega) (by omega)) ?_
  generalize pickM (b.take 2000) (0 + 1) n = y
  simp (config := { maxSteps := 10000000, implicitDefEqProofs := false }) only [go_sem, ↓reduceIte, Nat.reduceAdd, Nat.reduceMul, Nat.reduceEqDiff, Nat.reduceSub, Nat.reduceLT, reduceCtorEq, Nat.reduceLeDiff, Nat.reduceBEq, mwp_draw]
  refine callK_is (l1Edge_is x y) ?_
  simp (config := { maxSteps := 10000000, implicitDefEqProofs := false }) only [go_sem, ↓reduceIte, Nat.reduceAdd, Nat.reduceMul, Nat.reduceEqDiff, Nat.reduceSub, Nat.reduceLT, reduceCtorEq, Nat.reduceLeDiff, Nat.reduceBEq, mwp_draw]
  refine ⟨by kernel_rfl, n, es, ls, fs, edgN x y, rfl, hv⟩
theorem DrawCutLevel_is (t : Bool) (b : List Int) (hb : Byt b) : MCall prog fid_spec_DrawCutLevel [.s t 1 (encB b)]
    (fun o r => o = [.u] ∧ ∃ n es ls fs, ∃ e : E, r = .tup [LvO n es ls fs, Ed1 e] ∧ LvD 60 n es ls fs) := by
  refine MCall.run mixed get_spec_DrawCutLevel ok_spec_DrawCutLevel (Nat.le_of_ble_eq_true rfl) (by decide) ?_
  unfold mc_spec_DrawCutLevel
  have hb' := byt_take2 hb 2000
  have hc' : (b.take 2000).length ≤ 2000 := by simp; omega
  simp (config := { maxSteps := 10000000, implicitDefEqProofs := false }) only [go_sem, ↓reduceIte, Nat.reduceAdd, Nat.reduceMul, Nat.reduceEqDiff, Nat.reduceSub, Nat.reduceLT, reduceCtorEq, Nat.reduceLeDiff, Nat.reduceBEq, mwp_draw]
  refine callK_any (l7Draw_is _ b hb) ?_
  rintro o r ⟨rfl, n, es, ls, fs, rfl, hv⟩
  have hv' := hv
  obtain ⟨v1, v2, v3, v4, v5⟩ := hv'
  simp (config := { maxSteps := 10000000, implicitDefEqProofs := false }) only [go_sem, ↓reduceIte, Nat.reduceAdd, Nat.reduceMul, Nat.reduceEqDiff, Nat.reduceSub, Nat.reduceLT, reduceCtorEq, Nat.reduceLeDiff, Nat.reduceBEq, mwp_draw]
  refine callK_is (l14Open_is b) ?_
  simp (config := { maxSteps := 10000000, implicitDefEqProofs := false }) only [go_sem, ↓reduceIte, Nat.reduceAdd, Nat.reduceMul, Nat.reduceEqDiff, Nat.reduceSub, Nat.reduceLT, reduceCtorEq, Nat.reduceLeDiff, Nat.reduceBEq, mwp_draw]
  generalize b.take 2000 = c at hb' hc'
  by_cases h0 : es.length = 0
  · have c1 : ((es.length : Int) = 0) = True := eq_true (by omega)
    simp (config := { maxSteps := 10000000, implicitDefEqProofs := false }) only [go_sem, ↓reduceIte, Nat.reduceAdd, Nat.reduceMul, Nat.reduceEqDiff, Nat.reduceSub, Nat.reduceLT, reduceCtorEq, Nat.reduceLeDiff, Nat.reduceBEq, mwp_draw, c1]
    refine callK_det (num_is _ c 0 [1, 2, 16] hb' hc' (by omega) (by decide)) ?_
    generalize numM c 0 [1, 2, 16] = x
    simp (config := { maxSteps := 10000000, implicitDefEqProofs := false }) only [go_sem, ↓reduceIte, Nat.reduceAdd, Nat.reduceMul, Nat.reduceEqDiff, Nat.reduceSub, Nat.reduceLT, reduceCtorEq, Nat.reduceLeDiff, Nat.reduceBEq, mwp_draw]
    exact ⟨by kernel_rfl, n, es, ls, fs, (0, x), rfl, hv⟩
  · have c1 : ((es.length : Int) = 0) = False := eq_false (by omega)
    simp (config := { maxSteps := 10000000, implicitDefEqProofs := false }) only [go_sem, ↓reduceIte, Nat.reduceAdd, Nat.reduceMul, Nat.reduceEqDiff, Nat.reduceSub, Nat.reduceLT, reduceCtorEq, Nat.reduceLeDiff, Nat.reduceBEq, mwp_draw, c1]
    refine callK_det (pick_is c 0 12 hb' hc' (by omega) (by omega)) ?_
    generalize pickM c 0 12 = w
    by_cases w0 : w = 0
    · have d0 : (w = 0) = True := eq_true w0
      simp (config := { maxSteps := 10000000, implicitDefEqProofs := false }) only [go_sem, ↓reduceIte, Nat.reduceAdd, Nat.reduceMul, Nat.reduceEqDiff, Nat.reduceSub, Nat.reduceLT, reduceCtorEq, Nat.reduceLeDiff, Nat.reduceBEq, mwp_draw, c1, d0]
      refine callK_det (num_is _ c (0 + 1) [1, 2, 16] hb' hc' (by omega) (by decide)) ?_
      generalize numM c (0 + 1) [1, 2, 16] = x
      simp (config := { maxSteps := 10000000, implicitDefEqProofs := false }) only [go_sem, ↓reduceIte, Nat.reduceAdd, Nat.reduceMul, Nat.reduceEqDiff, Nat.reduceSub, Nat.reduceLT, reduceCtorEq, Nat.reduceLeDiff, Nat.reduceBEq, mwp_draw]
      exact ⟨by kernel_rfl, n, es, ls, fs, (0, x), rfl, hv⟩
    · have d0 : (w = 0) = False := eq_false w0
      simp (config := { maxSteps := 10000000, implicitDefEqProofs := false }) only [go_sem, ↓reduceIte, Nat.reduceAdd, Nat.reduceMul, Nat.reduceEqDiff, Nat.reduceSub, Nat.reduceLT, reduceCtorEq, Nat.reduceLeDiff, Nat.reduceBEq, mwp_draw, c1, d0]
      refine callK_det (pick_is c (0 + 1) es.length hb' hc' (by omega) (by omega)) ?_
      have rk := pick_rng (b := c) (p := 0 + 1) es.length hb' hc' (by omega)
      generalize pickM c (0 + 1) es.length = k at rk ⊢
      have rk2 := rk.2 (by omega)
      simp (config := { maxSteps := 10000000, implicitDefEqProofs := false }) only [go_sem, ↓reduceIte, Nat.reduceAdd, Nat.reduceMul, Nat.reduceEqDiff, Nat.reduceSub, Nat.reduceLT, reduceCtorEq, Nat.reduceLeDiff, Nat.reduceBEq, mwp_draw]
      refine ⟨by omega, by omega, by omega, fun x hx => ⟨by kernel_rfl, n, es, ls, fs, x, rfl, hv⟩⟩
end Go.Fw
