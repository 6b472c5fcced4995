/-
  The laws on levels: the same as the reference.
-/
import Derived.Test.YtbolckhedohecabCtHl
import Derived.Test.YtbolckhedohecabCtY
import Derived.Test.YtbolckhedohecabCtRow
namespace Go.Fw
set_option linter.unusedSimpArgs false
set_option linter.unusedVariables false
set_option maxRecDepth 100000
set_option maxHeartbeats 4000000
open Go.Proofs.Try (prog)
open Go.Pl

theorem FnExactLevelsValid_is (n : Int) (es : List E) (ls : List Int) (fs : List Bool) (hl0 : es.length ≤ 9223372036854775807) (hl0b : ls.length ≤ 9223372036854775807) (hl0c : fs.length ≤ 9223372036854775807) : Is prog fid_laws_FnExactLevelsValid [LvS false false false n es ls fs] (.b true) := by
  refine MCall.run mixed get_laws_FnExactLevelsValid ok_laws_FnExactLevelsValid (Nat.le_of_ble_eq_true rfl) (by decide) ?_
  unfold mc_laws_FnExactLevelsValid
  simp (config := { maxSteps := 10000000, implicitDefEqProofs := false }) only [go_sem, ↓reduceIte, Nat.reduceAdd, Nat.reduceMul, Nat.reduceEqDiff, Nat.reduceSub, Nat.reduceLT, reduceCtorEq, Nat.reduceLeDiff, Nat.reduceBEq, mwp_draw]
  refine callK_is (szLeveled_is _ _ _ n es ls fs hl0 hl0b hl0c) ?_
  simp (config := { maxSteps := 10000000, implicitDefEqProofs := false }) only [go_sem, ↓reduceIte, Nat.reduceAdd, Nat.reduceMul, Nat.reduceEqDiff, Nat.reduceSub, Nat.reduceLT, reduceCtorEq, Nat.reduceLeDiff, Nat.reduceBEq, mwp_draw]
  refine fun hs0 => ?_
  obtain ⟨g0, q0⟩ := szN_get (by omega) hs0
  refine callK_is (toLeveled_is _ _ _ n es ls fs (by omega) (by omega) (by omega)) ?_
  simp (config := { maxSteps := 10000000, implicitDefEqProofs := false }) only [go_sem, ↓reduceIte, Nat.reduceAdd, Nat.reduceMul, Nat.reduceEqDiff, Nat.reduceSub, Nat.reduceLT, reduceCtorEq, Nat.reduceLeDiff, Nat.reduceBEq, mwp_draw]
  try refine ⟨by kernel_rfl, ?_⟩
  refine callK_is (LevelsValidS_is _ _ _ n es ls fs (by omega) (by omega) (by omega)) ?_
  simp (config := { maxSteps := 10000000, implicitDefEqProofs := false }) only [go_sem, ↓reduceIte, Nat.reduceAdd, Nat.reduceMul, Nat.reduceEqDiff, Nat.reduceSub, Nat.reduceLT, reduceCtorEq, Nat.reduceLeDiff, Nat.reduceBEq, mwp_draw]
  try refine ⟨by kernel_rfl, ?_⟩
  refine callK_is (toLeveled_is _ _ _ n es ls fs (by omega) (by omega) (by omega)) ?_
  simp (config := { maxSteps := 10000000, implicitDefEqProofs := false }) only [go_sem, ↓reduceIte, Nat.reduceAdd, Nat.reduceMul, Nat.reduceEqDiff, Nat.reduceSub, Nat.reduceLT, reduceCtorEq, Nat.reduceLeDiff, Nat.reduceBEq, mwp_draw]
  try refine ⟨by kernel_rfl, ?_⟩
  refine callK_is (LevelsValid_is _ _ _ n es ls fs (by omega) (by omega) (by omega)) ?_
  simp (config := { maxSteps := 10000000, implicitDefEqProofs := false }) only [go_sem, ↓reduceIte, Nat.reduceAdd, Nat.reduceMul, Nat.reduceEqDiff, Nat.reduceSub, Nat.reduceLT, reduceCtorEq, Nat.reduceLeDiff, Nat.reduceBEq, mwp_draw]
  try refine ⟨by kernel_rfl, ?_⟩
  refine callK_is (toLeveled_is _ _ _ n es ls fs (by omega) (by omega) (by omega)) ?_
  simp (config := { maxSteps := 10000000, implicitDefEqProofs := false }) only [go_sem, ↓reduceIte, Nat.reduceAdd, Nat.reduceMul, Nat.reduceEqDiff, Nat.reduceSub, Nat.reduceLT, reduceCtorEq, Nat.reduceLeDiff, Nat.reduceBEq, mwp_draw]
  try refine ⟨by kernel_rfl, ?_⟩
  refine callK_is (eqLeveled_is _ _ _ _ _ _ _ _ _ _ _ _ _ _ (by omega) (by omega) (by omega)) ?_
  simp (config := { maxSteps := 10000000, implicitDefEqProofs := false }) only [go_sem, ↓reduceIte, Nat.reduceAdd, Nat.reduceMul, Nat.reduceEqDiff, Nat.reduceSub, Nat.reduceLT, reduceCtorEq, Nat.reduceLeDiff, Nat.reduceBEq, mwp_draw]
  try refine ⟨by kernel_rfl, ?_⟩
  first | done | (show _ = true; kernel_rfl) | exact ⟨by kernel_rfl, rfl⟩
theorem FnExactLevelsValid_row (m0 : List MV) (h0 : msOK [.sc (.i .i64), .sl [.i .i64, .i .i64], .sl [.i .i64], .sl [.b]] m0) : Is prog fid_laws_FnExactLevelsValid [.agg m0] (.b true) := by
  obtain ⟨n0, l0, k0, t0, rfl, b0, b0b, b0c⟩ := lv_row h0
  exact FnExactLevelsValid_is n0 l0 k0 t0 (Nat.le_trans b0 (by decide)) (Nat.le_trans b0b (by decide)) (Nat.le_trans b0c (by decide))
theorem FnExactSumLevels_is (n : Int) (es : List E) (ls : List Int) (fs : List Bool) (hl0 : es.length ≤ 9223372036854775807) (hl0b : ls.length ≤ 9223372036854775807) (hl0c : fs.length ≤ 9223372036854775807) : Is prog fid_laws_FnExactSumLevels [LvS false false false n es ls fs] (.b true) := by
  refine MCall.run mixed get_laws_FnExactSumLevels ok_laws_FnExactSumLevels (Nat.le_of_ble_eq_true rfl) (by decide) ?_
  unfold mc_laws_FnExactSumLevels
  simp (config := { maxSteps := 10000000, implicitDefEqProofs := false }) only [go_sem, ↓reduceIte, Nat.reduceAdd, Nat.reduceMul, Nat.reduceEqDiff, Nat.reduceSub, Nat.reduceLT, reduceCtorEq, Nat.reduceLeDiff, Nat.reduceBEq, mwp_draw]
  refine callK_is (szLeveled_is _ _ _ n es ls fs hl0 hl0b hl0c) ?_
  simp (config := { maxSteps := 10000000, implicitDefEqProofs := false }) only [go_sem, ↓reduceIte, Nat.reduceAdd, Nat.reduceMul, Nat.reduceEqDiff, Nat.reduceSub, Nat.reduceLT, reduceCtorEq, Nat.reduceLeDiff, Nat.reduceBEq, mwp_draw]
  refine fun hs0 => ?_
  obtain ⟨g0, q0⟩ := szN_get (by omega) hs0
  refine callK_is (toLeveled_is _ _ _ n es ls fs (by omega) (by omega) (by omega)) ?_
  simp (config := { maxSteps := 10000000, implicitDefEqProofs := false }) only [go_sem, ↓reduceIte, Nat.reduceAdd, Nat.reduceMul, Nat.reduceEqDiff, Nat.reduceSub, Nat.reduceLT, reduceCtorEq, Nat.reduceLeDiff, Nat.reduceBEq, mwp_draw]
  try refine ⟨by kernel_rfl, ?_⟩
  refine callK_is (SumLevelsS_is _ _ _ n es ls fs (by omega) (by omega) (by omega)) ?_
  simp (config := { maxSteps := 10000000, implicitDefEqProofs := false }) only [go_sem, ↓reduceIte, Nat.reduceAdd, Nat.reduceMul, Nat.reduceEqDiff, Nat.reduceSub, Nat.reduceLT, reduceCtorEq, Nat.reduceLeDiff, Nat.reduceBEq, mwp_draw]
  try refine ⟨by kernel_rfl, ?_⟩
  refine callK_is (toLeveled_is _ _ _ n es ls fs (by omega) (by omega) (by omega)) ?_
  simp (config := { maxSteps := 10000000, implicitDefEqProofs := false }) only [go_sem, ↓reduceIte, Nat.reduceAdd, Nat.reduceMul, Nat.reduceEqDiff, Nat.reduceSub, Nat.reduceLT, reduceCtorEq, Nat.reduceLeDiff, Nat.reduceBEq, mwp_draw]
  try refine ⟨by kernel_rfl, ?_⟩
  refine callK_is (SumLevels_is _ _ _ n es ls fs (by omega) (by omega) (by omega)) ?_
  simp (config := { maxSteps := 10000000, implicitDefEqProofs := false }) only [go_sem, ↓reduceIte, Nat.reduceAdd, Nat.reduceMul, Nat.reduceEqDiff, Nat.reduceSub, Nat.reduceLT, reduceCtorEq, Nat.reduceLeDiff, Nat.reduceBEq, mwp_draw]
  try refine ⟨by kernel_rfl, ?_⟩
  refine callK_is (toLeveled_is _ _ _ n es ls fs (by omega) (by omega) (by omega)) ?_
  simp (config := { maxSteps := 10000000, implicitDefEqProofs := false }) only [go_sem, ↓reduceIte, Nat.reduceAdd, Nat.reduceMul, Nat.reduceEqDiff, Nat.reduceSub, Nat.reduceLT, reduceCtorEq, Nat.reduceLeDiff, Nat.reduceBEq, mwp_draw]
  try refine ⟨by kernel_rfl, ?_⟩
  refine callK_is (eqLeveled_is _ _ _ _ _ _ _ _ _ _ _ _ _ _ (by omega) (by omega) (by omega)) ?_
  simp (config := { maxSteps := 10000000, implicitDefEqProofs := false }) only [go_sem, ↓reduceIte, Nat.reduceAdd, Nat.reduceMul, Nat.reduceEqDiff, Nat.reduceSub, Nat.reduceLT, reduceCtorEq, Nat.reduceLeDiff, Nat.reduceBEq, mwp_draw]
  try refine ⟨by kernel_rfl, ?_⟩
  first | done | (show _ = true; kernel_rfl) | exact ⟨by kernel_rfl, rfl⟩
theorem FnExactSumLevels_row (m0 : List MV) (h0 : msOK [.sc (.i .i64), .sl [.i .i64, .i .i64], .sl [.i .i64], .sl [.b]] m0) : Is prog fid_laws_FnExactSumLevels [.agg m0] (.b true) := by
  obtain ⟨n0, l0, k0, t0, rfl, b0, b0b, b0c⟩ := lv_row h0
  exact FnExactSumLevels_is n0 l0 k0 t0 (Nat.le_trans b0 (by decide)) (Nat.le_trans b0b (by decide)) (Nat.le_trans b0c (by decide))
theorem FnExactLevelForest_is (n : Int) (es : List E) (ls : List Int) (fs : List Bool) (k : Int) (hl0 : es.length ≤ 9223372036854775807) (hl0b : ls.length ≤ 9223372036854775807) (hl0c : fs.length ≤ 9223372036854775807) : Is prog fid_laws_FnExactLevelForest [LvS false false false n es ls fs, .i .i64 k] (.b true) := by
  have ht := lfE_len (n := n) (es := es) (ls := ls) (fs := fs) (k := k)
  refine MCall.run mixed get_laws_FnExactLevelForest ok_laws_FnExactLevelForest (Nat.le_of_ble_eq_true rfl) (by decide) ?_
  unfold mc_laws_FnExactLevelForest
  simp (config := { maxSteps := 10000000, implicitDefEqProofs := false }) only [go_sem, ↓reduceIte, Nat.reduceAdd, Nat.reduceMul, Nat.reduceEqDiff, Nat.reduceSub, Nat.reduceLT, reduceCtorEq, Nat.reduceLeDiff, Nat.reduceBEq, mwp_draw]
  refine callK_is (szLeveled_is _ _ _ n es ls fs hl0 hl0b hl0c) ?_
  simp (config := { maxSteps := 10000000, implicitDefEqProofs := false }) only [go_sem, ↓reduceIte, Nat.reduceAdd, Nat.reduceMul, Nat.reduceEqDiff, Nat.reduceSub, Nat.reduceLT, reduceCtorEq, Nat.reduceLeDiff, Nat.reduceBEq, mwp_draw]
  refine fun hs0 => ?_
  obtain ⟨g0, q0⟩ := szN_get (by omega) hs0
  refine callK_is (toLeveled_is _ _ _ n es ls fs (by omega) (by omega) (by omega)) ?_
  simp (config := { maxSteps := 10000000, implicitDefEqProofs := false }) only [go_sem, ↓reduceIte, Nat.reduceAdd, Nat.reduceMul, Nat.reduceEqDiff, Nat.reduceSub, Nat.reduceLT, reduceCtorEq, Nat.reduceLeDiff, Nat.reduceBEq, mwp_draw]
  try refine ⟨by kernel_rfl, ?_⟩
  refine callK_is (LevelForestS_is _ _ _ n es ls fs k (by omega) (by omega) (by omega)) ?_
  simp (config := { maxSteps := 10000000, implicitDefEqProofs := false }) only [go_sem, ↓reduceIte, Nat.reduceAdd, Nat.reduceMul, Nat.reduceEqDiff, Nat.reduceSub, Nat.reduceLT, reduceCtorEq, Nat.reduceLeDiff, Nat.reduceBEq, mwp_draw]
  try refine ⟨by kernel_rfl, ?_⟩
  refine callK_is (toLeveled_is _ _ _ n es ls fs (by omega) (by omega) (by omega)) ?_
  simp (config := { maxSteps := 10000000, implicitDefEqProofs := false }) only [go_sem, ↓reduceIte, Nat.reduceAdd, Nat.reduceMul, Nat.reduceEqDiff, Nat.reduceSub, Nat.reduceLT, reduceCtorEq, Nat.reduceLeDiff, Nat.reduceBEq, mwp_draw]
  try refine ⟨by kernel_rfl, ?_⟩
  refine callK_is (LevelForest_is _ _ _ n es ls fs k (by omega) (by omega) (by omega)) ?_
  simp (config := { maxSteps := 10000000, implicitDefEqProofs := false }) only [go_sem, ↓reduceIte, Nat.reduceAdd, Nat.reduceMul, Nat.reduceEqDiff, Nat.reduceSub, Nat.reduceLT, reduceCtorEq, Nat.reduceLeDiff, Nat.reduceBEq, mwp_draw]
  try refine ⟨by kernel_rfl, ?_⟩
  refine callK_is (eqEdgeS_is _ _ _ _ (by omega)) ?_
  simp (config := { maxSteps := 10000000, implicitDefEqProofs := false }) only [go_sem, ↓reduceIte, Nat.reduceAdd, Nat.reduceMul, Nat.reduceEqDiff, Nat.reduceSub, Nat.reduceLT, reduceCtorEq, Nat.reduceLeDiff, Nat.reduceBEq, mwp_draw]
  try refine ⟨by kernel_rfl, ?_⟩
  refine callK_is (toLeveled_is _ _ _ n es ls fs (by omega) (by omega) (by omega)) ?_
  simp (config := { maxSteps := 10000000, implicitDefEqProofs := false }) only [go_sem, ↓reduceIte, Nat.reduceAdd, Nat.reduceMul, Nat.reduceEqDiff, Nat.reduceSub, Nat.reduceLT, reduceCtorEq, Nat.reduceLeDiff, Nat.reduceBEq, mwp_draw]
  try refine ⟨by kernel_rfl, ?_⟩
  refine callK_is (eqLeveled_is _ _ _ _ _ _ _ _ _ _ _ _ _ _ (by omega) (by omega) (by omega)) ?_
  simp (config := { maxSteps := 10000000, implicitDefEqProofs := false }) only [go_sem, ↓reduceIte, Nat.reduceAdd, Nat.reduceMul, Nat.reduceEqDiff, Nat.reduceSub, Nat.reduceLT, reduceCtorEq, Nat.reduceLeDiff, Nat.reduceBEq, mwp_draw]
  try refine ⟨by kernel_rfl, ?_⟩
  refine callK_det (markLeveled_is _ _ _ n es ls fs 1 (by omega) (by omega) (by omega) (by omega)) ?_
  simp (config := { maxSteps := 10000000, implicitDefEqProofs := false }) only [go_sem, ↓reduceIte, Nat.reduceAdd, Nat.reduceMul, Nat.reduceEqDiff, Nat.reduceSub, Nat.reduceLT, reduceCtorEq, Nat.reduceLeDiff, Nat.reduceBEq, mwp_draw, markE_length, markE_take, markI_length, markI_take, markT_length, markT_take]
  try refine ⟨by kernel_rfl, ?_⟩
  first | refine ⟨fun h => ?_, fun h => by omega⟩ | refine ⟨fun h => by omega, fun h => ?_⟩ | refine fun h => ?_
  refine callK_is (eqEdgeS_is _ _ _ _ (by omega)) ?_
  simp (config := { maxSteps := 10000000, implicitDefEqProofs := false }) only [go_sem, ↓reduceIte, Nat.reduceAdd, Nat.reduceMul, Nat.reduceEqDiff, Nat.reduceSub, Nat.reduceLT, reduceCtorEq, Nat.reduceLeDiff, Nat.reduceBEq, mwp_draw, markE_length, markE_take, markI_length, markI_take, markT_length, markT_take]
  try refine ⟨by kernel_rfl, ?_⟩
  refine callK_det (markEdgeS_is _ (lfE n es ls fs k) 1 (by omega) (by omega)) ?_
  simp (config := { maxSteps := 10000000, implicitDefEqProofs := false }) only [go_sem, ↓reduceIte, Nat.reduceAdd, Nat.reduceMul, Nat.reduceEqDiff, Nat.reduceSub, Nat.reduceLT, reduceCtorEq, Nat.reduceLeDiff, Nat.reduceBEq, mwp_draw, markE_length, markE_take, markI_length, markI_take, markT_length, markT_take]
  try refine ⟨by kernel_rfl, ?_⟩
  refine callK_is (heldEdgeS_is _ (lfE n es ls fs k).length 1 (by omega) (by omega)) ?_
  simp (config := { maxSteps := 10000000, implicitDefEqProofs := false }) only [go_sem, ↓reduceIte, Nat.reduceAdd, Nat.reduceMul, Nat.reduceEqDiff, Nat.reduceSub, Nat.reduceLT, reduceCtorEq, Nat.reduceLeDiff, Nat.reduceBEq, mwp_draw, markE_length, markE_take, markI_length, markI_take, markT_length, markT_take]
  try refine ⟨by kernel_rfl, ?_⟩
  first | refine ⟨fun h => ?_, fun h => by omega⟩ | refine ⟨fun h => by omega, fun h => ?_⟩ | refine fun h => ?_
  refine callK_is (toLeveled_is _ _ _ n es ls fs (by omega) (by omega) (by omega)) ?_
  simp (config := { maxSteps := 10000000, implicitDefEqProofs := false }) only [go_sem, ↓reduceIte, Nat.reduceAdd, Nat.reduceMul, Nat.reduceEqDiff, Nat.reduceSub, Nat.reduceLT, reduceCtorEq, Nat.reduceLeDiff, Nat.reduceBEq, mwp_draw]
  try refine ⟨by kernel_rfl, ?_⟩
  refine callK_is (LevelForest_is _ _ _ n es ls fs k (by omega) (by omega) (by omega)) ?_
  simp (config := { maxSteps := 10000000, implicitDefEqProofs := false }) only [go_sem, ↓reduceIte, Nat.reduceAdd, Nat.reduceMul, Nat.reduceEqDiff, Nat.reduceSub, Nat.reduceLT, reduceCtorEq, Nat.reduceLeDiff, Nat.reduceBEq, mwp_draw, markE_length, markE_take, markI_length, markI_take, markT_length, markT_take]
  try refine ⟨by kernel_rfl, ?_⟩
  refine callK_is (eqEdgeS_is _ _ _ _ (by omega)) ?_
  simp (config := { maxSteps := 10000000, implicitDefEqProofs := false }) only [go_sem, ↓reduceIte, Nat.reduceAdd, Nat.reduceMul, Nat.reduceEqDiff, Nat.reduceSub, Nat.reduceLT, reduceCtorEq, Nat.reduceLeDiff, Nat.reduceBEq, mwp_draw, markE_length, markE_take, markI_length, markI_take, markT_length, markT_take]
  try refine ⟨by kernel_rfl, ?_⟩
  refine callK_is (heldEdgeS_is _ (lfE n es ls fs k).length 1 (by omega) (by omega)) ?_
  simp (config := { maxSteps := 10000000, implicitDefEqProofs := false }) only [go_sem, ↓reduceIte, Nat.reduceAdd, Nat.reduceMul, Nat.reduceEqDiff, Nat.reduceSub, Nat.reduceLT, reduceCtorEq, Nat.reduceLeDiff, Nat.reduceBEq, mwp_draw, markE_length, markE_take, markI_length, markI_take, markT_length, markT_take]
  try refine ⟨by kernel_rfl, ?_⟩
  first | exact fun h => by omega | skip
theorem FnExactLevelForest_row (m0 : List MV) (h0 : msOK [.sc (.i .i64), .sl [.i .i64, .i .i64], .sl [.i .i64], .sl [.b]] m0) (x1 : Int) (_ : (Lit.int .i64 x1).wf = true) : Is prog fid_laws_FnExactLevelForest [.agg m0, .i .i64 x1] (.b true) := by
  obtain ⟨n0, l0, k0, t0, rfl, b0, b0b, b0c⟩ := lv_row h0
  exact FnExactLevelForest_is n0 l0 k0 t0 x1 (Nat.le_trans b0 (by decide)) (Nat.le_trans b0b (by decide)) (Nat.le_trans b0c (by decide))
end Go.Fw
