/-
  The law on an edge put into a graph with levels: the same as the reference.
-/
import Derived.Test.YtbolckhedohecabCtHl
import Derived.Test.YtbolckhedohecabCtZ2
import Derived.Test.YtbolckhedohecabCtRow
namespace Go.Fw
set_option linter.unusedSimpArgs false
set_option linter.unusedVariables false
set_option maxRecDepth 100000
set_option maxHeartbeats 4000000
open Go.Proofs.Try (prog)
open Go.Pl

theorem FnExactPutLevel_is (n : Int) (es : List E) (ls : List Int) (fs : List Bool) (e : E) (hl0 : es.length ≤ 9223372036854775807) (hl0b : ls.length ≤ 9223372036854775807) (hl0c : fs.length ≤ 9223372036854775807) : Is prog fid_laws_FnExactPutLevel [LvS false false false n es ls fs, Ed1 e] (.b true) := by
  have ht := pv_len (n := n) (es := es) (ls := ls) (fs := fs) (e := e)
  obtain ⟨ht1, ht2, ht3⟩ := ht
  refine MCall.run mixed get_laws_FnExactPutLevel ok_laws_FnExactPutLevel (Nat.le_of_ble_eq_true rfl) (by decide) ?_
  unfold mc_laws_FnExactPutLevel
  simp (config := { maxSteps := 10000000, implicitDefEqProofs := false }) only [go_sem, ↓reduceIte, Nat.reduceAdd, Nat.reduceMul, Nat.reduceEqDiff, Nat.reduceSub, Nat.reduceLT, reduceCtorEq, Nat.reduceLeDiff, Nat.reduceBEq, mwp_draw]
  refine callK_is (szLeveled_is _ _ _ n es ls fs hl0 hl0b hl0c) ?_
  simp (config := { maxSteps := 10000000, implicitDefEqProofs := false }) only [go_sem, ↓reduceIte, Nat.reduceAdd, Nat.reduceMul, Nat.reduceEqDiff, Nat.reduceSub, Nat.reduceLT, reduceCtorEq, Nat.reduceLeDiff, Nat.reduceBEq, mwp_draw]
  refine fun hs0 => ?_
  obtain ⟨g0, q0⟩ := szN_get (by omega) hs0
  refine callK_is (toLeveled_is _ _ _ n es ls fs (by omega) (by omega) (by omega)) ?_
  simp (config := { maxSteps := 10000000, implicitDefEqProofs := false }) only [go_sem, ↓reduceIte, Nat.reduceAdd, Nat.reduceMul, Nat.reduceEqDiff, Nat.reduceSub, Nat.reduceLT, reduceCtorEq, Nat.reduceLeDiff, Nat.reduceBEq, mwp_draw]
  try refine ⟨by kernel_rfl, ?_⟩
  refine callK_is (toEdge_is e) ?_
  simp (config := { maxSteps := 10000000, implicitDefEqProofs := false }) only [go_sem, ↓reduceIte, Nat.reduceAdd, Nat.reduceMul, Nat.reduceEqDiff, Nat.reduceSub, Nat.reduceLT, reduceCtorEq, Nat.reduceLeDiff, Nat.reduceBEq, mwp_draw]
  try refine ⟨by kernel_rfl, ?_⟩
  refine callK_is (PutLevelS_is _ _ _ n es ls fs e (by omega) (by omega) (by omega)) ?_
  simp (config := { maxSteps := 10000000, implicitDefEqProofs := false }) only [go_sem, ↓reduceIte, Nat.reduceAdd, Nat.reduceMul, Nat.reduceEqDiff, Nat.reduceSub, Nat.reduceLT, reduceCtorEq, Nat.reduceLeDiff, Nat.reduceBEq, mwp_draw]
  try refine ⟨by kernel_rfl, ?_⟩
  refine callK_is (toLeveled_is _ _ _ n es ls fs (by omega) (by omega) (by omega)) ?_
  simp (config := { maxSteps := 10000000, implicitDefEqProofs := false }) only [go_sem, ↓reduceIte, Nat.reduceAdd, Nat.reduceMul, Nat.reduceEqDiff, Nat.reduceSub, Nat.reduceLT, reduceCtorEq, Nat.reduceLeDiff, Nat.reduceBEq, mwp_draw]
  try refine ⟨by kernel_rfl, ?_⟩
  refine callK_is (toEdge_is e) ?_
  simp (config := { maxSteps := 10000000, implicitDefEqProofs := false }) only [go_sem, ↓reduceIte, Nat.reduceAdd, Nat.reduceMul, Nat.reduceEqDiff, Nat.reduceSub, Nat.reduceLT, reduceCtorEq, Nat.reduceLeDiff, Nat.reduceBEq, mwp_draw]
  try refine ⟨by kernel_rfl, ?_⟩
  refine callK_is (PutLevel_is _ _ _ n es ls fs e (by omega) (by omega) (by omega)) ?_
  simp (config := { maxSteps := 10000000, implicitDefEqProofs := false }) only [go_sem, ↓reduceIte, Nat.reduceAdd, Nat.reduceMul, Nat.reduceEqDiff, Nat.reduceSub, Nat.reduceLT, reduceCtorEq, Nat.reduceLeDiff, Nat.reduceBEq, mwp_draw]
  try refine ⟨by kernel_rfl, ?_⟩
  refine callK_is (eqLeveled_is _ _ _ _ _ _ _ _ _ _ _ _ _ _ (by omega) (by omega) (by omega)) ?_
  simp (config := { maxSteps := 10000000, implicitDefEqProofs := false }) only [go_sem, ↓reduceIte, Nat.reduceAdd, Nat.reduceMul, Nat.reduceEqDiff, Nat.reduceSub, Nat.reduceLT, reduceCtorEq, Nat.reduceLeDiff, Nat.reduceBEq, mwp_draw]
  try refine ⟨by kernel_rfl, ?_⟩
  refine callK_is (toLeveled_is _ _ _ n es ls fs (by omega) (by omega) (by omega)) ?_
  simp (config := { maxSteps := 10000000, implicitDefEqProofs := false }) only [go_sem, ↓reduceIte, Nat.reduceAdd, Nat.reduceMul, Nat.reduceEqDiff, Nat.reduceSub, Nat.reduceLT, reduceCtorEq, Nat.reduceLeDiff, Nat.reduceBEq, mwp_draw]
  try refine ⟨by kernel_rfl, ?_⟩
  refine callK_is (eqLeveled_is _ _ _ _ _ _ _ _ _ _ _ _ _ _ (by omega) (by omega) (by omega)) ?_
  simp (config := { maxSteps := 10000000, implicitDefEqProofs := false }) only [go_sem, ↓reduceIte, Nat.reduceAdd, Nat.reduceMul, Nat.reduceEqDiff, Nat.reduceSub, Nat.reduceLT, reduceCtorEq, Nat.reduceLeDiff, Nat.reduceBEq, mwp_draw]
  try refine ⟨by kernel_rfl, ?_⟩
  refine callK_det (markLeveled_is _ _ _ n es ls fs 1 (by omega) (by omega) (by omega) (by omega)) ?_
  simp (config := { maxSteps := 10000000, implicitDefEqProofs := false }) only [go_sem, ↓reduceIte, Nat.reduceAdd, Nat.reduceMul, Nat.reduceEqDiff, Nat.reduceSub, Nat.reduceLT, reduceCtorEq, Nat.reduceLeDiff, Nat.reduceBEq, mwp_draw, markE_length, markE_take, markI_length, markI_take, markT_length, markT_take]
  try refine ⟨by kernel_rfl, ?_⟩
  first | refine ⟨fun h => ?_, fun h => by omega⟩ | refine ⟨fun h => by omega, fun h => ?_⟩ | refine fun h => ?_
  refine callK_is (eqLeveled_is _ _ _ _ _ _ _ _ _ _ _ _ _ _ (by omega) (by omega) (by omega)) ?_
  simp (config := { maxSteps := 10000000, implicitDefEqProofs := false }) only [go_sem, ↓reduceIte, Nat.reduceAdd, Nat.reduceMul, Nat.reduceEqDiff, Nat.reduceSub, Nat.reduceLT, reduceCtorEq, Nat.reduceLeDiff, Nat.reduceBEq, mwp_draw, markE_length, markE_take, markI_length, markI_take, markT_length, markT_take]
  try refine ⟨by kernel_rfl, ?_⟩
  refine callK_det (markLeveled_is _ _ _ (pvN n es ls fs e) (pvE n es ls fs e) (pvL n es ls fs e) (pvT n es ls fs e) 1 (by omega) (by omega) (by omega) (by omega)) ?_
  simp (config := { maxSteps := 10000000, implicitDefEqProofs := false }) only [go_sem, ↓reduceIte, Nat.reduceAdd, Nat.reduceMul, Nat.reduceEqDiff, Nat.reduceSub, Nat.reduceLT, reduceCtorEq, Nat.reduceLeDiff, Nat.reduceBEq, mwp_draw, markE_length, markE_take, markI_length, markI_take, markT_length, markT_take]
  try refine ⟨by kernel_rfl, ?_⟩
  refine callK_is (heldLeveled_is _ _ _ (pvN n es ls fs e) (pvE n es ls fs e).length (pvL n es ls fs e).length (pvT n es ls fs e).length 1 (by omega) (by omega) (by omega) (by omega)) ?_
  simp (config := { maxSteps := 10000000, implicitDefEqProofs := false }) only [go_sem, ↓reduceIte, Nat.reduceAdd, Nat.reduceMul, Nat.reduceEqDiff, Nat.reduceSub, Nat.reduceLT, reduceCtorEq, Nat.reduceLeDiff, Nat.reduceBEq, mwp_draw, markE_length, markE_take, markI_length, markI_take, markT_length, markT_take]
  try refine ⟨by kernel_rfl, ?_⟩
  first | refine ⟨fun h => ?_, fun h => by omega⟩ | refine ⟨fun h => by omega, fun h => ?_⟩ | refine fun h => ?_
  refine callK_is (toLeveled_is _ _ _ n es ls fs (by omega) (by omega) (by omega)) ?_
  simp (config := { maxSteps := 10000000, implicitDefEqProofs := false }) only [go_sem, ↓reduceIte, Nat.reduceAdd, Nat.reduceMul, Nat.reduceEqDiff, Nat.reduceSub, Nat.reduceLT, reduceCtorEq, Nat.reduceLeDiff, Nat.reduceBEq, mwp_draw]
  try refine ⟨by kernel_rfl, ?_⟩
  refine callK_is (toEdge_is e) ?_
  simp (config := { maxSteps := 10000000, implicitDefEqProofs := false }) only [go_sem, ↓reduceIte, Nat.reduceAdd, Nat.reduceMul, Nat.reduceEqDiff, Nat.reduceSub, Nat.reduceLT, reduceCtorEq, Nat.reduceLeDiff, Nat.reduceBEq, mwp_draw]
  try refine ⟨by kernel_rfl, ?_⟩
  refine callK_is (PutLevel_is _ _ _ n es ls fs e (by omega) (by omega) (by omega)) ?_
  simp (config := { maxSteps := 10000000, implicitDefEqProofs := false }) only [go_sem, ↓reduceIte, Nat.reduceAdd, Nat.reduceMul, Nat.reduceEqDiff, Nat.reduceSub, Nat.reduceLT, reduceCtorEq, Nat.reduceLeDiff, Nat.reduceBEq, mwp_draw, markE_length, markE_take, markI_length, markI_take, markT_length, markT_take]
  try refine ⟨by kernel_rfl, ?_⟩
  refine callK_is (eqLeveled_is _ _ _ _ _ _ _ _ _ _ _ _ _ _ (by omega) (by omega) (by omega)) ?_
  simp (config := { maxSteps := 10000000, implicitDefEqProofs := false }) only [go_sem, ↓reduceIte, Nat.reduceAdd, Nat.reduceMul, Nat.reduceEqDiff, Nat.reduceSub, Nat.reduceLT, reduceCtorEq, Nat.reduceLeDiff, Nat.reduceBEq, mwp_draw, markE_length, markE_take, markI_length, markI_take, markT_length, markT_take]
  try refine ⟨by kernel_rfl, ?_⟩
  refine callK_is (heldLeveled_is _ _ _ (pvN n es ls fs e) (pvE n es ls fs e).length (pvL n es ls fs e).length (pvT n es ls fs e).length 1 (by omega) (by omega) (by omega) (by omega)) ?_
  simp (config := { maxSteps := 10000000, implicitDefEqProofs := false }) only [go_sem, ↓reduceIte, Nat.reduceAdd, Nat.reduceMul, Nat.reduceEqDiff, Nat.reduceSub, Nat.reduceLT, reduceCtorEq, Nat.reduceLeDiff, Nat.reduceBEq, mwp_draw, markE_length, markE_take, markI_length, markI_take, markT_length, markT_take]
  try refine ⟨by kernel_rfl, ?_⟩
  first | exact fun h => by omega | skip
theorem FnExactPutLevel_row (m0 : List MV) (h0 : msOK [.sc (.i .i64), .sl [.i .i64, .i .i64], .sl [.i .i64], .sl [.b]] m0) (m1 : List MV) (h1 : msOK [.sc (.i .i64), .sc (.i .i64)] m1) : Is prog fid_laws_FnExactPutLevel [.agg m0, .agg m1] (.b true) := by
  obtain ⟨n0, l0, k0, t0, rfl, b0, b0b, b0c⟩ := lv_row h0
  obtain ⟨e1, rfl⟩ := ed_row h1
  exact FnExactPutLevel_is n0 l0 k0 t0 e1 (Nat.le_trans b0 (by decide)) (Nat.le_trans b0b (by decide)) (Nat.le_trans b0c (by decide))
end Go.Fw
