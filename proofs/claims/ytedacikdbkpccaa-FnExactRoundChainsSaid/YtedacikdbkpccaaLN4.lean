/-
  Laws on chains: the same as the reference.
-/
import Derived.Test.YtedacikdbkpccaaCtHg
import Derived.Test.YtedacikdbkpccaaCtCo
import Derived.Test.YtedacikdbkpccaaCtRow
namespace Go.Fw
set_option linter.unusedSimpArgs false
set_option linter.unusedVariables false
set_option maxRecDepth 100000
set_option maxHeartbeats 4000000
open Go.Proofs.Try (prog)
open Go.Pl

theorem FnExactChainOf_is (n : Int) (es : List E) (e : E) (hl0 : es.length ≤ 9223372036854775807) : Is prog fid_laws_FnExactChainOf [Gr false n es, Ed1 e] (.b true) := by
  refine MCall.run mixed get_laws_FnExactChainOf ok_laws_FnExactChainOf (Nat.le_of_ble_eq_true rfl) (by decide) ?_
  unfold mc_laws_FnExactChainOf
  simp (config := { maxSteps := 10000000, implicitDefEqProofs := false }) only [go_sem, ↓reduceIte, Nat.reduceAdd, Nat.reduceMul, Nat.reduceEqDiff, Nat.reduceSub, Nat.reduceLT, reduceCtorEq, Nat.reduceLeDiff, Nat.reduceBEq, mwp_draw]
  refine callK_is (szGraph_is _ n es 1048576 (by omega) hl0) ?_
  simp (config := { maxSteps := 10000000, implicitDefEqProofs := false }) only [go_sem, ↓reduceIte, Nat.reduceAdd, Nat.reduceMul, Nat.reduceEqDiff, Nat.reduceSub, Nat.reduceLT, reduceCtorEq, Nat.reduceLeDiff, Nat.reduceBEq, mwp_draw]
  refine fun hs0 => ?_
  obtain ⟨g0, q0⟩ := szN_get (by omega) hs0
  refine callK_is (toGraph_is _ n es g0) ?_
  simp (config := { maxSteps := 10000000, implicitDefEqProofs := false }) only [go_sem, ↓reduceIte, Nat.reduceAdd, Nat.reduceMul, Nat.reduceEqDiff, Nat.reduceSub, Nat.reduceLT, reduceCtorEq, Nat.reduceLeDiff, Nat.reduceBEq, mwp_draw]
  try refine ⟨by kernel_rfl, ?_⟩
  refine callK_is (toEdge_is e) ?_
  simp (config := { maxSteps := 10000000, implicitDefEqProofs := false }) only [go_sem, ↓reduceIte, Nat.reduceAdd, Nat.reduceMul, Nat.reduceEqDiff, Nat.reduceSub, Nat.reduceLT, reduceCtorEq, Nat.reduceLeDiff, Nat.reduceBEq, mwp_draw]
  try refine ⟨by kernel_rfl, ?_⟩
  refine callK_is (ChainOfS_is _ n es e (by omega)) ?_
  simp (config := { maxSteps := 10000000, implicitDefEqProofs := false }) only [go_sem, ↓reduceIte, Nat.reduceAdd, Nat.reduceMul, Nat.reduceEqDiff, Nat.reduceSub, Nat.reduceLT, reduceCtorEq, Nat.reduceLeDiff, Nat.reduceBEq, mwp_draw]
  try refine ⟨by kernel_rfl, ?_⟩
  refine callK_is (toGraph_is _ n es g0) ?_
  simp (config := { maxSteps := 10000000, implicitDefEqProofs := false }) only [go_sem, ↓reduceIte, Nat.reduceAdd, Nat.reduceMul, Nat.reduceEqDiff, Nat.reduceSub, Nat.reduceLT, reduceCtorEq, Nat.reduceLeDiff, Nat.reduceBEq, mwp_draw]
  try refine ⟨by kernel_rfl, ?_⟩
  refine callK_is (toEdge_is e) ?_
  simp (config := { maxSteps := 10000000, implicitDefEqProofs := false }) only [go_sem, ↓reduceIte, Nat.reduceAdd, Nat.reduceMul, Nat.reduceEqDiff, Nat.reduceSub, Nat.reduceLT, reduceCtorEq, Nat.reduceLeDiff, Nat.reduceBEq, mwp_draw]
  try refine ⟨by kernel_rfl, ?_⟩
  refine callK_is (ChainOf_is _ n es e (by omega)) ?_
  simp (config := { maxSteps := 10000000, implicitDefEqProofs := false }) only [go_sem, ↓reduceIte, Nat.reduceAdd, Nat.reduceMul, Nat.reduceEqDiff, Nat.reduceSub, Nat.reduceLT, reduceCtorEq, Nat.reduceLeDiff, Nat.reduceBEq, mwp_draw]
  try refine ⟨by kernel_rfl, ?_⟩
  refine callK_is (toGraph_is _ n es g0) ?_
  simp (config := { maxSteps := 10000000, implicitDefEqProofs := false }) only [go_sem, ↓reduceIte, Nat.reduceAdd, Nat.reduceMul, Nat.reduceEqDiff, Nat.reduceSub, Nat.reduceLT, reduceCtorEq, Nat.reduceLeDiff, Nat.reduceBEq, mwp_draw]
  try refine ⟨by kernel_rfl, ?_⟩
  refine callK_is (eqGraph_is _ _ _ _ _ _ (by omega)) ?_
  simp (config := { maxSteps := 10000000, implicitDefEqProofs := false }) only [go_sem, ↓reduceIte, Nat.reduceAdd, Nat.reduceMul, Nat.reduceEqDiff, Nat.reduceSub, Nat.reduceLT, reduceCtorEq, Nat.reduceLeDiff, Nat.reduceBEq, mwp_draw]
  try refine ⟨by kernel_rfl, ?_⟩
  first | done | (show _ = true; kernel_rfl) | exact ⟨by kernel_rfl, rfl⟩
theorem FnExactChainOf_row (m0 : List MV) (h0 : msOK [.sc (.i .i64), .sl [.i .i64, .i .i64]] m0) (m1 : List MV) (h1 : msOK [.sc (.i .i64), .sc (.i .i64)] m1) : Is prog fid_laws_FnExactChainOf [.agg m0, .agg m1] (.b true) := by
  obtain ⟨n0, l0, rfl, b0⟩ := gr_row h0
  obtain ⟨e1, rfl⟩ := ed_row h1
  exact FnExactChainOf_is n0 l0 e1 (Nat.le_trans b0 (by decide))
theorem FnExactRoundChains_is (n : Int) (es : List E) (hl0 : es.length ≤ 9223372036854775807) : Is prog fid_laws_FnExactRoundChains [Gr false n es] (.b true) := by
  have rl := rdL_len (L := chV n es) (i := (chV n es).length)
  have ln := chV_len (n := n) (es := es)
  refine MCall.run mixed get_laws_FnExactRoundChains ok_laws_FnExactRoundChains (Nat.le_of_ble_eq_true rfl) (by decide) ?_
  unfold mc_laws_FnExactRoundChains
  simp (config := { maxSteps := 10000000, implicitDefEqProofs := false }) only [go_sem, ↓reduceIte, Nat.reduceAdd, Nat.reduceMul, Nat.reduceEqDiff, Nat.reduceSub, Nat.reduceLT, reduceCtorEq, Nat.reduceLeDiff, Nat.reduceBEq, mwp_draw]
  refine callK_is (szGraph_is _ n es 1048576 (by omega) hl0) ?_
  simp (config := { maxSteps := 10000000, implicitDefEqProofs := false }) only [go_sem, ↓reduceIte, Nat.reduceAdd, Nat.reduceMul, Nat.reduceEqDiff, Nat.reduceSub, Nat.reduceLT, reduceCtorEq, Nat.reduceLeDiff, Nat.reduceBEq, mwp_draw]
  refine fun hs0 => ?_
  obtain ⟨g0, q0⟩ := szN_get (by omega) hs0
  refine callK_is (toGraph_is _ n es g0) ?_
  simp (config := { maxSteps := 10000000, implicitDefEqProofs := false }) only [go_sem, ↓reduceIte, Nat.reduceAdd, Nat.reduceMul, Nat.reduceEqDiff, Nat.reduceSub, Nat.reduceLT, reduceCtorEq, Nat.reduceLeDiff, Nat.reduceBEq, mwp_draw]
  try refine ⟨by kernel_rfl, ?_⟩
  refine callK_is (RoundChainsS_is _ n es (by omega)) ?_
  simp (config := { maxSteps := 10000000, implicitDefEqProofs := false }) only [go_sem, ↓reduceIte, Nat.reduceAdd, Nat.reduceMul, Nat.reduceEqDiff, Nat.reduceSub, Nat.reduceLT, reduceCtorEq, Nat.reduceLeDiff, Nat.reduceBEq, mwp_draw]
  try refine ⟨by kernel_rfl, ?_⟩
  refine callK_is (toGraph_is _ n es g0) ?_
  simp (config := { maxSteps := 10000000, implicitDefEqProofs := false }) only [go_sem, ↓reduceIte, Nat.reduceAdd, Nat.reduceMul, Nat.reduceEqDiff, Nat.reduceSub, Nat.reduceLT, reduceCtorEq, Nat.reduceLeDiff, Nat.reduceBEq, mwp_draw]
  try refine ⟨by kernel_rfl, ?_⟩
  refine callK_is (RoundChains_is _ n es (by omega)) ?_
  simp (config := { maxSteps := 10000000, implicitDefEqProofs := false }) only [go_sem, ↓reduceIte, Nat.reduceAdd, Nat.reduceMul, Nat.reduceEqDiff, Nat.reduceSub, Nat.reduceLT, reduceCtorEq, Nat.reduceLeDiff, Nat.reduceBEq, mwp_draw]
  try refine ⟨by kernel_rfl, ?_⟩
  refine callK_is (eqIntS_is _ _ _ _ (by omega)) ?_
  simp (config := { maxSteps := 10000000, implicitDefEqProofs := false }) only [go_sem, ↓reduceIte, Nat.reduceAdd, Nat.reduceMul, Nat.reduceEqDiff, Nat.reduceSub, Nat.reduceLT, reduceCtorEq, Nat.reduceLeDiff, Nat.reduceBEq, mwp_draw]
  try refine ⟨by kernel_rfl, ?_⟩
  refine callK_is (toGraph_is _ n es g0) ?_
  simp (config := { maxSteps := 10000000, implicitDefEqProofs := false }) only [go_sem, ↓reduceIte, Nat.reduceAdd, Nat.reduceMul, Nat.reduceEqDiff, Nat.reduceSub, Nat.reduceLT, reduceCtorEq, Nat.reduceLeDiff, Nat.reduceBEq, mwp_draw]
  try refine ⟨by kernel_rfl, ?_⟩
  refine callK_is (eqGraph_is _ _ _ _ _ _ (by omega)) ?_
  simp (config := { maxSteps := 10000000, implicitDefEqProofs := false }) only [go_sem, ↓reduceIte, Nat.reduceAdd, Nat.reduceMul, Nat.reduceEqDiff, Nat.reduceSub, Nat.reduceLT, reduceCtorEq, Nat.reduceLeDiff, Nat.reduceBEq, mwp_draw]
  try refine ⟨by kernel_rfl, ?_⟩
  refine callK_det (markGraph_is _ n es 1 (by omega) g0) ?_
  simp (config := { maxSteps := 10000000, implicitDefEqProofs := false }) only [go_sem, ↓reduceIte, Nat.reduceAdd, Nat.reduceMul, Nat.reduceEqDiff, Nat.reduceSub, Nat.reduceLT, reduceCtorEq, Nat.reduceLeDiff, Nat.reduceBEq, mwp_draw, markE_length, markE_take, markI_length, markI_take]
  try refine ⟨by kernel_rfl, ?_⟩
  first | refine ⟨fun h => ?_, fun h => by omega⟩ | refine ⟨fun h => by omega, fun h => ?_⟩ | refine fun h => ?_
  refine callK_is (eqIntS_is _ _ _ _ (by omega)) ?_
  simp (config := { maxSteps := 10000000, implicitDefEqProofs := false }) only [go_sem, ↓reduceIte, Nat.reduceAdd, Nat.reduceMul, Nat.reduceEqDiff, Nat.reduceSub, Nat.reduceLT, reduceCtorEq, Nat.reduceLeDiff, Nat.reduceBEq, mwp_draw, markE_length, markE_take, markI_length, markI_take]
  try refine ⟨by kernel_rfl, ?_⟩
  refine callK_det (markIntS_is _ (rdL (chV n es) (chV n es).length) 1 (by omega) (by omega)) ?_
  simp (config := { maxSteps := 10000000, implicitDefEqProofs := false }) only [go_sem, ↓reduceIte, Nat.reduceAdd, Nat.reduceMul, Nat.reduceEqDiff, Nat.reduceSub, Nat.reduceLT, reduceCtorEq, Nat.reduceLeDiff, Nat.reduceBEq, mwp_draw, markE_length, markE_take, markI_length, markI_take]
  try refine ⟨by kernel_rfl, ?_⟩
  refine callK_is (heldIntS_is _ (rdL (chV n es) (chV n es).length).length 1 (by omega) (by omega)) ?_
  simp (config := { maxSteps := 10000000, implicitDefEqProofs := false }) only [go_sem, ↓reduceIte, Nat.reduceAdd, Nat.reduceMul, Nat.reduceEqDiff, Nat.reduceSub, Nat.reduceLT, reduceCtorEq, Nat.reduceLeDiff, Nat.reduceBEq, mwp_draw, markE_length, markE_take, markI_length, markI_take]
  try refine ⟨by kernel_rfl, ?_⟩
  first | refine ⟨fun h => ?_, fun h => by omega⟩ | refine ⟨fun h => by omega, fun h => ?_⟩ | refine fun h => ?_
  refine callK_is (toGraph_is _ n es g0) ?_
  simp (config := { maxSteps := 10000000, implicitDefEqProofs := false }) only [go_sem, ↓reduceIte, Nat.reduceAdd, Nat.reduceMul, Nat.reduceEqDiff, Nat.reduceSub, Nat.reduceLT, reduceCtorEq, Nat.reduceLeDiff, Nat.reduceBEq, mwp_draw]
  try refine ⟨by kernel_rfl, ?_⟩
  refine callK_is (RoundChains_is _ n es (by omega)) ?_
  simp (config := { maxSteps := 10000000, implicitDefEqProofs := false }) only [go_sem, ↓reduceIte, Nat.reduceAdd, Nat.reduceMul, Nat.reduceEqDiff, Nat.reduceSub, Nat.reduceLT, reduceCtorEq, Nat.reduceLeDiff, Nat.reduceBEq, mwp_draw, markE_length, markE_take, markI_length, markI_take]
  try refine ⟨by kernel_rfl, ?_⟩
  refine callK_is (eqIntS_is _ _ _ _ (by omega)) ?_
  simp (config := { maxSteps := 10000000, implicitDefEqProofs := false }) only [go_sem, ↓reduceIte, Nat.reduceAdd, Nat.reduceMul, Nat.reduceEqDiff, Nat.reduceSub, Nat.reduceLT, reduceCtorEq, Nat.reduceLeDiff, Nat.reduceBEq, mwp_draw, markE_length, markE_take, markI_length, markI_take]
  try refine ⟨by kernel_rfl, ?_⟩
  refine callK_is (heldIntS_is _ (rdL (chV n es) (chV n es).length).length 1 (by omega) (by omega)) ?_
  simp (config := { maxSteps := 10000000, implicitDefEqProofs := false }) only [go_sem, ↓reduceIte, Nat.reduceAdd, Nat.reduceMul, Nat.reduceEqDiff, Nat.reduceSub, Nat.reduceLT, reduceCtorEq, Nat.reduceLeDiff, Nat.reduceBEq, mwp_draw, markE_length, markE_take, markI_length, markI_take]
  try refine ⟨by kernel_rfl, ?_⟩
  first | exact fun h => by omega | skip
theorem FnExactRoundChains_row (m0 : List MV) (h0 : msOK [.sc (.i .i64), .sl [.i .i64, .i .i64]] m0) : Is prog fid_laws_FnExactRoundChains [.agg m0] (.b true) := by
  obtain ⟨n0, l0, rfl, b0⟩ := gr_row h0
  exact FnExactRoundChains_is n0 l0 (Nat.le_trans b0 (by decide))
end Go.Fw
