/-
  The law on graphs of one block: the same as the reference.
-/
import Derived.Test.YtedacikdbkpccaaCtHg
import Derived.Test.YtedacikdbkpccaaCtCn
import Derived.Test.YtedacikdbkpccaaCtRow
namespace Go.Fw
set_option linter.unusedSimpArgs false
set_option linter.unusedVariables false
set_option maxRecDepth 100000
set_option maxHeartbeats 4000000
open Go.Proofs.Try (prog)
open Go.Pl

theorem FnExactIsOneBlock_is (n : Int) (es : List E) (hl0 : es.length ≤ 9223372036854775807) : Is prog fid_laws_FnExactIsOneBlock [Gr false n es] (.b true) := by
  refine MCall.run mixed get_laws_FnExactIsOneBlock ok_laws_FnExactIsOneBlock (Nat.le_of_ble_eq_true rfl) (by decide) ?_
  unfold mc_laws_FnExactIsOneBlock
  simp (config := { maxSteps := 10000000, implicitDefEqProofs := false }) only [go_sem, ↓reduceIte, Nat.reduceAdd, Nat.reduceMul, Nat.reduceEqDiff, Nat.reduceSub, Nat.reduceLT, reduceCtorEq, Nat.reduceLeDiff, Nat.reduceBEq, mwp_draw]
  refine callK_is (szGraph_is _ n es 1048576 (by omega) hl0) ?_
  simp (config := { maxSteps := 10000000, implicitDefEqProofs := false }) only [go_sem, ↓reduceIte, Nat.reduceAdd, Nat.reduceMul, Nat.reduceEqDiff, Nat.reduceSub, Nat.reduceLT, reduceCtorEq, Nat.reduceLeDiff, Nat.reduceBEq, mwp_draw]
  refine fun hs0 => ?_
  obtain ⟨g0, q0⟩ := szN_get (by omega) hs0
  refine callK_is (toGraph_is _ n es g0) ?_
  simp (config := { maxSteps := 10000000, implicitDefEqProofs := false }) only [go_sem, ↓reduceIte, Nat.reduceAdd, Nat.reduceMul, Nat.reduceEqDiff, Nat.reduceSub, Nat.reduceLT, reduceCtorEq, Nat.reduceLeDiff, Nat.reduceBEq, mwp_draw]
  try refine ⟨by kernel_rfl, ?_⟩
  refine callK_is (IsOneBlockS_is _ n es (by omega)) ?_
  simp (config := { maxSteps := 10000000, implicitDefEqProofs := false }) only [go_sem, ↓reduceIte, Nat.reduceAdd, Nat.reduceMul, Nat.reduceEqDiff, Nat.reduceSub, Nat.reduceLT, reduceCtorEq, Nat.reduceLeDiff, Nat.reduceBEq, mwp_draw]
  try refine ⟨by kernel_rfl, ?_⟩
  refine callK_is (toGraph_is _ n es g0) ?_
  simp (config := { maxSteps := 10000000, implicitDefEqProofs := false }) only [go_sem, ↓reduceIte, Nat.reduceAdd, Nat.reduceMul, Nat.reduceEqDiff, Nat.reduceSub, Nat.reduceLT, reduceCtorEq, Nat.reduceLeDiff, Nat.reduceBEq, mwp_draw]
  try refine ⟨by kernel_rfl, ?_⟩
  refine callK_is (IsOneBlock_is _ n es (by omega)) ?_
  simp (config := { maxSteps := 10000000, implicitDefEqProofs := false }) only [go_sem, ↓reduceIte, Nat.reduceAdd, Nat.reduceMul, Nat.reduceEqDiff, Nat.reduceSub, Nat.reduceLT, reduceCtorEq, Nat.reduceLeDiff, Nat.reduceBEq, mwp_draw]
  try refine ⟨by kernel_rfl, ?_⟩
  refine callK_is (toGraph_is _ n es g0) ?_
  simp (config := { maxSteps := 10000000, implicitDefEqProofs := false }) only [go_sem, ↓reduceIte, Nat.reduceAdd, Nat.reduceMul, Nat.reduceEqDiff, Nat.reduceSub, Nat.reduceLT, reduceCtorEq, Nat.reduceLeDiff, Nat.reduceBEq, mwp_draw]
  try refine ⟨by kernel_rfl, ?_⟩
  refine callK_is (eqGraph_is _ _ _ _ _ _ (by omega)) ?_
  simp (config := { maxSteps := 10000000, implicitDefEqProofs := false }) only [go_sem, ↓reduceIte, Nat.reduceAdd, Nat.reduceMul, Nat.reduceEqDiff, Nat.reduceSub, Nat.reduceLT, reduceCtorEq, Nat.reduceLeDiff, Nat.reduceBEq, mwp_draw]
  try refine ⟨by kernel_rfl, ?_⟩
  first | done | (show _ = true; kernel_rfl) | exact ⟨by kernel_rfl, rfl⟩
theorem FnExactIsOneBlock_row (m0 : List MV) (h0 : msOK [.sc (.i .i64), .sl [.i .i64, .i .i64]] m0) : Is prog fid_laws_FnExactIsOneBlock [.agg m0] (.b true) := by
  obtain ⟨n0, l0, rfl, b0⟩ := gr_row h0
  exact FnExactIsOneBlock_is n0 l0 (Nat.le_trans b0 (by decide))
end Go.Fw
