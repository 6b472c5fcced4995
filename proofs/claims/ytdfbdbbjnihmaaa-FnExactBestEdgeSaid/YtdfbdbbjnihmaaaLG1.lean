/-
  The laws on graphs: what is connected, safe graphs, turns.
-/
import Derived.Test.YtdfbdbbjnihmaaaCtHg
import Derived.Test.YtdfbdbbjnihmaaaCtG9
import Derived.Test.YtdfbdbbjnihmaaaCtI
import Derived.Test.YtdfbdbbjnihmaaaFyA
namespace Go.Fw
set_option linter.unusedSimpArgs false
set_option linter.unusedVariables false
set_option maxRecDepth 100000
set_option maxHeartbeats 4000000
open Go.Proofs.Try (prog)
open Go.Pl

theorem gr_row {m : List MV} (h : msOK [.sc (.i .i64), .sl [.i .i64, .i .i64]] m) : ∃ n es, m = [.i .i64 n, .s false 2 (encE es)] ∧ es.length ≤ maxLen := by
  match m, h with
  | [.i k n, .s t k' r], h =>
    simp only [msOK] at h
    obtain ⟨rfl, _, rfl, rfl, h1, h2, _⟩ := h
    obtain ⟨l, rfl, hw⟩ := rows_two h1
    exact ⟨n, l, rfl, by simpa using h2⟩
theorem ed_row {m : List MV} (h : msOK [.sc (.i .i64), .sc (.i .i64)] m) : ∃ e : E, m = [.i .i64 e.1, .i .i64 e.2] := by
  match m, h with
  | [.i k n, .i k' n'], h =>
    simp only [msOK] at h
    obtain ⟨rfl, _, rfl, _, _⟩ := h
    exact ⟨(n, n'), rfl⟩
theorem FnExactConnected_is (n : Int) (es : List E) (x : Int) (y : Int) (hl0 : es.length ≤ 9223372036854775807) : Is prog fid_laws_FnExactConnected [Gr false n es, .i .i64 x, .i .i64 y] (.b true) := by
  refine MCall.run mixed get_laws_FnExactConnected ok_laws_FnExactConnected (Nat.le_of_ble_eq_true rfl) (by decide) ?_
  unfold mc_laws_FnExactConnected
  simp (config := { maxSteps := 10000000, implicitDefEqProofs := false }) only [go_sem, ↓reduceIte, Nat.reduceAdd, Nat.reduceMul, Nat.reduceEqDiff, Nat.reduceSub, Nat.reduceLT, reduceCtorEq, Nat.reduceLeDiff, Nat.reduceBEq, mwp_draw]
  refine callK_is (szGraph_is _ n es 1048576 (by omega) hl0) ?_
  simp (config := { maxSteps := 10000000, implicitDefEqProofs := false }) only [go_sem, ↓reduceIte, Nat.reduceAdd, Nat.reduceMul, Nat.reduceEqDiff, Nat.reduceSub, Nat.reduceLT, reduceCtorEq, Nat.reduceLeDiff, Nat.reduceBEq, mwp_draw]
  refine fun hs0 => ?_
  obtain ⟨g0, q0⟩ := szN_get (by omega) hs0
  refine callK_is (toGraph_is _ n es g0) ?_
  simp (config := { maxSteps := 10000000, implicitDefEqProofs := false }) only [go_sem, ↓reduceIte, Nat.reduceAdd, Nat.reduceMul, Nat.reduceEqDiff, Nat.reduceSub, Nat.reduceLT, reduceCtorEq, Nat.reduceLeDiff, Nat.reduceBEq, mwp_draw]
  try refine ⟨by kernel_rfl, ?_⟩
  refine callK_is (ConnectedS_is _ n es x y g0) ?_
  simp (config := { maxSteps := 10000000, implicitDefEqProofs := false }) only [go_sem, ↓reduceIte, Nat.reduceAdd, Nat.reduceMul, Nat.reduceEqDiff, Nat.reduceSub, Nat.reduceLT, reduceCtorEq, Nat.reduceLeDiff, Nat.reduceBEq, mwp_draw]
  try refine ⟨by kernel_rfl, ?_⟩
  refine callK_is (toGraph_is _ n es g0) ?_
  simp (config := { maxSteps := 10000000, implicitDefEqProofs := false }) only [go_sem, ↓reduceIte, Nat.reduceAdd, Nat.reduceMul, Nat.reduceEqDiff, Nat.reduceSub, Nat.reduceLT, reduceCtorEq, Nat.reduceLeDiff, Nat.reduceBEq, mwp_draw]
  try refine ⟨by kernel_rfl, ?_⟩
  refine callK_is (Connected_is _ n es x y g0) ?_
  simp (config := { maxSteps := 10000000, implicitDefEqProofs := false }) only [go_sem, ↓reduceIte, Nat.reduceAdd, Nat.reduceMul, Nat.reduceEqDiff, Nat.reduceSub, Nat.reduceLT, reduceCtorEq, Nat.reduceLeDiff, Nat.reduceBEq, mwp_draw]
  try refine ⟨by kernel_rfl, ?_⟩
  refine callK_is (toGraph_is _ n es g0) ?_
  simp (config := { maxSteps := 10000000, implicitDefEqProofs := false }) only [go_sem, ↓reduceIte, Nat.reduceAdd, Nat.reduceMul, Nat.reduceEqDiff, Nat.reduceSub, Nat.reduceLT, reduceCtorEq, Nat.reduceLeDiff, Nat.reduceBEq, mwp_draw]
  try refine ⟨by kernel_rfl, ?_⟩
  refine callK_is (eqGraph_is _ _ _ _ _ _ (by omega)) ?_
  simp (config := { maxSteps := 10000000, implicitDefEqProofs := false }) only [go_sem, ↓reduceIte, Nat.reduceAdd, Nat.reduceMul, Nat.reduceEqDiff, Nat.reduceSub, Nat.reduceLT, reduceCtorEq, Nat.reduceLeDiff, Nat.reduceBEq, mwp_draw]
  try refine ⟨by kernel_rfl, ?_⟩
  first | done | (show _ = true; kernel_rfl) | exact ⟨by kernel_rfl, rfl⟩
theorem FnExactConnected_row (m0 : List MV) (h0 : msOK [.sc (.i .i64), .sl [.i .i64, .i .i64]] m0) (x1 : Int) (_ : (Lit.int .i64 x1).wf = true) (x2 : Int) (_ : (Lit.int .i64 x2).wf = true) : Is prog fid_laws_FnExactConnected [.agg m0, .i .i64 x1, .i .i64 x2] (.b true) := by
  obtain ⟨n0, l0, rfl, b0⟩ := gr_row h0
  exact FnExactConnected_is n0 l0 x1 x2 (Nat.le_trans b0 (by decide))
theorem FnExactIsSafeGraph_is (n : Int) (es : List E) (hl0 : es.length ≤ 9223372036854775807) : Is prog fid_laws_FnExactIsSafeGraph [Gr false n es] (.b true) := by
  refine MCall.run mixed get_laws_FnExactIsSafeGraph ok_laws_FnExactIsSafeGraph (Nat.le_of_ble_eq_true rfl) (by decide) ?_
  unfold mc_laws_FnExactIsSafeGraph
  simp (config := { maxSteps := 10000000, implicitDefEqProofs := false }) only [go_sem, ↓reduceIte, Nat.reduceAdd, Nat.reduceMul, Nat.reduceEqDiff, Nat.reduceSub, Nat.reduceLT, reduceCtorEq, Nat.reduceLeDiff, Nat.reduceBEq, mwp_draw]
  refine callK_is (szGraph_is _ n es 1048576 (by omega) hl0) ?_
  simp (config := { maxSteps := 10000000, implicitDefEqProofs := false }) only [go_sem, ↓reduceIte, Nat.reduceAdd, Nat.reduceMul, Nat.reduceEqDiff, Nat.reduceSub, Nat.reduceLT, reduceCtorEq, Nat.reduceLeDiff, Nat.reduceBEq, mwp_draw]
  refine fun hs0 => ?_
  obtain ⟨g0, q0⟩ := szN_get (by omega) hs0
  refine callK_is (toGraph_is _ n es g0) ?_
  simp (config := { maxSteps := 10000000, implicitDefEqProofs := false }) only [go_sem, ↓reduceIte, Nat.reduceAdd, Nat.reduceMul, Nat.reduceEqDiff, Nat.reduceSub, Nat.reduceLT, reduceCtorEq, Nat.reduceLeDiff, Nat.reduceBEq, mwp_draw]
  try refine ⟨by kernel_rfl, ?_⟩
  refine callK_is (IsSafeGraphS_is _ n es g0) ?_
  simp (config := { maxSteps := 10000000, implicitDefEqProofs := false }) only [go_sem, ↓reduceIte, Nat.reduceAdd, Nat.reduceMul, Nat.reduceEqDiff, Nat.reduceSub, Nat.reduceLT, reduceCtorEq, Nat.reduceLeDiff, Nat.reduceBEq, mwp_draw]
  try refine ⟨by kernel_rfl, ?_⟩
  refine callK_is (toGraph_is _ n es g0) ?_
  simp (config := { maxSteps := 10000000, implicitDefEqProofs := false }) only [go_sem, ↓reduceIte, Nat.reduceAdd, Nat.reduceMul, Nat.reduceEqDiff, Nat.reduceSub, Nat.reduceLT, reduceCtorEq, Nat.reduceLeDiff, Nat.reduceBEq, mwp_draw]
  try refine ⟨by kernel_rfl, ?_⟩
  refine callK_is (IsSafeGraph_is _ n es g0) ?_
  simp (config := { maxSteps := 10000000, implicitDefEqProofs := false }) only [go_sem, ↓reduceIte, Nat.reduceAdd, Nat.reduceMul, Nat.reduceEqDiff, Nat.reduceSub, Nat.reduceLT, reduceCtorEq, Nat.reduceLeDiff, Nat.reduceBEq, mwp_draw]
  try refine ⟨by kernel_rfl, ?_⟩
  refine callK_is (toGraph_is _ n es g0) ?_
  simp (config := { maxSteps := 10000000, implicitDefEqProofs := false }) only [go_sem, ↓reduceIte, Nat.reduceAdd, Nat.reduceMul, Nat.reduceEqDiff, Nat.reduceSub, Nat.reduceLT, reduceCtorEq, Nat.reduceLeDiff, Nat.reduceBEq, mwp_draw]
  try refine ⟨by kernel_rfl, ?_⟩
  refine callK_is (eqGraph_is _ _ _ _ _ _ (by omega)) ?_
  simp (config := { maxSteps := 10000000, implicitDefEqProofs := false }) only [go_sem, ↓reduceIte, Nat.reduceAdd, Nat.reduceMul, Nat.reduceEqDiff, Nat.reduceSub, Nat.reduceLT, reduceCtorEq, Nat.reduceLeDiff, Nat.reduceBEq, mwp_draw]
  try refine ⟨by kernel_rfl, ?_⟩
  first | done | (show _ = true; kernel_rfl) | exact ⟨by kernel_rfl, rfl⟩
theorem FnExactIsSafeGraph_row (m0 : List MV) (h0 : msOK [.sc (.i .i64), .sl [.i .i64, .i .i64]] m0) : Is prog fid_laws_FnExactIsSafeGraph [.agg m0] (.b true) := by
  obtain ⟨n0, l0, rfl, b0⟩ := gr_row h0
  exact FnExactIsSafeGraph_is n0 l0 (Nat.le_trans b0 (by decide))
theorem FnExactTurnEdge_is (n : Int) (es : List E) (e : E) (hl0 : es.length ≤ 9223372036854775807) : Is prog fid_laws_FnExactTurnEdge [Gr false n es, Ed1 e] (.b true) := by
  have ht := turnE_len (n := n) (es := es) (e := e)
  refine MCall.run mixed get_laws_FnExactTurnEdge ok_laws_FnExactTurnEdge (Nat.le_of_ble_eq_true rfl) (by decide) ?_
  unfold mc_laws_FnExactTurnEdge
  simp (config := { maxSteps := 10000000, implicitDefEqProofs := false }) only [go_sem, ↓reduceIte, Nat.reduceAdd, Nat.reduceMul, Nat.reduceEqDiff, Nat.reduceSub, Nat.reduceLT, reduceCtorEq, Nat.reduceLeDiff, Nat.reduceBEq, mwp_draw]
  refine callK_is (szGraph_is _ n es 1048576 (by omega) hl0) ?_
  simp (config := { maxSteps := 10000000, implicitDefEqProofs := false }) only [go_sem, ↓reduceIte, Nat.reduceAdd, Nat.reduceMul, Nat.reduceEqDiff, Nat.reduceSub, Nat.reduceLT, reduceCtorEq, Nat.reduceLeDiff, Nat.reduceBEq, mwp_draw]
  refine fun hs0 => ?_
  obtain ⟨g0, q0⟩ := szN_get (by omega) hs0
  refine callK_is (toGraph_is _ n es g0) ?_
  simp (config := { maxSteps := 10000000, implicitDefEqProofs := false }) only [go_sem, ↓reduceIte, Nat.reduceAdd, Nat.reduceMul, Nat.reduceEqDiff, Nat.reduceSub, Nat.reduceLT, reduceCtorEq, Nat.reduceLeDiff, Nat.reduceBEq, mwp_draw]
  try refine ⟨by kernel_rfl, ?_⟩
  refine callK_is (toEdge_is e) ?_
  simp (config := { maxSteps := 10000000, implicitDefEqProofs := false }) only [go_sem, ↓reduceIte, Nat.reduceAdd, Nat.reduceMul, Nat.reduceEqDiff, Nat.reduceSub, Nat.reduceLT, reduceCtorEq, Nat.reduceLeDiff, Nat.reduceBEq, mwp_draw]
  try refine ⟨by kernel_rfl, ?_⟩
  refine callK_is (TurnEdgeS_is _ n es e g0) ?_
  simp (config := { maxSteps := 10000000, implicitDefEqProofs := false }) only [go_sem, ↓reduceIte, Nat.reduceAdd, Nat.reduceMul, Nat.reduceEqDiff, Nat.reduceSub, Nat.reduceLT, reduceCtorEq, Nat.reduceLeDiff, Nat.reduceBEq, mwp_draw]
  try refine ⟨by kernel_rfl, ?_⟩
  refine callK_is (toGraph_is _ n es g0) ?_
  simp (config := { maxSteps := 10000000, implicitDefEqProofs := false }) only [go_sem, ↓reduceIte, Nat.reduceAdd, Nat.reduceMul, Nat.reduceEqDiff, Nat.reduceSub, Nat.reduceLT, reduceCtorEq, Nat.reduceLeDiff, Nat.reduceBEq, mwp_draw]
  try refine ⟨by kernel_rfl, ?_⟩
  refine callK_is (toEdge_is e) ?_
  simp (config := { maxSteps := 10000000, implicitDefEqProofs := false }) only [go_sem, ↓reduceIte, Nat.reduceAdd, Nat.reduceMul, Nat.reduceEqDiff, Nat.reduceSub, Nat.reduceLT, reduceCtorEq, Nat.reduceLeDiff, Nat.reduceBEq, mwp_draw]
  try refine ⟨by kernel_rfl, ?_⟩
  refine callK_is (TurnEdge_is _ n es e g0) ?_
  simp (config := { maxSteps := 10000000, implicitDefEqProofs := false }) only [go_sem, ↓reduceIte, Nat.reduceAdd, Nat.reduceMul, Nat.reduceEqDiff, Nat.reduceSub, Nat.reduceLT, reduceCtorEq, Nat.reduceLeDiff, Nat.reduceBEq, mwp_draw]
  try refine ⟨by kernel_rfl, ?_⟩
  refine callK_is (eqGraph_is _ _ _ _ _ _ (by omega)) ?_
  simp (config := { maxSteps := 10000000, implicitDefEqProofs := false }) only [go_sem, ↓reduceIte, Nat.reduceAdd, Nat.reduceMul, Nat.reduceEqDiff, Nat.reduceSub, Nat.reduceLT, reduceCtorEq, Nat.reduceLeDiff, Nat.reduceBEq, mwp_draw]
  try refine ⟨by kernel_rfl, ?_⟩
  refine callK_is (toGraph_is _ n es g0) ?_
  simp (config := { maxSteps := 10000000, implicitDefEqProofs := false }) only [go_sem, ↓reduceIte, Nat.reduceAdd, Nat.reduceMul, Nat.reduceEqDiff, Nat.reduceSub, Nat.reduceLT, reduceCtorEq, Nat.reduceLeDiff, Nat.reduceBEq, mwp_draw]
  try refine ⟨by kernel_rfl, ?_⟩
  refine callK_is (eqGraph_is _ _ _ _ _ _ (by omega)) ?_
  simp (config := { maxSteps := 10000000, implicitDefEqProofs := false }) only [go_sem, ↓reduceIte, Nat.reduceAdd, Nat.reduceMul, Nat.reduceEqDiff, Nat.reduceSub, Nat.reduceLT, reduceCtorEq, Nat.reduceLeDiff, Nat.reduceBEq, mwp_draw]
  try refine ⟨by kernel_rfl, ?_⟩
  refine callK_det (markGraph_is _ n es 1 (by omega) g0) ?_
  simp (config := { maxSteps := 10000000, implicitDefEqProofs := false }) only [go_sem, ↓reduceIte, Nat.reduceAdd, Nat.reduceMul, Nat.reduceEqDiff, Nat.reduceSub, Nat.reduceLT, reduceCtorEq, Nat.reduceLeDiff, Nat.reduceBEq, mwp_draw, markE_length, markE_take, markI_length, markI_take]
  try refine ⟨by kernel_rfl, ?_⟩
  first | refine ⟨fun h => ?_, fun h => by omega⟩ | refine ⟨fun h => by omega, fun h => ?_⟩ | refine fun h => ?_
  refine callK_is (eqGraph_is _ _ _ _ _ _ (by omega)) ?_
  simp (config := { maxSteps := 10000000, implicitDefEqProofs := false }) only [go_sem, ↓reduceIte, Nat.reduceAdd, Nat.reduceMul, Nat.reduceEqDiff, Nat.reduceSub, Nat.reduceLT, reduceCtorEq, Nat.reduceLeDiff, Nat.reduceBEq, mwp_draw, markE_length, markE_take, markI_length, markI_take]
  try refine ⟨by kernel_rfl, ?_⟩
  refine callK_det (markGraph_is _ (turnN n es e) (turnE n es e) 1 (by omega) (by omega)) ?_
  simp (config := { maxSteps := 10000000, implicitDefEqProofs := false }) only [go_sem, ↓reduceIte, Nat.reduceAdd, Nat.reduceMul, Nat.reduceEqDiff, Nat.reduceSub, Nat.reduceLT, reduceCtorEq, Nat.reduceLeDiff, Nat.reduceBEq, mwp_draw, markE_length, markE_take, markI_length, markI_take]
  try refine ⟨by kernel_rfl, ?_⟩
  refine callK_is (heldGraph_is _ (turnN n es e) (turnE n es e).length 1 (by omega) (by omega)) ?_
  simp (config := { maxSteps := 10000000, implicitDefEqProofs := false }) only [go_sem, ↓reduceIte, Nat.reduceAdd, Nat.reduceMul, Nat.reduceEqDiff, Nat.reduceSub, Nat.reduceLT, reduceCtorEq, Nat.reduceLeDiff, Nat.reduceBEq, mwp_draw, markE_length, markE_take, markI_length, markI_take]
  try refine ⟨by kernel_rfl, ?_⟩
  first | refine ⟨fun h => ?_, fun h => by omega⟩ | refine ⟨fun h => by omega, fun h => ?_⟩ | refine fun h => ?_
  refine callK_is (toGraph_is _ n es g0) ?_
  simp (config := { maxSteps := 10000000, implicitDefEqProofs := false }) only [go_sem, ↓reduceIte, Nat.reduceAdd, Nat.reduceMul, Nat.reduceEqDiff, Nat.reduceSub, Nat.reduceLT, reduceCtorEq, Nat.reduceLeDiff, Nat.reduceBEq, mwp_draw]
  try refine ⟨by kernel_rfl, ?_⟩
  refine callK_is (toEdge_is e) ?_
  simp (config := { maxSteps := 10000000, implicitDefEqProofs := false }) only [go_sem, ↓reduceIte, Nat.reduceAdd, Nat.reduceMul, Nat.reduceEqDiff, Nat.reduceSub, Nat.reduceLT, reduceCtorEq, Nat.reduceLeDiff, Nat.reduceBEq, mwp_draw]
  try refine ⟨by kernel_rfl, ?_⟩
  refine callK_is (TurnEdge_is _ n es e g0) ?_
  simp (config := { maxSteps := 10000000, implicitDefEqProofs := false }) only [go_sem, ↓reduceIte, Nat.reduceAdd, Nat.reduceMul, Nat.reduceEqDiff, Nat.reduceSub, Nat.reduceLT, reduceCtorEq, Nat.reduceLeDiff, Nat.reduceBEq, mwp_draw, markE_length, markE_take, markI_length, markI_take]
  try refine ⟨by kernel_rfl, ?_⟩
  refine callK_is (eqGraph_is _ _ _ _ _ _ (by omega)) ?_
  simp (config := { maxSteps := 10000000, implicitDefEqProofs := false }) only [go_sem, ↓reduceIte, Nat.reduceAdd, Nat.reduceMul, Nat.reduceEqDiff, Nat.reduceSub, Nat.reduceLT, reduceCtorEq, Nat.reduceLeDiff, Nat.reduceBEq, mwp_draw, markE_length, markE_take, markI_length, markI_take]
  try refine ⟨by kernel_rfl, ?_⟩
  refine callK_is (heldGraph_is _ (turnN n es e) (turnE n es e).length 1 (by omega) (by omega)) ?_
  simp (config := { maxSteps := 10000000, implicitDefEqProofs := false }) only [go_sem, ↓reduceIte, Nat.reduceAdd, Nat.reduceMul, Nat.reduceEqDiff, Nat.reduceSub, Nat.reduceLT, reduceCtorEq, Nat.reduceLeDiff, Nat.reduceBEq, mwp_draw, markE_length, markE_take, markI_length, markI_take]
  try refine ⟨by kernel_rfl, ?_⟩
  first | exact fun h => by omega | skip
theorem FnExactTurnEdge_row (m0 : List MV) (h0 : msOK [.sc (.i .i64), .sl [.i .i64, .i .i64]] m0) (m1 : List MV) (h1 : msOK [.sc (.i .i64), .sc (.i .i64)] m1) : Is prog fid_laws_FnExactTurnEdge [.agg m0, .agg m1] (.b true) := by
  obtain ⟨n0, l0, rfl, b0⟩ := gr_row h0
  obtain ⟨e1, rfl⟩ := ed_row h1
  exact FnExactTurnEdge_is n0 l0 e1 (Nat.le_trans b0 (by decide))
theorem FnExactLostBy_is (n : Int) (es : List E) (e : E) (hl0 : es.length ≤ 9223372036854775807) : Is prog fid_laws_FnExactLostBy [Gr false n es, Ed1 e] (.b true) := by
  have ht := lost_len (n := n) (es := es) (e := e)
  refine MCall.run mixed get_laws_FnExactLostBy ok_laws_FnExactLostBy (Nat.le_of_ble_eq_true rfl) (by decide) ?_
  unfold mc_laws_FnExactLostBy
  simp (config := { maxSteps := 10000000, implicitDefEqProofs := false }) only [go_sem, ↓reduceIte, Nat.reduceAdd, Nat.reduceMul, Nat.reduceEqDiff, Nat.reduceSub, Nat.reduceLT, reduceCtorEq, Nat.reduceLeDiff, Nat.reduceBEq, mwp_draw]
  refine callK_is (szGraph_is _ n es 1048576 (by omega) hl0) ?_
  simp (config := { maxSteps := 10000000, implicitDefEqProofs := false }) only [go_sem, ↓reduceIte, Nat.reduceAdd, Nat.reduceMul, Nat.reduceEqDiff, Nat.reduceSub, Nat.reduceLT, reduceCtorEq, Nat.reduceLeDiff, Nat.reduceBEq, mwp_draw]
  refine fun hs0 => ?_
  obtain ⟨g0, q0⟩ := szN_get (by omega) hs0
  refine callK_is (toGraph_is _ n es g0) ?_
  simp (config := { maxSteps := 10000000, implicitDefEqProofs := false }) only [go_sem, ↓reduceIte, Nat.reduceAdd, Nat.reduceMul, Nat.reduceEqDiff, Nat.reduceSub, Nat.reduceLT, reduceCtorEq, Nat.reduceLeDiff, Nat.reduceBEq, mwp_draw]
  try refine ⟨by kernel_rfl, ?_⟩
  refine callK_is (toEdge_is e) ?_
  simp (config := { maxSteps := 10000000, implicitDefEqProofs := false }) only [go_sem, ↓reduceIte, Nat.reduceAdd, Nat.reduceMul, Nat.reduceEqDiff, Nat.reduceSub, Nat.reduceLT, reduceCtorEq, Nat.reduceLeDiff, Nat.reduceBEq, mwp_draw]
  try refine ⟨by kernel_rfl, ?_⟩
  refine callK_is (LostByS_is _ n es e g0) ?_
  simp (config := { maxSteps := 10000000, implicitDefEqProofs := false }) only [go_sem, ↓reduceIte, Nat.reduceAdd, Nat.reduceMul, Nat.reduceEqDiff, Nat.reduceSub, Nat.reduceLT, reduceCtorEq, Nat.reduceLeDiff, Nat.reduceBEq, mwp_draw]
  try refine ⟨by kernel_rfl, ?_⟩
  refine callK_is (toGraph_is _ n es g0) ?_
  simp (config := { maxSteps := 10000000, implicitDefEqProofs := false }) only [go_sem, ↓reduceIte, Nat.reduceAdd, Nat.reduceMul, Nat.reduceEqDiff, Nat.reduceSub, Nat.reduceLT, reduceCtorEq, Nat.reduceLeDiff, Nat.reduceBEq, mwp_draw]
  try refine ⟨by kernel_rfl, ?_⟩
  refine callK_is (toEdge_is e) ?_
  simp (config := { maxSteps := 10000000, implicitDefEqProofs := false }) only [go_sem, ↓reduceIte, Nat.reduceAdd, Nat.reduceMul, Nat.reduceEqDiff, Nat.reduceSub, Nat.reduceLT, reduceCtorEq, Nat.reduceLeDiff, Nat.reduceBEq, mwp_draw]
  try refine ⟨by kernel_rfl, ?_⟩
  refine callK_is (LostBy_is _ n es e g0) ?_
  simp (config := { maxSteps := 10000000, implicitDefEqProofs := false }) only [go_sem, ↓reduceIte, Nat.reduceAdd, Nat.reduceMul, Nat.reduceEqDiff, Nat.reduceSub, Nat.reduceLT, reduceCtorEq, Nat.reduceLeDiff, Nat.reduceBEq, mwp_draw]
  try refine ⟨by kernel_rfl, ?_⟩
  refine callK_is (eqEdgeS_is _ _ _ _ (by omega)) ?_
  simp (config := { maxSteps := 10000000, implicitDefEqProofs := false }) only [go_sem, ↓reduceIte, Nat.reduceAdd, Nat.reduceMul, Nat.reduceEqDiff, Nat.reduceSub, Nat.reduceLT, reduceCtorEq, Nat.reduceLeDiff, Nat.reduceBEq, mwp_draw]
  try refine ⟨by kernel_rfl, ?_⟩
  refine callK_is (toGraph_is _ n es g0) ?_
  simp (config := { maxSteps := 10000000, implicitDefEqProofs := false }) only [go_sem, ↓reduceIte, Nat.reduceAdd, Nat.reduceMul, Nat.reduceEqDiff, Nat.reduceSub, Nat.reduceLT, reduceCtorEq, Nat.reduceLeDiff, Nat.reduceBEq, mwp_draw]
  try refine ⟨by kernel_rfl, ?_⟩
  refine callK_is (eqGraph_is _ _ _ _ _ _ (by omega)) ?_
  simp (config := { maxSteps := 10000000, implicitDefEqProofs := false }) only [go_sem, ↓reduceIte, Nat.reduceAdd, Nat.reduceMul, Nat.reduceEqDiff, Nat.reduceSub, Nat.reduceLT, reduceCtorEq, Nat.reduceLeDiff, Nat.reduceBEq, mwp_draw]
  try refine ⟨by kernel_rfl, ?_⟩
  refine callK_det (markGraph_is _ n es 1 (by omega) g0) ?_
  simp (config := { maxSteps := 10000000, implicitDefEqProofs := false }) only [go_sem, ↓reduceIte, Nat.reduceAdd, Nat.reduceMul, Nat.reduceEqDiff, Nat.reduceSub, Nat.reduceLT, reduceCtorEq, Nat.reduceLeDiff, Nat.reduceBEq, mwp_draw, markE_length, markE_take, markI_length, markI_take]
  try refine ⟨by kernel_rfl, ?_⟩
  first | refine ⟨fun h => ?_, fun h => by omega⟩ | refine ⟨fun h => by omega, fun h => ?_⟩ | refine fun h => ?_
  refine callK_is (eqEdgeS_is _ _ _ _ (by omega)) ?_
  simp (config := { maxSteps := 10000000, implicitDefEqProofs := false }) only [go_sem, ↓reduceIte, Nat.reduceAdd, Nat.reduceMul, Nat.reduceEqDiff, Nat.reduceSub, Nat.reduceLT, reduceCtorEq, Nat.reduceLeDiff, Nat.reduceBEq, mwp_draw, markE_length, markE_take, markI_length, markI_take]
  try refine ⟨by kernel_rfl, ?_⟩
  refine callK_det (markEdgeS_is _ (lostL n es e) 1 (by omega) (by omega)) ?_
  simp (config := { maxSteps := 10000000, implicitDefEqProofs := false }) only [go_sem, ↓reduceIte, Nat.reduceAdd, Nat.reduceMul, Nat.reduceEqDiff, Nat.reduceSub, Nat.reduceLT, reduceCtorEq, Nat.reduceLeDiff, Nat.reduceBEq, mwp_draw, markE_length, markE_take, markI_length, markI_take]
  try refine ⟨by kernel_rfl, ?_⟩
  refine callK_is (heldEdgeS_is _ (lostL n es e).length 1 (by omega) (by omega)) ?_
  simp (config := { maxSteps := 10000000, implicitDefEqProofs := false }) only [go_sem, ↓reduceIte, Nat.reduceAdd, Nat.reduceMul, Nat.reduceEqDiff, Nat.reduceSub, Nat.reduceLT, reduceCtorEq, Nat.reduceLeDiff, Nat.reduceBEq, mwp_draw, markE_length, markE_take, markI_length, markI_take]
  try refine ⟨by kernel_rfl, ?_⟩
  first | refine ⟨fun h => ?_, fun h => by omega⟩ | refine ⟨fun h => by omega, fun h => ?_⟩ | refine fun h => ?_
  refine callK_is (toGraph_is _ n es g0) ?_
  simp (config := { maxSteps := 10000000, implicitDefEqProofs := false }) only [go_sem, ↓reduceIte, Nat.reduceAdd, Nat.reduceMul, Nat.reduceEqDiff, Nat.reduceSub, Nat.reduceLT, reduceCtorEq, Nat.reduceLeDiff, Nat.reduceBEq, mwp_draw]
  try refine ⟨by kernel_rfl, ?_⟩
  refine callK_is (toEdge_is e) ?_
  simp (config := { maxSteps := 10000000, implicitDefEqProofs := false }) only [go_sem, ↓reduceIte, Nat.reduceAdd, Nat.reduceMul, Nat.reduceEqDiff, Nat.reduceSub, Nat.reduceLT, reduceCtorEq, Nat.reduceLeDiff, Nat.reduceBEq, mwp_draw]
  try refine ⟨by kernel_rfl, ?_⟩
  refine callK_is (LostBy_is _ n es e g0) ?_
  simp (config := { maxSteps := 10000000, implicitDefEqProofs := false }) only [go_sem, ↓reduceIte, Nat.reduceAdd, Nat.reduceMul, Nat.reduceEqDiff, Nat.reduceSub, Nat.reduceLT, reduceCtorEq, Nat.reduceLeDiff, Nat.reduceBEq, mwp_draw, markE_length, markE_take, markI_length, markI_take]
  try refine ⟨by kernel_rfl, ?_⟩
  refine callK_is (eqEdgeS_is _ _ _ _ (by omega)) ?_
  simp (config := { maxSteps := 10000000, implicitDefEqProofs := false }) only [go_sem, ↓reduceIte, Nat.reduceAdd, Nat.reduceMul, Nat.reduceEqDiff, Nat.reduceSub, Nat.reduceLT, reduceCtorEq, Nat.reduceLeDiff, Nat.reduceBEq, mwp_draw, markE_length, markE_take, markI_length, markI_take]
  try refine ⟨by kernel_rfl, ?_⟩
  refine callK_is (heldEdgeS_is _ (lostL n es e).length 1 (by omega) (by omega)) ?_
  simp (config := { maxSteps := 10000000, implicitDefEqProofs := false }) only [go_sem, ↓reduceIte, Nat.reduceAdd, Nat.reduceMul, Nat.reduceEqDiff, Nat.reduceSub, Nat.reduceLT, reduceCtorEq, Nat.reduceLeDiff, Nat.reduceBEq, mwp_draw, markE_length, markE_take, markI_length, markI_take]
  try refine ⟨by kernel_rfl, ?_⟩
  first | exact fun h => by omega | skip
theorem FnExactLostBy_row (m0 : List MV) (h0 : msOK [.sc (.i .i64), .sl [.i .i64, .i .i64]] m0) (m1 : List MV) (h1 : msOK [.sc (.i .i64), .sc (.i .i64)] m1) : Is prog fid_laws_FnExactLostBy [.agg m0, .agg m1] (.b true) := by
  obtain ⟨n0, l0, rfl, b0⟩ := gr_row h0
  obtain ⟨e1, rfl⟩ := ed_row h1
  exact FnExactLostBy_is n0 l0 e1 (Nat.le_trans b0 (by decide))
theorem FnExactBestEdge_is (n : Int) (es : List E) (hl0 : es.length ≤ 9223372036854775807) : Is prog fid_laws_FnExactBestEdge [Gr false n es] (.b true) := by
  refine MCall.run mixed get_laws_FnExactBestEdge ok_laws_FnExactBestEdge (Nat.le_of_ble_eq_true rfl) (by decide) ?_
  unfold mc_laws_FnExactBestEdge
  simp (config := { maxSteps := 10000000, implicitDefEqProofs := false }) only [go_sem, ↓reduceIte, Nat.reduceAdd, Nat.reduceMul, Nat.reduceEqDiff, Nat.reduceSub, Nat.reduceLT, reduceCtorEq, Nat.reduceLeDiff, Nat.reduceBEq, mwp_draw]
  refine callK_is (szGraph_is _ n es 1048576 (by omega) hl0) ?_
  simp (config := { maxSteps := 10000000, implicitDefEqProofs := false }) only [go_sem, ↓reduceIte, Nat.reduceAdd, Nat.reduceMul, Nat.reduceEqDiff, Nat.reduceSub, Nat.reduceLT, reduceCtorEq, Nat.reduceLeDiff, Nat.reduceBEq, mwp_draw]
  refine fun hs0 => ?_
  obtain ⟨g0, q0⟩ := szN_get (by omega) hs0
  refine callK_is (toGraph_is _ n es g0) ?_
  simp (config := { maxSteps := 10000000, implicitDefEqProofs := false }) only [go_sem, ↓reduceIte, Nat.reduceAdd, Nat.reduceMul, Nat.reduceEqDiff, Nat.reduceSub, Nat.reduceLT, reduceCtorEq, Nat.reduceLeDiff, Nat.reduceBEq, mwp_draw]
  try refine ⟨by kernel_rfl, ?_⟩
  refine callK_is (BestEdgeS_is _ n es g0) ?_
  simp (config := { maxSteps := 10000000, implicitDefEqProofs := false }) only [go_sem, ↓reduceIte, Nat.reduceAdd, Nat.reduceMul, Nat.reduceEqDiff, Nat.reduceSub, Nat.reduceLT, reduceCtorEq, Nat.reduceLeDiff, Nat.reduceBEq, mwp_draw]
  try refine ⟨by kernel_rfl, ?_⟩
  refine callK_is (toGraph_is _ n es g0) ?_
  simp (config := { maxSteps := 10000000, implicitDefEqProofs := false }) only [go_sem, ↓reduceIte, Nat.reduceAdd, Nat.reduceMul, Nat.reduceEqDiff, Nat.reduceSub, Nat.reduceLT, reduceCtorEq, Nat.reduceLeDiff, Nat.reduceBEq, mwp_draw]
  try refine ⟨by kernel_rfl, ?_⟩
  refine callK_is (BestEdge_is _ n es g0) ?_
  simp (config := { maxSteps := 10000000, implicitDefEqProofs := false }) only [go_sem, ↓reduceIte, Nat.reduceAdd, Nat.reduceMul, Nat.reduceEqDiff, Nat.reduceSub, Nat.reduceLT, reduceCtorEq, Nat.reduceLeDiff, Nat.reduceBEq, mwp_draw]
  try refine ⟨by kernel_rfl, ?_⟩
  refine callK_is (eqEdge_is _ _) ?_
  simp (config := { maxSteps := 10000000, implicitDefEqProofs := false }) only [go_sem, ↓reduceIte, Nat.reduceAdd, Nat.reduceMul, Nat.reduceEqDiff, Nat.reduceSub, Nat.reduceLT, reduceCtorEq, Nat.reduceLeDiff, Nat.reduceBEq, mwp_draw]
  try refine ⟨by kernel_rfl, ?_⟩
  refine callK_is (toGraph_is _ n es g0) ?_
  simp (config := { maxSteps := 10000000, implicitDefEqProofs := false }) only [go_sem, ↓reduceIte, Nat.reduceAdd, Nat.reduceMul, Nat.reduceEqDiff, Nat.reduceSub, Nat.reduceLT, reduceCtorEq, Nat.reduceLeDiff, Nat.reduceBEq, mwp_draw]
  try refine ⟨by kernel_rfl, ?_⟩
  refine callK_is (eqGraph_is _ _ _ _ _ _ (by omega)) ?_
  simp (config := { maxSteps := 10000000, implicitDefEqProofs := false }) only [go_sem, ↓reduceIte, Nat.reduceAdd, Nat.reduceMul, Nat.reduceEqDiff, Nat.reduceSub, Nat.reduceLT, reduceCtorEq, Nat.reduceLeDiff, Nat.reduceBEq, mwp_draw]
  try refine ⟨by kernel_rfl, ?_⟩
  first | done | (show _ = true; kernel_rfl) | exact ⟨by kernel_rfl, rfl⟩
theorem FnExactBestEdge_row (m0 : List MV) (h0 : msOK [.sc (.i .i64), .sl [.i .i64, .i .i64]] m0) : Is prog fid_laws_FnExactBestEdge [.agg m0] (.b true) := by
  obtain ⟨n0, l0, rfl, b0⟩ := gr_row h0
  exact FnExactBestEdge_is n0 l0 (Nat.le_trans b0 (by decide))
end Go.Fw
