/-
  The law on an edge cut out of a graph with levels: the same as the reference.
-/
import Derived.Test.YtfjekgjhhmkgoaaCtHl
import Derived.Test.YtfjekgjhhmkgoaaCtZ8
import Derived.Test.YtfjekgjhhmkgoaaCtRow
namespace Go.Fw
set_option linter.unusedSimpArgs false
set_option linter.unusedVariables false
set_option maxRecDepth 100000
set_option maxHeartbeats 4000000
open Go.Proofs.Try (prog)
open Go.Pl

theorem cl_len {n : Int} {es : List E} {ls : List Int} {fs : List Bool} {e : E} : (tE (clR n es ls fs e).1).length ≤ 40 ∧ (tL (clR n es ls fs e).1).length ≤ 40 ∧ (tF (clR n es ls fs e).1).length ≤ 40 := by
  have a : (clR n es ls fs e).1.length ≤ 40 := by
    unfold clR
    split
    · rename_i h
      simp only [clB, Bool.and_eq_true, decide_eq_true_eq] at h
      obtain ⟨h1, h2, h3, h4⟩ := lvB_get h.1
      have z := cl_get h.1 h.2
      have l : (clT es ls fs e).length ≤ 40 := by
        have := z.t0
        have e1 := tE_length (T := clT es ls fs e)
        have := List.length_eraseIdx_le es (clAt es e)
        have := h1.2.2.1
        rw [z.t0] at e1; omega
      unfold clD
      split
      · rw [dwn_len]; exact l
      · exact l
    · simp
  rw [tE_length, tL_length, tF_length]
  exact ⟨a, a, a⟩
theorem FnExactCutLevel_is (n : Int) (es : List E) (ls : List Int) (fs : List Bool) (e : E) (hl0 : es.length ≤ 9223372036854775807) (hl0b : ls.length ≤ 9223372036854775807) (hl0c : fs.length ≤ 9223372036854775807) : Is prog fid_laws_FnExactCutLevel [LvS false false false n es ls fs, Ed1 e] (.b true) := by
  have ht := cl_len (n := n) (es := es) (ls := ls) (fs := fs) (e := e)
  obtain ⟨ht1, ht2, ht3⟩ := ht
  refine MCall.run mixed get_laws_FnExactCutLevel ok_laws_FnExactCutLevel (Nat.le_of_ble_eq_true rfl) (by decide) ?_
  unfold mc_laws_FnExactCutLevel
  simp (config := { maxSteps := 10000000, implicitDefEqProofs := false }) only [go_sem, ↓reduceIte, Nat.reduceAdd, Nat.reduceMul, Nat.reduceEqDiff, Nat.reduceSub, Nat.reduceLT, reduceCtorEq, Nat.reduceLeDiff, Nat.reduceBEq, mwp_draw]
  refine callK_is (szLeveled_is _ _ _ n es ls fs hl0 hl0b hl0c) ?_
  simp (config := { maxSteps := 10000000, implicitDefEqProofs := false }) only [go_sem, ↓reduceIte, Nat.reduceAdd, Nat.reduceMul, Nat.reduceEqDiff, Nat.reduceSub, Nat.reduceLT, reduceCtorEq, Nat.reduceLeDiff, Nat.reduceBEq, mwp_draw]
  refine fun hs0 => ?_
  obtain ⟨g0, q0⟩ := szN_get (by omega) hs0
  refine callK_is (toLeveled_is _ _ _ n es ls fs (by omega) (by omega) (by omega)) ?_
  simp (config := { maxSteps := 10000000, implicitDefEqProofs := false }) only [go_sem, ↓reduceIte, Nat.reduceAdd, Nat.reduceMul, Nat.reduceEqDiff, Nat.reduceSub, Nat.reduceLT, reduceCtorEq, Nat.reduceLeDiff, Nat.reduceBEq, mwp_draw]
  try refine ⟨by kernel_rfl, ?_⟩
  refine callK_is (toEdge_is e) ?_
  simp (config := { maxSteps := 10000000, implicitDefEqProofs := false }) only [go_sem, ↓reduceIte, Nat.reduceAdd, Nat.reduceMul, Nat.reduceEqDiff, Nat.reduceSub, Nat.reduceLT, reduceCtorEq, Nat.reduceLeDiff, Nat.reduceBEq, mwp_draw]
  try refine ⟨by kernel_rfl, ?_⟩
  refine callK_is (CutLevelS_is _ _ _ n es ls fs e (by omega) (by omega) (by omega)) ?_
  simp (config := { maxSteps := 10000000, implicitDefEqProofs := false }) only [go_sem, ↓reduceIte, Nat.reduceAdd, Nat.reduceMul, Nat.reduceEqDiff, Nat.reduceSub, Nat.reduceLT, reduceCtorEq, Nat.reduceLeDiff, Nat.reduceBEq, mwp_draw]
  try refine ⟨by kernel_rfl, ?_⟩
  refine callK_is (toLeveled_is _ _ _ n es ls fs (by omega) (by omega) (by omega)) ?_
  simp (config := { maxSteps := 10000000, implicitDefEqProofs := false }) only [go_sem, ↓reduceIte, Nat.reduceAdd, Nat.reduceMul, Nat.reduceEqDiff, Nat.reduceSub, Nat.reduceLT, reduceCtorEq, Nat.reduceLeDiff, Nat.reduceBEq, mwp_draw]
  try refine ⟨by kernel_rfl, ?_⟩
  refine callK_is (toEdge_is e) ?_
  simp (config := { maxSteps := 10000000, implicitDefEqProofs := false }) only [go_sem, ↓reduceIte, Nat.reduceAdd, Nat.reduceMul, Nat.reduceEqDiff, Nat.reduceSub, Nat.reduceLT, reduceCtorEq, Nat.reduceLeDiff, Nat.reduceBEq, mwp_draw]
  try refine ⟨by kernel_rfl, ?_⟩
  refine callK_is (CutLevel_is _ _ _ n es ls fs e (by omega) (by omega) (by omega)) ?_
  simp (config := { maxSteps := 10000000, implicitDefEqProofs := false }) only [go_sem, ↓reduceIte, Nat.reduceAdd, Nat.reduceMul, Nat.reduceEqDiff, Nat.reduceSub, Nat.reduceLT, reduceCtorEq, Nat.reduceLeDiff, Nat.reduceBEq, mwp_draw]
  try refine ⟨by kernel_rfl, ?_⟩
  refine callK_is (eqLeveled_is _ _ _ _ _ _ _ _ _ _ _ _ _ _ (by omega) (by omega) (by omega)) ?_
  simp (config := { maxSteps := 10000000, implicitDefEqProofs := false }) only [go_sem, ↓reduceIte, Nat.reduceAdd, Nat.reduceMul, Nat.reduceEqDiff, Nat.reduceSub, Nat.reduceLT, reduceCtorEq, Nat.reduceLeDiff, Nat.reduceBEq, mwp_draw]
  try refine ⟨by kernel_rfl, ?_⟩
  refine callK_is (toLeveled_is _ _ _ n es ls fs (by omega) (by omega) (by omega)) ?_
  simp (config := { maxSteps := 10000000, implicitDefEqProofs := false }) only [go_sem, ↓reduceIte, Nat.reduceAdd, Nat.reduceMul, Nat.reduceEqDiff, Nat.reduceSub, Nat.reduceLT, reduceCtorEq, Nat.reduceLeDiff, Nat.reduceBEq, mwp_draw]
  try refine ⟨by kernel_rfl, ?_⟩
  refine callK_is (eqLeveled_is _ _ _ _ _ _ _ _ _ _ _ _ _ _ (by omega) (by omega) (by omega)) ?_
  simp (config := { maxSteps := 10000000, implicitDefEqProofs := false }) only [go_sem, ↓reduceIte, Nat.reduceAdd, Nat.reduceMul, Nat.reduceEqDiff, Nat.reduceSub, Nat.reduceLT, reduceCtorEq, Nat.reduceLeDiff, Nat.reduceBEq, mwp_draw]
  try refine ⟨by kernel_rfl, ?_⟩
  refine callK_det (markLeveled_is _ _ _ n es ls fs 1 (by omega) (by omega) (by omega) (by omega)) ?_
  simp (config := { maxSteps := 10000000, implicitDefEqProofs := false }) only [go_sem, ↓reduceIte, Nat.reduceAdd, Nat.reduceMul, Nat.reduceEqDiff, Nat.reduceSub, Nat.reduceLT, reduceCtorEq, Nat.reduceLeDiff, Nat.reduceBEq, mwp_draw, markE_length, markE_take, markI_length, markI_take, markT_length, markT_take]
  try refine ⟨by kernel_rfl, ?_⟩
  first | refine ⟨fun h => ?_, fun h => by omega⟩ | refine ⟨fun h => by omega, fun h => ?_⟩ | refine fun h => ?_
  refine callK_is (eqLeveled_is _ _ _ _ _ _ _ _ _ _ _ _ _ _ (by omega) (by omega) (by omega)) ?_
  simp (config := { maxSteps := 10000000, implicitDefEqProofs := false }) only [go_sem, ↓reduceIte, Nat.reduceAdd, Nat.reduceMul, Nat.reduceEqDiff, Nat.reduceSub, Nat.reduceLT, reduceCtorEq, Nat.reduceLeDiff, Nat.reduceBEq, mwp_draw, markE_length, markE_take, markI_length, markI_take, markT_length, markT_take]
  try refine ⟨by kernel_rfl, ?_⟩
  refine callK_det (markLeveled_is _ _ _ (clN n es ls fs e) (tE (clR n es ls fs e).1) (tL (clR n es ls fs e).1) (tF (clR n es ls fs e).1) 1 (by omega) (by omega) (by omega) (by omega)) ?_
  simp (config := { maxSteps := 10000000, implicitDefEqProofs := false }) only [go_sem, ↓reduceIte, Nat.reduceAdd, Nat.reduceMul, Nat.reduceEqDiff, Nat.reduceSub, Nat.reduceLT, reduceCtorEq, Nat.reduceLeDiff, Nat.reduceBEq, mwp_draw, markE_length, markE_take, markI_length, markI_take, markT_length, markT_take]
  try refine ⟨by kernel_rfl, ?_⟩
  refine callK_is (heldLeveled_is _ _ _ (clN n es ls fs e) (tE (clR n es ls fs e).1).length (tL (clR n es ls fs e).1).length (tF (clR n es ls fs e).1).length 1 (by omega) (by omega) (by omega) (by omega)) ?_
  simp (config := { maxSteps := 10000000, implicitDefEqProofs := false }) only [go_sem, ↓reduceIte, Nat.reduceAdd, Nat.reduceMul, Nat.reduceEqDiff, Nat.reduceSub, Nat.reduceLT, reduceCtorEq, Nat.reduceLeDiff, Nat.reduceBEq, mwp_draw, markE_length, markE_take, markI_length, markI_take, markT_length, markT_take]
  try refine ⟨by kernel_rfl, ?_⟩
  first | refine ⟨fun h => ?_, fun h => by omega⟩ | refine ⟨fun h => by omega, fun h => ?_⟩ | refine fun h => ?_
  refine callK_is (toLeveled_is _ _ _ n es ls fs (by omega) (by omega) (by omega)) ?_
  simp (config := { maxSteps := 10000000, implicitDefEqProofs := false }) only [go_sem, ↓reduceIte, Nat.reduceAdd, Nat.reduceMul, Nat.reduceEqDiff, Nat.reduceSub, Nat.reduceLT, reduceCtorEq, Nat.reduceLeDiff, Nat.reduceBEq, mwp_draw]
  try refine ⟨by kernel_rfl, ?_⟩
  refine callK_is (toEdge_is e) ?_
  simp (config := { maxSteps := 10000000, implicitDefEqProofs := false }) only [go_sem, ↓reduceIte, Nat.reduceAdd, Nat.reduceMul, Nat.reduceEqDiff, Nat.reduceSub, Nat.reduceLT, reduceCtorEq, Nat.reduceLeDiff, Nat.reduceBEq, mwp_draw]
  try refine ⟨by kernel_rfl, ?_⟩
  refine callK_is (CutLevel_is _ _ _ n es ls fs e (by omega) (by omega) (by omega)) ?_
  simp (config := { maxSteps := 10000000, implicitDefEqProofs := false }) only [go_sem, ↓reduceIte, Nat.reduceAdd, Nat.reduceMul, Nat.reduceEqDiff, Nat.reduceSub, Nat.reduceLT, reduceCtorEq, Nat.reduceLeDiff, Nat.reduceBEq, mwp_draw, markE_length, markE_take, markI_length, markI_take, markT_length, markT_take]
  try refine ⟨by kernel_rfl, ?_⟩
  refine callK_is (eqLeveled_is _ _ _ _ _ _ _ _ _ _ _ _ _ _ (by omega) (by omega) (by omega)) ?_
  simp (config := { maxSteps := 10000000, implicitDefEqProofs := false }) only [go_sem, ↓reduceIte, Nat.reduceAdd, Nat.reduceMul, Nat.reduceEqDiff, Nat.reduceSub, Nat.reduceLT, reduceCtorEq, Nat.reduceLeDiff, Nat.reduceBEq, mwp_draw, markE_length, markE_take, markI_length, markI_take, markT_length, markT_take]
  try refine ⟨by kernel_rfl, ?_⟩
  refine callK_is (heldLeveled_is _ _ _ (clN n es ls fs e) (tE (clR n es ls fs e).1).length (tL (clR n es ls fs e).1).length (tF (clR n es ls fs e).1).length 1 (by omega) (by omega) (by omega) (by omega)) ?_
  simp (config := { maxSteps := 10000000, implicitDefEqProofs := false }) only [go_sem, ↓reduceIte, Nat.reduceAdd, Nat.reduceMul, Nat.reduceEqDiff, Nat.reduceSub, Nat.reduceLT, reduceCtorEq, Nat.reduceLeDiff, Nat.reduceBEq, mwp_draw, markE_length, markE_take, markI_length, markI_take, markT_length, markT_take]
  try refine ⟨by kernel_rfl, ?_⟩
  first | exact fun h => by omega | skip
theorem FnExactCutLevel_row (m0 : List MV) (h0 : msOK [.sc (.i .i64), .sl [.i .i64, .i .i64], .sl [.i .i64], .sl [.b]] m0) (m1 : List MV) (h1 : msOK [.sc (.i .i64), .sc (.i .i64)] m1) : Is prog fid_laws_FnExactCutLevel [.agg m0, .agg m1] (.b true) := by
  obtain ⟨n0, l0, k0, t0, rfl, b0, b0b, b0c⟩ := lv_row h0
  obtain ⟨e1, rfl⟩ := ed_row h1
  exact FnExactCutLevel_is n0 l0 k0 t0 e1 (Nat.le_trans b0 (by decide)) (Nat.le_trans b0b (by decide)) (Nat.le_trans b0c (by decide))
end Go.Fw
