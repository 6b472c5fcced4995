/-
  The law on an edge put into a graph with levels: levels are kept.
-/
import Derived.Test.YtfjekgjhhmkgoaaCtLd
import Derived.Test.YtfjekgjhhmkgoaaCtLk
import Derived.Test.YtfjekgjhhmkgoaaCtDy
import Derived.Test.YtfjekgjhhmkgoaaCtRow
namespace Go.Fw
set_option linter.unusedSimpArgs false
set_option linter.unusedVariables false
set_option maxRecDepth 100000
set_option maxHeartbeats 4000000
open Go.Proofs.Try (prog)
open Go.Pl

theorem FnPutLevel_is (t : Bool) (b : List Int) (hb : Byt b) : Is prog fid_laws_FnPutLevel [.s t 1 (encB b)] (.b true) := by
  refine MCall.run mixed get_laws_FnPutLevel ok_laws_FnPutLevel (Nat.le_of_ble_eq_true rfl) (by decide) ?_
  unfold mc_laws_FnPutLevel
  by_cases hl : 1048576 < b.length
  · have c0 : ((1048576 : Int) < b.length) = True := eq_true (by omega)
    simp (config := { maxSteps := 10000000, implicitDefEqProofs := false }) only [go_sem, ↓reduceIte, Nat.reduceAdd, Nat.reduceMul, Nat.reduceEqDiff, Nat.reduceSub, Nat.reduceLT, reduceCtorEq, Nat.reduceLeDiff, Nat.reduceBEq, mwp_draw, c0]
  have c0 : ((1048576 : Int) < b.length) = False := eq_false (by omega)
  simp (config := { maxSteps := 10000000, implicitDefEqProofs := false }) only [go_sem, ↓reduceIte, Nat.reduceAdd, Nat.reduceMul, Nat.reduceEqDiff, Nat.reduceSub, Nat.reduceLT, reduceCtorEq, Nat.reduceLeDiff, Nat.reduceBEq, mwp_draw, c0]
  refine callK_any (DrawPutLevel_is _ b hb) ?_
  rintro o r ⟨rfl, n, es, ls, fs, e, rfl, v1, v2, v3, v4, v5⟩
  simp (config := { maxSteps := 10000000, implicitDefEqProofs := false }) only [go_sem, ↓reduceIte, Nat.reduceAdd, Nat.reduceMul, Nat.reduceEqDiff, Nat.reduceSub, Nat.reduceLT, reduceCtorEq, Nat.reduceLeDiff, Nat.reduceBEq, mwp_draw]
  refine callK_is (PutLevel_is _ _ _ n es ls fs e (by omega) (by omega) (by omega)) ?_
  simp (config := { maxSteps := 10000000, implicitDefEqProofs := false }) only [go_sem, ↓reduceIte, Nat.reduceAdd, Nat.reduceMul, Nat.reduceEqDiff, Nat.reduceSub, Nat.reduceLT, reduceCtorEq, Nat.reduceLeDiff, Nat.reduceBEq, mwp_draw]
  refine callK_is (PutLevelS_is _ _ _ n es ls fs e (by omega) (by omega) (by omega)) ?_
  unfold PvR
  have pl := pv_len (n := n) (es := es) (ls := ls) (fs := fs) (e := e)
  have ho : pvB n es ls fs e = true → putOK n es e = true ∧ lvB n es ls fs = true := fun h => by simp only [pvB, Bool.and_eq_true] at h; exact ⟨h.2, h.1⟩
  have hp := fun h => pv_ok (n := n) (es := es) (ls := ls) (fs := fs) (e := e) h
  generalize pvN n es ls fs e = n2 at *
  generalize pvE n es ls fs e = e2 at *
  generalize pvL n es ls fs e = l2 at *
  generalize pvT n es ls fs e = t2 at *
  generalize pvB n es ls fs e = ok at *
  simp (config := { maxSteps := 10000000, implicitDefEqProofs := false }) only [go_sem, ↓reduceIte, Nat.reduceAdd, Nat.reduceMul, Nat.reduceEqDiff, Nat.reduceSub, Nat.reduceLT, reduceCtorEq, Nat.reduceLeDiff, Nat.reduceBEq, mwp_draw]
  refine callK_is (dyLeveled_is _ _ _ _ _ _ n2 n2 e2 e2 l2 l2 t2 t2 (by omega) (by omega) (by omega)) ?_
  simp only [decide_true, Bool.and_self]
  cases ok with
  | false =>
    simp (config := { maxSteps := 10000000, implicitDefEqProofs := false }) only [go_sem, ↓reduceIte, Nat.reduceAdd, Nat.reduceMul, Nat.reduceEqDiff, Nat.reduceSub, Nat.reduceLT, reduceCtorEq, Nat.reduceLeDiff, Nat.reduceBEq, mwp_draw, beq_true, beq_false]
    refine callK_is (dyLeveled_is _ _ _ _ _ _ n2 n2 e2 e2 l2 l2 t2 t2 (by omega) (by omega) (by omega)) ?_
    simp only [decide_true, Bool.and_self]
    simp (config := { maxSteps := 10000000, implicitDefEqProofs := false }) only [go_sem, ↓reduceIte, Nat.reduceAdd, Nat.reduceMul, Nat.reduceEqDiff, Nat.reduceSub, Nat.reduceLT, reduceCtorEq, Nat.reduceLeDiff, Nat.reduceBEq, mwp_draw, beq_true, beq_false]
  | true =>
    obtain ⟨o1, o2⟩ := ho rfl
    obtain ⟨p1, p2, p3, p4⟩ := hp rfl
    simp (config := { maxSteps := 10000000, implicitDefEqProofs := false }) only [go_sem, ↓reduceIte, Nat.reduceAdd, Nat.reduceMul, Nat.reduceEqDiff, Nat.reduceSub, Nat.reduceLT, reduceCtorEq, Nat.reduceLeDiff, Nat.reduceBEq, mwp_draw, beq_true, beq_false]
    refine callK_is (PutEdge_is _ n es e (by omega)) ?_
    rw [o1, if_pos rfl, if_pos rfl, ← p3, ← p2]
    simp (config := { maxSteps := 10000000, implicitDefEqProofs := false }) only [go_sem, ↓reduceIte, Nat.reduceAdd, Nat.reduceMul, Nat.reduceEqDiff, Nat.reduceSub, Nat.reduceLT, reduceCtorEq, Nat.reduceLeDiff, Nat.reduceBEq, mwp_draw]
    refine callK_is (SumLevels_is _ _ _ n2 es ls fs (by omega) (by omega) (by omega)) ?_
    rw [show smV n2 es ls fs = sumI ls by unfold smV; rw [p2, if_pos o2]]
    generalize lvB n2 es ls fs = junk
    simp (config := { maxSteps := 10000000, implicitDefEqProofs := false }) only [go_sem, ↓reduceIte, Nat.reduceAdd, Nat.reduceMul, Nat.reduceEqDiff, Nat.reduceSub, Nat.reduceLT, reduceCtorEq, Nat.reduceLeDiff, Nat.reduceBEq, mwp_draw]
    refine callK_is (SumLevels_is _ _ _ n2 e2 l2 t2 (by omega) (by omega) (by omega)) ?_
    rw [show smV n2 e2 l2 t2 = sumI l2 by unfold smV; rw [if_pos p1], p1, p4]
    simp (config := { maxSteps := 10000000, implicitDefEqProofs := false }) only [go_sem, ↓reduceIte, Nat.reduceAdd, Nat.reduceMul, Nat.reduceEqDiff, Nat.reduceSub, Nat.reduceLT, reduceCtorEq, Nat.reduceLeDiff, Nat.reduceBEq, mwp_draw]
    refine callK_is (GraphSame_is _ _ n2 e2 n2 e2 (by omega)) ?_
    simp only [decide_true, Bool.and_self]
    simp (config := { maxSteps := 10000000, implicitDefEqProofs := false }) only [go_sem, ↓reduceIte, Nat.reduceAdd, Nat.reduceMul, Nat.reduceEqDiff, Nat.reduceSub, Nat.reduceLT, reduceCtorEq, Nat.reduceLeDiff, Nat.reduceBEq, mwp_draw]
    refine callK_is (LevelsValid_is _ _ _ n2 e2 l2 t2 (by omega) (by omega) (by omega)) ?_
    rw [p1]
    simp (config := { maxSteps := 10000000, implicitDefEqProofs := false }) only [go_sem, ↓reduceIte, Nat.reduceAdd, Nat.reduceMul, Nat.reduceEqDiff, Nat.reduceSub, Nat.reduceLT, reduceCtorEq, Nat.reduceLeDiff, Nat.reduceBEq, mwp_draw]
    repeat (refine ⟨by first | omega | decide | exact fits64 (by omega) (by omega) | kernel_rfl | (intros; omega), ?_⟩)
    try rfl
theorem FnPutLevel_row (m : List (List D)) (h : ∀ r ∈ m, rowOK [.i .u8] r) (_ : m.length ≤ maxLen) : Is prog fid_laws_FnPutLevel [.s false 1 m] (.b true) := by
  obtain ⟨b, rfl, hb⟩ := rows_bytes h
  exact FnPutLevel_is _ b hb
end Go.Fw
