/-
  The laws on rooted trees.
-/
import Derived.Test.YtlhcnnfjgchhkaaCt12
import Derived.Test.YtlhcnnfjgchhkaaFyA
namespace Go.Fw
set_option linter.unusedSimpArgs false
set_option linter.unusedVariables false
set_option maxRecDepth 100000
set_option maxHeartbeats 4000000
open Go.Proofs.Try (prog)
open Go.Pl

theorem rt_row {m : List MV} (h : msOK [.sl [.i .i64], .sl [.i .i64]] m) : ∃ ps ws, m = [.s false 1 (encI ps), .s false 1 (encI ws)] ∧ ps.length ≤ maxLen ∧ ws.length ≤ maxLen ∧ (∀ n ∈ ps, (Lit.int .i64 n).wf = true) := by
  match m, h with
  | [.s t k r, .s t' k' r'], h =>
    simp only [msOK] at h
    obtain ⟨rfl, rfl, h1, h2, rfl, rfl, h3, h4, _⟩ := h
    obtain ⟨l, rfl, hw⟩ := rows_int h1
    obtain ⟨l', rfl, _⟩ := rows_int h3
    exact ⟨l, l', rfl, by simpa using h2, by simpa using h4, hw⟩

theorem FnExactRootedValid_is (ps ws : List Int) (hl : ps.length ≤ 9223372036854775807) (hl' : ws.length ≤ 9223372036854775807) : Is prog fid_laws_FnExactRootedValid [Rt false false ps ws] (.b true) := by
  refine MCall.run mixed get_laws_FnExactRootedValid ok_laws_FnExactRootedValid (Nat.le_of_ble_eq_true rfl) (by decide) ?_
  unfold mc_laws_FnExactRootedValid
  simp (config := { maxSteps := 10000000, implicitDefEqProofs := false }) only [go_sem, ↓reduceIte, Nat.reduceAdd, Nat.reduceMul, Nat.reduceEqDiff, Nat.reduceSub, Nat.reduceLT, reduceCtorEq, Nat.reduceLeDiff, Nat.reduceBEq]
  refine callK_is (szRooted_is _ _ ps ws 1048576 (by omega) hl hl') ?_
  simp (config := { maxSteps := 10000000, implicitDefEqProofs := false }) only [go_sem, ↓reduceIte, Nat.reduceAdd, Nat.reduceMul, Nat.reduceEqDiff, Nat.reduceSub, Nat.reduceLT, reduceCtorEq, Nat.reduceLeDiff, Nat.reduceBEq]
  refine fun hs => ?_
  obtain ⟨g1, g2⟩ := szR_get (by omega) hs
  refine callK_is (toRooted_is _ _ ps ws g1 g2) ?_
  simp (config := { maxSteps := 10000000, implicitDefEqProofs := false }) only [go_sem, ↓reduceIte, Nat.reduceAdd, Nat.reduceMul, Nat.reduceEqDiff, Nat.reduceSub, Nat.reduceLT, reduceCtorEq, Nat.reduceLeDiff, Nat.reduceBEq]
  refine callK_is (RootedValidS_is _ _ ps ws g1 g2) ?_
  simp (config := { maxSteps := 10000000, implicitDefEqProofs := false }) only [go_sem, ↓reduceIte, Nat.reduceAdd, Nat.reduceMul, Nat.reduceEqDiff, Nat.reduceSub, Nat.reduceLT, reduceCtorEq, Nat.reduceLeDiff, Nat.reduceBEq]
  refine callK_is (toRooted_is _ _ ps ws g1 g2) ?_
  simp (config := { maxSteps := 10000000, implicitDefEqProofs := false }) only [go_sem, ↓reduceIte, Nat.reduceAdd, Nat.reduceMul, Nat.reduceEqDiff, Nat.reduceSub, Nat.reduceLT, reduceCtorEq, Nat.reduceLeDiff, Nat.reduceBEq]
  refine callK_is (RootedValid_is _ _ ps ws g1 g2) ?_
  simp (config := { maxSteps := 10000000, implicitDefEqProofs := false }) only [go_sem, ↓reduceIte, Nat.reduceAdd, Nat.reduceMul, Nat.reduceEqDiff, Nat.reduceSub, Nat.reduceLT, reduceCtorEq, Nat.reduceLeDiff, Nat.reduceBEq]
  refine callK_is (toRooted_is _ _ ps ws g1 g2) ?_
  simp (config := { maxSteps := 10000000, implicitDefEqProofs := false }) only [go_sem, ↓reduceIte, Nat.reduceAdd, Nat.reduceMul, Nat.reduceEqDiff, Nat.reduceSub, Nat.reduceLT, reduceCtorEq, Nat.reduceLeDiff, Nat.reduceBEq]
  refine callK_is (eqRooted_is _ _ _ _ ps ws ps ws g1 g2) ?_
  simp (config := { maxSteps := 10000000, implicitDefEqProofs := false }) only [go_sem, ↓reduceIte, Nat.reduceAdd, Nat.reduceMul, Nat.reduceEqDiff, Nat.reduceSub, Nat.reduceLT, reduceCtorEq, Nat.reduceLeDiff, Nat.reduceBEq]
  show _ = true
  kernel_rfl
theorem FnExactRootOf_is (ps ws : List Int) (node : Int) (hl : ps.length ≤ 9223372036854775807) (hl' : ws.length ≤ 9223372036854775807) : Is prog fid_laws_FnExactRootOf [Rt false false ps ws, .i .i64 node] (.b true) := by
  refine MCall.run mixed get_laws_FnExactRootOf ok_laws_FnExactRootOf (Nat.le_of_ble_eq_true rfl) (by decide) ?_
  unfold mc_laws_FnExactRootOf
  simp (config := { maxSteps := 10000000, implicitDefEqProofs := false }) only [go_sem, ↓reduceIte, Nat.reduceAdd, Nat.reduceMul, Nat.reduceEqDiff, Nat.reduceSub, Nat.reduceLT, reduceCtorEq, Nat.reduceLeDiff, Nat.reduceBEq]
  refine callK_is (szRooted_is _ _ ps ws 1048576 (by omega) hl hl') ?_
  simp (config := { maxSteps := 10000000, implicitDefEqProofs := false }) only [go_sem, ↓reduceIte, Nat.reduceAdd, Nat.reduceMul, Nat.reduceEqDiff, Nat.reduceSub, Nat.reduceLT, reduceCtorEq, Nat.reduceLeDiff, Nat.reduceBEq]
  refine fun hs => ?_
  obtain ⟨g1, g2⟩ := szR_get (by omega) hs
  refine callK_is (toRooted_is _ _ ps ws g1 g2) ?_
  simp (config := { maxSteps := 10000000, implicitDefEqProofs := false }) only [go_sem, ↓reduceIte, Nat.reduceAdd, Nat.reduceMul, Nat.reduceEqDiff, Nat.reduceSub, Nat.reduceLT, reduceCtorEq, Nat.reduceLeDiff, Nat.reduceBEq]
  refine callK_is (RootOfS_is _ _ ps ws node g1 g2) ?_
  simp (config := { maxSteps := 10000000, implicitDefEqProofs := false }) only [go_sem, ↓reduceIte, Nat.reduceAdd, Nat.reduceMul, Nat.reduceEqDiff, Nat.reduceSub, Nat.reduceLT, reduceCtorEq, Nat.reduceLeDiff, Nat.reduceBEq]
  refine callK_is (toRooted_is _ _ ps ws g1 g2) ?_
  simp (config := { maxSteps := 10000000, implicitDefEqProofs := false }) only [go_sem, ↓reduceIte, Nat.reduceAdd, Nat.reduceMul, Nat.reduceEqDiff, Nat.reduceSub, Nat.reduceLT, reduceCtorEq, Nat.reduceLeDiff, Nat.reduceBEq]
  refine callK_is (RootOf_is _ _ ps ws node g1 g2) ?_
  simp (config := { maxSteps := 10000000, implicitDefEqProofs := false }) only [go_sem, ↓reduceIte, Nat.reduceAdd, Nat.reduceMul, Nat.reduceEqDiff, Nat.reduceSub, Nat.reduceLT, reduceCtorEq, Nat.reduceLeDiff, Nat.reduceBEq]
  refine callK_is (toRooted_is _ _ ps ws g1 g2) ?_
  simp (config := { maxSteps := 10000000, implicitDefEqProofs := false }) only [go_sem, ↓reduceIte, Nat.reduceAdd, Nat.reduceMul, Nat.reduceEqDiff, Nat.reduceSub, Nat.reduceLT, reduceCtorEq, Nat.reduceLeDiff, Nat.reduceBEq]
  refine callK_is (eqRooted_is _ _ _ _ ps ws ps ws g1 g2) ?_
  simp (config := { maxSteps := 10000000, implicitDefEqProofs := false }) only [go_sem, ↓reduceIte, Nat.reduceAdd, Nat.reduceMul, Nat.reduceEqDiff, Nat.reduceSub, Nat.reduceLT, reduceCtorEq, Nat.reduceLeDiff, Nat.reduceBEq]
  show _ = true
  kernel_rfl
theorem FnExactWayUp_is (ps ws : List Int) (node : Int) (hl : ps.length ≤ 9223372036854775807) (hl' : ws.length ≤ 9223372036854775807) : Is prog fid_laws_FnExactWayUp [Rt false false ps ws, .i .i64 node] (.b true) := by
  refine MCall.run mixed get_laws_FnExactWayUp ok_laws_FnExactWayUp (Nat.le_of_ble_eq_true rfl) (by decide) ?_
  unfold mc_laws_FnExactWayUp
  simp (config := { maxSteps := 10000000, implicitDefEqProofs := false }) only [go_sem, ↓reduceIte, Nat.reduceAdd, Nat.reduceMul, Nat.reduceEqDiff, Nat.reduceSub, Nat.reduceLT, reduceCtorEq, Nat.reduceLeDiff, Nat.reduceBEq]
  refine callK_is (szRooted_is _ _ ps ws 1048576 (by omega) hl hl') ?_
  simp (config := { maxSteps := 10000000, implicitDefEqProofs := false }) only [go_sem, ↓reduceIte, Nat.reduceAdd, Nat.reduceMul, Nat.reduceEqDiff, Nat.reduceSub, Nat.reduceLT, reduceCtorEq, Nat.reduceLeDiff, Nat.reduceBEq]
  refine fun hs => ?_
  obtain ⟨g1, g2⟩ := szR_get (by omega) hs
  refine callK_is (toRooted_is _ _ ps ws g1 g2) ?_
  simp (config := { maxSteps := 10000000, implicitDefEqProofs := false }) only [go_sem, ↓reduceIte, Nat.reduceAdd, Nat.reduceMul, Nat.reduceEqDiff, Nat.reduceSub, Nat.reduceLT, reduceCtorEq, Nat.reduceLeDiff, Nat.reduceBEq]
  refine callK_is (WayUpS_is _ _ ps ws node g1 g2) ?_
  simp (config := { maxSteps := 10000000, implicitDefEqProofs := false }) only [go_sem, ↓reduceIte, Nat.reduceAdd, Nat.reduceMul, Nat.reduceEqDiff, Nat.reduceSub, Nat.reduceLT, reduceCtorEq, Nat.reduceLeDiff, Nat.reduceBEq]
  refine callK_is (toRooted_is _ _ ps ws g1 g2) ?_
  simp (config := { maxSteps := 10000000, implicitDefEqProofs := false }) only [go_sem, ↓reduceIte, Nat.reduceAdd, Nat.reduceMul, Nat.reduceEqDiff, Nat.reduceSub, Nat.reduceLT, reduceCtorEq, Nat.reduceLeDiff, Nat.reduceBEq]
  refine callK_is (WayUp_is _ _ ps ws node g1 g2) ?_
  simp (config := { maxSteps := 10000000, implicitDefEqProofs := false }) only [go_sem, ↓reduceIte, Nat.reduceAdd, Nat.reduceMul, Nat.reduceEqDiff, Nat.reduceSub, Nat.reduceLT, reduceCtorEq, Nat.reduceLeDiff, Nat.reduceBEq]
  have hw : (wayN ps ws node).length ≤ 16 := by
    unfold wayN
    cases h : nodeOK ps ws node
    · simp
    · simpa using (wayL_ne h).2
  refine callK_is (eqIntS_is _ _ _ _ (by omega)) ?_
  simp (config := { maxSteps := 10000000, implicitDefEqProofs := false }) only [go_sem, ↓reduceIte, Nat.reduceAdd, Nat.reduceMul, Nat.reduceEqDiff, Nat.reduceSub, Nat.reduceLT, reduceCtorEq, Nat.reduceLeDiff, Nat.reduceBEq]
  refine callK_is (toRooted_is _ _ ps ws g1 g2) ?_
  simp (config := { maxSteps := 10000000, implicitDefEqProofs := false }) only [go_sem, ↓reduceIte, Nat.reduceAdd, Nat.reduceMul, Nat.reduceEqDiff, Nat.reduceSub, Nat.reduceLT, reduceCtorEq, Nat.reduceLeDiff, Nat.reduceBEq]
  refine callK_is (eqRooted_is _ _ _ _ ps ws ps ws g1 g2) ?_
  simp (config := { maxSteps := 10000000, implicitDefEqProofs := false }) only [go_sem, ↓reduceIte, Nat.reduceAdd, Nat.reduceMul, Nat.reduceEqDiff, Nat.reduceSub, Nat.reduceLT, reduceCtorEq, Nat.reduceLeDiff, Nat.reduceBEq]
  refine ⟨by kernel_rfl, ?_⟩
  refine callK_det (markRooted_is _ _ ps ws 1 (by omega) g1 g2) ?_
  simp (config := { maxSteps := 10000000, implicitDefEqProofs := false }) only [go_sem, ↓reduceIte, Nat.reduceAdd, Nat.reduceMul, Nat.reduceEqDiff, Nat.reduceSub, Nat.reduceLT, reduceCtorEq, Nat.reduceLeDiff, Nat.reduceBEq, markI_length, markI_take]
  refine ⟨fun h => ?_, fun h => by omega⟩
  refine callK_is (eqIntS_is _ _ _ _ (by omega)) ?_
  simp (config := { maxSteps := 10000000, implicitDefEqProofs := false }) only [go_sem, ↓reduceIte, Nat.reduceAdd, Nat.reduceMul, Nat.reduceEqDiff, Nat.reduceSub, Nat.reduceLT, reduceCtorEq, Nat.reduceLeDiff, Nat.reduceBEq]
  refine callK_det (markIntS_is _ (wayN ps ws node) 1 (by omega) (by omega)) ?_
  simp (config := { maxSteps := 10000000, implicitDefEqProofs := false }) only [go_sem, ↓reduceIte, Nat.reduceAdd, Nat.reduceMul, Nat.reduceEqDiff, Nat.reduceSub, Nat.reduceLT, reduceCtorEq, Nat.reduceLeDiff, Nat.reduceBEq, markI_length, markI_take]
  refine callK_is (heldIntS_is _ (wayN ps ws node).length 1 (by omega) (by omega)) ?_
  simp (config := { maxSteps := 10000000, implicitDefEqProofs := false }) only [go_sem, ↓reduceIte, Nat.reduceAdd, Nat.reduceMul, Nat.reduceEqDiff, Nat.reduceSub, Nat.reduceLT, reduceCtorEq, Nat.reduceLeDiff, Nat.reduceBEq, markI_length, markI_take]
  refine ⟨fun h => by omega, fun h => ?_⟩
  refine callK_is (toRooted_is _ _ ps ws g1 g2) ?_
  simp (config := { maxSteps := 10000000, implicitDefEqProofs := false }) only [go_sem, ↓reduceIte, Nat.reduceAdd, Nat.reduceMul, Nat.reduceEqDiff, Nat.reduceSub, Nat.reduceLT, reduceCtorEq, Nat.reduceLeDiff, Nat.reduceBEq, markI_length, markI_take]
  refine callK_is (WayUp_is _ _ ps ws node g1 g2) ?_
  simp (config := { maxSteps := 10000000, implicitDefEqProofs := false }) only [go_sem, ↓reduceIte, Nat.reduceAdd, Nat.reduceMul, Nat.reduceEqDiff, Nat.reduceSub, Nat.reduceLT, reduceCtorEq, Nat.reduceLeDiff, Nat.reduceBEq, markI_length, markI_take]
  refine callK_is (eqIntS_is _ _ _ _ (by omega)) ?_
  simp (config := { maxSteps := 10000000, implicitDefEqProofs := false }) only [go_sem, ↓reduceIte, Nat.reduceAdd, Nat.reduceMul, Nat.reduceEqDiff, Nat.reduceSub, Nat.reduceLT, reduceCtorEq, Nat.reduceLeDiff, Nat.reduceBEq, markI_length, markI_take]
  refine callK_is (heldIntS_is _ (wayN ps ws node).length 1 (by omega) (by omega)) ?_
  simp (config := { maxSteps := 10000000, implicitDefEqProofs := false }) only [go_sem, ↓reduceIte, Nat.reduceAdd, Nat.reduceMul, Nat.reduceEqDiff, Nat.reduceSub, Nat.reduceLT, reduceCtorEq, Nat.reduceLeDiff, Nat.reduceBEq, markI_length, markI_take]
  exact fun h => by omega

theorem FnExactRootedValid_row (m : List MV) (h : msOK [.sl [.i .i64], .sl [.i .i64]] m) : Is prog fid_laws_FnExactRootedValid [.agg m] (.b true) := by
  obtain ⟨ps, ws, rfl, h1, h2, _⟩ := rt_row h
  exact FnExactRootedValid_is ps ws (Nat.le_trans h1 (by decide)) (Nat.le_trans h2 (by decide))
theorem FnExactRootOf_row (m : List MV) (h : msOK [.sl [.i .i64], .sl [.i .i64]] m) (x : Int) (_ : (Lit.int .i64 x).wf = true) : Is prog fid_laws_FnExactRootOf [.agg m, .i .i64 x] (.b true) := by
  obtain ⟨ps, ws, rfl, h1, h2, _⟩ := rt_row h
  exact FnExactRootOf_is ps ws x (Nat.le_trans h1 (by decide)) (Nat.le_trans h2 (by decide))
theorem FnExactWayUp_row (m : List MV) (h : msOK [.sl [.i .i64], .sl [.i .i64]] m) (x : Int) (_ : (Lit.int .i64 x).wf = true) : Is prog fid_laws_FnExactWayUp [.agg m, .i .i64 x] (.b true) := by
  obtain ⟨ps, ws, rfl, h1, h2, _⟩ := rt_row h
  exact FnExactWayUp_is ps ws x (Nat.le_trans h1 (by decide)) (Nat.le_trans h2 (by decide))
end Go.Fw
