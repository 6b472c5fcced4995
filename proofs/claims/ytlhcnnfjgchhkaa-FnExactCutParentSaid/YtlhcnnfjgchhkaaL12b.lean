/-
  The laws on rooted trees: meeting nodes, cutting.
-/
import Derived.Test.YtlhcnnfjgchhkaaCt12b
import Derived.Test.YtlhcnnfjgchhkaaL12
namespace Go.Fw
set_option linter.unusedSimpArgs false
set_option linter.unusedVariables false
set_option maxRecDepth 100000
set_option maxHeartbeats 4000000
open Go.Proofs.Try (prog)
open Go.Pl

theorem heldRooted_is (t t' : Bool) (n m : Nat) (k : Int) (hk : 0 ≤ k ∧ k ≤ 1000000) (hl : n ≤ 1048576) (hl' : m ≤ 1048576) :
    Is prog fid_laws_heldRooted [.agg [.s t 1 (encI (markI n k)), .s t' 1 (encI (markI m (k + n)))], .i .i64 k] (.i .i64 (k + n + m)) := by
  refine MCall.run mixed get_laws_heldRooted ok_laws_heldRooted (Nat.le_of_ble_eq_true rfl) (by decide) ?_
  unfold mc_laws_heldRooted
  simp (config := { maxSteps := 10000000, implicitDefEqProofs := false }) only [go_sem, ↓reduceIte, Nat.reduceAdd, Nat.reduceMul, Nat.reduceEqDiff, Nat.reduceSub, Nat.reduceLT, reduceCtorEq, Nat.reduceLeDiff, Nat.reduceBEq]
  refine callK_is (heldIntS_is _ n k (by omega) hl) ?_
  simp (config := { maxSteps := 10000000, implicitDefEqProofs := false }) only [go_sem, ↓reduceIte, Nat.reduceAdd, Nat.reduceMul, Nat.reduceEqDiff, Nat.reduceSub, Nat.reduceLT, reduceCtorEq, Nat.reduceLeDiff, Nat.reduceBEq]
  refine ⟨fun h => by omega, fun h => callK_is (heldIntS_is _ m (k + n) (by omega) hl') ?_⟩
  simp (config := { maxSteps := 10000000, implicitDefEqProofs := false }) only [go_sem, ↓reduceIte, Nat.reduceAdd, Nat.reduceMul, Nat.reduceEqDiff, Nat.reduceSub, Nat.reduceLT, reduceCtorEq, Nat.reduceLeDiff, Nat.reduceBEq]
  exact fun h => by omega
theorem cut_len (ps ws : List Int) (node : Int) : (cutP ps ws node).length ≤ 16 ∧ (cutW ps ws node).length ≤ 16 := by
  unfold cutP cutW
  cases h : cutOK ps ws node
  · simp
  · simp only [cutOK, Bool.and_eq_true] at h
    obtain ⟨_, h2, _, _, h5, _⟩ := nodeOK_get h.1
    simp; omega

theorem FnExactMeetOf_is (ps ws : List Int) (x y : Int) (hl : ps.length ≤ 9223372036854775807) (hl' : ws.length ≤ 9223372036854775807) : Is prog fid_laws_FnExactMeetOf [Rt false false ps ws, .i .i64 x, .i .i64 y] (.b true) := by
  refine MCall.run mixed get_laws_FnExactMeetOf ok_laws_FnExactMeetOf (Nat.le_of_ble_eq_true rfl) (by decide) ?_
  unfold mc_laws_FnExactMeetOf
  simp (config := { maxSteps := 10000000, implicitDefEqProofs := false }) only [go_sem, ↓reduceIte, Nat.reduceAdd, Nat.reduceMul, Nat.reduceEqDiff, Nat.reduceSub, Nat.reduceLT, reduceCtorEq, Nat.reduceLeDiff, Nat.reduceBEq]
  refine callK_is (szRooted_is _ _ ps ws 1048576 (by omega) hl hl') ?_
  simp (config := { maxSteps := 10000000, implicitDefEqProofs := false }) only [go_sem, ↓reduceIte, Nat.reduceAdd, Nat.reduceMul, Nat.reduceEqDiff, Nat.reduceSub, Nat.reduceLT, reduceCtorEq, Nat.reduceLeDiff, Nat.reduceBEq]
  refine fun hs => ?_
  obtain ⟨g1, g2⟩ := szR_get (by omega) hs
  refine callK_is (toRooted_is _ _ ps ws g1 g2) ?_
  simp (config := { maxSteps := 10000000, implicitDefEqProofs := false }) only [go_sem, ↓reduceIte, Nat.reduceAdd, Nat.reduceMul, Nat.reduceEqDiff, Nat.reduceSub, Nat.reduceLT, reduceCtorEq, Nat.reduceLeDiff, Nat.reduceBEq]
  refine callK_is (MeetOfS_is _ _ ps ws x y g1 g2) ?_
  simp (config := { maxSteps := 10000000, implicitDefEqProofs := false }) only [go_sem, ↓reduceIte, Nat.reduceAdd, Nat.reduceMul, Nat.reduceEqDiff, Nat.reduceSub, Nat.reduceLT, reduceCtorEq, Nat.reduceLeDiff, Nat.reduceBEq]
  refine callK_is (toRooted_is _ _ ps ws g1 g2) ?_
  simp (config := { maxSteps := 10000000, implicitDefEqProofs := false }) only [go_sem, ↓reduceIte, Nat.reduceAdd, Nat.reduceMul, Nat.reduceEqDiff, Nat.reduceSub, Nat.reduceLT, reduceCtorEq, Nat.reduceLeDiff, Nat.reduceBEq]
  refine callK_is (MeetOf_is _ _ ps ws x y g1 g2) ?_
  simp (config := { maxSteps := 10000000, implicitDefEqProofs := false }) only [go_sem, ↓reduceIte, Nat.reduceAdd, Nat.reduceMul, Nat.reduceEqDiff, Nat.reduceSub, Nat.reduceLT, reduceCtorEq, Nat.reduceLeDiff, Nat.reduceBEq]
  refine callK_is (toRooted_is _ _ ps ws g1 g2) ?_
  simp (config := { maxSteps := 10000000, implicitDefEqProofs := false }) only [go_sem, ↓reduceIte, Nat.reduceAdd, Nat.reduceMul, Nat.reduceEqDiff, Nat.reduceSub, Nat.reduceLT, reduceCtorEq, Nat.reduceLeDiff, Nat.reduceBEq]
  refine callK_is (eqRooted_is _ _ _ _ ps ws ps ws g1 g2) ?_
  simp (config := { maxSteps := 10000000, implicitDefEqProofs := false }) only [go_sem, ↓reduceIte, Nat.reduceAdd, Nat.reduceMul, Nat.reduceEqDiff, Nat.reduceSub, Nat.reduceLT, reduceCtorEq, Nat.reduceLeDiff, Nat.reduceBEq]
  show _ = true
  kernel_rfl
theorem FnExactCutParent_is (ps ws : List Int) (node : Int) (hl : ps.length ≤ 9223372036854775807) (hl' : ws.length ≤ 9223372036854775807) : Is prog fid_laws_FnExactCutParent [Rt false false ps ws, .i .i64 node] (.b true) := by
  refine MCall.run mixed get_laws_FnExactCutParent ok_laws_FnExactCutParent (Nat.le_of_ble_eq_true rfl) (by decide) ?_
  unfold mc_laws_FnExactCutParent
  obtain ⟨c1, c2⟩ := cut_len ps ws node
  simp (config := { maxSteps := 10000000, implicitDefEqProofs := false }) only [go_sem, ↓reduceIte, Nat.reduceAdd, Nat.reduceMul, Nat.reduceEqDiff, Nat.reduceSub, Nat.reduceLT, reduceCtorEq, Nat.reduceLeDiff, Nat.reduceBEq]
  refine callK_is (szRooted_is _ _ ps ws 1048576 (by omega) hl hl') ?_
  simp (config := { maxSteps := 10000000, implicitDefEqProofs := false }) only [go_sem, ↓reduceIte, Nat.reduceAdd, Nat.reduceMul, Nat.reduceEqDiff, Nat.reduceSub, Nat.reduceLT, reduceCtorEq, Nat.reduceLeDiff, Nat.reduceBEq]
  refine fun hs => ?_
  obtain ⟨g1, g2⟩ := szR_get (by omega) hs
  refine callK_is (toRooted_is _ _ ps ws g1 g2) ?_
  simp (config := { maxSteps := 10000000, implicitDefEqProofs := false }) only [go_sem, ↓reduceIte, Nat.reduceAdd, Nat.reduceMul, Nat.reduceEqDiff, Nat.reduceSub, Nat.reduceLT, reduceCtorEq, Nat.reduceLeDiff, Nat.reduceBEq]
  refine callK_is (CutParentS_is _ _ ps ws node g1 g2) ?_
  simp (config := { maxSteps := 10000000, implicitDefEqProofs := false }) only [go_sem, ↓reduceIte, Nat.reduceAdd, Nat.reduceMul, Nat.reduceEqDiff, Nat.reduceSub, Nat.reduceLT, reduceCtorEq, Nat.reduceLeDiff, Nat.reduceBEq]
  refine callK_is (toRooted_is _ _ ps ws g1 g2) ?_
  simp (config := { maxSteps := 10000000, implicitDefEqProofs := false }) only [go_sem, ↓reduceIte, Nat.reduceAdd, Nat.reduceMul, Nat.reduceEqDiff, Nat.reduceSub, Nat.reduceLT, reduceCtorEq, Nat.reduceLeDiff, Nat.reduceBEq]
  refine callK_is (CutParent_is _ _ ps ws node g1 g2) ?_
  simp (config := { maxSteps := 10000000, implicitDefEqProofs := false }) only [go_sem, ↓reduceIte, Nat.reduceAdd, Nat.reduceMul, Nat.reduceEqDiff, Nat.reduceSub, Nat.reduceLT, reduceCtorEq, Nat.reduceLeDiff, Nat.reduceBEq]
  refine callK_is (eqRooted_is _ _ _ _ _ _ _ _ (by omega) (by omega)) ?_
  simp (config := { maxSteps := 10000000, implicitDefEqProofs := false }) only [go_sem, ↓reduceIte, Nat.reduceAdd, Nat.reduceMul, Nat.reduceEqDiff, Nat.reduceSub, Nat.reduceLT, reduceCtorEq, Nat.reduceLeDiff, Nat.reduceBEq]
  refine callK_is (toRooted_is _ _ ps ws g1 g2) ?_
  simp (config := { maxSteps := 10000000, implicitDefEqProofs := false }) only [go_sem, ↓reduceIte, Nat.reduceAdd, Nat.reduceMul, Nat.reduceEqDiff, Nat.reduceSub, Nat.reduceLT, reduceCtorEq, Nat.reduceLeDiff, Nat.reduceBEq]
  refine callK_is (eqRooted_is _ _ _ _ ps ws ps ws g1 g2) ?_
  simp (config := { maxSteps := 10000000, implicitDefEqProofs := false }) only [go_sem, ↓reduceIte, Nat.reduceAdd, Nat.reduceMul, Nat.reduceEqDiff, Nat.reduceSub, Nat.reduceLT, reduceCtorEq, Nat.reduceLeDiff, Nat.reduceBEq]
  refine ⟨by kernel_rfl, ?_⟩
  refine callK_det (markRooted_is _ _ ps ws 1 (by omega) g1 g2) ?_
  simp (config := { maxSteps := 10000000, implicitDefEqProofs := false }) only [go_sem, ↓reduceIte, Nat.reduceAdd, Nat.reduceMul, Nat.reduceEqDiff, Nat.reduceSub, Nat.reduceLT, reduceCtorEq, Nat.reduceLeDiff, Nat.reduceBEq, markI_length, markI_take]
  refine ⟨fun h => ?_, fun h => by omega⟩
  refine callK_is (eqRooted_is _ _ _ _ _ _ _ _ (by omega) (by omega)) ?_
  simp (config := { maxSteps := 10000000, implicitDefEqProofs := false }) only [go_sem, ↓reduceIte, Nat.reduceAdd, Nat.reduceMul, Nat.reduceEqDiff, Nat.reduceSub, Nat.reduceLT, reduceCtorEq, Nat.reduceLeDiff, Nat.reduceBEq]
  refine callK_det (markRooted_is _ _ (cutP ps ws node) (cutW ps ws node) 1 (by omega) (by omega) (by omega)) ?_
  simp (config := { maxSteps := 10000000, implicitDefEqProofs := false }) only [go_sem, ↓reduceIte, Nat.reduceAdd, Nat.reduceMul, Nat.reduceEqDiff, Nat.reduceSub, Nat.reduceLT, reduceCtorEq, Nat.reduceLeDiff, Nat.reduceBEq, markI_length, markI_take]
  refine callK_is (heldRooted_is _ _ (cutP ps ws node).length (cutW ps ws node).length 1 (by omega) (by omega) (by omega)) ?_
  simp (config := { maxSteps := 10000000, implicitDefEqProofs := false }) only [go_sem, ↓reduceIte, Nat.reduceAdd, Nat.reduceMul, Nat.reduceEqDiff, Nat.reduceSub, Nat.reduceLT, reduceCtorEq, Nat.reduceLeDiff, Nat.reduceBEq, markI_length, markI_take]
  refine ⟨fun h => by omega, fun h => ?_⟩
  refine callK_is (toRooted_is _ _ ps ws g1 g2) ?_
  simp (config := { maxSteps := 10000000, implicitDefEqProofs := false }) only [go_sem, ↓reduceIte, Nat.reduceAdd, Nat.reduceMul, Nat.reduceEqDiff, Nat.reduceSub, Nat.reduceLT, reduceCtorEq, Nat.reduceLeDiff, Nat.reduceBEq, markI_length, markI_take]
  refine callK_is (CutParent_is _ _ ps ws node g1 g2) ?_
  simp (config := { maxSteps := 10000000, implicitDefEqProofs := false }) only [go_sem, ↓reduceIte, Nat.reduceAdd, Nat.reduceMul, Nat.reduceEqDiff, Nat.reduceSub, Nat.reduceLT, reduceCtorEq, Nat.reduceLeDiff, Nat.reduceBEq, markI_length, markI_take]
  refine callK_is (eqRooted_is _ _ _ _ _ _ _ _ (by omega) (by omega)) ?_
  simp (config := { maxSteps := 10000000, implicitDefEqProofs := false }) only [go_sem, ↓reduceIte, Nat.reduceAdd, Nat.reduceMul, Nat.reduceEqDiff, Nat.reduceSub, Nat.reduceLT, reduceCtorEq, Nat.reduceLeDiff, Nat.reduceBEq, markI_length, markI_take]
  refine callK_is (heldRooted_is _ _ (cutP ps ws node).length (cutW ps ws node).length 1 (by omega) (by omega) (by omega)) ?_
  simp (config := { maxSteps := 10000000, implicitDefEqProofs := false }) only [go_sem, ↓reduceIte, Nat.reduceAdd, Nat.reduceMul, Nat.reduceEqDiff, Nat.reduceSub, Nat.reduceLT, reduceCtorEq, Nat.reduceLeDiff, Nat.reduceBEq, markI_length, markI_take]
  exact fun h => by omega

theorem FnExactMeetOf_row (m : List MV) (h : msOK [.sl [.i .i64], .sl [.i .i64]] m) (x : Int) (_ : (Lit.int .i64 x).wf = true) (y : Int) (_ : (Lit.int .i64 y).wf = true) : Is prog fid_laws_FnExactMeetOf [.agg m, .i .i64 x, .i .i64 y] (.b true) := by
  obtain ⟨ps, ws, rfl, h1, h2, _⟩ := rt_row h
  exact FnExactMeetOf_is ps ws x y (Nat.le_trans h1 (by decide)) (Nat.le_trans h2 (by decide))
theorem FnExactCutParent_row (m : List MV) (h : msOK [.sl [.i .i64], .sl [.i .i64]] m) (x : Int) (_ : (Lit.int .i64 x).wf = true) : Is prog fid_laws_FnExactCutParent [.agg m, .i .i64 x] (.b true) := by
  obtain ⟨ps, ws, rfl, h1, h2, _⟩ := rt_row h
  exact FnExactCutParent_is ps ws x (Nat.le_trans h1 (by decide)) (Nat.le_trans h2 (by decide))
end Go.Fw
