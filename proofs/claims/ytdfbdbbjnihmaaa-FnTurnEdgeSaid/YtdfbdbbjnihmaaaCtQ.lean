/-
  Turns: the law on drawn graphs.
-/
import Derived.Test.YtdfbdbbjnihmaaaCtP
import Derived.Test.YtdfbdbbjnihmaaaCtG9
import Derived.Test.YtdfbdbbjnihmaaaFyA
import Derived.Test.YtdfbdbbjnihmaaaCf
namespace Go.Fw
set_option linter.unusedSimpArgs false
set_option linter.unusedVariables false
set_option maxRecDepth 100000
set_option maxHeartbeats 4000000
open Go.Proofs.Try (prog)
open Go.Pl

theorem turn_back {n : Int} {es : List E} {e : E} (h : turnOK n es e = true) : turnN n es e = n ∧ turnOK n (turnE n es e) e = true ∧ turnE n (turnE n es e) e = es ∧ gvB n es = true ∧ gvB n (turnE n es e) = true ∧ (e ∈ turnE n es e ↔ ¬ e ∈ es) := by
  have h0 := h
  simp only [turnOK, Bool.and_eq_true, Bool.or_eq_true, decide_eq_true_eq] at h
  obtain ⟨h1, h2⟩ := h
  have hg := gvB_iff.1 h1
  have hN : turnN n es e = n := by unfold turnN; rw [h0]; rfl
  by_cases m : e ∈ es
  · have e1 : turnE n es e = cutE es e := by unfold turnE; rw [h0]; simp [m]
    have m1 : e ∉ cutE es e := by simp [cutE]
    have g1 : gvB n (cutE es e) = true := gvB_iff.2 (GV_filter hg _)
    have e2 : putE (cutE es e) e = es := sorted_ext (putE_sorted (gvB_iff.1 g1).2.2.2.2 m1) hg.2.2.2.2 fun x => by
      rw [mem_putE]; simp only [cutE, List.mem_filter, Bool.not_eq_true', decide_eq_false_iff_not]
      exact ⟨fun q => q.elim (fun q => q ▸ m) (fun q => q.1), fun q => (Classical.em (x = e)).elim .inl fun w => .inr ⟨q, w⟩⟩
    have o : turnOK n (cutE es e) e = true := by unfold turnOK; rw [g1, e2, h1]; simp
    rw [e1]
    refine ⟨hN, o, ?_, h1, g1, by simp [m, m1]⟩
    unfold turnE; rw [o]; simp [m1, e2]
  · have gp : gvB n (putE es e) = true := h2.resolve_left m
    have e1 : turnE n es e = putE es e := by unfold turnE; rw [h0]; simp [m]
    have m1 : e ∈ putE es e := mem_putE.2 (.inl rfl)
    have e2 : cutE (putE es e) e = es := sorted_ext ((gvB_iff.1 gp).2.2.2.2.filter _) hg.2.2.2.2 fun x => by
      simp only [cutE, List.mem_filter, Bool.not_eq_true', decide_eq_false_iff_not, mem_putE]
      exact ⟨fun q => q.1.resolve_left q.2, fun q => ⟨.inr q, fun w => m (w ▸ q)⟩⟩
    have o : turnOK n (putE es e) e = true := by unfold turnOK; rw [gp]; simp [m1]
    rw [e1]
    refine ⟨hN, o, ?_, h1, gp, by simp [m, m1]⟩
    unfold turnE; rw [o]; simp [m1, e2]
theorem l1Case_is (t : Bool) (b : List Int) (hb : Byt b) : MCall prog fid_spec_l1Case [.s t 1 (encB b)]
    (fun o r => o = [.u] ∧ ∃ n es, ∃ e : E, r = .tup [.agg [.i .i64 n, .ow true 2 (encE es)], .agg [.i .i64 e.1, .i .i64 e.2]] ∧ -1 ≤ n ∧ n ≤ 17 ∧ es.length ≤ 200) := by
  refine MCall.run mixed get_spec_l1Case ok_spec_l1Case (Nat.le_of_ble_eq_true rfl) (by decide) ?_
  unfold mc_spec_l1Case
  have hb' := byt_take2 hb 2000
  have hc' : (b.take 2000).length ≤ 2000 := by simp; omega
  simp (config := { maxSteps := 10000000, implicitDefEqProofs := false }) only [go_sem, ↓reduceIte, Nat.reduceAdd, Nat.reduceMul, Nat.reduceEqDiff, Nat.reduceSub, Nat.reduceLT, reduceCtorEq, Nat.reduceLeDiff, Nat.reduceBEq, mwp_draw]
  refine callK_is (l14Open_is b) ?_
  simp (config := { maxSteps := 10000000, implicitDefEqProofs := false }) only [go_sem, ↓reduceIte, Nat.reduceAdd, Nat.reduceMul, Nat.reduceEqDiff, Nat.reduceSub, Nat.reduceLT, reduceCtorEq, Nat.reduceLeDiff, Nat.reduceBEq, mwp_draw]
  generalize b.take 2000 = c at hb' hc'
  refine callK_any (l1Draw_is c 0 hb' hc' (by omega)) ?_
  rintro o r ⟨p, n, es, rfl, rfl, w1, w2, w3, w4, w5⟩
  simp (config := { maxSteps := 10000000, implicitDefEqProofs := false }) only [go_sem, ↓reduceIte, Nat.reduceAdd, Nat.reduceMul, Nat.reduceEqDiff, Nat.reduceSub, Nat.reduceLT, reduceCtorEq, Nat.reduceLeDiff, Nat.reduceBEq, mwp_draw]
  refine ⟨fun c1 => ?_, fun c1 => ?_⟩
  · refine callK_det (pick_is c p 2 hb' hc' (by omega) (by omega)) ?_
    generalize pickM c p 2 = v
    simp (config := { maxSteps := 10000000, implicitDefEqProofs := false }) only [go_sem, ↓reduceIte, Nat.reduceAdd, Nat.reduceMul, Nat.reduceEqDiff, Nat.reduceSub, Nat.reduceLT, reduceCtorEq, Nat.reduceLeDiff, Nat.reduceBEq, mwp_draw]
    refine ⟨fun cv => ?_, fun cv => ?_⟩
    · obtain ⟨p2, n2, es2, v1, v2, v3, v4, v5, hM⟩ := l1Wrong_det c (p + 1) false n es hb' hc' (by omega) (by omega) (by omega)
      refine callK_det hM ?_
      simp (config := { maxSteps := 10000000, implicitDefEqProofs := false }) only [go_sem, ↓reduceIte, Nat.reduceAdd, Nat.reduceMul, Nat.reduceEqDiff, Nat.reduceSub, Nat.reduceLT, reduceCtorEq, Nat.reduceLeDiff, Nat.reduceBEq, mwp_draw]
      refine callK_det (pick_is c p2 es.length hb' hc' (by omega) (by omega)) ?_
      have hr := pick_rng (b := c) (p := p2) es.length hb' hc' (by omega)
      generalize pickM c p2 es.length = k at hr
      have hr2 := hr.2 (by omega)
      simp (config := { maxSteps := 10000000, implicitDefEqProofs := false }) only [go_sem, ↓reduceIte, Nat.reduceAdd, Nat.reduceMul, Nat.reduceEqDiff, Nat.reduceSub, Nat.reduceLT, reduceCtorEq, Nat.reduceLeDiff, Nat.reduceBEq, mwp_draw]
      refine ⟨by omega, by omega, by omega, fun x hx => ⟨by kernel_rfl, ?_⟩⟩
      exact ⟨n2, es2, x, rfl, v3, v4, by omega⟩
    · have hp1 : 0 ≤ p + 1 := by omega
      refine callK_det (pick_is c (p + 1) 16 hb' hc' (by omega) (by omega)) ?_
      generalize pickM c (p + 1) 16 = v2
      simp (config := { maxSteps := 10000000, implicitDefEqProofs := false }) only [go_sem, ↓reduceIte, Nat.reduceAdd, Nat.reduceMul, Nat.reduceEqDiff, Nat.reduceSub, Nat.reduceLT, reduceCtorEq, Nat.reduceLeDiff, Nat.reduceBEq, mwp_draw]
      refine ⟨fun c2 => ?_, fun c2 => ?_⟩
      · refine callK_det (num_is _ c (p + 1 + 1) [1, -1, 3] hb' hc' (by omega) (by decide)) ?_
        generalize numM c (p + 1 + 1) [1, -1, 3] = a
        simp (config := { maxSteps := 10000000, implicitDefEqProofs := false }) only [go_sem, ↓reduceIte, Nat.reduceAdd, Nat.reduceMul, Nat.reduceEqDiff, Nat.reduceSub, Nat.reduceLT, reduceCtorEq, Nat.reduceLeDiff, Nat.reduceBEq, mwp_draw]
        refine callK_det (num_is _ c (p + 1 + 1 + 1) [0, 16, 1] hb' hc' (by omega) (by decide)) ?_
        generalize numM c (p + 1 + 1 + 1) [0, 16, 1] = b2
        simp (config := { maxSteps := 10000000, implicitDefEqProofs := false }) only [go_sem, ↓reduceIte, Nat.reduceAdd, Nat.reduceMul, Nat.reduceEqDiff, Nat.reduceSub, Nat.reduceLT, reduceCtorEq, Nat.reduceLeDiff, Nat.reduceBEq, mwp_draw]
        exact ⟨by kernel_rfl, n, es, (a, b2), rfl, w3, w4, by omega⟩
      · refine callK_det (pick_is c (p + 1 + 1) n hb' hc' (by omega) (by omega)) ?_
        generalize pickM c (p + 1 + 1) n = x
        simp (config := { maxSteps := 10000000, implicitDefEqProofs := false }) only [go_sem, ↓reduceIte, Nat.reduceAdd, Nat.reduceMul, Nat.reduceEqDiff, Nat.reduceSub, Nat.reduceLT, reduceCtorEq, Nat.reduceLeDiff, Nat.reduceBEq, mwp_draw]
        refine callK_det (pick_is c (p + 1 + 1 + 1) n hb' hc' (by omega) (by omega)) ?_
        generalize pickM c (p + 1 + 1 + 1) n = y
        simp (config := { maxSteps := 10000000, implicitDefEqProofs := false }) only [go_sem, ↓reduceIte, Nat.reduceAdd, Nat.reduceMul, Nat.reduceEqDiff, Nat.reduceSub, Nat.reduceLT, reduceCtorEq, Nat.reduceLeDiff, Nat.reduceBEq, mwp_draw]
        refine callK_any (l1Wrong_is c (p + 1 + 1 + 1 + 1) _ n es hb' hc' (by omega) (by omega) (by omega)) ?_
        rintro o r ⟨p2, n2, es2, rfl, rfl, v1, v2, v3, v4, v5⟩
        simp (config := { maxSteps := 10000000, implicitDefEqProofs := false }) only [go_sem, ↓reduceIte, Nat.reduceAdd, Nat.reduceMul, Nat.reduceEqDiff, Nat.reduceSub, Nat.reduceLT, reduceCtorEq, Nat.reduceLeDiff, Nat.reduceBEq, mwp_draw]
        refine callK_is (l1Edge_is x y) ?_
        simp (config := { maxSteps := 10000000, implicitDefEqProofs := false }) only [go_sem, ↓reduceIte, Nat.reduceAdd, Nat.reduceMul, Nat.reduceEqDiff, Nat.reduceSub, Nat.reduceLT, reduceCtorEq, Nat.reduceLeDiff, Nat.reduceBEq, mwp_draw]
        exact ⟨n2, es2, edgN x y, rfl, v3, v4, by omega⟩
  · skip
    refine callK_det (pick_is c (p) 16 hb' hc' (by omega) (by omega)) ?_
    generalize pickM c (p) 16 = v2
    simp (config := { maxSteps := 10000000, implicitDefEqProofs := false }) only [go_sem, ↓reduceIte, Nat.reduceAdd, Nat.reduceMul, Nat.reduceEqDiff, Nat.reduceSub, Nat.reduceLT, reduceCtorEq, Nat.reduceLeDiff, Nat.reduceBEq, mwp_draw]
    refine ⟨fun c2 => ?_, fun c2 => ?_⟩
    · refine callK_det (num_is _ c (p + 1) [1, -1, 3] hb' hc' (by omega) (by decide)) ?_
      generalize numM c (p + 1) [1, -1, 3] = a
      simp (config := { maxSteps := 10000000, implicitDefEqProofs := false }) only [go_sem, ↓reduceIte, Nat.reduceAdd, Nat.reduceMul, Nat.reduceEqDiff, Nat.reduceSub, Nat.reduceLT, reduceCtorEq, Nat.reduceLeDiff, Nat.reduceBEq, mwp_draw]
      refine callK_det (num_is _ c (p + 1 + 1) [0, 16, 1] hb' hc' (by omega) (by decide)) ?_
      generalize numM c (p + 1 + 1) [0, 16, 1] = b2
      simp (config := { maxSteps := 10000000, implicitDefEqProofs := false }) only [go_sem, ↓reduceIte, Nat.reduceAdd, Nat.reduceMul, Nat.reduceEqDiff, Nat.reduceSub, Nat.reduceLT, reduceCtorEq, Nat.reduceLeDiff, Nat.reduceBEq, mwp_draw]
      exact ⟨by kernel_rfl, n, es, (a, b2), rfl, w3, w4, by omega⟩
    · refine callK_det (pick_is c (p + 1) n hb' hc' (by omega) (by omega)) ?_
      generalize pickM c (p + 1) n = x
      simp (config := { maxSteps := 10000000, implicitDefEqProofs := false }) only [go_sem, ↓reduceIte, Nat.reduceAdd, Nat.reduceMul, Nat.reduceEqDiff, Nat.reduceSub, Nat.reduceLT, reduceCtorEq, Nat.reduceLeDiff, Nat.reduceBEq, mwp_draw]
      refine callK_det (pick_is c (p + 1 + 1) n hb' hc' (by omega) (by omega)) ?_
      generalize pickM c (p + 1 + 1) n = y
      simp (config := { maxSteps := 10000000, implicitDefEqProofs := false }) only [go_sem, ↓reduceIte, Nat.reduceAdd, Nat.reduceMul, Nat.reduceEqDiff, Nat.reduceSub, Nat.reduceLT, reduceCtorEq, Nat.reduceLeDiff, Nat.reduceBEq, mwp_draw]
      refine callK_any (l1Wrong_is c (p + 1 + 1 + 1) _ n es hb' hc' (by omega) (by omega) (by omega)) ?_
      rintro o r ⟨p2, n2, es2, rfl, rfl, v1, v2, v3, v4, v5⟩
      simp (config := { maxSteps := 10000000, implicitDefEqProofs := false }) only [go_sem, ↓reduceIte, Nat.reduceAdd, Nat.reduceMul, Nat.reduceEqDiff, Nat.reduceSub, Nat.reduceLT, reduceCtorEq, Nat.reduceLeDiff, Nat.reduceBEq, mwp_draw]
      refine callK_is (l1Edge_is x y) ?_
      simp (config := { maxSteps := 10000000, implicitDefEqProofs := false }) only [go_sem, ↓reduceIte, Nat.reduceAdd, Nat.reduceMul, Nat.reduceEqDiff, Nat.reduceSub, Nat.reduceLT, reduceCtorEq, Nat.reduceLeDiff, Nat.reduceBEq, mwp_draw]
      exact ⟨n2, es2, edgN x y, rfl, v3, v4, by omega⟩
theorem DrawTurnEdge_is (t : Bool) (b : List Int) (hb : Byt b) : MCall prog fid_spec_DrawTurnEdge [.s t 1 (encB b)]
    (fun o r => o = [.u] ∧ ∃ n es, ∃ e : E, r = .tup [.agg [.i .i64 n, .ow true 2 (encE es)], .agg [.i .i64 e.1, .i .i64 e.2]] ∧ -1 ≤ n ∧ n ≤ 17 ∧ es.length ≤ 200) := by
  refine MCall.run mixed get_spec_DrawTurnEdge ok_spec_DrawTurnEdge (Nat.le_of_ble_eq_true rfl) (by decide) ?_
  unfold mc_spec_DrawTurnEdge
  simp (config := { maxSteps := 10000000, implicitDefEqProofs := false }) only [go_sem, ↓reduceIte, Nat.reduceAdd, Nat.reduceMul, Nat.reduceEqDiff, Nat.reduceSub, Nat.reduceLT, reduceCtorEq, Nat.reduceLeDiff, Nat.reduceBEq, mwp_draw]
  refine callK_any (l1Case_is _ b hb) ?_
  rintro o r ⟨rfl, n, es, e, rfl, w3, w4, w5⟩
  simp (config := { maxSteps := 10000000, implicitDefEqProofs := false }) only [go_sem, ↓reduceIte, Nat.reduceAdd, Nat.reduceMul, Nat.reduceEqDiff, Nat.reduceSub, Nat.reduceLT, reduceCtorEq, Nat.reduceLeDiff, Nat.reduceBEq, mwp_draw]
  exact ⟨n, es, e, rfl, w3, w4, w5⟩
theorem FnTurnEdge_is (t : Bool) (b : List Int) (hb : Byt b) : Is prog fid_laws_FnTurnEdge [.s t 1 (encB b)] (.b true) := by
  refine MCall.run mixed get_laws_FnTurnEdge ok_laws_FnTurnEdge (Nat.le_of_ble_eq_true rfl) (by decide) ?_
  unfold mc_laws_FnTurnEdge
  simp (config := { maxSteps := 10000000, implicitDefEqProofs := false }) only [go_sem, ↓reduceIte, Nat.reduceAdd, Nat.reduceMul, Nat.reduceEqDiff, Nat.reduceSub, Nat.reduceLT, reduceCtorEq, Nat.reduceLeDiff, Nat.reduceBEq, mwp_draw]
  refine fun hlen => callK_any (DrawTurnEdge_is _ b hb) ?_
  rintro o r ⟨rfl, n, es, e, rfl, w3, w4, w5⟩
  simp (config := { maxSteps := 10000000, implicitDefEqProofs := false }) only [go_sem, ↓reduceIte, Nat.reduceAdd, Nat.reduceMul, Nat.reduceEqDiff, Nat.reduceSub, Nat.reduceLT, reduceCtorEq, Nat.reduceLeDiff, Nat.reduceBEq, mwp_draw]
  have hlt := turnE_len (n := n) (es := es) (e := e)
  refine callK_is (TurnEdge_is _ n es e (by omega)) ?_
  simp (config := { maxSteps := 10000000, implicitDefEqProofs := false }) only [go_sem, ↓reduceIte, Nat.reduceAdd, Nat.reduceMul, Nat.reduceEqDiff, Nat.reduceSub, Nat.reduceLT, reduceCtorEq, Nat.reduceLeDiff, Nat.reduceBEq, mwp_draw]
  refine callK_is (TurnEdgeS_is _ n es e (by omega)) ?_
  simp (config := { maxSteps := 10000000, implicitDefEqProofs := false }) only [go_sem, ↓reduceIte, Nat.reduceAdd, Nat.reduceMul, Nat.reduceEqDiff, Nat.reduceSub, Nat.reduceLT, reduceCtorEq, Nat.reduceLeDiff, Nat.reduceBEq, mwp_draw]
  refine callK_is (GraphSame_is _ _ (turnN n es e) (turnE n es e) _ _ (by omega)) ?_
  cases ho : turnOK n es e
  · simp (config := { maxSteps := 10000000, implicitDefEqProofs := false }) only [go_sem, ↓reduceIte, Nat.reduceAdd, Nat.reduceMul, Nat.reduceEqDiff, Nat.reduceSub, Nat.reduceLT, reduceCtorEq, Nat.reduceLeDiff, Nat.reduceBEq, mwp_draw]
    refine callK_is (GraphSame_is _ _ (turnN n es e) (turnE n es e) _ _ (by omega)) ?_
    simp (config := { maxSteps := 10000000, implicitDefEqProofs := false }) only [go_sem, ↓reduceIte, Nat.reduceAdd, Nat.reduceMul, Nat.reduceEqDiff, Nat.reduceSub, Nat.reduceLT, reduceCtorEq, Nat.reduceLeDiff, Nat.reduceBEq, mwp_draw]
  · obtain ⟨a1, a2, a3, a4, a5, a6⟩ := turn_back ho
    rw [a1]
    simp (config := { maxSteps := 10000000, implicitDefEqProofs := false }) only [go_sem, ↓reduceIte, Nat.reduceAdd, Nat.reduceMul, Nat.reduceEqDiff, Nat.reduceSub, Nat.reduceLT, reduceCtorEq, Nat.reduceLeDiff, Nat.reduceBEq, mwp_draw]
    refine callK_is (TurnEdge_is _ n (turnE n es e) e (by omega)) ?_
    have b1 : turnN n (turnE n es e) e = n := by unfold turnN; rw [a2]; rfl
    rw [b1, a2, a3]
    simp (config := { maxSteps := 10000000, implicitDefEqProofs := false }) only [go_sem, ↓reduceIte, Nat.reduceAdd, Nat.reduceMul, Nat.reduceEqDiff, Nat.reduceSub, Nat.reduceLT, reduceCtorEq, Nat.reduceLeDiff, Nat.reduceBEq, mwp_draw]
    refine callK_is (GraphSame_is _ _ n es n es (by omega)) ?_
    simp (config := { maxSteps := 10000000, implicitDefEqProofs := false }) only [go_sem, ↓reduceIte, Nat.reduceAdd, Nat.reduceMul, Nat.reduceEqDiff, Nat.reduceSub, Nat.reduceLT, reduceCtorEq, Nat.reduceLeDiff, Nat.reduceBEq, mwp_draw]
    refine callK_is (HasEdge_is _ n (turnE n es e) e (by omega)) ?_
    by_cases m : e ∈ es
    · have h1 : (gvB n (turnE n es e) && decide (e ∈ turnE n es e)) = false := by simp [a6, m]
      have h2 : (gvB n es && decide (e ∈ es)) = true := by simp [a4, m]
      rw [h1]
      simp (config := { maxSteps := 10000000, implicitDefEqProofs := false }) only [go_sem, ↓reduceIte, Nat.reduceAdd, Nat.reduceMul, Nat.reduceEqDiff, Nat.reduceSub, Nat.reduceLT, reduceCtorEq, Nat.reduceLeDiff, Nat.reduceBEq, mwp_draw]
      refine callK_is (HasEdge_is _ n es e (by omega)) ?_
      rw [h2]
      simp (config := { maxSteps := 10000000, implicitDefEqProofs := false }) only [go_sem, ↓reduceIte, Nat.reduceAdd, Nat.reduceMul, Nat.reduceEqDiff, Nat.reduceSub, Nat.reduceLT, reduceCtorEq, Nat.reduceLeDiff, Nat.reduceBEq, mwp_draw]
      first | exact ⟨by kernel_rfl, rfl⟩ | exact ⟨by kernel_rfl, mvb (by decide)⟩ | (show _ = true; kernel_rfl)
    · have h1 : (gvB n (turnE n es e) && decide (e ∈ turnE n es e)) = true := by simp [a5, a6, m]
      have h2 : (gvB n es && decide (e ∈ es)) = false := by simp [m]
      rw [h1]
      simp (config := { maxSteps := 10000000, implicitDefEqProofs := false }) only [go_sem, ↓reduceIte, Nat.reduceAdd, Nat.reduceMul, Nat.reduceEqDiff, Nat.reduceSub, Nat.reduceLT, reduceCtorEq, Nat.reduceLeDiff, Nat.reduceBEq, mwp_draw]
      refine callK_is (HasEdge_is _ n es e (by omega)) ?_
      rw [h2]
      simp (config := { maxSteps := 10000000, implicitDefEqProofs := false }) only [go_sem, ↓reduceIte, Nat.reduceAdd, Nat.reduceMul, Nat.reduceEqDiff, Nat.reduceSub, Nat.reduceLT, reduceCtorEq, Nat.reduceLeDiff, Nat.reduceBEq, mwp_draw]
      first | exact ⟨by kernel_rfl, rfl⟩ | exact ⟨by kernel_rfl, mvb (by decide)⟩ | (show _ = true; kernel_rfl)
theorem rows_bytes {rows : List (List D)} (h : ∀ r ∈ rows, rowOK [.i .u8] r) : ∃ b, rows = encB b ∧ Byt b := by
  obtain ⟨l, h1, h2⟩ := rows_int h
  exact ⟨l, h1, fun n hn => wf_u8 (h2 n hn)⟩
theorem FnTurnEdge_row (m : List (List D)) (h : ∀ r ∈ m, rowOK [.i .u8] r) (_ : m.length ≤ maxLen) : Is prog fid_laws_FnTurnEdge [.s false 1 m] (.b true) := by
  obtain ⟨b, rfl, hb⟩ := rows_bytes h
  exact FnTurnEdge_is _ b hb
end Go.Fw
