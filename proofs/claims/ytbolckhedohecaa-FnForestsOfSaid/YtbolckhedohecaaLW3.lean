/-
  Events: draws, and the laws on parts and on replaying.
-/
import Derived.Test.YtbolckhedohecaaCtW
import Derived.Test.YtbolckhedohecaaCtS2
import Derived.Test.YtbolckhedohecaaCtRow
namespace Go.Fw
set_option linter.unusedSimpArgs false
set_option linter.unusedVariables false
set_option maxRecDepth 100000
set_option maxHeartbeats 4000000
open Go.Proofs.Try (prog)
open Go.Pl

theorem dyEdges_is (t t' : Bool) (l m : List E) (hl : l.length ≤ 2000000) : Is prog fid_laws_dyEdges [.s t 2 (encE l), .s t' 2 (encE m)] (.b (decide (l = m))) := by
  refine MCall.run mixed get_laws_dyEdges ok_laws_dyEdges (Nat.le_of_ble_eq_true rfl) (by decide) ?_
  unfold mc_laws_dyEdges
  simp (config := { maxSteps := 10000000, implicitDefEqProofs := false }) only [go_sem, ↓reduceIte, Nat.reduceAdd, Nat.reduceMul, Nat.reduceEqDiff, Nat.reduceSub, Nat.reduceLT, reduceCtorEq, Nat.reduceLeDiff, Nat.reduceBEq, mwp_draw]
  refine ⟨fun h => mvb (eq_len h).symm, fun h => ?_⟩
  refine mwp_loopk (X := Nat) (fun i => ⟨[(0, .s t 2 (encE l)), (1, .s t' 2 (encE m)), (5, .i .i64 i)], [], 0⟩) (fun i => i ≤ l.length ∧ l.take i = m.take i) (fun i => l.length - i) 0 rfl (by simp) ?_
  rintro i ⟨h1, h2⟩ K kN kE kR
  simp (config := { maxSteps := 10000000, implicitDefEqProofs := false }) only [go_sem, ↓reduceIte, Nat.reduceAdd, Nat.reduceMul, Nat.reduceEqDiff, Nat.reduceSub, Nat.reduceLT, reduceCtorEq, Nat.reduceLeDiff, Nat.reduceBEq, mwp_draw]
  refine ⟨fun h3 => ⟨by omega, h3, fun x hx => ⟨by omega, by omega, fun y hy => ⟨by kernel_rfl, fun h4 => kR _ ?_, fun h4 => ⟨fits64 (by omega) (by omega), kN _ (i + 1) (by rfl) ⟨by omega, eq_step h2 hx hy (by simpa using h4)⟩ (by omega)⟩⟩⟩⟩, fun h3 => kE _ _ ?_⟩
  · simp (config := { maxSteps := 10000000, implicitDefEqProofs := false }) only [go_sem, ↓reduceIte, Nat.reduceAdd, Nat.reduceMul, Nat.reduceEqDiff, Nat.reduceSub, Nat.reduceLT, reduceCtorEq, Nat.reduceLeDiff, Nat.reduceBEq, mwp_draw]
    exact mvb (eq_ne hx hy (by simpa using h4)).symm
  · simp (config := { maxSteps := 10000000, implicitDefEqProofs := false }) only [go_sem, ↓reduceIte, Nat.reduceAdd, Nat.reduceMul, Nat.reduceEqDiff, Nat.reduceSub, Nat.reduceLT, reduceCtorEq, Nat.reduceLeDiff, Nat.reduceBEq, mwp_draw]
    obtain rfl : i = l.length := by omega
    exact mvb (eq_end (by omega) h2).symm
theorem ev_dec {x y : V3} : (decide (x.1 = y.1) && (decide (x.2.1.1 = y.2.1.1) && (decide (x.2.1.2 = y.2.1.2) && (x.2.2 == y.2.2)))) = decide (x = y) := by
  rw [Bool.eq_iff_iff]; simp [Prod.ext_iff, and_assoc]
theorem dyEvents_is (t t' : Bool) (l m : List V3) (hl : l.length ≤ 2000000) : Is prog fid_laws_dyEvents [.s t 4 (encV l), .s t' 4 (encV m)] (.b (decide (l = m))) := by
  refine MCall.run mixed get_laws_dyEvents ok_laws_dyEvents (Nat.le_of_ble_eq_true rfl) (by decide) ?_
  unfold mc_laws_dyEvents
  simp (config := { maxSteps := 10000000, implicitDefEqProofs := false }) only [go_sem, ↓reduceIte, Nat.reduceAdd, Nat.reduceMul, Nat.reduceEqDiff, Nat.reduceSub, Nat.reduceLT, reduceCtorEq, Nat.reduceLeDiff, Nat.reduceBEq, mwp_draw]
  refine ⟨fun h => mvb (eq_len h).symm, fun h => ?_⟩
  refine mwp_loopk (X := Nat) (fun i => ⟨[(0, .s t 4 (encV l)), (1, .s t' 4 (encV m)), (5, .i .i64 i)], [], 0⟩) (fun i => i ≤ l.length ∧ l.take i = m.take i) (fun i => l.length - i) 0 rfl (by simp) ?_
  rintro i ⟨h1, h2⟩ K kN kE kR
  simp (config := { maxSteps := 10000000, implicitDefEqProofs := false }) only [go_sem, ↓reduceIte, Nat.reduceAdd, Nat.reduceMul, Nat.reduceEqDiff, Nat.reduceSub, Nat.reduceLT, reduceCtorEq, Nat.reduceLeDiff, Nat.reduceBEq, mwp_draw, ev_dec]
  refine ⟨fun h3 => ⟨by omega, h3, fun x hx => ⟨by omega, by omega, fun y hy => ⟨by kernel_rfl, ?_⟩⟩⟩, fun h3 => kE _ _ ?_⟩
  · refine ⟨fun h4 => kR _ ?_, fun h4 => ⟨fits64 (by omega) (by omega), kN _ (i + 1) (by rfl) ⟨by omega, eq_step h2 hx hy h4⟩ (by omega)⟩⟩
    simp (config := { maxSteps := 10000000, implicitDefEqProofs := false }) only [go_sem, ↓reduceIte, Nat.reduceAdd, Nat.reduceMul, Nat.reduceEqDiff, Nat.reduceSub, Nat.reduceLT, reduceCtorEq, Nat.reduceLeDiff, Nat.reduceBEq, mwp_draw]
    exact mvb (eq_ne hx hy h4).symm
  · simp (config := { maxSteps := 10000000, implicitDefEqProofs := false }) only [go_sem, ↓reduceIte, Nat.reduceAdd, Nat.reduceMul, Nat.reduceEqDiff, Nat.reduceSub, Nat.reduceLT, reduceCtorEq, Nat.reduceLeDiff, Nat.reduceBEq, mwp_draw]
    obtain rfl : i = l.length := by omega
    exact mvb (eq_end (by omega) h2).symm
theorem DrawReplayEvents_is (t : Bool) (b : List Int) (hb : Byt b) : MCall prog fid_spec_DrawReplayEvents [.s t 1 (encB b)]
    (fun o r => o = [.u] ∧ ∃ es vs, r = .tup [.ow true 2 (encE es), .ow true 4 (encV vs)] ∧ es.length ≤ 1000 ∧ vs.length ≤ 5000 ∧ (replayB es = true → small es vs)) := by
  refine MCall.run mixed get_spec_DrawReplayEvents ok_spec_DrawReplayEvents (Nat.le_of_ble_eq_true rfl) (by decide) ?_
  unfold mc_spec_DrawReplayEvents
  have hb' := byt_take2 hb 2000
  have hc' : (b.take 2000).length ≤ 2000 := by simp; omega
  simp (config := { maxSteps := 10000000, implicitDefEqProofs := false }) only [go_sem, ↓reduceIte, Nat.reduceAdd, Nat.reduceMul, Nat.reduceEqDiff, Nat.reduceSub, Nat.reduceLT, reduceCtorEq, Nat.reduceLeDiff, Nat.reduceBEq, mwp_draw]
  refine callK_any (l11Case_is _ b hb) ?_
  rintro o r ⟨rfl, n, es, ts, rfl, w3, w4, w5, w6⟩
  simp (config := { maxSteps := 10000000, implicitDefEqProofs := false }) only [go_sem, ↓reduceIte, Nat.reduceAdd, Nat.reduceMul, Nat.reduceEqDiff, Nat.reduceSub, Nat.reduceLT, reduceCtorEq, Nat.reduceLeDiff, Nat.reduceBEq, mwp_draw]
  refine callK_is (l14Open_is b) ?_
  simp (config := { maxSteps := 10000000, implicitDefEqProofs := false }) only [go_sem, ↓reduceIte, Nat.reduceAdd, Nat.reduceMul, Nat.reduceEqDiff, Nat.reduceSub, Nat.reduceLT, reduceCtorEq, Nat.reduceLeDiff, Nat.reduceBEq, mwp_draw]
  generalize b.take 2000 = c at hb' hc'
  refine callK_is (EventsOfS_is _ _ n es ts (by omega) (by omega)) ?_
  have le := evV_len (n := n) (es := es) (ts := ts)
  cases ho : runB n es ts
  · simp (config := { maxSteps := 10000000, implicitDefEqProofs := false }) only [go_sem, ↓reduceIte, Nat.reduceAdd, Nat.reduceMul, Nat.reduceEqDiff, Nat.reduceSub, Nat.reduceLT, reduceCtorEq, Nat.reduceLeDiff, Nat.reduceBEq, mwp_draw]
    refine callK_det (pick_is c 0 2 hb' hc' (by omega) (by omega)) ?_
    generalize pickM c 0 2 = v
    simp (config := { maxSteps := 10000000, implicitDefEqProofs := false }) only [go_sem, ↓reduceIte, Nat.reduceAdd, Nat.reduceMul, Nat.reduceEqDiff, Nat.reduceSub, Nat.reduceLT, reduceCtorEq, Nat.reduceLeDiff, Nat.reduceBEq, mwp_draw]
    refine ⟨[(0, 1)], [(0, (0, 1), decide (v = 0))], rfl, by simp, by simp, fun _ => ?_⟩
    have a := rpS_len (es := [((0 : Int), (1 : Int))]) (v := (0, (0, 1), decide (v = 0)))
    refine ⟨by simp, ?_⟩
    simp only [small]
    first | (simp at a ⊢; omega) | (simp at a; omega)
  · obtain ⟨h1, h2, h3, h4⟩ := runB_get ho
    have hg := gvB_iff.1 h1
    have hs := rp_evs (i := 0) brL_ok h1 h3
    have hb1 := brL_ok es h1
    rw [← evV_yes ho] at hs
    have key : ∀ {B : List E}, B = brL n es → (replayB B = true → small B (evV n es ts)) := fun e _ => by subst e; exact hs.2
    simp (config := { maxSteps := 10000000, implicitDefEqProofs := false }) only [go_sem, ↓reduceIte, Nat.reduceAdd, Nat.reduceMul, Nat.reduceEqDiff, Nat.reduceSub, Nat.reduceLT, reduceCtorEq, Nat.reduceLeDiff, Nat.reduceBEq, mwp_draw]
    refine callK_is (l4Bridges_is _ n es (GE_of hg)) ?_
    generalize hB : brL n es = B at hb1 key
    simp (config := { maxSteps := 10000000, implicitDefEqProofs := false }) only [go_sem, ↓reduceIte, Nat.reduceAdd, Nat.reduceMul, Nat.reduceEqDiff, Nat.reduceSub, Nat.reduceLT, reduceCtorEq, Nat.reduceLeDiff, Nat.reduceBEq, mwp_draw]
    refine callK_det (pick_is c 0 12 hb' hc' (by omega) (by omega)) ?_
    generalize pickM c 0 12 = v
    by_cases v0 : v = 0
    · have b0 : (v = 0) = True := eq_true v0
      cases B with
      | nil =>
        have b1 : ((0 : Int) < 0) = False := by simp
        simp (config := { maxSteps := 10000000, implicitDefEqProofs := false }) only [go_sem, ↓reduceIte, Nat.reduceAdd, Nat.reduceMul, Nat.reduceEqDiff, Nat.reduceSub, Nat.reduceLT, reduceCtorEq, Nat.reduceLeDiff, Nat.reduceBEq, mwp_draw, b0, b1]
        refine ⟨[], evV n es ts, ?_, ?_, ?_, ?_⟩
        all_goals first | exact key rfl | omega | rfl | simp [encE]
      | cons x r =>
        have b1 : ((0 : Int) < ((x :: r).length : Int)) = True := eq_true (by rw [List.length_cons]; omega)
        simp (config := { maxSteps := 10000000, implicitDefEqProofs := false }) only [go_sem, ↓reduceIte, Nat.reduceAdd, Nat.reduceMul, Nat.reduceEqDiff, Nat.reduceSub, Nat.reduceLT, reduceCtorEq, Nat.reduceLeDiff, Nat.reduceBEq, mwp_draw, b0, b1]
        have hb2 : r.length + 1 ≤ 40 := by simpa using hb1.2
        refine ⟨fun _ => ?_, fun h => absurd h (by omega)⟩
        refine ⟨by omega, by omega, by omega, by omega, (x :: r) ++ [x], evV n es ts, by simp, by simp; omega, by omega, fun hrep => ?_⟩
        simp only [replayB, srtB, Bool.and_eq_true, decide_eq_true_eq] at hrep
        have hp := hrep.2
        rw [List.pairwise_append] at hp
        exact absurd (hp.2.2 x (by simp) x (by simp)) (eLt_irrefl _)
    · have b0 : (v = 0) = False := eq_false v0
      simp (config := { maxSteps := 10000000, implicitDefEqProofs := false }) only [go_sem, ↓reduceIte, Nat.reduceAdd, Nat.reduceMul, Nat.reduceEqDiff, Nat.reduceSub, Nat.reduceLT, reduceCtorEq, Nat.reduceLeDiff, Nat.reduceBEq, mwp_draw, b0]
      exact ⟨B, evV n es ts, rfl, by omega, by omega, key rfl⟩
theorem rp_part {es : List E} {vs : List V3} (h : (replay es vs).2 = true) (hs : replayB es = true → small es vs) (k : Nat) :
    (replay es (vs.take k)).2 = true ∧ (replay (replay es (vs.take k)).1 (vs.drop k)) = replay es vs ∧ (replay es (vs.take k)).1.length ≤ 40 := by
  have hr : replayB es = true := by
    cases q : replayB es
    · simp [replay, q] at h
    · rfl
  have hr2 := hr
  simp only [replayB, srtB, Bool.and_eq_true, decide_eq_true_eq] at hr2
  have e0 : ∀ ws, replay es ws = rpE es ws := fun ws => by simp [replay, hr]
  rw [e0] at h ⊢
  rw [e0]
  have ha := rpE_app (a := vs.take k) (b := vs.drop k) (es := es)
  rw [List.take_append_drop] at ha
  cases q : (rpE es (vs.take k)).2
  · rw [ha, q] at h; simp at h
  · rw [q, if_pos rfl] at ha
    have sm := hs hr
    rw [← List.take_append_drop k vs] at sm
    have l40 := small_now (small_part sm q)
    refine ⟨rfl, ?_, l40⟩
    rw [ha, replay_yes l40 (rpE_ok hr2.2 q)]
theorem tdiv_half (n : Nat) : 0 ≤ (n : Int).tdiv 2 ∧ (n : Int).tdiv 2 ≤ n := by rw [Int.tdiv_eq_ediv_of_nonneg (by omega)]; omega
theorem FnReplayParts_is (t : Bool) (b : List Int) (hb : Byt b) : Is prog fid_laws_FnReplayParts [.s t 1 (encB b)] (.b true) := by
  refine MCall.run mixed get_laws_FnReplayParts ok_laws_FnReplayParts (Nat.le_of_ble_eq_true rfl) (by decide) ?_
  unfold mc_laws_FnReplayParts
  simp (config := { maxSteps := 10000000, implicitDefEqProofs := false }) only [go_sem, ↓reduceIte, Nat.reduceAdd, Nat.reduceMul, Nat.reduceEqDiff, Nat.reduceSub, Nat.reduceLT, reduceCtorEq, Nat.reduceLeDiff, Nat.reduceBEq, mwp_draw]
  refine fun hlen => callK_any (DrawReplayEvents_is _ b hb) ?_
  rintro o r ⟨rfl, es, vs, rfl, w1, w2, w3⟩
  simp (config := { maxSteps := 10000000, implicitDefEqProofs := false }) only [go_sem, ↓reduceIte, Nat.reduceAdd, Nat.reduceMul, Nat.reduceEqDiff, Nat.reduceSub, Nat.reduceLT, reduceCtorEq, Nat.reduceLeDiff, Nat.reduceBEq, mwp_draw]
  have hlt := replay_len (es := es) (vs := vs)
  refine callK_is (ReplayEvents_is _ _ es vs (by omega) (by omega)) ?_
  simp (config := { maxSteps := 10000000, implicitDefEqProofs := false }) only [go_sem, ↓reduceIte, Nat.reduceAdd, Nat.reduceMul, Nat.reduceEqDiff, Nat.reduceSub, Nat.reduceLT, reduceCtorEq, Nat.reduceLeDiff, Nat.reduceBEq, mwp_draw]
  refine callK_is (ReplayEventsS_is _ _ es vs (by omega) (by omega)) ?_
  simp (config := { maxSteps := 10000000, implicitDefEqProofs := false }) only [go_sem, ↓reduceIte, Nat.reduceAdd, Nat.reduceMul, Nat.reduceEqDiff, Nat.reduceSub, Nat.reduceLT, reduceCtorEq, Nat.reduceLeDiff, Nat.reduceBEq, mwp_draw]
  refine callK_is (dyEdges_is _ _ (replay es vs).1 (replay es vs).1 (by omega)) ?_
  cases ho : (replay es vs).2
  · simp (config := { maxSteps := 10000000, implicitDefEqProofs := false }) only [go_sem, ↓reduceIte, Nat.reduceAdd, Nat.reduceMul, Nat.reduceEqDiff, Nat.reduceSub, Nat.reduceLT, reduceCtorEq, Nat.reduceLeDiff, Nat.reduceBEq, mwp_draw]
    refine callK_is (dyEdges_is _ _ (replay es vs).1 (replay es vs).1 (by omega)) ?_
    simp (config := { maxSteps := 10000000, implicitDefEqProofs := false }) only [go_sem, ↓reduceIte, Nat.reduceAdd, Nat.reduceMul, Nat.reduceEqDiff, Nat.reduceSub, Nat.reduceLT, reduceCtorEq, Nat.reduceLeDiff, Nat.reduceBEq, mwp_draw]
  · have hh := tdiv_half vs.length
    obtain ⟨k, hk⟩ : ∃ k : Nat, (vs.length : Int).tdiv 2 = (k : Int) := ⟨_, (Int.toNat_of_nonneg hh.1).symm⟩
    rw [hk] at hh
    have hk2 : (k ≤ vs.length) = True := eq_true (by omega)
    obtain ⟨p1, p2, p3⟩ := rp_part ho w3 k
    have hkl : (vs.take k).length = k := by simp; omega
    simp (config := { maxSteps := 10000000, implicitDefEqProofs := false }) only [go_sem, ↓reduceIte, Nat.reduceAdd, Nat.reduceMul, Nat.reduceEqDiff, Nat.reduceSub, Nat.reduceLT, reduceCtorEq, Nat.reduceLeDiff, Nat.reduceBEq, mwp_draw, hk, hk2]
    repeat (refine ⟨by first | omega | decide | exact fits64 (by omega) (by omega) | kernel_rfl | (intros; omega), ?_⟩)
    refine callK_is (ReplayEvents_is _ _ es (vs.take k) (by omega) (by omega)) ?_
    rw [p1]
    have hk3 : (k + (vs.length - k) ≤ vs.length) = True := eq_true (by omega)
    have hk4 : (vs.drop k).take (vs.length - k) = vs.drop k := List.take_of_length_le (by simp)
    simp (config := { maxSteps := 10000000, implicitDefEqProofs := false }) only [go_sem, ↓reduceIte, Nat.reduceAdd, Nat.reduceMul, Nat.reduceEqDiff, Nat.reduceSub, Nat.reduceLT, reduceCtorEq, Nat.reduceLeDiff, Nat.reduceBEq, mwp_draw, hk, hk2, hk3, hk4]
    repeat (refine ⟨by first | omega | decide | exact fits64 (by omega) (by omega) | kernel_rfl | (intros; omega), ?_⟩)
    refine callK_is (ReplayEvents_is _ _ (replay es (vs.take k)).1 (vs.drop k) (by omega) (by simp; omega)) ?_
    rw [p2, ho]
    simp (config := { maxSteps := 10000000, implicitDefEqProofs := false }) only [go_sem, ↓reduceIte, Nat.reduceAdd, Nat.reduceMul, Nat.reduceEqDiff, Nat.reduceSub, Nat.reduceLT, reduceCtorEq, Nat.reduceLeDiff, Nat.reduceBEq, mwp_draw, hk, hk2]
    repeat (refine ⟨by first | omega | decide | exact fits64 (by omega) (by omega) | kernel_rfl | (intros; omega), ?_⟩)
    refine callK_is (dyEdges_is _ _ (replay es vs).1 (replay es vs).1 (by omega)) ?_
    simp (config := { maxSteps := 10000000, implicitDefEqProofs := false }) only [go_sem, ↓reduceIte, Nat.reduceAdd, Nat.reduceMul, Nat.reduceEqDiff, Nat.reduceSub, Nat.reduceLT, reduceCtorEq, Nat.reduceLeDiff, Nat.reduceBEq, mwp_draw]
theorem FnReplayParts_row (m : List (List D)) (h : ∀ r ∈ m, rowOK [.i .u8] r) (_ : m.length ≤ maxLen) : Is prog fid_laws_FnReplayParts [.s false 1 m] (.b true) := by
  obtain ⟨b, rfl, hb⟩ := rows_bytes h
  exact FnReplayParts_is _ b hb
end Go.Fw
