/-
  Edges that are taken out at a place; events, replayed.
-/
import Derived.Test.YtbolckhedohecaaCtG5
import Derived.Test.YtbolckhedohecaaPlE
namespace Go.Fw
set_option linter.unusedSimpArgs false
set_option linter.unusedVariables false
set_option maxRecDepth 100000
set_option maxHeartbeats 4000000
open Go.Proofs.Try (prog)
open Go.Pl

theorem del_take {α : Type} {l z : List α} {i j : Nat} (hi : i ≤ j) (hj : j ≤ l.length) : ((overL (overL l i (l.drop j)) (i + (l.length - j)) z).take (i + (l.length - j))) = l.take i ++ l.drop j := by
  have hl : (overL l i (l.drop j)).length = l.length := by rw [overL_length (by omega)]; simp; omega
  have h1 : (l.take i ++ l.drop j).length = i + (l.length - j) := by simp; omega
  unfold overL at hl ⊢
  rw [List.append_assoc, List.take_append_of_le_length (by rw [List.length_take, hl]; omega), List.take_take, Nat.min_self, List.append_assoc, ← List.append_assoc, ← h1, List.take_left']
  rfl
theorem DeleteE_is (l : List E) (i : Nat) (t : Bool) (hi : i < l.length) (hl : l.length ≤ 1048576) :
    Is prog fid_slices_Delete_impl_Edge_impl_Edge [.ow t 2 (encE l), .i .i64 i, .i .i64 ((i : Int) + 1)] (.ow true 2 (encE (l.take i ++ l.drop (i + 1)))) := by
  refine MCall.run mixed get_slices_Delete_impl_Edge_impl_Edge ok_slices_Delete_impl_Edge_impl_Edge (Nat.le_of_ble_eq_true rfl) (by decide) ?_
  unfold mc_slices_Delete_impl_Edge_impl_Edge
  have e1 : ((i : Int) + 1).toNat = i + 1 := by omega
  have e2 : ((i : Int) = (i : Int) + 1) = False := eq_false (by omega)
  have e3 : (i + 1 + (l.length - (i + 1)) ≤ l.length) = True := eq_true (by omega)
  have e4 : (l.drop (i + 1)).take (l.length - (i + 1)) = l.drop (i + 1) := List.take_of_length_le (by simp)
  have e5 : (encE (l.drop (i + 1))).length = l.length - (i + 1) := by simp [encE]
  have e6 : i + (l.length - (i + 1)) ≤ l.length := by omega
  simp (config := { maxSteps := 10000000, implicitDefEqProofs := false }) only [go_sem, ↓reduceIte, Nat.reduceAdd, Nat.reduceMul, Nat.reduceEqDiff, Nat.reduceSub, Nat.reduceLT, reduceCtorEq, Nat.reduceLeDiff, Nat.reduceBEq, mwp_draw, e1, e2, e3, e4, e5, overR_encE]
  have e7 : (overL l i (l.drop (i + 1))).length = l.length := by rw [overL_length (by omega)]; simp; omega
  repeat (refine ⟨by first | omega | decide | exact fits64 (by omega) (by omega) | kernel_rfl | (intros; omega), ?_⟩)
  refine ⟨by rw [overL_length (by rw [e7]; omega), e7]; omega, ?_⟩
  rw [del_take (by omega) (by omega)]

theorem srt_take {es : List E} {i : Nat} {d e : E} (h : (es.take (i + 1)).Pairwise eLt) (hd : es[i]? = some d) (he : es[i + 1]? = some e) (hlt : eLt d e) : (es.take (i + 2)).Pairwise eLt := by
  rw [take_snoc he, List.pairwise_append]
  refine ⟨h, by simp, fun x hx y hy => ?_⟩
  simp at hy; subst hy
  rw [take_snoc hd, List.pairwise_append] at h
  rw [take_snoc hd, List.mem_append] at hx
  rcases hx with hx | hx
  · exact eLt_trans (h.2.2 x hx _ (by simp)) hlt
  · simp at hx; subst hx; exact hlt
theorem srt_bad {es : List E} {i : Nat} {d e : E} (hd : es[i]? = some d) (he : es[i + 1]? = some e) (hlt : ¬ eLt d e) : srtB es = false := by
  refine decide_eq_false fun h => hlt ?_
  obtain ⟨hi, rfl⟩ := List.getElem?_eq_some_iff.1 hd
  obtain ⟨hj, rfl⟩ := List.getElem?_eq_some_iff.1 he
  exact List.pairwise_iff_getElem.1 h i (i + 1) hi hj (Nat.lt_succ_self _)
theorem replay_no {es : List E} {vs : List V3} (h : ¬ es.length ≤ 40 ∨ srtB es = false) : replay es vs = ([], false) := by
  have : replayB es = false := by
    unfold replayB
    rcases h with h | h
    · simp [h]
    · simp [h]
  simp [replay, this]
theorem replay_yes {es : List E} {vs : List V3} (h : es.length ≤ 40) (h2 : es.Pairwise eLt) : replay es vs = rpE es vs := by
  have : replayB es = true := by simp [replayB, srtB, h, h2]
  simp [replay, this]
theorem rpE_drop {es : List E} {vs : List V3} {i : Nat} {v : V3} (hv : vs[i]? = some v) : rpE es (vs.drop i) = if decide (v.2.1 ∈ es) = v.2.2 then ([], false) else rpE (rpS es v) (vs.drop (i + 1)) := by
  obtain ⟨hi, rfl⟩ := List.getElem?_eq_some_iff.1 hv
  rw [List.drop_eq_getElem_cons hi, rpE]
theorem replay_len2 {es : List E} {vs : List V3} : (replay es vs).1.length ≤ es.length + vs.length := by
  unfold replay
  split
  · exact rpE_len
  · simp
theorem rpE_end {es : List E} {vs : List V3} : rpE es (vs.drop vs.length) = (es, true) := by simp [rpE]
theorem InsQ_is (l : List E) (e : E) (t t' : Bool) (hl : l.length ≤ 1048576) : Is prog fid_slices_Insert_impl_Edge_impl_Edge [.ow t 2 (encE l), .i .i64 (posE l e), .ow t' 2 (encE [e])] (.ow true 2 (encE (putE l e))) :=
  InsertE_is l (posE l e) e t t' (posE_le l e) hl
theorem ReplayEvents_is (t t' : Bool) (es : List E) (vs : List V3) (hl : es.length ≤ 1048576) (hv : es.length + vs.length ≤ 1048576) :
    Is prog fid_impl_ReplayEvents [.s t 2 (encE es), .s t' 4 (encV vs)] (.tup [.ow true 2 (encE (replay es vs).1), .b (replay es vs).2]) := by
  refine MCall.run mixed get_impl_ReplayEvents ok_impl_ReplayEvents (Nat.le_of_ble_eq_true rfl) (by decide) ?_
  unfold mc_impl_ReplayEvents
  simp (config := { maxSteps := 10000000, implicitDefEqProofs := false }) only [go_sem, ↓reduceIte, Nat.reduceAdd, Nat.reduceMul, Nat.reduceEqDiff, Nat.reduceSub, Nat.reduceLT, reduceCtorEq, Nat.reduceLeDiff, Nat.reduceBEq, mwp_draw]
  refine ⟨fun h1 => ?_, fun h1 => ?_⟩
  · rw [replay_no (.inl (by omega))]
    simp [encE]
  refine mwp_loopk (X := Nat) (fun i => ⟨[(0, .s t 2 (encE es)), (1, .s t' 4 (encV vs)), (6, .i .i64 (i + 1 : Nat))], [], 0⟩) (fun i => (es.take (i + 1)).Pairwise eLt) (fun i => es.length - i) 0 (by rfl) (by cases es <;> simp) ?_
  rintro i h2 K kN kE kR
  simp (config := { maxSteps := 10000000, implicitDefEqProofs := false }) only [go_sem, ↓reduceIte, Nat.reduceAdd, Nat.reduceMul, Nat.reduceEqDiff, Nat.reduceSub, Nat.reduceLT, reduceCtorEq, Nat.reduceLeDiff, Nat.reduceBEq, mwp_draw]
  refine ⟨fun h3 => ⟨fits64 (by omega) (by omega), by omega, by omega, fun d hd => ⟨by omega, h3, fun e he => ?_⟩⟩, fun h3 => kE _ _ ?_⟩
  · refine callK_is (compareEdges_is d e) ?_
    rw [show ((((i + 1 : Nat) : Int) - 1).toNat) = i by omega] at hd
    by_cases q : eLt d e
    · have hc : (0 ≤ cmpE d e) = False := eq_false (by rw [cmpE_ge]; exact fun w => w q)
      simp (config := { maxSteps := 10000000, implicitDefEqProofs := false }) only [go_sem, ↓reduceIte, Nat.reduceAdd, Nat.reduceMul, Nat.reduceEqDiff, Nat.reduceSub, Nat.reduceLT, reduceCtorEq, Nat.reduceLeDiff, Nat.reduceBEq, mwp_draw, hc]
      repeat (refine ⟨by first | omega | decide | exact fits64 (by omega) (by omega) | kernel_rfl | (intros; omega), ?_⟩)
      exact kN _ (i + 1) (by rfl) (srt_take h2 hd he q) (by omega)
    · have hc : (0 ≤ cmpE d e) = True := eq_true (cmpE_ge.2 q)
      simp (config := { maxSteps := 10000000, implicitDefEqProofs := false }) only [go_sem, ↓reduceIte, Nat.reduceAdd, Nat.reduceMul, Nat.reduceEqDiff, Nat.reduceSub, Nat.reduceLT, reduceCtorEq, Nat.reduceLeDiff, Nat.reduceBEq, mwp_draw, hc]
      refine ⟨by kernel_rfl, kR _ ?_⟩
      simp (config := { maxSteps := 10000000, implicitDefEqProofs := false }) only [go_sem, ↓reduceIte, Nat.reduceAdd, Nat.reduceMul, Nat.reduceEqDiff, Nat.reduceSub, Nat.reduceLT, reduceCtorEq, Nat.reduceLeDiff, Nat.reduceBEq, mwp_draw]
      rw [replay_no (.inr (srt_bad hd he q))]
      simp [encE]
  · clear kN kR
    have hs : es.Pairwise eLt := by rwa [List.take_of_length_le (by omega)] at h2
    rw [replay_yes (by omega) hs]
    simp (config := { maxSteps := 10000000, implicitDefEqProofs := false }) only [go_sem, ↓reduceIte, Nat.reduceAdd, Nat.reduceMul, Nat.reduceEqDiff, Nat.reduceSub, Nat.reduceLT, reduceCtorEq, Nat.reduceLeDiff, Nat.reduceBEq, mwp_draw]
    refine callK_is (CloneE_is _ es hl) ?_
    simp (config := { maxSteps := 10000000, implicitDefEqProofs := false }) only [go_sem, ↓reduceIte, Nat.reduceAdd, Nat.reduceMul, Nat.reduceEqDiff, Nat.reduceSub, Nat.reduceLT, reduceCtorEq, Nat.reduceLeDiff, Nat.reduceBEq, mwp_draw]
    refine mwp_loopk (X := Nat × List E) (fun x => ⟨[(7, .sr 0 0 x.2.length), (34, .s t' 4 (encV vs)), (35, .i .i64 vs.length), (36, .i .i64 x.1)], [(0, .arr true 2 (encE x.2))], 1⟩)
      (fun x => x.1 ≤ vs.length ∧ x.2.Pairwise eLt ∧ x.2.length ≤ es.length + x.1 ∧ rpE es vs = rpE x.2 (vs.drop x.1)) (fun x => vs.length - x.1) (0, es) (by rfl) ⟨Nat.zero_le _, hs, by simp only; omega, rfl⟩ ?_
    rintro ⟨j, fs⟩ ⟨g1, g2, g3, g4⟩ K' kN' kE' kR'
    simp only at g1 g2 g3 g4
    simp (config := { maxSteps := 10000000, implicitDefEqProofs := false }) only [go_sem, ↓reduceIte, Nat.reduceAdd, Nat.reduceMul, Nat.reduceEqDiff, Nat.reduceSub, Nat.reduceLT, reduceCtorEq, Nat.reduceLeDiff, Nat.reduceBEq, mwp_draw]
    refine ⟨fun c => ⟨by omega, c, fun v hvv => ⟨cmpD, cmpF, fnOk_cmp, ?_⟩⟩, fun c => kE' _ _ ?_⟩
    · have gd := rpE_drop (es := fs) hvv
      have gl := rpS_len (es := fs) (v := v)
      refine callK_is (BinarySearch_is _ fs v.2.1 g2 (by omega)) ?_
      by_cases m : v.2.1 ∈ fs
      · cases hb : v.2.2
        · have gd' : rpE es vs = rpE (rpS fs v) (vs.drop (j + 1)) := by rw [g4, gd, if_neg (by simp [m, hb])]
          obtain ⟨d1, d2⟩ := posE_del g2 m
          have hS : rpS fs v = fs.take (posE fs v.2.1) ++ fs.drop (posE fs v.2.1 + 1) := by rw [d2]; simp [rpS, m]
          simp (config := { maxSteps := 10000000, implicitDefEqProofs := false }) only [go_sem, ↓reduceIte, Nat.reduceAdd, Nat.reduceMul, Nat.reduceEqDiff, Nat.reduceSub, Nat.reduceLT, reduceCtorEq, Nat.reduceLeDiff, Nat.reduceBEq, mwp_draw, m, hb, beq_true, beq_false]
          refine ⟨fits64 (by omega) (by omega), ?_⟩
          refine callK_is (DeleteE_is fs (posE fs v.2.1) _ d1 (by omega)) ?_
          rw [← hS]
          simp (config := { maxSteps := 10000000, implicitDefEqProofs := false }) only [go_sem, ↓reduceIte, Nat.reduceAdd, Nat.reduceMul, Nat.reduceEqDiff, Nat.reduceSub, Nat.reduceLT, reduceCtorEq, Nat.reduceLeDiff, Nat.reduceBEq, mwp_draw]
          repeat (refine ⟨by first | omega | decide | exact fits64 (by omega) (by omega) | kernel_rfl | (intros; omega), ?_⟩)
          exact kN' _ (j + 1, rpS fs v) (by rfl) ⟨by simp only; omega, rpS_sorted g2, by simp only; omega, gd'⟩ (by simp only; omega)
        · have gd' : rpE es vs = ([], false) := by rw [g4, gd, if_pos (by simp [m, hb])]
          simp (config := { maxSteps := 10000000, implicitDefEqProofs := false }) only [go_sem, ↓reduceIte, Nat.reduceAdd, Nat.reduceMul, Nat.reduceEqDiff, Nat.reduceSub, Nat.reduceLT, reduceCtorEq, Nat.reduceLeDiff, Nat.reduceBEq, mwp_draw, m, hb, beq_true, beq_false]
          refine kR' _ ?_
          simp (config := { maxSteps := 10000000, implicitDefEqProofs := false }) only [go_sem, ↓reduceIte, Nat.reduceAdd, Nat.reduceMul, Nat.reduceEqDiff, Nat.reduceSub, Nat.reduceLT, reduceCtorEq, Nat.reduceLeDiff, Nat.reduceBEq, mwp_draw]
          rw [gd']
          simp [encE]
      · cases hb : v.2.2
        · have gd' : rpE es vs = ([], false) := by rw [g4, gd, if_pos (by simp [m, hb])]
          simp (config := { maxSteps := 10000000, implicitDefEqProofs := false }) only [go_sem, ↓reduceIte, Nat.reduceAdd, Nat.reduceMul, Nat.reduceEqDiff, Nat.reduceSub, Nat.reduceLT, reduceCtorEq, Nat.reduceLeDiff, Nat.reduceBEq, mwp_draw, m, hb, beq_true, beq_false]
          refine kR' _ ?_
          simp (config := { maxSteps := 10000000, implicitDefEqProofs := false }) only [go_sem, ↓reduceIte, Nat.reduceAdd, Nat.reduceMul, Nat.reduceEqDiff, Nat.reduceSub, Nat.reduceLT, reduceCtorEq, Nat.reduceLeDiff, Nat.reduceBEq, mwp_draw]
          rw [gd']
          simp [encE]
        · have gd' : rpE es vs = rpE (rpS fs v) (vs.drop (j + 1)) := by rw [g4, gd, if_neg (by simp [m, hb])]
          have hS : rpS fs v = putE fs v.2.1 := by simp [rpS, m]
          simp (config := { maxSteps := 10000000, implicitDefEqProofs := false }) only [go_sem, ↓reduceIte, Nat.reduceAdd, Nat.reduceMul, Nat.reduceEqDiff, Nat.reduceSub, Nat.reduceLT, reduceCtorEq, Nat.reduceLeDiff, Nat.reduceBEq, mwp_draw, m, hb, beq_true, beq_false]
          refine callK_is (InsQ_is fs v.2.1 _ _ (by omega)) ?_
          rw [← hS]
          simp (config := { maxSteps := 10000000, implicitDefEqProofs := false }) only [go_sem, ↓reduceIte, Nat.reduceAdd, Nat.reduceMul, Nat.reduceEqDiff, Nat.reduceSub, Nat.reduceLT, reduceCtorEq, Nat.reduceLeDiff, Nat.reduceBEq, mwp_draw]
          repeat (refine ⟨by first | omega | decide | exact fits64 (by omega) (by omega) | kernel_rfl | (intros; omega), ?_⟩)
          exact kN' _ (j + 1, rpS fs v) (by rfl) ⟨by simp only; omega, rpS_sorted g2, by simp only; omega, gd'⟩ (by simp only; omega)
    · obtain rfl : j = vs.length := by omega
      rw [g4, rpE_end]
      simp (config := { maxSteps := 10000000, implicitDefEqProofs := false }) only [go_sem, ↓reduceIte, Nat.reduceAdd, Nat.reduceMul, Nat.reduceEqDiff, Nat.reduceSub, Nat.reduceLT, reduceCtorEq, Nat.reduceLeDiff, Nat.reduceBEq, mwp_draw]
theorem ReplayEventsS_is (t t' : Bool) (es : List E) (vs : List V3) (hl : es.length ≤ 1048576) (hv : es.length + vs.length ≤ 1048576) :
    Is prog fid_spec_ReplayEvents [.s t 2 (encE es), .s t' 4 (encV vs)] (.tup [.ow true 2 (encE (replay es vs).1), .b (replay es vs).2]) := by
  refine MCall.run mixed get_spec_ReplayEvents ok_spec_ReplayEvents (Nat.le_of_ble_eq_true rfl) (by decide) ?_
  unfold mc_spec_ReplayEvents
  simp (config := { maxSteps := 10000000, implicitDefEqProofs := false }) only [go_sem, ↓reduceIte, Nat.reduceAdd, Nat.reduceMul, Nat.reduceEqDiff, Nat.reduceSub, Nat.reduceLT, reduceCtorEq, Nat.reduceLeDiff, Nat.reduceBEq, mwp_draw]
  refine ⟨fun h1 => ?_, fun h1 => ?_⟩
  · rw [replay_no (.inl (by omega))]
    simp [encE]
  refine mwp_loopk (X := Nat) (fun i => ⟨[(0, .s t 2 (encE es)), (1, .s t' 4 (encV vs)), (6, .sr 0 0 (es.take i).length), (7, .i .i64 i)], [(0, .arr true 2 (encE (es.take i)))], 1⟩) (fun i => i ≤ es.length ∧ (es.take i).Pairwise eLt) (fun i => es.length - i) 0 (by rfl) (by simp) ?_
  rintro i ⟨h2, h2'⟩ K kN kE kR
  have hil : (es.take i).length = i := by simp; omega
  simp (config := { maxSteps := 10000000, implicitDefEqProofs := false }) only [go_sem, ↓reduceIte, Nat.reduceAdd, Nat.reduceMul, Nat.reduceEqDiff, Nat.reduceSub, Nat.reduceLT, reduceCtorEq, Nat.reduceLeDiff, Nat.reduceBEq]
  refine ⟨fun c => ?_, fun c => kE _ _ ?_⟩
  · cases i with
    | zero =>
      have b0 : ((0 : Int) < 0) = False := by simp
      simp (config := { maxSteps := 10000000, implicitDefEqProofs := false }) only [go_sem, ↓reduceIte, Nat.reduceAdd, Nat.reduceMul, Nat.reduceEqDiff, Nat.reduceSub, Nat.reduceLT, reduceCtorEq, Nat.reduceLeDiff, Nat.reduceBEq, mwp_draw, b0]
      repeat (refine ⟨by first | omega | decide | exact fits64 (by omega) (by omega) | kernel_rfl | (intros; omega), ?_⟩)
      intro e he
      repeat (refine ⟨by first | omega | decide | exact fits64 (by omega) (by omega) | kernel_rfl | (intros; omega), ?_⟩)
      exact kN _ 1 (by rw [take_snoc he]; rfl) ⟨by omega, by rw [take_snoc he]; simp⟩ (by omega)
    | succ i =>
      have b0 : ((0 : Int) < ((i + 1 : Nat) : Int)) = True := eq_true (by omega)
      simp (config := { maxSteps := 10000000, implicitDefEqProofs := false }) only [go_sem, ↓reduceIte, Nat.reduceAdd, Nat.reduceMul, Nat.reduceEqDiff, Nat.reduceSub, Nat.reduceLT, reduceCtorEq, Nat.reduceLeDiff, Nat.reduceBEq, mwp_draw, b0]
      repeat (refine ⟨by first | omega | decide | exact fits64 (by omega) (by omega) | kernel_rfl | (intros; omega), ?_⟩)
      intro d hd
      rw [show ((((i + 1 : Nat) : Int) - 1).toNat) = i by omega] at hd
      repeat (refine ⟨by first | omega | decide | exact fits64 (by omega) (by omega) | kernel_rfl | (intros; omega), ?_⟩)
      intro e he
      refine callK_is (l1Less_is d e) ?_
      by_cases q : eLt d e
      · simp (config := { maxSteps := 10000000, implicitDefEqProofs := false }) only [go_sem, ↓reduceIte, Nat.reduceAdd, Nat.reduceMul, Nat.reduceEqDiff, Nat.reduceSub, Nat.reduceLT, reduceCtorEq, Nat.reduceLeDiff, Nat.reduceBEq, mwp_draw, b0, q]
        repeat (refine ⟨by first | omega | decide | exact fits64 (by omega) (by omega) | kernel_rfl | (intros; omega), ?_⟩)
        intro e' he'
        obtain rfl : e = e' := by rw [he] at he'; exact Option.some.inj he'
        repeat (refine ⟨by first | omega | decide | exact fits64 (by omega) (by omega) | kernel_rfl | (intros; omega), ?_⟩)
        exact kN _ (i + 1 + 1) (by rw [take_snoc he, List.length_append]; rfl) ⟨by omega, srt_take h2' hd he q⟩ (by omega)
      · simp (config := { maxSteps := 10000000, implicitDefEqProofs := false }) only [go_sem, ↓reduceIte, Nat.reduceAdd, Nat.reduceMul, Nat.reduceEqDiff, Nat.reduceSub, Nat.reduceLT, reduceCtorEq, Nat.reduceLeDiff, Nat.reduceBEq, mwp_draw, b0, q]
        refine ⟨by kernel_rfl, kR _ ?_⟩
        simp (config := { maxSteps := 10000000, implicitDefEqProofs := false }) only [go_sem, ↓reduceIte, Nat.reduceAdd, Nat.reduceMul, Nat.reduceEqDiff, Nat.reduceSub, Nat.reduceLT, reduceCtorEq, Nat.reduceLeDiff, Nat.reduceBEq, mwp_draw]
        rw [replay_no (.inr (srt_bad hd he q))]
        simp [encE]
  · clear kN kR
    obtain rfl : i = es.length := by omega
    rw [List.take_length] at h2' hil ⊢
    rw [replay_yes (by omega) h2']
    simp (config := { maxSteps := 10000000, implicitDefEqProofs := false }) only [go_sem, ↓reduceIte, Nat.reduceAdd, Nat.reduceMul, Nat.reduceEqDiff, Nat.reduceSub, Nat.reduceLT, reduceCtorEq, Nat.reduceLeDiff, Nat.reduceBEq, mwp_draw]
    refine mwp_loopk (X := Nat × List E) (fun x => ⟨[(1, .s t' 4 (encV vs)), (6, .sr 0 0 x.2.length), (8, .i .i64 x.1)], [(0, .arr true 2 (encE x.2))], 1⟩)
      (fun x => x.1 ≤ vs.length ∧ x.2.Pairwise eLt ∧ x.2.length ≤ es.length + x.1 ∧ rpE es vs = rpE x.2 (vs.drop x.1)) (fun x => vs.length - x.1) (0, es) (by rfl) ⟨Nat.zero_le _, h2', by simp only; omega, rfl⟩ ?_
    rintro ⟨j, fs⟩ ⟨g1, g2, g3, g4⟩ K' kN' kE' kR'
    simp only at g1 g2 g3 g4
    simp (config := { maxSteps := 10000000, implicitDefEqProofs := false }) only [go_sem, ↓reduceIte, Nat.reduceAdd, Nat.reduceMul, Nat.reduceEqDiff, Nat.reduceSub, Nat.reduceLT, reduceCtorEq, Nat.reduceLeDiff, Nat.reduceBEq, mwp_draw]
    refine ⟨fun c => ⟨by omega, c, fun v hvv => ?_⟩, fun c => kE' _ _ ?_⟩
    · have gd := rpE_drop (es := fs) hvv
      have gl := rpS_len (es := fs) (v := v)
      refine callK_is (l1Find_is _ fs v.2.1 (by omega)) ?_
      have fd : (0 ≤ idxE fs v.2.1) = (v.2.1 ∈ fs) := propext idxE_ge
      simp (config := { maxSteps := 10000000, implicitDefEqProofs := false }) only [go_sem, ↓reduceIte, Nat.reduceAdd, Nat.reduceMul, Nat.reduceEqDiff, Nat.reduceSub, Nat.reduceLT, reduceCtorEq, Nat.reduceLeDiff, Nat.reduceBEq, mwp_draw, fd]
      repeat (refine ⟨by first | omega | decide | exact fits64 (by omega) (by omega) | kernel_rfl | (intros; omega), ?_⟩)
      intro v' hv'
      obtain rfl : v = v' := by rw [hvv] at hv'; exact Option.some.inj hv'
      by_cases m : v.2.1 ∈ fs
      · cases hb : v.2.2
        · have gd' : rpE es vs = rpE (rpS fs v) (vs.drop (j + 1)) := by rw [g4, gd, if_neg (by simp [m, hb])]
          have hS : rpS fs v = fs.filter (fun x => !decide (x = v.2.1)) := by simp [rpS, m, cutE]
          simp (config := { maxSteps := 10000000, implicitDefEqProofs := false }) only [go_sem, ↓reduceIte, Nat.reduceAdd, Nat.reduceMul, Nat.reduceEqDiff, Nat.reduceSub, Nat.reduceLT, reduceCtorEq, Nat.reduceLeDiff, Nat.reduceBEq, mwp_draw, m, hb, beq_true, beq_false]
          repeat (refine ⟨by first | omega | decide | exact fits64 (by omega) (by omega) | kernel_rfl | (intros; omega), ?_⟩)
          intro v' hv'
          obtain rfl : v = v' := by rw [hvv] at hv'; exact Option.some.inj hv'
          refine callK_is (l1Without_is _ fs v.2.1 (by omega)) ?_
          rw [← hS]
          simp (config := { maxSteps := 10000000, implicitDefEqProofs := false }) only [go_sem, ↓reduceIte, Nat.reduceAdd, Nat.reduceMul, Nat.reduceEqDiff, Nat.reduceSub, Nat.reduceLT, reduceCtorEq, Nat.reduceLeDiff, Nat.reduceBEq, mwp_draw]
          repeat (refine ⟨by first | omega | decide | exact fits64 (by omega) (by omega) | kernel_rfl | (intros; omega), ?_⟩)
          exact kN' _ (j + 1, rpS fs v) (by rfl) ⟨by simp only; omega, rpS_sorted g2, by simp only; omega, gd'⟩ (by simp only; omega)
        · have gd' : rpE es vs = ([], false) := by rw [g4, gd, if_pos (by simp [m, hb])]
          simp (config := { maxSteps := 10000000, implicitDefEqProofs := false }) only [go_sem, ↓reduceIte, Nat.reduceAdd, Nat.reduceMul, Nat.reduceEqDiff, Nat.reduceSub, Nat.reduceLT, reduceCtorEq, Nat.reduceLeDiff, Nat.reduceBEq, mwp_draw, m, hb, beq_true, beq_false]
          refine kR' _ ?_
          simp (config := { maxSteps := 10000000, implicitDefEqProofs := false }) only [go_sem, ↓reduceIte, Nat.reduceAdd, Nat.reduceMul, Nat.reduceEqDiff, Nat.reduceSub, Nat.reduceLT, reduceCtorEq, Nat.reduceLeDiff, Nat.reduceBEq, mwp_draw]
          rw [gd']
          simp [encE]
      · cases hb : v.2.2
        · have gd' : rpE es vs = ([], false) := by rw [g4, gd, if_pos (by simp [m, hb])]
          simp (config := { maxSteps := 10000000, implicitDefEqProofs := false }) only [go_sem, ↓reduceIte, Nat.reduceAdd, Nat.reduceMul, Nat.reduceEqDiff, Nat.reduceSub, Nat.reduceLT, reduceCtorEq, Nat.reduceLeDiff, Nat.reduceBEq, mwp_draw, m, hb, beq_true, beq_false]
          refine kR' _ ?_
          simp (config := { maxSteps := 10000000, implicitDefEqProofs := false }) only [go_sem, ↓reduceIte, Nat.reduceAdd, Nat.reduceMul, Nat.reduceEqDiff, Nat.reduceSub, Nat.reduceLT, reduceCtorEq, Nat.reduceLeDiff, Nat.reduceBEq, mwp_draw]
          rw [gd']
          simp [encE]
        · have gd' : rpE es vs = rpE (rpS fs v) (vs.drop (j + 1)) := by rw [g4, gd, if_neg (by simp [m, hb])]
          have hS : rpS fs v = putS fs v.2.1 := by rw [putS_eq g2 m]; simp [rpS, m]
          simp (config := { maxSteps := 10000000, implicitDefEqProofs := false }) only [go_sem, ↓reduceIte, Nat.reduceAdd, Nat.reduceMul, Nat.reduceEqDiff, Nat.reduceSub, Nat.reduceLT, reduceCtorEq, Nat.reduceLeDiff, Nat.reduceBEq, mwp_draw, m, hb, beq_true, beq_false]
          repeat (refine ⟨by first | omega | decide | exact fits64 (by omega) (by omega) | kernel_rfl | (intros; omega), ?_⟩)
          intro v' hv'
          obtain rfl : v = v' := by rw [hvv] at hv'; exact Option.some.inj hv'
          refine callK_is (l1Put_is _ fs v.2.1 (by omega)) ?_
          rw [← hS]
          simp (config := { maxSteps := 10000000, implicitDefEqProofs := false }) only [go_sem, ↓reduceIte, Nat.reduceAdd, Nat.reduceMul, Nat.reduceEqDiff, Nat.reduceSub, Nat.reduceLT, reduceCtorEq, Nat.reduceLeDiff, Nat.reduceBEq, mwp_draw]
          repeat (refine ⟨by first | omega | decide | exact fits64 (by omega) (by omega) | kernel_rfl | (intros; omega), ?_⟩)
          exact kN' _ (j + 1, rpS fs v) (by rfl) ⟨by simp only; omega, rpS_sorted g2, by simp only; omega, gd'⟩ (by simp only; omega)
    · obtain rfl : j = vs.length := by omega
      rw [g4, rpE_end]
      simp (config := { maxSteps := 10000000, implicitDefEqProofs := false }) only [go_sem, ↓reduceIte, Nat.reduceAdd, Nat.reduceMul, Nat.reduceEqDiff, Nat.reduceSub, Nat.reduceLT, reduceCtorEq, Nat.reduceLeDiff, Nat.reduceBEq, mwp_draw]
end Go.Fw
