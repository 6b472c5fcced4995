/-
  The law on an edge cut out of a graph with levels: levels are kept.
-/
import Derived.Test.YtfjekgjhhmkgoaaCtLd
import Derived.Test.YtfjekgjhhmkgoaaCtLk
import Derived.Test.YtfjekgjhhmkgoaaCtDy
import Derived.Test.YtfjekgjhhmkgoaaCtRow
namespace Go.Fw
set_option linter.unusedSimpArgs false
set_option linter.unusedVariables false
set_option maxRecDepth 100000
set_option maxHeartbeats 4000000
open Go.Proofs.Try (prog)
open Go.Pl

theorem sumI_zip {es : List E} {ls : List Int} {fs : List Bool} (h2 : ls.length = es.length) (h3 : fs.length = es.length) : sumI ls = sumL (zipT es ls fs) := by
  rw [← sumI_eq, tL_zip h2 h3]
theorem FnCutLevel_is (t : Bool) (b : List Int) (hb : Byt b) : Is prog fid_laws_FnCutLevel [.s t 1 (encB b)] (.b true) := by
  refine MCall.run mixed get_laws_FnCutLevel ok_laws_FnCutLevel (Nat.le_of_ble_eq_true rfl) (by decide) ?_
  unfold mc_laws_FnCutLevel
  by_cases hl : 1048576 < b.length
  · have c0 : ((1048576 : Int) < b.length) = True := eq_true (by omega)
    simp (config := { maxSteps := 10000000, implicitDefEqProofs := false }) only [go_sem, ↓reduceIte, Nat.reduceAdd, Nat.reduceMul, Nat.reduceEqDiff, Nat.reduceSub, Nat.reduceLT, reduceCtorEq, Nat.reduceLeDiff, Nat.reduceBEq, mwp_draw, c0]
  have c0 : ((1048576 : Int) < b.length) = False := eq_false (by omega)
  simp (config := { maxSteps := 10000000, implicitDefEqProofs := false }) only [go_sem, ↓reduceIte, Nat.reduceAdd, Nat.reduceMul, Nat.reduceEqDiff, Nat.reduceSub, Nat.reduceLT, reduceCtorEq, Nat.reduceLeDiff, Nat.reduceBEq, mwp_draw, c0]
  refine callK_any (DrawCutLevel_is _ b hb) ?_
  rintro o r ⟨rfl, n, es, ls, fs, e, rfl, v1, v2, v3, v4, v5⟩
  simp (config := { maxSteps := 10000000, implicitDefEqProofs := false }) only [go_sem, ↓reduceIte, Nat.reduceAdd, Nat.reduceMul, Nat.reduceEqDiff, Nat.reduceSub, Nat.reduceLT, reduceCtorEq, Nat.reduceLeDiff, Nat.reduceBEq, mwp_draw]
  refine callK_is (CutLevel_is _ _ _ n es ls fs e (by omega) (by omega) (by omega)) ?_
  unfold ClV
  simp (config := { maxSteps := 10000000, implicitDefEqProofs := false }) only [go_sem, ↓reduceIte, Nat.reduceAdd, Nat.reduceMul, Nat.reduceEqDiff, Nat.reduceSub, Nat.reduceLT, reduceCtorEq, Nat.reduceLeDiff, Nat.reduceBEq, mwp_draw]
  refine callK_is (CutLevelS_is _ _ _ n es ls fs e (by omega) (by omega) (by omega)) ?_
  unfold ClV
  have hp := fun h => cl_ok (n := n) (es := es) (ls := ls) (fs := fs) (e := e) h
  have hlen : (clR n es ls fs e).1.length ≤ 60 := by
    cases q : clB n es ls fs e
    · simp [clR, q]
    · obtain ⟨_, _, _, _, _, _, _, _, _, _, _, _, _, _, h, _⟩ := hp q; omega
  have hcb : clB n es ls fs e = true → lvB n es ls fs = true ∧ e ∈ es := fun h => by simp only [clB, Bool.and_eq_true, decide_eq_true_eq] at h; exact h
  generalize clN n es ls fs e = n2 at *
  generalize clR n es ls fs e = R at *
  generalize clS n es ls fs e = sm at *
  generalize clB n es ls fs e = ok at *
  have r1 := tE_length (T := R.1)
  have r2 := tL_length (T := R.1)
  have r3 := tF_length (T := R.1)
  obtain ⟨R1, fd⟩ := R
  simp only at *
  simp (config := { maxSteps := 10000000, implicitDefEqProofs := false }) only [go_sem, ↓reduceIte, Nat.reduceAdd, Nat.reduceMul, Nat.reduceEqDiff, Nat.reduceSub, Nat.reduceLT, reduceCtorEq, Nat.reduceLeDiff, Nat.reduceBEq, mwp_draw]
  refine callK_is (dyLeveled_is _ _ _ _ _ _ n2 n2 _ _ _ _ _ _ (by omega) (by omega) (by omega)) ?_
  simp only [decide_true, Bool.and_self]
  have ff : (fd == fd) = true := by simp
  cases ok with
  | false =>
    simp (config := { maxSteps := 10000000, implicitDefEqProofs := false }) only [go_sem, ↓reduceIte, Nat.reduceAdd, Nat.reduceMul, Nat.reduceEqDiff, Nat.reduceSub, Nat.reduceLT, reduceCtorEq, Nat.reduceLeDiff, Nat.reduceBEq, mwp_draw, beq_true, beq_false, ff]
    refine callK_is (dyLeveled_is _ _ _ _ _ _ n2 n2 _ _ _ _ _ _ (by omega) (by omega) (by omega)) ?_
    simp only [decide_true, Bool.and_self]
    simp (config := { maxSteps := 10000000, implicitDefEqProofs := false }) only [go_sem, ↓reduceIte, Nat.reduceAdd, Nat.reduceMul, Nat.reduceEqDiff, Nat.reduceSub, Nat.reduceLT, reduceCtorEq, Nat.reduceLeDiff, Nat.reduceBEq, mwp_draw, beq_true, beq_false, ff]
  | true =>
    obtain ⟨lk, p2, p3, rfl, a, v, tt, a1, a2, a3, a4, s1, s2, s3, s4, s5, s6⟩ := hp rfl
    obtain ⟨o1, o2⟩ := hcb rfl
    obtain ⟨h1, h2, h3, h4⟩ := lvB_get o1
    have hv : lvB n2 (tE R1) (tL R1) (tF R1) = true := (lok_iff p3).2 lk
    have hlv4 := (lvB_get hv).2.2.2
    have hnd := srt_nodup h1.2.2.2.2
    simp (config := { maxSteps := 10000000, implicitDefEqProofs := false }) only [go_sem, ↓reduceIte, Nat.reduceAdd, Nat.reduceMul, Nat.reduceEqDiff, Nat.reduceSub, Nat.reduceLT, reduceCtorEq, Nat.reduceLeDiff, Nat.reduceBEq, mwp_draw, beq_true, beq_false, ff]
    refine callK_is (CutEdge_is _ n2 es e (by omega)) ?_
    have ho : (gvB n2 es && decide (e ∈ es)) = true := by rw [gvB_iff.2 h1]; simp [o2]
    rw [ho, if_pos rfl, if_pos rfl, ← p2]
    simp (config := { maxSteps := 10000000, implicitDefEqProofs := false }) only [go_sem, ↓reduceIte, Nat.reduceAdd, Nat.reduceMul, Nat.reduceEqDiff, Nat.reduceSub, Nat.reduceLT, reduceCtorEq, Nat.reduceLeDiff, Nat.reduceBEq, mwp_draw]
    refine callK_is (SumLevels_is _ _ _ n2 es ls fs (by omega) (by omega) (by omega)) ?_
    rw [show smV n2 es ls fs = sumL (zipT es ls fs) by unfold smV; rw [if_pos o1, sumI_zip h2 h3]]
    have sr1 := sumI_rng (l := ls) h4
    rw [sumI_zip h2 h3] at sr1
    generalize lvB n2 es ls fs = junk
    simp (config := { maxSteps := 10000000, implicitDefEqProofs := false }) only [go_sem, ↓reduceIte, Nat.reduceAdd, Nat.reduceMul, Nat.reduceEqDiff, Nat.reduceSub, Nat.reduceLT, reduceCtorEq, Nat.reduceLeDiff, Nat.reduceBEq, mwp_draw]
    refine callK_is (SumLevels_is _ _ _ n2 (tE R1) (tL R1) (tF R1) (by omega) (by omega) (by omega)) ?_
    rw [show smV n2 (tE R1) (tL R1) (tF R1) = sumL R1 by unfold smV; rw [if_pos hv, sumI_eq], hv]
    have sr2 := sumI_rng (l := tL R1) hlv4
    rw [sumI_eq] at sr2
    simp (config := { maxSteps := 10000000, implicitDefEqProofs := false }) only [go_sem, ↓reduceIte, Nat.reduceAdd, Nat.reduceMul, Nat.reduceEqDiff, Nat.reduceSub, Nat.reduceLT, reduceCtorEq, Nat.reduceLeDiff, Nat.reduceBEq, mwp_draw]
    refine mwp_loopk (X := Nat) (fun i => ⟨[(3, .pr 0 0 0), (4, .pr 1 0 0), (5, .pr 2 0 0), (6, .i .i64 sm), (13, .pr 3 0 0), (14, .b true), (15, .i .i64 (sumL (zipT es ls fs))), (17, .i .i64 (sumL R1)), (18, .b true), (19, .i .i64 (if a < i then v else 0)), (20, .i .i64 i)],
        [(0, .box [.i .i64 n2, .sr 4 0 es.length, .sr 5 0 ls.length, .sr 6 0 fs.length]), (1, .box [.i .i64 e.1, .i .i64 e.2]), (2, .box [.i .i64 n2, .sr 7 0 (tE R1).length, .sr 8 0 (tL R1).length, .sr 9 0 (tF R1).length]), (3, .box [.i .i64 n2, .sr 10 0 (tE R1).length]),
          (4, .arr true 2 (encE es)), (5, .arr true 1 (encI ls)), (6, .arr true 1 (encT fs)), (7, .arr true 2 (encE (tE R1))), (8, .arr true 1 (encI (tL R1))), (9, .arr true 1 (encT (tF R1))), (10, .arr true 2 (encE (tE R1)))], 11⟩)
      (fun i => i ≤ ls.length) (fun i => ls.length - i) 0 (by kernel_rfl) (Nat.zero_le _) ?_
    rintro i g1 K kN kE kR
    by_cases hi : i < ls.length
    · obtain ⟨d, hd⟩ : ∃ d, es[i]? = some d := ⟨_, List.getElem?_eq_getElem (by omega)⟩
      obtain ⟨l, hx⟩ : ∃ l, ls[i]? = some l := ⟨_, List.getElem?_eq_getElem hi⟩
      have gd := goneD hd
      have gl := goneD hx
      have c1 : ((i : Int) < ls.length) = True := eq_true (by omega)
      have c2 : (i < ls.length) = True := eq_true hi
      have c3 : ((i : Int) < es.length) = True := eq_true (by omega)
      have c4 : (i < es.length) = True := eq_true (by omega)
      have no : d ≠ e → (if a < i + 1 then v else 0) = if a < i then v else 0 := fun q => by
        have : i ≠ a := fun w => by subst w; rw [a1] at hd; cases hd; exact q rfl
        by_cases w : a < i
        · rw [if_pos w, if_pos (by omega)]
        · rw [if_neg w, if_neg (by omega)]
      by_cases q1 : d.1 = e.1
      · have d1 : (d.1 = e.1) = True := eq_true q1
        by_cases q2 : d.2 = e.2
        · have d2 : (d.2 = e.2) = True := eq_true q2
          have hde : d = e := Prod.ext q1 q2
          have hia : i = a := by
            obtain ⟨w1, w2⟩ := List.getElem?_eq_some_iff.1 hd
            obtain ⟨w3, w4⟩ := List.getElem?_eq_some_iff.1 a1
            exact (List.getElem_inj hnd).1 (by rw [w2, w4, hde])
          have hlv : l = v := by rw [hia, a2] at hx; exact (Option.some.inj hx).symm
          have e1 : (if a < i + 1 then v else 0) = l := by rw [if_pos (by omega), hlv]
          simp (config := { maxSteps := 10000000, implicitDefEqProofs := false }) only [go_sem, ↓reduceIte, Nat.reduceAdd, Nat.reduceMul, Nat.reduceEqDiff, Nat.reduceSub, Nat.reduceLT, reduceCtorEq, Nat.reduceLeDiff, Nat.reduceBEq, mwp_draw, c1, c2, c3, c4, d1, d2, ↓gd, ↓gl]
          repeat (refine ⟨by first | omega | decide | exact fits64 (by omega) (by omega) | kernel_rfl | (intros; omega), ?_⟩)
          exact kN _ (i + 1) (by rw [e1]; kernel_rfl) (by omega) (by omega)
        · have d2 : (d.2 = e.2) = False := eq_false q2
          have e1 := no fun w => q2 (by rw [w])
          simp (config := { maxSteps := 10000000, implicitDefEqProofs := false }) only [go_sem, ↓reduceIte, Nat.reduceAdd, Nat.reduceMul, Nat.reduceEqDiff, Nat.reduceSub, Nat.reduceLT, reduceCtorEq, Nat.reduceLeDiff, Nat.reduceBEq, mwp_draw, c1, c2, c3, c4, d1, d2, ↓gd, ↓gl]
          repeat (refine ⟨by first | omega | decide | exact fits64 (by omega) (by omega) | kernel_rfl | (intros; omega), ?_⟩)
          exact kN _ (i + 1) (by rw [e1]; kernel_rfl) (by omega) (by omega)
      · have d1 : (d.1 = e.1) = False := eq_false q1
        have e1 := no fun w => q1 (by rw [w])
        simp (config := { maxSteps := 10000000, implicitDefEqProofs := false }) only [go_sem, ↓reduceIte, Nat.reduceAdd, Nat.reduceMul, Nat.reduceEqDiff, Nat.reduceSub, Nat.reduceLT, reduceCtorEq, Nat.reduceLeDiff, Nat.reduceBEq, mwp_draw, c1, c2, c3, c4, d1, ↓gd, ↓gl]
        repeat (refine ⟨by first | omega | decide | exact fits64 (by omega) (by omega) | kernel_rfl | (intros; omega), ?_⟩)
        exact kN _ (i + 1) (by rw [e1]; kernel_rfl) (by omega) (by omega)
    · obtain rfl : i = ls.length := by omega
      have c1 : ((ls.length : Int) < ls.length) = False := eq_false (by omega)
      rw [if_pos (by omega : a < ls.length)]
      simp (config := { maxSteps := 10000000, implicitDefEqProofs := false }) only [go_sem, ↓reduceIte, Nat.reduceAdd, Nat.reduceMul, Nat.reduceEqDiff, Nat.reduceSub, Nat.reduceLT, reduceCtorEq, Nat.reduceLeDiff, Nat.reduceBEq, mwp_draw, c1]
      refine kE _ _ ?_
      clear kN kE kR
      simp (config := { maxSteps := 10000000, implicitDefEqProofs := false }) only [go_sem, ↓reduceIte, Nat.reduceAdd, Nat.reduceMul, Nat.reduceEqDiff, Nat.reduceSub, Nat.reduceLT, reduceCtorEq, Nat.reduceLeDiff, Nat.reduceBEq, mwp_draw]
      refine callK_is (GraphSame_is _ _ n2 (tE R1) n2 (tE R1) (by omega)) ?_
      simp only [decide_true, Bool.and_self]
      simp (config := { maxSteps := 10000000, implicitDefEqProofs := false }) only [go_sem, ↓reduceIte, Nat.reduceAdd, Nat.reduceMul, Nat.reduceEqDiff, Nat.reduceSub, Nat.reduceLT, reduceCtorEq, Nat.reduceLeDiff, Nat.reduceBEq, mwp_draw]
      refine callK_is (LevelsValid_is _ _ _ n2 (tE R1) (tL R1) (tF R1) (by omega) (by omega) (by omega)) ?_
      rw [hv]
      simp (config := { maxSteps := 10000000, implicitDefEqProofs := false }) only [go_sem, ↓reduceIte, Nat.reduceAdd, Nat.reduceMul, Nat.reduceEqDiff, Nat.reduceSub, Nat.reduceLT, reduceCtorEq, Nat.reduceLeDiff, Nat.reduceBEq, mwp_draw]
      refine ⟨fits64 (by omega) (by omega), fits64 (by omega) (by omega), ?_⟩
      refine mvb ?_
      rw [decide_eq_true_eq]; omega
theorem FnCutLevel_row (m : List (List D)) (h : ∀ r ∈ m, rowOK [.i .u8] r) (_ : m.length ≤ maxLen) : Is prog fid_laws_FnCutLevel [.s false 1 m] (.b true) := by
  obtain ⟨b, rfl, hb⟩ := rows_bytes h
  exact FnCutLevel_is _ b hb
end Go.Fw
