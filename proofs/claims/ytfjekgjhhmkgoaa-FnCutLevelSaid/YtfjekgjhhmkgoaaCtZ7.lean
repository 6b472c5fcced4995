/-
  Graphs with levels: an edge is cut; the program and the reference.
-/
import Derived.Test.YtfjekgjhhmkgoaaCtZ6
namespace Go.Fw
set_option linter.unusedSimpArgs false
set_option linter.unusedVariables false
set_option maxRecDepth 100000
set_option maxHeartbeats 16000000
open Go.Proofs.Try (prog)
open Go.Pl

theorem dwn_succ {n : Int} {e : E} {m : Nat} {T : List Lv1} : dwn n e (m + 1) T = if (repl n e m T).2 then ((repl n e m T).1, true) else dwn n e m (repl n e m T).1 := rfl
theorem repl_tE {n : Int} {e : E} {k : Int} {T : List Lv1} : tE (repl n e k T).1 = tE T := repl_fst
theorem erase_td {α : Type} {l : List α} {i : Nat} : l.take i ++ l.drop (i + 1) = l.eraseIdx i := (List.eraseIdx_eq_take_drop_succ _ _).symm

theorem CutLevel_is (t1 t2 t3 : Bool) (n : Int) (es : List E) (ls : List Int) (fs : List Bool) (e : E) (hl : es.length ≤ 1048576) (hl2 : ls.length ≤ 1048576) (hl3 : fs.length ≤ 1048576) :
    Is prog fid_impl_CutLevel [Lv t1 t2 t3 n es ls fs, Ed1 e] (ClV n es ls fs e) := by
  refine MCall.run mixed get_impl_CutLevel ok_impl_CutLevel (Nat.le_of_ble_eq_true rfl) (by decide) ?_
  unfold mc_impl_CutLevel
  simp (config := { maxSteps := 10000000, implicitDefEqProofs := false }) only [go_sem, ↓reduceIte, Nat.reduceAdd, Nat.reduceMul, Nat.reduceEqDiff, Nat.reduceSub, Nat.reduceLT, reduceCtorEq, Nat.reduceLeDiff, Nat.reduceBEq, mwp_draw]
  refine callK_is (LevelsValid_is _ _ _ n es ls fs hl hl2 hl3) ?_
  cases h : lvB n es ls fs
  · simp (config := { maxSteps := 10000000, implicitDefEqProofs := false }) only [go_sem, ↓reduceIte, Nat.reduceAdd, Nat.reduceMul, Nat.reduceEqDiff, Nat.reduceSub, Nat.reduceLT, reduceCtorEq, Nat.reduceLeDiff, Nat.reduceBEq, mwp_draw]
    rw [cl_no (by simp [clB, h])]
    repeat (refine ⟨by first | omega | decide | exact fits64 (by omega) (by omega) | kernel_rfl | (intros; omega), ?_⟩)
    first | done | rfl
  obtain ⟨h1, h2, h3, h4⟩ := lvB_get h
  simp (config := { maxSteps := 10000000, implicitDefEqProofs := false }) only [go_sem, ↓reduceIte, Nat.reduceAdd, Nat.reduceMul, Nat.reduceEqDiff, Nat.reduceSub, Nat.reduceLT, reduceCtorEq, Nat.reduceLeDiff, Nat.reduceBEq, mwp_draw]
  refine callK_is (has_is _ n es e hl) ?_
  by_cases he : ¬ e ∈ es
  · have he' : (e ∈ es) = False := eq_false he
    simp (config := { maxSteps := 10000000, implicitDefEqProofs := false }) only [go_sem, ↓reduceIte, Nat.reduceAdd, Nat.reduceMul, Nat.reduceEqDiff, Nat.reduceSub, Nat.reduceLT, reduceCtorEq, Nat.reduceLeDiff, Nat.reduceBEq, mwp_draw, he']
    rw [cl_no (by simp [clB, he])]
    repeat (refine ⟨by first | omega | decide | exact fits64 (by omega) (by omega) | kernel_rfl | (intros; omega), ?_⟩)
    first | done | rfl
  have he := Classical.not_not.1 he
  have he' : (e ∈ es) = True := eq_true he
  have hb : clB n es ls fs e = true := by simp [clB, h, he]
  obtain ⟨z0, z1, z2, z3, z4, z5, z6, z7, z8⟩ := cl_get h he
  have hR : clR n es ls fs e = clD n es ls fs e := by unfold clR; rw [if_pos hb]
  have hS : clS n es ls fs e = sumL (clD n es ls fs e).1 - sumL (clT es ls fs e) := by unfold clS; rw [if_pos hb]
  have hN : clN n es ls fs e = n := by unfold clN; rw [if_pos hb]
  unfold ClV
  rw [hR, hS, hN, hb]
  have hl40 := h1.2.2.1
  simp (config := { maxSteps := 10000000, implicitDefEqProofs := false }) only [go_sem, ↓reduceIte, Nat.reduceAdd, Nat.reduceMul, Nat.reduceEqDiff, Nat.reduceSub, Nat.reduceLT, reduceCtorEq, Nat.reduceLeDiff, Nat.reduceBEq, mwp_draw, he']
  refine callK_is (IndexE_is _ es e hl) ?_
  rw [z7]
  have hn := srt_nodup h1.2.2.2.2
  generalize hat : clAt es e = a at *
  generalize hT : clT es ls fs e = T at *
  have tl := tE_length (T := T)
  have tl2 := tL_length (T := T)
  have tl3 := tF_length (T := T)
  have el : (tE T).length + 1 = es.length := by rw [z0, List.length_eraseIdx_of_lt z6]; omega
  obtain ⟨lv, hlv⟩ : ∃ lv, ls[a]? = some lv := ⟨_, List.getElem?_eq_getElem (by omega)⟩
  obtain ⟨fv, hfv⟩ : ∃ fv, fs[a]? = some fv := ⟨_, List.getElem?_eq_getElem (by omega)⟩
  have hlv4 := h4 _ (List.mem_of_getElem? hlv)
  have hD : clD n es ls fs e = if fv then dwn n e (lv.toNat + 1) T else (T, false) := by unfold clD; rw [hat, hT, hlv, hfv]; rfl
  simp (config := { maxSteps := 10000000, implicitDefEqProofs := false }) only [go_sem, ↓reduceIte, Nat.reduceAdd, Nat.reduceMul, Nat.reduceEqDiff, Nat.reduceSub, Nat.reduceLT, reduceCtorEq, Nat.reduceLeDiff, Nat.reduceBEq, mwp_draw]
  refine callK_is (cut_is _ n es e hl) ?_
  rw [filter_erase hn z8, ← z0]
  simp (config := { maxSteps := 10000000, implicitDefEqProofs := false }) only [go_sem, ↓reduceIte, Nat.reduceAdd, Nat.reduceMul, Nat.reduceEqDiff, Nat.reduceSub, Nat.reduceLT, reduceCtorEq, Nat.reduceLeDiff, Nat.reduceBEq, mwp_draw]
  refine callK_is (CloneI_is _ ls hl2) ?_
  simp (config := { maxSteps := 10000000, implicitDefEqProofs := false }) only [go_sem, ↓reduceIte, Nat.reduceAdd, Nat.reduceMul, Nat.reduceEqDiff, Nat.reduceSub, Nat.reduceLT, reduceCtorEq, Nat.reduceLeDiff, Nat.reduceBEq, mwp_draw]
  repeat (refine ⟨by first | omega | decide | exact fits64 (by omega) (by omega) | kernel_rfl | (intros; omega), ?_⟩)
  refine callK_is (DeleteI_is ls a _ (by omega) hl2) ?_
  rw [erase_td, ← z1]
  simp (config := { maxSteps := 10000000, implicitDefEqProofs := false }) only [go_sem, ↓reduceIte, Nat.reduceAdd, Nat.reduceMul, Nat.reduceEqDiff, Nat.reduceSub, Nat.reduceLT, reduceCtorEq, Nat.reduceLeDiff, Nat.reduceBEq, mwp_draw]
  refine callK_is (CloneT_is _ fs hl3) ?_
  simp (config := { maxSteps := 10000000, implicitDefEqProofs := false }) only [go_sem, ↓reduceIte, Nat.reduceAdd, Nat.reduceMul, Nat.reduceEqDiff, Nat.reduceSub, Nat.reduceLT, reduceCtorEq, Nat.reduceLeDiff, Nat.reduceBEq, mwp_draw]
  repeat (refine ⟨by first | omega | decide | exact fits64 (by omega) (by omega) | kernel_rfl | (intros; omega), ?_⟩)
  refine callK_is (DeleteT_is fs a _ (by omega) hl3) ?_
  rw [erase_td, ← z2]
  have gl := goneT hlv
  have gf := goneT hfv
  have c1 : ((a : Int) < fs.length) = True := eq_true (by omega)
  have c2 : (a < fs.length) = True := eq_true (by omega)
  have c3 : ((a : Int) < ls.length) = True := eq_true (by omega)
  have c4 : (a < ls.length) = True := eq_true (by omega)
  rw [hD]
  cases fv with
  | false =>
    simp (config := { maxSteps := 10000000, implicitDefEqProofs := false }) only [go_sem, ↓reduceIte, Nat.reduceAdd, Nat.reduceMul, Nat.reduceEqDiff, Nat.reduceSub, Nat.reduceLT, reduceCtorEq, Nat.reduceLeDiff, Nat.reduceBEq, mwp_draw, c1, c2, c3, c4, ↓gl, ↓gf]
    repeat (refine ⟨by first | omega | decide | exact fits64 (by omega) (by omega) | kernel_rfl | (intros; omega), ?_⟩)
    simp only [Bool.false_eq_true, if_false, Int.sub_self]
    repeat (refine ⟨by first | omega | decide | exact fits64 (by omega) (by omega) | kernel_rfl | (intros; omega), ?_⟩)
    first | done | rfl
  | true =>
    simp only [if_true]
    simp (config := { maxSteps := 10000000, implicitDefEqProofs := false }) only [go_sem, ↓reduceIte, Nat.reduceAdd, Nat.reduceMul, Nat.reduceEqDiff, Nat.reduceSub, Nat.reduceLT, reduceCtorEq, Nat.reduceLeDiff, Nat.reduceBEq, mwp_draw, c1, c2, c3, c4, ↓gl, ↓gf]
    repeat (refine ⟨by first | omega | decide | exact fits64 (by omega) (by omega) | kernel_rfl | (intros; omega), ?_⟩)
    refine mwp_loopk (X := List Lv1 × Bool × Nat) (fun x => ⟨[(3, .pr 0 0 0), (4, .pr 1 0 0), (9, .pr 2 0 0), (10, .i .i64 (sumL x.1 - sumL T)), (11, .b x.2.1), (12, .i .i64 ((x.2.2 : Int) - 1))],
        [(0, .box [.i .i64 e.1, .i .i64 e.2]), (1, .box [.i .i64 0, .nl 2, .nl 1, .nl 1]), (2, .box [.i .i64 n, .sr 3 0 (tE x.1).length, .sr 4 0 (tL x.1).length, .sr 5 0 (tF x.1).length]), (3, .arr true 2 (encE (tE x.1))), (4, .arr true 1 (encI (tL x.1))), (5, .arr true 1 (encT (tF x.1)))], 6⟩)
      (fun x => x.1.length = T.length ∧ tE x.1 = tE T ∧ x.2.2 ≤ 5 ∧ (∀ y ∈ x.1, 0 ≤ y.2.1 ∧ y.2.1 ≤ 4 + 2 * (5 - (x.2.2 : Int))) ∧ (0 ≤ sumL x.1 - sumL T ∧ sumL x.1 - sumL T ≤ 80 * (5 - (x.2.2 : Int))) ∧
        (x.2.1 = true → dwn n e (lv.toNat + 1) T = (x.1, true)) ∧ (x.2.1 = false → dwn n e (lv.toNat + 1) T = dwn n e x.2.2 x.1)) (fun x => x.2.2) (T, false, lv.toNat + 1) ?_
        ⟨rfl, rfl, by simp only; omega, fun y hy => by have := z5 y hy; simp only at hy ⊢; omega, by simp only; omega, by simp, fun _ => rfl⟩ ?_
    · have : ((lv.toNat + 1 : Nat) : Int) - 1 = lv := by omega
      simp only [this, Int.sub_self]
      rfl
    rintro ⟨T', fd, m⟩ ⟨g1, g2, g3, g4, g5, g6, g7⟩ K kN kE kR
    simp only at g1 g2 g3 g4 g5 g6 g7
    cases fd with
    | true =>
      have hd := g6 rfl
      by_cases hm : 0 ≤ (m : Int) - 1
      · have c5 : (0 ≤ (m : Int) - 1) = True := eq_true hm
        simp (config := { maxSteps := 10000000, implicitDefEqProofs := false }) only [go_sem, ↓reduceIte, Nat.reduceAdd, Nat.reduceMul, Nat.reduceEqDiff, Nat.reduceSub, Nat.reduceLT, reduceCtorEq, Nat.reduceLeDiff, Nat.reduceBEq, mwp_draw, c5]
        refine kE _ _ ?_
        clear kN kE kR
        simp (config := { maxSteps := 10000000, implicitDefEqProofs := false }) only [go_sem, ↓reduceIte, Nat.reduceAdd, Nat.reduceMul, Nat.reduceEqDiff, Nat.reduceSub, Nat.reduceLT, reduceCtorEq, Nat.reduceLeDiff, Nat.reduceBEq, mwp_draw]
        rw [hd]
        repeat (refine ⟨by first | omega | decide | exact fits64 (by omega) (by omega) | kernel_rfl | (intros; omega), ?_⟩)
        first | done | (rw [← g2]; rfl) | (rw [g2]; rfl) | rfl
      · have c5 : (0 ≤ (m : Int) - 1) = False := eq_false hm
        simp (config := { maxSteps := 10000000, implicitDefEqProofs := false }) only [go_sem, ↓reduceIte, Nat.reduceAdd, Nat.reduceMul, Nat.reduceEqDiff, Nat.reduceSub, Nat.reduceLT, reduceCtorEq, Nat.reduceLeDiff, Nat.reduceBEq, mwp_draw, c5]
        refine kE _ _ ?_
        clear kN kE kR
        simp (config := { maxSteps := 10000000, implicitDefEqProofs := false }) only [go_sem, ↓reduceIte, Nat.reduceAdd, Nat.reduceMul, Nat.reduceEqDiff, Nat.reduceSub, Nat.reduceLT, reduceCtorEq, Nat.reduceLeDiff, Nat.reduceBEq, mwp_draw]
        rw [hd]
        repeat (refine ⟨by first | omega | decide | exact fits64 (by omega) (by omega) | kernel_rfl | (intros; omega), ?_⟩)
        first | done | (rw [← g2]; rfl) | (rw [g2]; rfl) | rfl
    | false =>
      have hd := g7 rfl
      cases m with
      | zero =>
        simp (config := { maxSteps := 10000000, implicitDefEqProofs := false }) only [go_sem, ↓reduceIte, Nat.reduceAdd, Nat.reduceMul, Nat.reduceEqDiff, Nat.reduceSub, Nat.reduceLT, reduceCtorEq, Nat.reduceLeDiff, Nat.reduceBEq, mwp_draw]
        refine ⟨fun q => absurd q (by omega), fun _ => kE _ _ ?_⟩
        clear kN kE kR
        simp (config := { maxSteps := 10000000, implicitDefEqProofs := false }) only [go_sem, ↓reduceIte, Nat.reduceAdd, Nat.reduceMul, Nat.reduceEqDiff, Nat.reduceSub, Nat.reduceLT, reduceCtorEq, Nat.reduceLeDiff, Nat.reduceBEq, mwp_draw]
        rw [hd, dwn]
        repeat (refine ⟨by first | omega | decide | exact fits64 (by omega) (by omega) | kernel_rfl | (intros; omega), ?_⟩)
        first | done | (rw [← g2]; rfl) | (rw [g2]; rfl) | rfl
      | succ m =>
        have hm : (((m + 1 : Nat) : Int) - 1) = m := by omega
        have c5 : (0 ≤ (m : Int)) = True := eq_true (by omega)
        rw [hm]
        have r0 := replace_is false false false n T' e m (GE_of (by rw [g2]; exact z3)) z4 (by omega) (by omega) (fun y hy => by have := g4 y hy; omega)
        simp (config := { maxSteps := 10000000, implicitDefEqProofs := false }) only [go_sem, ↓reduceIte, Nat.reduceAdd, Nat.reduceMul, Nat.reduceEqDiff, Nat.reduceSub, Nat.reduceLT, reduceCtorEq, Nat.reduceLeDiff, Nat.reduceBEq, mwp_draw, c5]
        repeat (refine ⟨by first | omega | decide | exact fits64 (by omega) (by omega) | kernel_rfl | (intros; omega), ?_⟩)
        refine callK_det r0 ?_
        have rl : (repl n e m T').1.length = T'.length := repl_len
        have re : tE (repl n e m T').1 = tE T' := repl_tE
        have rs := repl_sum (n := n) (e := e) (k := m) (T := T')
        have rv := repl_lev (n := n) (e := e) (k := m) g4
        have hc := dwn_succ (n := n) (e := e) (m := m) (T := T')
        generalize hr : repl n e m T' = r at *
        have r1 := tE_length (T := r.1)
        have r2 := tL_length (T := r.1)
        have r3 := tF_length (T := r.1)
        have r4 := tE_length (T := T')
        have r5 := tL_length (T := T')
        have r6 := tF_length (T := T')
        have hsum : sumL T' - sumL T + (sumL r.1 - sumL T') = sumL r.1 - sumL T := by omega
        simp (config := { maxSteps := 10000000, implicitDefEqProofs := false }) only [go_sem, ↓reduceIte, Nat.reduceAdd, Nat.reduceMul, Nat.reduceEqDiff, Nat.reduceSub, Nat.reduceLT, reduceCtorEq, Nat.reduceLeDiff, Nat.reduceBEq, mwp_draw, hsum]
        repeat (refine ⟨by first | omega | decide | exact fits64 (by omega) (by omega) | kernel_rfl | (intros; omega), ?_⟩)
        refine kN _ (r.1, r.2, m) (by rw [← re, r1, r2, r3]; kernel_rfl) ⟨by simp only; omega, by simp only; rw [re, g2], by simp only; omega, fun y hy => by have := rv y hy; simp only at this ⊢; omega, by simp only; omega, fun q => ?_, fun q => ?_⟩ (by simp only; omega)
        · simp only at q; rw [hd, hc, if_pos q]
        · simp only at q; rw [hd, hc, if_neg (by rw [q]; simp)]
end Go.Fw
