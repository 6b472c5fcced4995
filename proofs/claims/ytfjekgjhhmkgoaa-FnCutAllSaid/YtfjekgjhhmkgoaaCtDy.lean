/-
  Comparisons in the statements.
-/
import Derived.Test.YtfjekgjhhmkgoaaCtH
import Derived.Test.YtfjekgjhhmkgoaaCtP
namespace Go.Fw
set_option linter.unusedSimpArgs false
set_option linter.unusedVariables false
set_option maxRecDepth 100000
set_option maxHeartbeats 4000000
open Go.Proofs.Try (prog)
open Go.Pl

theorem goneD {α : Type} {l : List α} {i : Nat} {x : α} (hx : l[i]? = some x) : ∀ P : α → Prop, (∀ z, l[i]? = some z → P z) ↔ P x := fun P => ⟨fun h => h x hx, fun h z hz => by rw [hx] at hz; cases hz; exact h⟩
theorem dyEdges_is (t t' : Bool) (l m : List E) (hl : l.length ≤ 2000000) : Is prog fid_laws_dyEdges [.s t 2 (encE l), .s t' 2 (encE m)] (.b (decide (l = m))) := by
  refine MCall.run mixed get_laws_dyEdges ok_laws_dyEdges (Nat.le_of_ble_eq_true rfl) (by decide) ?_
  unfold mc_laws_dyEdges
  simp (config := { maxSteps := 10000000, implicitDefEqProofs := false }) only [go_sem, ↓reduceIte, Nat.reduceAdd, Nat.reduceMul, Nat.reduceEqDiff, Nat.reduceSub, Nat.reduceLT, reduceCtorEq, Nat.reduceLeDiff, Nat.reduceBEq, mwp_draw]
  refine ⟨fun h => mvb (eq_len h).symm, fun h => ?_⟩
  refine mwp_loopk (X := Nat) (fun i => ⟨[(0, .s t 2 (encE l)), (1, .s t' 2 (encE m)), (5, .i .i64 i)], [], 0⟩) (fun i => i ≤ l.length ∧ l.take i = m.take i) (fun i => l.length - i) 0 rfl (by simp) ?_
  rintro i ⟨h1, h2⟩ K kN kE kR
  simp (config := { maxSteps := 10000000, implicitDefEqProofs := false }) only [go_sem, ↓reduceIte, Nat.reduceAdd, Nat.reduceMul, Nat.reduceEqDiff, Nat.reduceSub, Nat.reduceLT, reduceCtorEq, Nat.reduceLeDiff, Nat.reduceBEq, mwp_draw]
  refine ⟨fun h3 => ⟨by omega, h3, fun x hx => ⟨by omega, by omega, fun y hy => ⟨by kernel_rfl, fun h4 => kR _ ?_, fun h4 => ⟨fits64 (by omega) (by omega), kN _ (i + 1) (by rfl) ⟨by omega, eq_step h2 hx hy (by simpa using h4)⟩ (by omega)⟩⟩⟩⟩, fun h3 => kE _ _ ?_⟩
  · simp (config := { maxSteps := 10000000, implicitDefEqProofs := false }) only [go_sem, ↓reduceIte, Nat.reduceAdd, Nat.reduceMul, Nat.reduceEqDiff, Nat.reduceSub, Nat.reduceLT, reduceCtorEq, Nat.reduceLeDiff, Nat.reduceBEq, mwp_draw]
    exact mvb (eq_ne hx hy (by simpa using h4)).symm
  · simp (config := { maxSteps := 10000000, implicitDefEqProofs := false }) only [go_sem, ↓reduceIte, Nat.reduceAdd, Nat.reduceMul, Nat.reduceEqDiff, Nat.reduceSub, Nat.reduceLT, reduceCtorEq, Nat.reduceLeDiff, Nat.reduceBEq, mwp_draw]
    obtain rfl : i = l.length := by omega
    exact mvb (eq_end (by omega) h2).symm
theorem dyHas_is (t : Bool) (l : List E) (e : E) (hl : l.length ≤ 2000000) : Is prog fid_laws_dyHas [.s t 2 (encE l), Ed1 e] (.b (decide (e ∈ l))) := by
  refine MCall.run mixed get_laws_dyHas ok_laws_dyHas (Nat.le_of_ble_eq_true rfl) (by decide) ?_
  unfold mc_laws_dyHas
  simp (config := { maxSteps := 10000000, implicitDefEqProofs := false }) only [go_sem, ↓reduceIte, Nat.reduceAdd, Nat.reduceMul, Nat.reduceEqDiff, Nat.reduceSub, Nat.reduceLT, reduceCtorEq, Nat.reduceLeDiff, Nat.reduceBEq, mwp_draw]
  refine mwp_loopk (X := Nat) (fun i => ⟨[(0, .s t 2 (encE l)), (3, .pr 0 0 0), (5, .i .i64 i)], [(0, .box [.i .i64 e.1, .i .i64 e.2])], 1⟩) (fun i => i ≤ l.length ∧ e ∉ l.take i) (fun i => l.length - i) 0 (by rfl) (by simp) ?_
  rintro i ⟨h1, h2⟩ K kN kE kR
  by_cases hi : i < l.length
  · obtain ⟨x, hx⟩ : ∃ x, l[i]? = some x := ⟨_, List.getElem?_eq_getElem hi⟩
    have gx := goneD hx
    have c1 : ((i : Int) < l.length) = True := eq_true (by omega)
    have c2 : (i < l.length) = True := eq_true hi
    by_cases q1 : x.1 = e.1
    · have d1 : (x.1 = e.1) = True := eq_true q1
      by_cases q2 : x.2 = e.2
      · have d2 : (x.2 = e.2) = True := eq_true q2
        simp (config := { maxSteps := 10000000, implicitDefEqProofs := false }) only [go_sem, ↓reduceIte, Nat.reduceAdd, Nat.reduceMul, Nat.reduceEqDiff, Nat.reduceSub, Nat.reduceLT, reduceCtorEq, Nat.reduceLeDiff, Nat.reduceBEq, mwp_draw, c1, c2, d1, d2, ↓gx]
        repeat (refine ⟨by first | omega | decide | exact fits64 (by omega) (by omega) | kernel_rfl | (intros; omega), ?_⟩)
        refine kR _ ?_
        simp (config := { maxSteps := 10000000, implicitDefEqProofs := false }) only [go_sem, ↓reduceIte, Nat.reduceAdd, Nat.reduceMul, Nat.reduceEqDiff, Nat.reduceSub, Nat.reduceLT, reduceCtorEq, Nat.reduceLeDiff, Nat.reduceBEq, mwp_draw]
        have : x = e := Prod.ext q1 q2
        exact mvb (decide_eq_true (this ▸ List.mem_of_getElem? hx)).symm
      · have d2 : (x.2 = e.2) = False := eq_false q2
        simp (config := { maxSteps := 10000000, implicitDefEqProofs := false }) only [go_sem, ↓reduceIte, Nat.reduceAdd, Nat.reduceMul, Nat.reduceEqDiff, Nat.reduceSub, Nat.reduceLT, reduceCtorEq, Nat.reduceLeDiff, Nat.reduceBEq, mwp_draw, c1, c2, d1, d2, ↓gx]
        repeat (refine ⟨by first | omega | decide | exact fits64 (by omega) (by omega) | kernel_rfl | (intros; omega), ?_⟩)
        refine kN _ (i + 1) (by kernel_rfl) ⟨by omega, fun h => ?_⟩ (by omega)
        rw [List.take_add_one, hx, List.mem_append] at h
        rcases h with h | h
        · exact h2 h
        · simp at h; subst h; exact q2 rfl
    · have d1 : (x.1 = e.1) = False := eq_false q1
      simp (config := { maxSteps := 10000000, implicitDefEqProofs := false }) only [go_sem, ↓reduceIte, Nat.reduceAdd, Nat.reduceMul, Nat.reduceEqDiff, Nat.reduceSub, Nat.reduceLT, reduceCtorEq, Nat.reduceLeDiff, Nat.reduceBEq, mwp_draw, c1, c2, d1, ↓gx]
      repeat (refine ⟨by first | omega | decide | exact fits64 (by omega) (by omega) | kernel_rfl | (intros; omega), ?_⟩)
      refine kN _ (i + 1) (by kernel_rfl) ⟨by omega, fun h => ?_⟩ (by omega)
      rw [List.take_add_one, hx, List.mem_append] at h
      rcases h with h | h
      · exact h2 h
      · simp at h; subst h; exact q1 rfl
  · have c1 : ((i : Int) < l.length) = False := eq_false (by omega)
    simp (config := { maxSteps := 10000000, implicitDefEqProofs := false }) only [go_sem, ↓reduceIte, Nat.reduceAdd, Nat.reduceMul, Nat.reduceEqDiff, Nat.reduceSub, Nat.reduceLT, reduceCtorEq, Nat.reduceLeDiff, Nat.reduceBEq, mwp_draw, c1]
    refine kE _ _ ?_
    simp (config := { maxSteps := 10000000, implicitDefEqProofs := false }) only [go_sem, ↓reduceIte, Nat.reduceAdd, Nat.reduceMul, Nat.reduceEqDiff, Nat.reduceSub, Nat.reduceLT, reduceCtorEq, Nat.reduceLeDiff, Nat.reduceBEq, mwp_draw]
    obtain rfl : i = l.length := by omega
    rw [List.take_length] at h2
    exact mvb (decide_eq_false h2).symm
theorem dyLeveled_is (t1 t2 t3 u1 u2 u3 : Bool) (n m : Int) (es es' : List E) (ls ls' : List Int) (fs fs' : List Bool) (hl : es.length ≤ 1048576) (hl2 : ls.length ≤ 1048576) (hl3 : fs.length ≤ 1048576) :
    Is prog fid_laws_dyLeveled [.agg [.i .i64 n, .s t1 2 (encE es), .s t2 1 (encI ls), .s t3 1 (encT fs)], .agg [.i .i64 m, .s u1 2 (encE es'), .s u2 1 (encI ls'), .s u3 1 (encT fs')]]
      (.b (decide (n = m) && (decide (es = es') && (decide (ls = ls') && decide (fs = fs'))))) := by
  refine MCall.run mixed get_laws_dyLeveled ok_laws_dyLeveled (Nat.le_of_ble_eq_true rfl) (by decide) ?_
  unfold mc_laws_dyLeveled
  simp (config := { maxSteps := 10000000, implicitDefEqProofs := false }) only [go_sem, ↓reduceIte, Nat.reduceAdd, Nat.reduceMul, Nat.reduceEqDiff, Nat.reduceSub, Nat.reduceLT, reduceCtorEq, Nat.reduceLeDiff, Nat.reduceBEq, mwp_draw]
  refine callK_is (GraphSame_is _ _ n es m es' hl) ?_
  by_cases q1 : n = m
  case neg => simp only [q1, decide_false, Bool.false_and]; simp (config := { maxSteps := 10000000, implicitDefEqProofs := false }) only [go_sem, ↓reduceIte, Nat.reduceAdd, Nat.reduceMul, Nat.reduceEqDiff, Nat.reduceSub, Nat.reduceLT, reduceCtorEq, Nat.reduceLeDiff, Nat.reduceBEq, mwp_draw]
  by_cases q2 : es = es'
  case neg => simp only [q1, q2, decide_false, decide_true, Bool.true_and, Bool.false_and]; simp (config := { maxSteps := 10000000, implicitDefEqProofs := false }) only [go_sem, ↓reduceIte, Nat.reduceAdd, Nat.reduceMul, Nat.reduceEqDiff, Nat.reduceSub, Nat.reduceLT, reduceCtorEq, Nat.reduceLeDiff, Nat.reduceBEq, mwp_draw]
  simp only [q1, q2, decide_true, Bool.true_and]
  simp (config := { maxSteps := 10000000, implicitDefEqProofs := false }) only [go_sem, ↓reduceIte, Nat.reduceAdd, Nat.reduceMul, Nat.reduceEqDiff, Nat.reduceSub, Nat.reduceLT, reduceCtorEq, Nat.reduceLeDiff, Nat.reduceBEq, mwp_draw]
  refine callK_is (dyInts_is _ _ ls ls' (by omega)) ?_
  by_cases q3 : ls = ls'
  case neg => simp only [q3, decide_false, Bool.false_and]; simp (config := { maxSteps := 10000000, implicitDefEqProofs := false }) only [go_sem, ↓reduceIte, Nat.reduceAdd, Nat.reduceMul, Nat.reduceEqDiff, Nat.reduceSub, Nat.reduceLT, reduceCtorEq, Nat.reduceLeDiff, Nat.reduceBEq, mwp_draw]
  simp only [q3, decide_true, Bool.true_and]
  by_cases q4 : fs.length = fs'.length
  case neg =>
    have c0 : ((fs.length : Int) = fs'.length) = False := eq_false (by omega)
    have : fs ≠ fs' := fun q => by subst q; exact q4 rfl
    simp only [this, decide_false]
    simp (config := { maxSteps := 10000000, implicitDefEqProofs := false }) only [go_sem, ↓reduceIte, Nat.reduceAdd, Nat.reduceMul, Nat.reduceEqDiff, Nat.reduceSub, Nat.reduceLT, reduceCtorEq, Nat.reduceLeDiff, Nat.reduceBEq, mwp_draw, c0]
  have c0 : ((fs.length : Int) = fs'.length) = True := eq_true (by omega)
  simp (config := { maxSteps := 10000000, implicitDefEqProofs := false }) only [go_sem, ↓reduceIte, Nat.reduceAdd, Nat.reduceMul, Nat.reduceEqDiff, Nat.reduceSub, Nat.reduceLT, reduceCtorEq, Nat.reduceLeDiff, Nat.reduceBEq, mwp_draw, c0]
  refine mwp_loopk (X := Nat) (fun i => ⟨[(2, .pr 0 0 0), (3, .pr 1 0 0), (5, .i .i64 i)], [(0, .box [.i .i64 m, .s t1 2 (encE es'), .s t2 1 (encI ls'), .s t3 1 (encT fs)]), (1, .box [.i .i64 m, .s u1 2 (encE es'), .s u2 1 (encI ls'), .s u3 1 (encT fs')])], 2⟩)
    (fun i => i ≤ fs.length ∧ fs.take i = fs'.take i) (fun i => fs.length - i) 0 (by rfl) (by simp) ?_
  rintro i ⟨h1, h2⟩ K kN kE kR
  by_cases hi : i < fs.length
  · obtain ⟨x, hx⟩ : ∃ x, fs[i]? = some x := ⟨_, List.getElem?_eq_getElem hi⟩
    obtain ⟨y, hy⟩ : ∃ y, fs'[i]? = some y := ⟨_, List.getElem?_eq_getElem (by omega)⟩
    have gx := goneD hx
    have gy := goneD hy
    have c1 : ((i : Int) < fs.length) = True := eq_true (by omega)
    have c2 : (i < fs.length) = True := eq_true hi
    have c3 : ((i : Int) < fs'.length) = True := eq_true (by omega)
    have c4 : (i < fs'.length) = True := eq_true (by omega)
    by_cases q : x = y
    · have e : (x == y) = true := by simp [q]
      simp (config := { maxSteps := 10000000, implicitDefEqProofs := false }) only [go_sem, ↓reduceIte, Nat.reduceAdd, Nat.reduceMul, Nat.reduceEqDiff, Nat.reduceSub, Nat.reduceLT, reduceCtorEq, Nat.reduceLeDiff, Nat.reduceBEq, mwp_draw, c1, c2, c3, c4, e, ↓gx, ↓gy]
      repeat (refine ⟨by first | omega | decide | exact fits64 (by omega) (by omega) | kernel_rfl | (intros; omega), ?_⟩)
      exact kN _ (i + 1) (by kernel_rfl) ⟨by omega, eq_step h2 hx hy (by simpa using q)⟩ (by omega)
    · have e : (x == y) = false := by simp [q]
      simp (config := { maxSteps := 10000000, implicitDefEqProofs := false }) only [go_sem, ↓reduceIte, Nat.reduceAdd, Nat.reduceMul, Nat.reduceEqDiff, Nat.reduceSub, Nat.reduceLT, reduceCtorEq, Nat.reduceLeDiff, Nat.reduceBEq, mwp_draw, c1, c2, c3, c4, e, ↓gx, ↓gy]
      repeat (refine ⟨by first | omega | decide | exact fits64 (by omega) (by omega) | kernel_rfl | (intros; omega), ?_⟩)
      refine kR _ ?_
      simp (config := { maxSteps := 10000000, implicitDefEqProofs := false }) only [go_sem, ↓reduceIte, Nat.reduceAdd, Nat.reduceMul, Nat.reduceEqDiff, Nat.reduceSub, Nat.reduceLT, reduceCtorEq, Nat.reduceLeDiff, Nat.reduceBEq, mwp_draw]
      exact mvb (eq_ne hx hy (by simpa using q)).symm
  · have c1 : ((i : Int) < fs.length) = False := eq_false (by omega)
    simp (config := { maxSteps := 10000000, implicitDefEqProofs := false }) only [go_sem, ↓reduceIte, Nat.reduceAdd, Nat.reduceMul, Nat.reduceEqDiff, Nat.reduceSub, Nat.reduceLT, reduceCtorEq, Nat.reduceLeDiff, Nat.reduceBEq, mwp_draw, c1]
    refine kE _ _ ?_
    simp (config := { maxSteps := 10000000, implicitDefEqProofs := false }) only [go_sem, ↓reduceIte, Nat.reduceAdd, Nat.reduceMul, Nat.reduceEqDiff, Nat.reduceSub, Nat.reduceLT, reduceCtorEq, Nat.reduceLeDiff, Nat.reduceBEq, mwp_draw]
    obtain rfl : i = fs.length := by omega
    exact mvb (eq_end (by omega) h2).symm
end Go.Fw
