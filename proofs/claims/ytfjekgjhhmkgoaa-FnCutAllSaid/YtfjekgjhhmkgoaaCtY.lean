/-
  Levels: their sum, the forest of a level.
-/
import Derived.Test.YtfjekgjhhmkgoaaCtV2
namespace Go.Fw
set_option linter.unusedSimpArgs false
set_option linter.unusedVariables false
set_option maxRecDepth 100000
set_option maxHeartbeats 4000000
open Go.Proofs.Try (prog)
open Go.Pl

theorem lvB_get {n : Int} {es : List E} {ls : List Int} {fs : List Bool} (h : lvB n es ls fs = true) : GV n es ∧ ls.length = es.length ∧ fs.length = es.length ∧ (∀ x ∈ ls, 0 ≤ x ∧ x ≤ 4) := by
  simp only [lvB, Bool.and_eq_true, decide_eq_true_eq, List.all_eq_true] at h
  refine ⟨gvB_iff.1 h.1, h.2.1, h.2.2.1, fun x hx => ?_⟩
  have := h.2.2.2.1 x hx
  simpa [lvK] using this
def sumI : List Int → Int
  | [] => 0
  | x :: r => x + sumI r
theorem sumI_app : ∀ (a b : List Int), sumI (a ++ b) = sumI a + sumI b
  | [], b => by simp [sumI]
  | x :: a, b => by rw [List.cons_append, sumI, sumI, sumI_app a b]; omega
theorem sumI_next {l : List Int} {i : Nat} {x : Int} (hx : l[i]? = some x) : sumI (l.take (i + 1)) = sumI (l.take i) + x := by
  rw [take_snoc hx, sumI_app]; simp [sumI]
theorem sumI_rng : ∀ {l : List Int}, (∀ x ∈ l, 0 ≤ x ∧ x ≤ 4) → 0 ≤ sumI l ∧ sumI l ≤ 4 * l.length
  | [], _ => by simp [sumI]
  | x :: l, h => by
    have ih := sumI_rng (l := l) (fun y hy => h y (List.mem_cons_of_mem _ hy))
    have := h x (by simp)
    simp only [sumI, List.length_cons]; omega
def smV (n : Int) (es : List E) (ls : List Int) (fs : List Bool) : Int := if lvB n es ls fs then sumI ls else 0
theorem SumLevels_is (t1 t2 t3 : Bool) (n : Int) (es : List E) (ls : List Int) (fs : List Bool) (hl : es.length ≤ 1048576) (hl2 : ls.length ≤ 1048576) (hl3 : fs.length ≤ 1048576) :
    Is prog fid_impl_SumLevels [Lv t1 t2 t3 n es ls fs] (.tup [.i .i64 (smV n es ls fs), .b (lvB n es ls fs)]) := by
  refine MCall.run mixed get_impl_SumLevels ok_impl_SumLevels (Nat.le_of_ble_eq_true rfl) (by decide) ?_
  unfold mc_impl_SumLevels
  simp (config := { maxSteps := 10000000, implicitDefEqProofs := false }) only [go_sem, ↓reduceIte, Nat.reduceAdd, Nat.reduceMul, Nat.reduceEqDiff, Nat.reduceSub, Nat.reduceLT, reduceCtorEq, Nat.reduceLeDiff, Nat.reduceBEq, mwp_draw]
  refine callK_is (LevelsValid_is _ _ _ n es ls fs hl hl2 hl3) ?_
  cases h : lvB n es ls fs
  · simp (config := { maxSteps := 10000000, implicitDefEqProofs := false }) only [go_sem, ↓reduceIte, Nat.reduceAdd, Nat.reduceMul, Nat.reduceEqDiff, Nat.reduceSub, Nat.reduceLT, reduceCtorEq, Nat.reduceLeDiff, Nat.reduceBEq, mwp_draw]
    simp [smV, h]
  obtain ⟨h1, h2, h3, h4⟩ := lvB_get h
  simp (config := { maxSteps := 10000000, implicitDefEqProofs := false }) only [go_sem, ↓reduceIte, Nat.reduceAdd, Nat.reduceMul, Nat.reduceEqDiff, Nat.reduceSub, Nat.reduceLT, reduceCtorEq, Nat.reduceLeDiff, Nat.reduceBEq, mwp_draw]
  refine mwp_loopk (X := Nat) (fun i => ⟨[(4, .i .i64 (sumI (ls.take i))), (11, .s t2 1 (encI ls)), (12, .i .i64 ls.length), (13, .i .i64 i)], [], 0⟩) (fun i => i ≤ ls.length) (fun i => ls.length - i) 0 (by rfl) (Nat.zero_le _) ?_
  rintro i g1 K kN kE kR
  have hr := sumI_rng (l := ls.take i) (fun x hx => h4 x (List.mem_of_mem_take hx))
  have hle : (ls.take i).length ≤ 1048576 := by simp; omega
  simp (config := { maxSteps := 10000000, implicitDefEqProofs := false }) only [go_sem, ↓reduceIte, Nat.reduceAdd, Nat.reduceMul, Nat.reduceEqDiff, Nat.reduceSub, Nat.reduceLT, reduceCtorEq, Nat.reduceLeDiff, Nat.reduceBEq, mwp_draw]
  refine ⟨fun c => ?_, fun c => kE _ _ ?_⟩
  · repeat (refine ⟨by first | omega | decide | exact fits64 (by omega) (by omega) | kernel_rfl | (intros; omega), ?_⟩)
    intro x hx
    have hx4 := h4 x (List.mem_of_getElem? hx)
    repeat (refine ⟨by first | omega | decide | exact fits64 (by omega) (by omega) | kernel_rfl | (intros; omega), ?_⟩)
    exact kN _ (i + 1) (by rw [sumI_next hx]; rfl) (by omega) (by omega)
  · simp (config := { maxSteps := 10000000, implicitDefEqProofs := false }) only [go_sem, ↓reduceIte, Nat.reduceAdd, Nat.reduceMul, Nat.reduceEqDiff, Nat.reduceSub, Nat.reduceLT, reduceCtorEq, Nat.reduceLeDiff, Nat.reduceBEq, mwp_draw]
    obtain rfl : i = ls.length := by omega
    rw [List.take_length, smV, h]
    rfl
theorem SumLevelsS_is (t1 t2 t3 : Bool) (n : Int) (es : List E) (ls : List Int) (fs : List Bool) (hl : es.length ≤ 1048576) (hl2 : ls.length ≤ 1048576) (hl3 : fs.length ≤ 1048576) :
    Is prog fid_spec_SumLevels [Lv t1 t2 t3 n es ls fs] (.tup [.i .i64 (smV n es ls fs), .b (lvB n es ls fs)]) := by
  refine MCall.run mixed get_spec_SumLevels ok_spec_SumLevels (Nat.le_of_ble_eq_true rfl) (by decide) ?_
  unfold mc_spec_SumLevels
  simp (config := { maxSteps := 10000000, implicitDefEqProofs := false }) only [go_sem, ↓reduceIte, Nat.reduceAdd, Nat.reduceMul, Nat.reduceEqDiff, Nat.reduceSub, Nat.reduceLT, reduceCtorEq, Nat.reduceLeDiff, Nat.reduceBEq, mwp_draw]
  refine callK_is (LevelsValidS_is _ _ _ n es ls fs hl hl2 hl3) ?_
  cases h : lvB n es ls fs
  · simp (config := { maxSteps := 10000000, implicitDefEqProofs := false }) only [go_sem, ↓reduceIte, Nat.reduceAdd, Nat.reduceMul, Nat.reduceEqDiff, Nat.reduceSub, Nat.reduceLT, reduceCtorEq, Nat.reduceLeDiff, Nat.reduceBEq, mwp_draw]
    simp [smV, h]
  obtain ⟨h1, h2, h3, h4⟩ := lvB_get h
  simp (config := { maxSteps := 10000000, implicitDefEqProofs := false }) only [go_sem, ↓reduceIte, Nat.reduceAdd, Nat.reduceMul, Nat.reduceEqDiff, Nat.reduceSub, Nat.reduceLT, reduceCtorEq, Nat.reduceLeDiff, Nat.reduceBEq, mwp_draw]
  refine mwp_loopk (X := Nat) (fun i => ⟨[(1, .pr 0 0 0), (4, .i .i64 (sumI (ls.take i))), (5, .i .i64 i)], [(0, .box [.i .i64 n, .s t1 2 (encE es), .s t2 1 (encI ls), .s t3 1 (encT fs)])], 1⟩) (fun i => i ≤ ls.length) (fun i => ls.length - i) 0 (by rfl) (Nat.zero_le _) ?_
  rintro i g1 K kN kE kR
  have hr := sumI_rng (l := ls.take i) (fun x hx => h4 x (List.mem_of_mem_take hx))
  have hle : (ls.take i).length ≤ 1048576 := by simp; omega
  simp (config := { maxSteps := 10000000, implicitDefEqProofs := false }) only [go_sem, ↓reduceIte, Nat.reduceAdd, Nat.reduceMul, Nat.reduceEqDiff, Nat.reduceSub, Nat.reduceLT, reduceCtorEq, Nat.reduceLeDiff, Nat.reduceBEq, mwp_draw]
  refine ⟨fun c => ?_, fun c => kE _ _ ?_⟩
  · repeat (refine ⟨by first | omega | decide | exact fits64 (by omega) (by omega) | kernel_rfl | (intros; omega), ?_⟩)
    intro x hx
    have hx4 := h4 x (List.mem_of_getElem? hx)
    repeat (refine ⟨by first | omega | decide | exact fits64 (by omega) (by omega) | kernel_rfl | (intros; omega), ?_⟩)
    exact kN _ (i + 1) (by rw [sumI_next hx]; rfl) (by omega) (by omega)
  · simp (config := { maxSteps := 10000000, implicitDefEqProofs := false }) only [go_sem, ↓reduceIte, Nat.reduceAdd, Nat.reduceMul, Nat.reduceEqDiff, Nat.reduceSub, Nat.reduceLT, reduceCtorEq, Nat.reduceLeDiff, Nat.reduceBEq, mwp_draw]
    obtain rfl : i = ls.length := by omega
    rw [List.take_length, smV, h]
    rfl
def lfB (n : Int) (es : List E) (ls : List Int) (fs : List Bool) (k : Int) : Bool := lvB n es ls fs && lvK k
def lfE (n : Int) (es : List E) (ls : List Int) (fs : List Bool) (k : Int) : List E := if lfB n es ls fs k then upL es ls fs k true else []
theorem lfE_len {n : Int} {es : List E} {ls : List Int} {fs : List Bool} {k : Int} : (lfE n es ls fs k).length ≤ 40 := by
  unfold lfE
  split
  · rename_i h
    simp only [lfB, Bool.and_eq_true] at h
    exact Nat.le_trans (lvL_len es ls fs k true _) (lvB_get h.1).1.2.2.1
  · simp
theorem LevelForest_is (t1 t2 t3 : Bool) (n : Int) (es : List E) (ls : List Int) (fs : List Bool) (k : Int) (hl : es.length ≤ 1048576) (hl2 : ls.length ≤ 1048576) (hl3 : fs.length ≤ 1048576) :
    Is prog fid_impl_LevelForest [Lv t1 t2 t3 n es ls fs, .i .i64 k] (.tup [.ow true 2 (encE (lfE n es ls fs k)), .b (lfB n es ls fs k)]) := by
  refine MCall.run mixed get_impl_LevelForest ok_impl_LevelForest (Nat.le_of_ble_eq_true rfl) (by decide) ?_
  unfold mc_impl_LevelForest
  simp (config := { maxSteps := 10000000, implicitDefEqProofs := false }) only [go_sem, ↓reduceIte, Nat.reduceAdd, Nat.reduceMul, Nat.reduceEqDiff, Nat.reduceSub, Nat.reduceLT, reduceCtorEq, Nat.reduceLeDiff, Nat.reduceBEq, mwp_draw]
  refine callK_is (LevelsValid_is _ _ _ n es ls fs hl hl2 hl3) ?_
  cases h : lvB n es ls fs
  · simp (config := { maxSteps := 10000000, implicitDefEqProofs := false }) only [go_sem, ↓reduceIte, Nat.reduceAdd, Nat.reduceMul, Nat.reduceEqDiff, Nat.reduceSub, Nat.reduceLT, reduceCtorEq, Nat.reduceLeDiff, Nat.reduceBEq, mwp_draw]
    simp [lfE, lfB, h, encE]
  obtain ⟨h1, h2, h3, h4⟩ := lvB_get h
  by_cases c1 : k < 0
  · simp (config := { maxSteps := 10000000, implicitDefEqProofs := false }) only [go_sem, ↓reduceIte, Nat.reduceAdd, Nat.reduceMul, Nat.reduceEqDiff, Nat.reduceSub, Nat.reduceLT, reduceCtorEq, Nat.reduceLeDiff, Nat.reduceBEq, mwp_draw, c1]
    have : lfB n es ls fs k = false := by simp [lfB, h, lvK]; omega
    simp [lfE, this, encE]
  by_cases c2 : 4 < k
  · simp (config := { maxSteps := 10000000, implicitDefEqProofs := false }) only [go_sem, ↓reduceIte, Nat.reduceAdd, Nat.reduceMul, Nat.reduceEqDiff, Nat.reduceSub, Nat.reduceLT, reduceCtorEq, Nat.reduceLeDiff, Nat.reduceBEq, mwp_draw, c1, c2]
    have : lfB n es ls fs k = false := by simp [lfB, h, lvK]; omega
    simp [lfE, this, encE]
  simp (config := { maxSteps := 10000000, implicitDefEqProofs := false }) only [go_sem, ↓reduceIte, Nat.reduceAdd, Nat.reduceMul, Nat.reduceEqDiff, Nat.reduceSub, Nat.reduceLT, reduceCtorEq, Nat.reduceLeDiff, Nat.reduceBEq, mwp_draw, c1, c2]
  refine callK_is (above_is _ _ _ n es ls fs k true hl h2 h3) ?_
  simp (config := { maxSteps := 10000000, implicitDefEqProofs := false }) only [go_sem, ↓reduceIte, Nat.reduceAdd, Nat.reduceMul, Nat.reduceEqDiff, Nat.reduceSub, Nat.reduceLT, reduceCtorEq, Nat.reduceLeDiff, Nat.reduceBEq, mwp_draw]
  have : lfB n es ls fs k = true := by simp [lfB, h, lvK]; omega
  simp [lfE, this]
theorem LevelForestS_is (t1 t2 t3 : Bool) (n : Int) (es : List E) (ls : List Int) (fs : List Bool) (k : Int) (hl : es.length ≤ 1048576) (hl2 : ls.length ≤ 1048576) (hl3 : fs.length ≤ 1048576) :
    Is prog fid_spec_LevelForest [Lv t1 t2 t3 n es ls fs, .i .i64 k] (.tup [.ow true 2 (encE (lfE n es ls fs k)), .b (lfB n es ls fs k)]) := by
  refine MCall.run mixed get_spec_LevelForest ok_spec_LevelForest (Nat.le_of_ble_eq_true rfl) (by decide) ?_
  unfold mc_spec_LevelForest
  simp (config := { maxSteps := 10000000, implicitDefEqProofs := false }) only [go_sem, ↓reduceIte, Nat.reduceAdd, Nat.reduceMul, Nat.reduceEqDiff, Nat.reduceSub, Nat.reduceLT, reduceCtorEq, Nat.reduceLeDiff, Nat.reduceBEq, mwp_draw]
  refine callK_is (LevelsValidS_is _ _ _ n es ls fs hl hl2 hl3) ?_
  cases h : lvB n es ls fs
  · simp (config := { maxSteps := 10000000, implicitDefEqProofs := false }) only [go_sem, ↓reduceIte, Nat.reduceAdd, Nat.reduceMul, Nat.reduceEqDiff, Nat.reduceSub, Nat.reduceLT, reduceCtorEq, Nat.reduceLeDiff, Nat.reduceBEq, mwp_draw]
    simp [lfE, lfB, h, encE]
  obtain ⟨h1, h2, h3, h4⟩ := lvB_get h
  by_cases c1 : k < 0
  · simp (config := { maxSteps := 10000000, implicitDefEqProofs := false }) only [go_sem, ↓reduceIte, Nat.reduceAdd, Nat.reduceMul, Nat.reduceEqDiff, Nat.reduceSub, Nat.reduceLT, reduceCtorEq, Nat.reduceLeDiff, Nat.reduceBEq, mwp_draw, c1]
    have : lfB n es ls fs k = false := by simp [lfB, h, lvK]; omega
    simp [lfE, this, encE]
  by_cases c2 : 4 < k
  · simp (config := { maxSteps := 10000000, implicitDefEqProofs := false }) only [go_sem, ↓reduceIte, Nat.reduceAdd, Nat.reduceMul, Nat.reduceEqDiff, Nat.reduceSub, Nat.reduceLT, reduceCtorEq, Nat.reduceLeDiff, Nat.reduceBEq, mwp_draw, c1, c2]
    have : lfB n es ls fs k = false := by simp [lfB, h, lvK]; omega
    simp [lfE, this, encE]
  simp (config := { maxSteps := 10000000, implicitDefEqProofs := false }) only [go_sem, ↓reduceIte, Nat.reduceAdd, Nat.reduceMul, Nat.reduceEqDiff, Nat.reduceSub, Nat.reduceLT, reduceCtorEq, Nat.reduceLeDiff, Nat.reduceBEq, mwp_draw, c1, c2]
  refine callK_is (l7At_is _ _ _ n es ls fs k true hl h2 h3) ?_
  simp (config := { maxSteps := 10000000, implicitDefEqProofs := false }) only [go_sem, ↓reduceIte, Nat.reduceAdd, Nat.reduceMul, Nat.reduceEqDiff, Nat.reduceSub, Nat.reduceLT, reduceCtorEq, Nat.reduceLeDiff, Nat.reduceBEq, mwp_draw]
  have : lfB n es ls fs k = true := by simp [lfB, h, lvK]; omega
  simp [lfE, this]
end Go.Fw
