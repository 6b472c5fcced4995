/-
  Levels: the edges of a level and above, in the implementation.
-/
import Derived.Test.YtfjekgjhhmkgoaaCtR
namespace Go.Fw
set_option linter.unusedSimpArgs false
set_option linter.unusedVariables false
set_option maxRecDepth 100000
set_option maxHeartbeats 4000000
open Go.Proofs.Try (prog)
open Go.Pl

theorem above_is (t1 t2 t3 : Bool) (n : Int) (es : List E) (ls : List Int) (fs : List Bool) (k : Int) (b : Bool) (hl : es.length ≤ 1048576) (h1 : ls.length = es.length) (h2 : fs.length = es.length) :
    Is prog fid_impl_Leveled_above [Lv t1 t2 t3 n es ls fs, .i .i64 k, .b b] (.agg [.i .i64 n, .ow true 2 (encE (lvL es ls fs k b es.length))]) := by
  refine MCall.run mixed get_impl_Leveled_above ok_impl_Leveled_above (Nat.le_of_ble_eq_true rfl) (by decide) ?_
  unfold mc_impl_Leveled_above
  simp (config := { maxSteps := 10000000, implicitDefEqProofs := false }) only [go_sem, ↓reduceIte, Nat.reduceAdd, Nat.reduceMul, Nat.reduceEqDiff, Nat.reduceSub, Nat.reduceLT, reduceCtorEq, Nat.reduceLeDiff, Nat.reduceBEq, mwp_draw]
  refine mwp_loopk (X := Nat × List E) (fun x => ⟨[(1, .i .i64 k), (2, .b b), (3, .pr 0 0 0), (6, .pr 1 0 0), (7, .pr 2 0 0), (16, .s t1 2 (encE es)), (17, .i .i64 es.length), (18, .i .i64 (x.1 : Int))],
      match x.2 with
      | [] => [(0, .box [.i .i64 n, .s t1 2 (encE es), .s t2 1 (encI ls), .s t3 1 (encT fs)]), (1, .box [.i .i64 0, .nl 2]), (2, .box [.i .i64 n, .nl 2])]
      | _ :: _ => [(0, .box [.i .i64 n, .s t1 2 (encE es), .s t2 1 (encI ls), .s t3 1 (encT fs)]), (1, .box [.i .i64 0, .nl 2]), (2, .box [.i .i64 n, .sr 3 0 x.2.length]), (3, .arr true 2 (encE x.2))],
      match x.2 with | [] => 3 | _ :: _ => 4⟩)
    (fun x => x.1 ≤ es.length ∧ x.2 = lvL es ls fs k b x.1) (fun x => es.length - x.1) (0, []) (by rfl) ⟨by simp, rfl⟩ ?_
  rintro ⟨i, out⟩ ⟨g1, g2⟩ K kN kE kR
  simp only at g1 g2
  have gl := lvL_len es ls fs k b i
  rw [← g2] at gl
  cases out with
  | nil =>
    simp (config := { maxSteps := 10000000, implicitDefEqProofs := false }) only [go_sem, ↓reduceIte, Nat.reduceAdd, Nat.reduceMul, Nat.reduceEqDiff, Nat.reduceSub, Nat.reduceLT, reduceCtorEq, Nat.reduceLeDiff, Nat.reduceBEq]
    refine ⟨fun c1 => ⟨by omega, c1, fun e he => ⟨by omega, by omega, fun x hx => ⟨fun c2 => ?_, fun c2 => ?_⟩⟩⟩, fun c1 => kE _ _ ?_⟩
    · obtain ⟨f, hf⟩ : ∃ f, fs[i]? = some f := ⟨fs[i], List.getElem?_eq_getElem (by omega)⟩
      have yes : lvT ls fs k b i = true → lvL es ls fs k b (i + 1) = [] ++ [e] := fun q => by simp only [lvL, q, if_true, he, Option.getD_some]; rw [← g2]
      have no : lvT ls fs k b i = false → lvL es ls fs k b (i + 1) = [] := fun q => by simp only [lvL, q, Bool.false_eq_true, if_false]; exact g2.symm
      have gl' := gl
      simp only [List.length_cons, List.length_nil] at gl'
      cases b
      · have w := yes (by simp [lvT, hx, hf, c2])
        simp (config := { maxSteps := 10000000, implicitDefEqProofs := false }) only [go_sem, ↓reduceIte, Nat.reduceAdd, Nat.reduceMul, Nat.reduceEqDiff, Nat.reduceSub, Nat.reduceLT, reduceCtorEq, Nat.reduceLeDiff, Nat.reduceBEq, mwp_draw]
        exact ⟨by omega, fits64 (by omega) (by omega), kN _ (i + 1, [e]) (by simp; rfl) ⟨by simp only; omega, by simp only; rw [w]; simp⟩ (by simp only; omega)⟩
      · simp (config := { maxSteps := 10000000, implicitDefEqProofs := false }) only [go_sem, ↓reduceIte, Nat.reduceAdd, Nat.reduceMul, Nat.reduceEqDiff, Nat.reduceSub, Nat.reduceLT, reduceCtorEq, Nat.reduceLeDiff, Nat.reduceBEq, mwp_draw]
        refine ⟨by omega, by omega, fun f' hf' => ?_⟩
        obtain rfl : f = f' := by rw [hf] at hf'; exact Option.some.inj hf'
        cases f
        · have w := no (by simp [lvT, hx, hf, c2])
          simp (config := { maxSteps := 10000000, implicitDefEqProofs := false }) only [go_sem, ↓reduceIte, Nat.reduceAdd, Nat.reduceMul, Nat.reduceEqDiff, Nat.reduceSub, Nat.reduceLT, reduceCtorEq, Nat.reduceLeDiff, Nat.reduceBEq, mwp_draw]
          exact ⟨fits64 (by omega) (by omega), kN _ (i + 1, []) (by rfl) ⟨by simp only; omega, by simp only; rw [w]⟩ (by simp only; omega)⟩
        · have w := yes (by simp [lvT, hx, hf, c2])
          simp (config := { maxSteps := 10000000, implicitDefEqProofs := false }) only [go_sem, ↓reduceIte, Nat.reduceAdd, Nat.reduceMul, Nat.reduceEqDiff, Nat.reduceSub, Nat.reduceLT, reduceCtorEq, Nat.reduceLeDiff, Nat.reduceBEq, mwp_draw]
          exact ⟨by omega, fits64 (by omega) (by omega), kN _ (i + 1, [e]) (by simp; rfl) ⟨by simp only; omega, by simp only; rw [w]; simp⟩ (by simp only; omega)⟩
    · have w : lvL es ls fs k b (i + 1) = [] := by simp only [lvL, lvT, hx, Option.getD_some, c2, decide_false, Bool.false_and, Bool.false_eq_true, if_false]; exact g2.symm
      exact ⟨fits64 (by omega) (by omega), kN _ (i + 1, []) (by rfl) ⟨by simp only; omega, by simp only; rw [w]⟩ (by simp only; omega)⟩
    · simp (config := { maxSteps := 10000000, implicitDefEqProofs := false }) only [go_sem, ↓reduceIte, Nat.reduceAdd, Nat.reduceMul, Nat.reduceEqDiff, Nat.reduceSub, Nat.reduceLT, reduceCtorEq, Nat.reduceLeDiff, Nat.reduceBEq, mwp_draw]
      obtain rfl : i = es.length := by omega
      first | (rw [← g2]; done) | (rw [← g2]; rfl)
  | cons d r =>
    simp (config := { maxSteps := 10000000, implicitDefEqProofs := false }) only [go_sem, ↓reduceIte, Nat.reduceAdd, Nat.reduceMul, Nat.reduceEqDiff, Nat.reduceSub, Nat.reduceLT, reduceCtorEq, Nat.reduceLeDiff, Nat.reduceBEq]
    refine ⟨fun c1 => ⟨by omega, c1, fun e he => ⟨by omega, by omega, fun x hx => ⟨fun c2 => ?_, fun c2 => ?_⟩⟩⟩, fun c1 => kE _ _ ?_⟩
    · obtain ⟨f, hf⟩ : ∃ f, fs[i]? = some f := ⟨fs[i], List.getElem?_eq_getElem (by omega)⟩
      have yes : lvT ls fs k b i = true → lvL es ls fs k b (i + 1) = (d :: r) ++ [e] := fun q => by simp only [lvL, q, if_true, he, Option.getD_some]; rw [← g2]
      have no : lvT ls fs k b i = false → lvL es ls fs k b (i + 1) = (d :: r) := fun q => by simp only [lvL, q, Bool.false_eq_true, if_false]; exact g2.symm
      have gl' := gl
      simp only [List.length_cons, List.length_nil] at gl'
      cases b
      · have w := yes (by simp [lvT, hx, hf, c2])
        simp (config := { maxSteps := 10000000, implicitDefEqProofs := false }) only [go_sem, ↓reduceIte, Nat.reduceAdd, Nat.reduceMul, Nat.reduceEqDiff, Nat.reduceSub, Nat.reduceLT, reduceCtorEq, Nat.reduceLeDiff, Nat.reduceBEq, mwp_draw]
        exact ⟨by omega, fits64 (by omega) (by omega), kN _ (i + 1, d :: (r ++ [e])) (by simp; rfl) ⟨by simp only; omega, by simp only; rw [w]; simp⟩ (by simp only; omega)⟩
      · simp (config := { maxSteps := 10000000, implicitDefEqProofs := false }) only [go_sem, ↓reduceIte, Nat.reduceAdd, Nat.reduceMul, Nat.reduceEqDiff, Nat.reduceSub, Nat.reduceLT, reduceCtorEq, Nat.reduceLeDiff, Nat.reduceBEq, mwp_draw]
        refine ⟨by omega, by omega, fun f' hf' => ?_⟩
        obtain rfl : f = f' := by rw [hf] at hf'; exact Option.some.inj hf'
        cases f
        · have w := no (by simp [lvT, hx, hf, c2])
          simp (config := { maxSteps := 10000000, implicitDefEqProofs := false }) only [go_sem, ↓reduceIte, Nat.reduceAdd, Nat.reduceMul, Nat.reduceEqDiff, Nat.reduceSub, Nat.reduceLT, reduceCtorEq, Nat.reduceLeDiff, Nat.reduceBEq, mwp_draw]
          exact ⟨fits64 (by omega) (by omega), kN _ (i + 1, (d :: r)) (by rfl) ⟨by simp only; omega, by simp only; rw [w]⟩ (by simp only; omega)⟩
        · have w := yes (by simp [lvT, hx, hf, c2])
          simp (config := { maxSteps := 10000000, implicitDefEqProofs := false }) only [go_sem, ↓reduceIte, Nat.reduceAdd, Nat.reduceMul, Nat.reduceEqDiff, Nat.reduceSub, Nat.reduceLT, reduceCtorEq, Nat.reduceLeDiff, Nat.reduceBEq, mwp_draw]
          exact ⟨by omega, fits64 (by omega) (by omega), kN _ (i + 1, d :: (r ++ [e])) (by simp; rfl) ⟨by simp only; omega, by simp only; rw [w]; simp⟩ (by simp only; omega)⟩
    · have w : lvL es ls fs k b (i + 1) = (d :: r) := by simp only [lvL, lvT, hx, Option.getD_some, c2, decide_false, Bool.false_and, Bool.false_eq_true, if_false]; exact g2.symm
      exact ⟨fits64 (by omega) (by omega), kN _ (i + 1, (d :: r)) (by rfl) ⟨by simp only; omega, by simp only; rw [w]⟩ (by simp only; omega)⟩
    · simp (config := { maxSteps := 10000000, implicitDefEqProofs := false }) only [go_sem, ↓reduceIte, Nat.reduceAdd, Nat.reduceMul, Nat.reduceEqDiff, Nat.reduceSub, Nat.reduceLT, reduceCtorEq, Nat.reduceLeDiff, Nat.reduceBEq, mwp_draw]
      obtain rfl : i = es.length := by omega
      first | (rw [← g2]; done) | (rw [← g2]; rfl)
end Go.Fw
