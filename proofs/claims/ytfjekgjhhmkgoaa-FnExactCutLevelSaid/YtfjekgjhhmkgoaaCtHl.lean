/-
  The laws' small helpers: truth values, graphs with levels.
-/
import Derived.Test.YtfjekgjhhmkgoaaCtHg
namespace Go.Fw
set_option linter.unusedSimpArgs false
set_option linter.unusedVariables false
set_option maxRecDepth 100000
set_option maxHeartbeats 4000000
open Go.Proofs.Try (prog)
open Go.Pl

theorem szBoolS_is (t : Bool) (l : List Bool) (left : Int) (h0 : 0 ≤ left ∧ left ≤ 1048576) (hl : l.length ≤ 9223372036854775807) :
    Is prog fid_laws_szBoolS [.s t 1 (encT l), .i .i64 left] (.i .i64 (szN l.length left)) := by
  refine MCall.run mixed get_laws_szBoolS ok_laws_szBoolS (Nat.le_of_ble_eq_true rfl) (by decide) ?_
  unfold mc_laws_szBoolS
  simp (config := { maxSteps := 10000000, implicitDefEqProofs := false }) only [go_sem, ↓reduceIte, Nat.reduceAdd, Nat.reduceMul, Nat.reduceEqDiff, Nat.reduceSub, Nat.reduceLT, reduceCtorEq, Nat.reduceLeDiff, Nat.reduceBEq, mwp_draw]
  exact ⟨fits64 (by omega) (by omega), fun h => mvi (by rw [szN, if_pos h]), fun h => mvi (by rw [szN, if_neg h])⟩
theorem toBoolS_is (t : Bool) (l : List Bool) (hl : l.length ≤ 1048576) : Is prog fid_laws_toBoolS [.s t 1 (encT l)] (.ow true 1 (encT l)) := by
  refine MCall.run mixed get_laws_toBoolS ok_laws_toBoolS (Nat.le_of_ble_eq_true rfl) (by decide) ?_
  unfold mc_laws_toBoolS
  simp (config := { maxSteps := 10000000, implicitDefEqProofs := false }) only [go_sem, ↓reduceIte, Nat.reduceAdd, Nat.reduceMul, Nat.reduceEqDiff, Nat.reduceSub, Nat.reduceLT, reduceCtorEq, Nat.reduceLeDiff, Nat.reduceBEq, mwp_draw]
  refine ⟨by omega, by omega, ?_⟩
  refine mwp_loopk (X := Nat × List Bool) (fun x => ⟨[(0, .s t 1 (encT l)), (3, .sr 0 0 l.length), (4, .i .i64 x.1)], [(0, .arr true 1 (encT x.2))], 1⟩)
    (fun x => x.1 ≤ l.length ∧ x.2.length = l.length ∧ x.2.take x.1 = l.take x.1) (fun x => l.length - x.1) (0, List.replicate l.length false) rfl (by simp) ?_
  rintro ⟨i, m⟩ ⟨h1, h2, h3⟩ K kN kE kR
  simp only at h1 h2 h3
  simp (config := { maxSteps := 10000000, implicitDefEqProofs := false }) only [go_sem, ↓reduceIte, Nat.reduceAdd, Nat.reduceMul, Nat.reduceEqDiff, Nat.reduceSub, Nat.reduceLT, reduceCtorEq, Nat.reduceLeDiff, Nat.reduceBEq, mwp_draw]
  refine ⟨fun h => ?_, fun h => kE _ _ ?_⟩
  · repeat (refine ⟨by first | omega | decide | exact fits64 (by omega) (by omega) | kernel_rfl | (intros; omega), ?_⟩)
    intro x hx
    repeat (refine ⟨by first | omega | decide | exact fits64 (by omega) (by omega) | kernel_rfl | (intros; omega), ?_⟩)
    first
      | exact kN _ (i + 1, m.set i x) (by rfl) ⟨by simp only; omega, by simp [h2], take_set_next h2 h3 hx⟩ (by simp only; omega)
      | exact fun _ _ => ⟨fits64 (by omega) (by omega), kN _ (i + 1, m.set i x) (by rfl) ⟨by simp only; omega, by simp [h2], take_set_next h2 h3 hx⟩ (by simp only; omega)⟩
  · obtain rfl : i = l.length := by omega
    obtain rfl : m = l := by rw [List.take_length, ← h2, List.take_length] at h3; exact h3
    simp (config := { maxSteps := 10000000, implicitDefEqProofs := false }) only [go_sem, ↓reduceIte, Nat.reduceAdd, Nat.reduceMul, Nat.reduceEqDiff, Nat.reduceSub, Nat.reduceLT, reduceCtorEq, Nat.reduceLeDiff, Nat.reduceBEq, mwp_draw]
theorem eqBoolS_is (t t' : Bool) (l m : List Bool) (hl : l.length ≤ 2000000) : Is prog fid_laws_eqBoolS [.s t 1 (encT l), .s t' 1 (encT m)] (.b (decide (l = m))) := by
  refine MCall.run mixed get_laws_eqBoolS ok_laws_eqBoolS (Nat.le_of_ble_eq_true rfl) (by decide) ?_
  unfold mc_laws_eqBoolS
  simp (config := { maxSteps := 10000000, implicitDefEqProofs := false }) only [go_sem, ↓reduceIte, Nat.reduceAdd, Nat.reduceMul, Nat.reduceEqDiff, Nat.reduceSub, Nat.reduceLT, reduceCtorEq, Nat.reduceLeDiff, Nat.reduceBEq, mwp_draw]
  refine ⟨fun h => mvb (eq_len h).symm, fun h => ?_⟩
  refine mwp_loopk (X := Nat) (fun i => ⟨[(0, .s t 1 (encT l)), (1, .s t' 1 (encT m)), (5, .i .i64 i)], [], 0⟩) (fun i => i ≤ l.length ∧ l.take i = m.take i) (fun i => l.length - i) 0 rfl (by simp) ?_
  rintro i ⟨h1, h2⟩ K kN kE kR
  simp (config := { maxSteps := 10000000, implicitDefEqProofs := false }) only [go_sem, ↓reduceIte, Nat.reduceAdd, Nat.reduceMul, Nat.reduceEqDiff, Nat.reduceSub, Nat.reduceLT, reduceCtorEq, Nat.reduceLeDiff, Nat.reduceBEq, mwp_draw]
  refine ⟨fun h3 => ?_, fun h3 => kE _ _ ?_⟩
  · repeat (refine ⟨by first | omega | decide | exact fits64 (by omega) (by omega) | kernel_rfl | (intros; omega), ?_⟩)
    intro x hx
    repeat (refine ⟨by first | omega | decide | exact fits64 (by omega) (by omega) | kernel_rfl | (intros; omega), ?_⟩)
    intro y hy
    repeat (refine ⟨by first | omega | decide | exact fits64 (by omega) (by omega) | kernel_rfl | (intros; omega), ?_⟩)
    by_cases e : x = y
    · subst e
      simp (config := { maxSteps := 10000000, implicitDefEqProofs := false }) only [go_sem, ↓reduceIte, Nat.reduceAdd, Nat.reduceMul, Nat.reduceEqDiff, Nat.reduceSub, Nat.reduceLT, reduceCtorEq, Nat.reduceLeDiff, Nat.reduceBEq, mwp_draw]
      repeat (refine ⟨by first | omega | decide | exact fits64 (by omega) (by omega) | kernel_rfl | (intros; omega), ?_⟩)
      exact kN _ (i + 1) (by rfl) ⟨by omega, eq_step h2 hx hy rfl⟩ (by omega)
    · have eb : (x == y) = false := by simp [e]
      rw [eb]
      simp (config := { maxSteps := 10000000, implicitDefEqProofs := false }) only [go_sem, ↓reduceIte, Nat.reduceAdd, Nat.reduceMul, Nat.reduceEqDiff, Nat.reduceSub, Nat.reduceLT, reduceCtorEq, Nat.reduceLeDiff, Nat.reduceBEq, mwp_draw]
      refine kR _ ?_
      simp (config := { maxSteps := 10000000, implicitDefEqProofs := false }) only [go_sem, ↓reduceIte, Nat.reduceAdd, Nat.reduceMul, Nat.reduceEqDiff, Nat.reduceSub, Nat.reduceLT, reduceCtorEq, Nat.reduceLeDiff, Nat.reduceBEq, mwp_draw]
      exact mvb (eq_ne hx hy e).symm
  · simp (config := { maxSteps := 10000000, implicitDefEqProofs := false }) only [go_sem, ↓reduceIte, Nat.reduceAdd, Nat.reduceMul, Nat.reduceEqDiff, Nat.reduceSub, Nat.reduceLT, reduceCtorEq, Nat.reduceLeDiff, Nat.reduceBEq, mwp_draw]
    obtain rfl : i = l.length := by omega
    exact mvb (eq_end (by omega) h2).symm
def markT (n : Nat) (k : Int) : List Bool := (List.range n).map fun i : Nat => decide ((k + i).tmod 3 = 0)
theorem markT_length (n : Nat) (k : Int) : (markT n k).length = n := by simp [markT]
theorem markT_take (n : Nat) (k : Int) : (markT n k).take n = markT n k := List.take_of_length_le (by rw [markT_length]; omega)
theorem markT_get {n : Nat} {k : Int} {i : Nat} (h : i < n) : (markT n k)[i]? = some (decide ((k + i).tmod 3 = 0)) := by simp [markT, h]
theorem markBoolS_is (t : Bool) (l : List Bool) (k : Int) (hk : 0 ≤ k ∧ k ≤ 10000000) (hl : l.length ≤ 1048576) :
    MCall prog fid_laws_markBoolS [.ow t 1 (encT l), .i .i64 k] (fun o r => o = [.ow true 1 (encT (markT l.length k)), .u] ∧ r = .i .i64 (k + l.length)) := by
  refine MCall.run mixed get_laws_markBoolS ok_laws_markBoolS (Nat.le_of_ble_eq_true rfl) (by decide) ?_
  unfold mc_laws_markBoolS
  simp (config := { maxSteps := 10000000, implicitDefEqProofs := false }) only [go_sem, ↓reduceIte, Nat.reduceAdd, Nat.reduceMul, Nat.reduceEqDiff, Nat.reduceSub, Nat.reduceLT, reduceCtorEq, Nat.reduceLeDiff, Nat.reduceBEq, mwp_draw]
  refine mwp_loopk (X := Nat × List Bool) (fun x => ⟨[(0, .sr 0 0 l.length), (1, .i .i64 (k + x.1)), (5, .i .i64 x.1)], [(0, .arr t 1 (encT x.2))], 1⟩)
    (fun x => x.1 ≤ l.length ∧ x.2.length = l.length ∧ x.2.take x.1 = (markT l.length k).take x.1) (fun x => l.length - x.1) (0, l) (by simp; rfl) (by simp) ?_
  rintro ⟨i, m⟩ ⟨h1, h2, h3⟩ K kN kE kR
  simp only at h1 h2 h3
  simp (config := { maxSteps := 10000000, implicitDefEqProofs := false }) only [go_sem, ↓reduceIte, Nat.reduceAdd, Nat.reduceMul, Nat.reduceEqDiff, Nat.reduceSub, Nat.reduceLT, reduceCtorEq, Nat.reduceLeDiff, Nat.reduceBEq, mwp_draw]
  refine ⟨fun h4 => ?_, fun h4 => kE _ _ ?_⟩
  · repeat (refine ⟨by first | omega | decide | exact fits64 (by omega) (by omega) | kernel_rfl | (intros; omega), ?_⟩)
    intro x hx
    repeat (refine ⟨by first | omega | decide | exact fits64 (by omega) (by omega) | kernel_rfl | (intros; omega), ?_⟩)
    refine kN _ (i + 1, m.set i (decide ((k + i).tmod 3 = 0))) ?_ ⟨by simp only; omega, by simp [h2], take_set_next (by rw [h2, markT_length]) h3 (markT_get (by omega))⟩ (by simp only; omega)
    rw [show k + (i : Int) + 1 = k + ((i + 1 : Nat) : Int) by omega]
    rfl
  · obtain rfl : i = l.length := by omega
    obtain rfl : m = markT l.length k := by
      rw [List.take_of_length_le (by omega), List.take_of_length_le (by rw [markT_length]; omega)] at h3; exact h3
    simp (config := { maxSteps := 10000000, implicitDefEqProofs := false }) only [go_sem, ↓reduceIte, Nat.reduceAdd, Nat.reduceMul, Nat.reduceEqDiff, Nat.reduceSub, Nat.reduceLT, reduceCtorEq, Nat.reduceLeDiff, Nat.reduceBEq, mwp_draw, markT_length, markT_take]
theorem heldBoolS_is (t : Bool) (n : Nat) (k : Int) (hk : 0 ≤ k ∧ k ≤ 10000000) (hl : n ≤ 1048576) :
    Is prog fid_laws_heldBoolS [.s t 1 (encT (markT n k)), .i .i64 k] (.i .i64 (k + n)) := by
  refine MCall.run mixed get_laws_heldBoolS ok_laws_heldBoolS (Nat.le_of_ble_eq_true rfl) (by decide) ?_
  unfold mc_laws_heldBoolS
  simp (config := { maxSteps := 10000000, implicitDefEqProofs := false }) only [go_sem, ↓reduceIte, Nat.reduceAdd, Nat.reduceMul, Nat.reduceEqDiff, Nat.reduceSub, Nat.reduceLT, reduceCtorEq, Nat.reduceLeDiff, Nat.reduceBEq, mwp_draw]
  refine mwp_loopk (X := Nat) (fun x => ⟨[(0, .s t 1 (encT (markT n k))), (1, .i .i64 (k + x)), (5, .i .i64 x)], [], 0⟩)
    (fun x => x ≤ n) (fun x => n - x) 0 (by simp; rfl) (by simp) ?_
  rintro i h1 K kN kE kR
  simp (config := { maxSteps := 10000000, implicitDefEqProofs := false }) only [go_sem, ↓reduceIte, Nat.reduceAdd, Nat.reduceMul, Nat.reduceEqDiff, Nat.reduceSub, Nat.reduceLT, reduceCtorEq, Nat.reduceLeDiff, Nat.reduceBEq, mwp_draw, markT_length]
  refine ⟨fun h3 => ?_, fun h3 => kE _ _ ?_⟩
  · repeat (refine ⟨by first | omega | decide | exact fits64 (by omega) (by omega) | kernel_rfl | (intros; omega), ?_⟩)
    intro x hx
    rw [markT_get (by omega)] at hx
    cases hx
    simp (config := { maxSteps := 10000000, implicitDefEqProofs := false }) only [go_sem, ↓reduceIte, Nat.reduceAdd, Nat.reduceMul, Nat.reduceEqDiff, Nat.reduceSub, Nat.reduceLT, reduceCtorEq, Nat.reduceLeDiff, Nat.reduceBEq, mwp_draw]
    repeat (refine ⟨by first | omega | decide | exact fits64 (by omega) (by omega) | kernel_rfl | (intros; omega), ?_⟩)
    refine kN _ (i + 1) ?_ (by omega) (by omega)
    rw [show k + (i : Int) + 1 = k + ((i + 1 : Nat) : Int) by omega]
    rfl
  · simp (config := { maxSteps := 10000000, implicitDefEqProofs := false }) only [go_sem, ↓reduceIte, Nat.reduceAdd, Nat.reduceMul, Nat.reduceEqDiff, Nat.reduceSub, Nat.reduceLT, reduceCtorEq, Nat.reduceLeDiff, Nat.reduceBEq, mwp_draw]
    exact mvi (by omega)
abbrev LvO (n : Int) (es : List E) (ls : List Int) (fs : List Bool) : MV := .agg [.i .i64 n, .ow true 2 (encE es), .ow true 1 (encI ls), .ow true 1 (encT fs)]
abbrev LvS (t1 t2 t3 : Bool) (n : Int) (es : List E) (ls : List Int) (fs : List Bool) : MV := .agg [.i .i64 n, .s t1 2 (encE es), .s t2 1 (encI ls), .s t3 1 (encT fs)]
theorem szLeveled_is (t1 t2 t3 : Bool) (n : Int) (es : List E) (ls : List Int) (fs : List Bool) (hl : es.length ≤ 9223372036854775807) (hl2 : ls.length ≤ 9223372036854775807) (hl3 : fs.length ≤ 9223372036854775807) :
    Is prog fid_laws_szLeveled [LvS t1 t2 t3 n es ls fs, .i .i64 1048576] (.i .i64 (szN (es.length + ls.length + fs.length) 1048576)) := by
  refine MCall.run mixed get_laws_szLeveled ok_laws_szLeveled (Nat.le_of_ble_eq_true rfl) (by decide) ?_
  unfold mc_laws_szLeveled
  simp (config := { maxSteps := 10000000, implicitDefEqProofs := false }) only [go_sem, ↓reduceIte, Nat.reduceAdd, Nat.reduceMul, Nat.reduceEqDiff, Nat.reduceSub, Nat.reduceLT, reduceCtorEq, Nat.reduceLeDiff, Nat.reduceBEq, mwp_draw]
  refine callK_is (szGraph_is _ n es 1048576 (by omega) hl) ?_
  by_cases h1 : szN es.length 1048576 < 0
  · have b1 : (szN es.length 1048576 < 0) = True := eq_true h1
    simp (config := { maxSteps := 10000000, implicitDefEqProofs := false }) only [go_sem, ↓reduceIte, Nat.reduceAdd, Nat.reduceMul, Nat.reduceEqDiff, Nat.reduceSub, Nat.reduceLT, reduceCtorEq, Nat.reduceLeDiff, Nat.reduceBEq, mwp_draw, b1]
    exact mvi (by unfold szN at h1 ⊢; split at h1 <;> split <;> omega)
  have b1 : (szN es.length 1048576 < 0) = False := eq_false h1
  obtain ⟨g1, q1⟩ := szN_get (by omega) h1
  have c1 : ((1048576 - (es.length : Int)) < 0) = False := eq_false (by omega)
  simp (config := { maxSteps := 10000000, implicitDefEqProofs := false }) only [go_sem, ↓reduceIte, Nat.reduceAdd, Nat.reduceMul, Nat.reduceEqDiff, Nat.reduceSub, Nat.reduceLT, reduceCtorEq, Nat.reduceLeDiff, Nat.reduceBEq, mwp_draw, b1, q1, c1]
  refine callK_is (szIntS_is _ ls (1048576 - es.length) (by omega) hl2) ?_
  have eM : szM ls (1048576 - es.length) = szN ls.length (1048576 - es.length) := rfl
  rw [eM]
  by_cases h2 : szN ls.length (1048576 - es.length) < 0
  · have b2 : (szN ls.length (1048576 - es.length) < 0) = True := eq_true h2
    simp (config := { maxSteps := 10000000, implicitDefEqProofs := false }) only [go_sem, ↓reduceIte, Nat.reduceAdd, Nat.reduceMul, Nat.reduceEqDiff, Nat.reduceSub, Nat.reduceLT, reduceCtorEq, Nat.reduceLeDiff, Nat.reduceBEq, mwp_draw, b2]
    exact mvi (by unfold szN at h2 ⊢; split at h2 <;> split <;> omega)
  have b2 : (szN ls.length (1048576 - es.length) < 0) = False := eq_false h2
  obtain ⟨g2, q2⟩ := szN_get (by omega) h2
  have c2 : ((1048576 - (es.length : Int) - ls.length) < 0) = False := eq_false (by rw [q2] at h2; omega)
  simp (config := { maxSteps := 10000000, implicitDefEqProofs := false }) only [go_sem, ↓reduceIte, Nat.reduceAdd, Nat.reduceMul, Nat.reduceEqDiff, Nat.reduceSub, Nat.reduceLT, reduceCtorEq, Nat.reduceLeDiff, Nat.reduceBEq, mwp_draw, b2, q2, c2]
  refine callK_is (szBoolS_is _ fs (1048576 - es.length - ls.length) (by rw [q2] at h2; omega) hl3) ?_
  by_cases h3 : szN fs.length (1048576 - es.length - ls.length) < 0
  · have b3 : (szN fs.length (1048576 - es.length - ls.length) < 0) = True := eq_true h3
    simp (config := { maxSteps := 10000000, implicitDefEqProofs := false }) only [go_sem, ↓reduceIte, Nat.reduceAdd, Nat.reduceMul, Nat.reduceEqDiff, Nat.reduceSub, Nat.reduceLT, reduceCtorEq, Nat.reduceLeDiff, Nat.reduceBEq, mwp_draw, b3]
    exact mvi (by unfold szN at h3 ⊢; split at h3 <;> split <;> omega)
  have b3 : (szN fs.length (1048576 - es.length - ls.length) < 0) = False := eq_false h3
  simp (config := { maxSteps := 10000000, implicitDefEqProofs := false }) only [go_sem, ↓reduceIte, Nat.reduceAdd, Nat.reduceMul, Nat.reduceEqDiff, Nat.reduceSub, Nat.reduceLT, reduceCtorEq, Nat.reduceLeDiff, Nat.reduceBEq, mwp_draw, b3]
  exact mvi (by unfold szN at h3 ⊢; split at h3 <;> split <;> omega)
theorem toLeveled_is (t1 t2 t3 : Bool) (n : Int) (es : List E) (ls : List Int) (fs : List Bool) (hl : es.length ≤ 1048576) (hl2 : ls.length ≤ 1048576) (hl3 : fs.length ≤ 1048576) :
    Is prog fid_laws_toLeveled [LvS t1 t2 t3 n es ls fs] (LvO n es ls fs) := by
  refine MCall.run mixed get_laws_toLeveled ok_laws_toLeveled (Nat.le_of_ble_eq_true rfl) (by decide) ?_
  unfold mc_laws_toLeveled
  simp (config := { maxSteps := 10000000, implicitDefEqProofs := false }) only [go_sem, ↓reduceIte, Nat.reduceAdd, Nat.reduceMul, Nat.reduceEqDiff, Nat.reduceSub, Nat.reduceLT, reduceCtorEq, Nat.reduceLeDiff, Nat.reduceBEq, mwp_draw]
  refine callK_is (toGraph_is _ n es hl) ?_
  simp (config := { maxSteps := 10000000, implicitDefEqProofs := false }) only [go_sem, ↓reduceIte, Nat.reduceAdd, Nat.reduceMul, Nat.reduceEqDiff, Nat.reduceSub, Nat.reduceLT, reduceCtorEq, Nat.reduceLeDiff, Nat.reduceBEq, mwp_draw]
  refine callK_is (toIntS_is _ ls hl2) ?_
  simp (config := { maxSteps := 10000000, implicitDefEqProofs := false }) only [go_sem, ↓reduceIte, Nat.reduceAdd, Nat.reduceMul, Nat.reduceEqDiff, Nat.reduceSub, Nat.reduceLT, reduceCtorEq, Nat.reduceLeDiff, Nat.reduceBEq, mwp_draw]
  refine callK_is (toBoolS_is _ fs hl3) ?_
  simp (config := { maxSteps := 10000000, implicitDefEqProofs := false }) only [go_sem, ↓reduceIte, Nat.reduceAdd, Nat.reduceMul, Nat.reduceEqDiff, Nat.reduceSub, Nat.reduceLT, reduceCtorEq, Nat.reduceLeDiff, Nat.reduceBEq, mwp_draw]
theorem eqLeveled_is (t1 t2 t3 u1 u2 u3 : Bool) (n m : Int) (es es' : List E) (ls ls' : List Int) (fs fs' : List Bool) (hl : es.length ≤ 2000000) (hl2 : ls.length ≤ 2000000) (hl3 : fs.length ≤ 2000000) :
    Is prog fid_laws_eqLeveled [LvS t1 t2 t3 n es ls fs, LvS u1 u2 u3 m es' ls' fs'] (.b (decide (n = m) && decide (es = es') && (decide (ls = ls') && decide (fs = fs')))) := by
  refine MCall.run mixed get_laws_eqLeveled ok_laws_eqLeveled (Nat.le_of_ble_eq_true rfl) (by decide) ?_
  unfold mc_laws_eqLeveled
  simp (config := { maxSteps := 10000000, implicitDefEqProofs := false }) only [go_sem, ↓reduceIte, Nat.reduceAdd, Nat.reduceMul, Nat.reduceEqDiff, Nat.reduceSub, Nat.reduceLT, reduceCtorEq, Nat.reduceLeDiff, Nat.reduceBEq, mwp_draw]
  refine callK_is (eqGraph_is _ _ n m es es' hl) ?_
  cases h1 : (decide (n = m) && decide (es = es'))
  · simp (config := { maxSteps := 10000000, implicitDefEqProofs := false }) only [go_sem, ↓reduceIte, Nat.reduceAdd, Nat.reduceMul, Nat.reduceEqDiff, Nat.reduceSub, Nat.reduceLT, reduceCtorEq, Nat.reduceLeDiff, Nat.reduceBEq, mwp_draw]
  · simp (config := { maxSteps := 10000000, implicitDefEqProofs := false }) only [go_sem, ↓reduceIte, Nat.reduceAdd, Nat.reduceMul, Nat.reduceEqDiff, Nat.reduceSub, Nat.reduceLT, reduceCtorEq, Nat.reduceLeDiff, Nat.reduceBEq, mwp_draw]
    refine callK_is (eqIntS_is _ _ ls ls' hl2) ?_
    cases h2 : decide (ls = ls')
    · simp (config := { maxSteps := 10000000, implicitDefEqProofs := false }) only [go_sem, ↓reduceIte, Nat.reduceAdd, Nat.reduceMul, Nat.reduceEqDiff, Nat.reduceSub, Nat.reduceLT, reduceCtorEq, Nat.reduceLeDiff, Nat.reduceBEq, mwp_draw]
    · simp (config := { maxSteps := 10000000, implicitDefEqProofs := false }) only [go_sem, ↓reduceIte, Nat.reduceAdd, Nat.reduceMul, Nat.reduceEqDiff, Nat.reduceSub, Nat.reduceLT, reduceCtorEq, Nat.reduceLeDiff, Nat.reduceBEq, mwp_draw]
      refine callK_is (eqBoolS_is _ _ fs fs' hl3) ?_
      cases h3 : decide (fs = fs')
      · simp (config := { maxSteps := 10000000, implicitDefEqProofs := false }) only [go_sem, ↓reduceIte, Nat.reduceAdd, Nat.reduceMul, Nat.reduceEqDiff, Nat.reduceSub, Nat.reduceLT, reduceCtorEq, Nat.reduceLeDiff, Nat.reduceBEq, mwp_draw]
      · simp (config := { maxSteps := 10000000, implicitDefEqProofs := false }) only [go_sem, ↓reduceIte, Nat.reduceAdd, Nat.reduceMul, Nat.reduceEqDiff, Nat.reduceSub, Nat.reduceLT, reduceCtorEq, Nat.reduceLeDiff, Nat.reduceBEq, mwp_draw]
theorem markLeveled_is (t1 t2 t3 : Bool) (n : Int) (es : List E) (ls : List Int) (fs : List Bool) (k : Int) (hk : 0 ≤ k ∧ k ≤ 1000000) (hl : es.length ≤ 1048576) (hl2 : ls.length ≤ 1048576) (hl3 : fs.length ≤ 1048576) :
    MCall prog fid_laws_markLeveled [.agg [.i .i64 n, .ow t1 2 (encE es), .ow t2 1 (encI ls), .ow t3 1 (encT fs)], .i .i64 k]
      (fun o r => o = [LvO n (markE es.length k) (markI ls.length (k + 2 * es.length)) (markT fs.length (k + 2 * es.length + ls.length)), .u] ∧ r = .i .i64 (k + 2 * es.length + ls.length + fs.length)) := by
  refine MCall.run mixed get_laws_markLeveled ok_laws_markLeveled (Nat.le_of_ble_eq_true rfl) (by decide) ?_
  unfold mc_laws_markLeveled
  simp (config := { maxSteps := 10000000, implicitDefEqProofs := false }) only [go_sem, ↓reduceIte, Nat.reduceAdd, Nat.reduceMul, Nat.reduceEqDiff, Nat.reduceSub, Nat.reduceLT, reduceCtorEq, Nat.reduceLeDiff, Nat.reduceBEq, mwp_draw]
  refine callK_det (markGraph_is _ n es k (by omega) hl) ?_
  simp (config := { maxSteps := 10000000, implicitDefEqProofs := false }) only [go_sem, ↓reduceIte, Nat.reduceAdd, Nat.reduceMul, Nat.reduceEqDiff, Nat.reduceSub, Nat.reduceLT, reduceCtorEq, Nat.reduceLeDiff, Nat.reduceBEq, mwp_draw, markE_length, markE_take]
  repeat (refine ⟨by first | omega | decide | exact fits64 (by omega) (by omega) | kernel_rfl | (intros; omega), ?_⟩)
  refine callK_det (markIntS_is _ ls _ (by omega) hl2) ?_
  simp (config := { maxSteps := 10000000, implicitDefEqProofs := false }) only [go_sem, ↓reduceIte, Nat.reduceAdd, Nat.reduceMul, Nat.reduceEqDiff, Nat.reduceSub, Nat.reduceLT, reduceCtorEq, Nat.reduceLeDiff, Nat.reduceBEq, mwp_draw, markI_length, markI_take]
  repeat (refine ⟨by first | omega | decide | exact fits64 (by omega) (by omega) | kernel_rfl | (intros; omega), ?_⟩)
  refine callK_det (markBoolS_is _ fs _ (by omega) hl3) ?_
  simp (config := { maxSteps := 10000000, implicitDefEqProofs := false }) only [go_sem, ↓reduceIte, Nat.reduceAdd, Nat.reduceMul, Nat.reduceEqDiff, Nat.reduceSub, Nat.reduceLT, reduceCtorEq, Nat.reduceLeDiff, Nat.reduceBEq, mwp_draw, markE_length, markE_take, markI_length, markI_take, markT_length, markT_take]
  try trace_state
theorem heldLeveled_is (t1 t2 t3 : Bool) (n : Int) (a b c : Nat) (k : Int) (hk : 0 ≤ k ∧ k ≤ 1000000) (hl : a ≤ 1048576) (hl2 : b ≤ 1048576) (hl3 : c ≤ 1048576) :
    Is prog fid_laws_heldLeveled [LvS t1 t2 t3 n (markE a k) (markI b (k + 2 * a)) (markT c (k + 2 * a + b)), .i .i64 k] (.i .i64 (k + 2 * a + b + c)) := by
  refine MCall.run mixed get_laws_heldLeveled ok_laws_heldLeveled (Nat.le_of_ble_eq_true rfl) (by decide) ?_
  unfold mc_laws_heldLeveled
  simp (config := { maxSteps := 10000000, implicitDefEqProofs := false }) only [go_sem, ↓reduceIte, Nat.reduceAdd, Nat.reduceMul, Nat.reduceEqDiff, Nat.reduceSub, Nat.reduceLT, reduceCtorEq, Nat.reduceLeDiff, Nat.reduceBEq, mwp_draw]
  refine callK_is (heldGraph_is _ n a k (by omega) hl) ?_
  have c1 : (k + 2 * (a : Int) < 0) = False := eq_false (by omega)
  have c2 : (k + 2 * (a : Int) + b < 0) = False := eq_false (by omega)
  have c3 : (k + 2 * (a : Int) + b + c < 0) = False := eq_false (by omega)
  simp (config := { maxSteps := 10000000, implicitDefEqProofs := false }) only [go_sem, ↓reduceIte, Nat.reduceAdd, Nat.reduceMul, Nat.reduceEqDiff, Nat.reduceSub, Nat.reduceLT, reduceCtorEq, Nat.reduceLeDiff, Nat.reduceBEq, mwp_draw, c1]
  refine callK_is (heldIntS_is _ b _ (by omega) hl2) ?_
  simp (config := { maxSteps := 10000000, implicitDefEqProofs := false }) only [go_sem, ↓reduceIte, Nat.reduceAdd, Nat.reduceMul, Nat.reduceEqDiff, Nat.reduceSub, Nat.reduceLT, reduceCtorEq, Nat.reduceLeDiff, Nat.reduceBEq, mwp_draw, c2]
  refine callK_is (heldBoolS_is _ c _ (by omega) hl3) ?_
  simp (config := { maxSteps := 10000000, implicitDefEqProofs := false }) only [go_sem, ↓reduceIte, Nat.reduceAdd, Nat.reduceMul, Nat.reduceEqDiff, Nat.reduceSub, Nat.reduceLT, reduceCtorEq, Nat.reduceLeDiff, Nat.reduceBEq, mwp_draw, c3]
end Go.Fw
