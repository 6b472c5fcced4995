/-
  The laws on turns, one after the other: in two parts, and backwards.
-/
import Derived.Test.YtbolckhedohecaaCtS2
import Derived.Test.YtbolckhedohecaaCtRow
namespace Go.Fw
set_option linter.unusedSimpArgs false
set_option linter.unusedVariables false
set_option maxRecDepth 100000
set_option maxHeartbeats 4000000
open Go.Proofs.Try (prog)
open Go.Pl

theorem run_yes {n : Int} {es ts : List E} (h : runB n es ts = true) : runE n es ts = trG n es ts ∧ rnN n es ts = n := by simp [runE, rnN, h]
theorem run_part {n : Int} {es ts : List E} (h : runB n es ts = true) (k : Nat) :
    runB n es (ts.take k) = true ∧ runB n (trG n es (ts.take k)) (ts.drop k) = true ∧ trG n (trG n es (ts.take k)) (ts.drop k) = trG n es ts := by
  obtain ⟨h1, h2, h3, h4⟩ := runB_get h
  have ha := trT_app (n := n) (a := ts.take k) (b := ts.drop k) (es := es)
  have hg := trG_app (n := n) (a := ts.take k) (b := ts.drop k) (es := es)
  rw [List.take_append_drop] at ha hg
  rw [h3] at ha
  have ha := ha.symm
  rw [Bool.and_eq_true] at ha
  refine ⟨runB_yes h1 (by simp; omega) ha.1, runB_yes (trT_gv h1 ha.1) (by simp; omega) ha.2, hg.symm⟩
theorem run_back {n : Int} {es ts : List E} (h : runB n es ts = true) : runB n (trG n es ts) ts.reverse = true ∧ trG n (trG n es ts) ts.reverse = es := by
  obtain ⟨h1, h2, h3, h4⟩ := runB_get h
  have hb := tr_back h1 h3
  exact ⟨runB_yes h4 (by simp; omega) hb.1, hb.2⟩
theorem tdiv_half (n : Nat) : 0 ≤ (n : Int).tdiv 2 ∧ (n : Int).tdiv 2 ≤ n := by rw [Int.tdiv_eq_ediv_of_nonneg (by omega)]; omega
theorem FnRunTurns_is (t : Bool) (b : List Int) (hb : Byt b) : Is prog fid_laws_FnRunTurns [.s t 1 (encB b)] (.b true) := by
  refine MCall.run mixed get_laws_FnRunTurns ok_laws_FnRunTurns (Nat.le_of_ble_eq_true rfl) (by decide) ?_
  unfold mc_laws_FnRunTurns
  simp (config := { maxSteps := 10000000, implicitDefEqProofs := false }) only [go_sem, ↓reduceIte, Nat.reduceAdd, Nat.reduceMul, Nat.reduceEqDiff, Nat.reduceSub, Nat.reduceLT, reduceCtorEq, Nat.reduceLeDiff, Nat.reduceBEq, mwp_draw]
  refine fun hlen => callK_any (DrawRunTurns_is _ b hb) ?_
  rintro o r ⟨rfl, n, es, ts, rfl, w3, w4, w5, w6⟩
  simp (config := { maxSteps := 10000000, implicitDefEqProofs := false }) only [go_sem, ↓reduceIte, Nat.reduceAdd, Nat.reduceMul, Nat.reduceEqDiff, Nat.reduceSub, Nat.reduceLT, reduceCtorEq, Nat.reduceLeDiff, Nat.reduceBEq, mwp_draw]
  have hlt := runE_len (n := n) (es := es) (ts := ts)
  refine callK_is (RunTurns_is _ _ n es ts (by omega) (by omega)) ?_
  simp (config := { maxSteps := 10000000, implicitDefEqProofs := false }) only [go_sem, ↓reduceIte, Nat.reduceAdd, Nat.reduceMul, Nat.reduceEqDiff, Nat.reduceSub, Nat.reduceLT, reduceCtorEq, Nat.reduceLeDiff, Nat.reduceBEq, mwp_draw]
  refine callK_is (RunTurnsS_is _ _ n es ts (by omega) (by omega)) ?_
  simp (config := { maxSteps := 10000000, implicitDefEqProofs := false }) only [go_sem, ↓reduceIte, Nat.reduceAdd, Nat.reduceMul, Nat.reduceEqDiff, Nat.reduceSub, Nat.reduceLT, reduceCtorEq, Nat.reduceLeDiff, Nat.reduceBEq, mwp_draw]
  refine callK_is (GraphSame_is _ _ (rnN n es ts) (runE n es ts) _ _ (by omega)) ?_
  cases ho : runB n es ts
  · simp (config := { maxSteps := 10000000, implicitDefEqProofs := false }) only [go_sem, ↓reduceIte, Nat.reduceAdd, Nat.reduceMul, Nat.reduceEqDiff, Nat.reduceSub, Nat.reduceLT, reduceCtorEq, Nat.reduceLeDiff, Nat.reduceBEq, mwp_draw]
    refine callK_is (GraphSame_is _ _ (rnN n es ts) (runE n es ts) _ _ (by omega)) ?_
    simp (config := { maxSteps := 10000000, implicitDefEqProofs := false }) only [go_sem, ↓reduceIte, Nat.reduceAdd, Nat.reduceMul, Nat.reduceEqDiff, Nat.reduceSub, Nat.reduceLT, reduceCtorEq, Nat.reduceLeDiff, Nat.reduceBEq, mwp_draw]
  · rw [(run_yes ho).1, (run_yes ho).2] at *
    have hh := tdiv_half ts.length
    obtain ⟨k, hk⟩ : ∃ k : Nat, (ts.length : Int).tdiv 2 = (k : Int) := ⟨_, (Int.toNat_of_nonneg hh.1).symm⟩
    rw [hk] at hh
    have hk2 : (k ≤ ts.length) = True := eq_true (by omega)
    obtain ⟨p1, p2, p3⟩ := run_part ho k
    simp (config := { maxSteps := 10000000, implicitDefEqProofs := false }) only [go_sem, ↓reduceIte, Nat.reduceAdd, Nat.reduceMul, Nat.reduceEqDiff, Nat.reduceSub, Nat.reduceLT, reduceCtorEq, Nat.reduceLeDiff, Nat.reduceBEq, mwp_draw, hk, hk2]
    repeat (refine ⟨by first | omega | decide | exact fits64 (by omega) (by omega) | kernel_rfl, ?_⟩)
    refine callK_is (RunTurns_is _ _ n es (ts.take k) (by omega) (by simp; omega)) ?_
    rw [(run_yes p1).1, (run_yes p1).2, p1]
    have g1 := (gvB_iff.1 (runB_get p1).2.2.2).2.2.1
    have hk3 : (k + (ts.length - k) ≤ ts.length) = True := eq_true (by omega)
    have hk4 : (ts.drop k).take (ts.length - k) = ts.drop k := List.take_of_length_le (by simp)
    simp (config := { maxSteps := 10000000, implicitDefEqProofs := false }) only [go_sem, ↓reduceIte, Nat.reduceAdd, Nat.reduceMul, Nat.reduceEqDiff, Nat.reduceSub, Nat.reduceLT, reduceCtorEq, Nat.reduceLeDiff, Nat.reduceBEq, mwp_draw, hk, hk2, hk3, hk4]
    repeat (refine ⟨by first | omega | decide | exact fits64 (by omega) (by omega) | kernel_rfl, ?_⟩)
    refine callK_is (RunTurns_is _ _ n (trG n es (ts.take k)) (ts.drop k) (by omega) (by simp; omega)) ?_
    rw [(run_yes p2).1, (run_yes p2).2, p2, p3]
    simp (config := { maxSteps := 10000000, implicitDefEqProofs := false }) only [go_sem, ↓reduceIte, Nat.reduceAdd, Nat.reduceMul, Nat.reduceEqDiff, Nat.reduceSub, Nat.reduceLT, reduceCtorEq, Nat.reduceLeDiff, Nat.reduceBEq, mwp_draw, hk, hk2]
    repeat (refine ⟨by first | omega | decide | exact fits64 (by omega) (by omega) | kernel_rfl, ?_⟩)
    refine callK_is (GraphSame_is _ _ n (trG n es ts) n (trG n es ts) (by omega)) ?_
    simp (config := { maxSteps := 10000000, implicitDefEqProofs := false }) only [go_sem, ↓reduceIte, Nat.reduceAdd, Nat.reduceMul, Nat.reduceEqDiff, Nat.reduceSub, Nat.reduceLT, reduceCtorEq, Nat.reduceLeDiff, Nat.reduceBEq, mwp_draw]
    refine callK_is (GraphValid_is _ n (trG n es ts) (by omega)) ?_
    rw [(runB_get ho).2.2.2]
    simp (config := { maxSteps := 10000000, implicitDefEqProofs := false }) only [go_sem, ↓reduceIte, Nat.reduceAdd, Nat.reduceMul, Nat.reduceEqDiff, Nat.reduceSub, Nat.reduceLT, reduceCtorEq, Nat.reduceLeDiff, Nat.reduceBEq, mwp_draw]
theorem rev_next {ts : List E} {m : Nat} {x : E} (hm : m < ts.length) (hx : ts[ts.length - 1 - m]? = some x) : ts.reverse.take (m + 1) = ts.reverse.take m ++ [x] := by
  rw [take_snoc (x := x)]
  rw [List.getElem?_reverse hm]; exact hx
theorem FnTurnsBack_is (t : Bool) (b : List Int) (hb : Byt b) : Is prog fid_laws_FnTurnsBack [.s t 1 (encB b)] (.b true) := by
  refine MCall.run mixed get_laws_FnTurnsBack ok_laws_FnTurnsBack (Nat.le_of_ble_eq_true rfl) (by decide) ?_
  unfold mc_laws_FnTurnsBack
  simp (config := { maxSteps := 10000000, implicitDefEqProofs := false }) only [go_sem, ↓reduceIte, Nat.reduceAdd, Nat.reduceMul, Nat.reduceEqDiff, Nat.reduceSub, Nat.reduceLT, reduceCtorEq, Nat.reduceLeDiff, Nat.reduceBEq, mwp_draw]
  refine fun hlen => callK_any (DrawRunTurns_is _ b hb) ?_
  rintro o r ⟨rfl, n, es, ts, rfl, w3, w4, w5, w6⟩
  simp (config := { maxSteps := 10000000, implicitDefEqProofs := false }) only [go_sem, ↓reduceIte, Nat.reduceAdd, Nat.reduceMul, Nat.reduceEqDiff, Nat.reduceSub, Nat.reduceLT, reduceCtorEq, Nat.reduceLeDiff, Nat.reduceBEq, mwp_draw]
  have hlt := runE_len (n := n) (es := es) (ts := ts)
  refine callK_is (RunTurns_is _ _ n es ts (by omega) (by omega)) ?_
  simp (config := { maxSteps := 10000000, implicitDefEqProofs := false }) only [go_sem, ↓reduceIte, Nat.reduceAdd, Nat.reduceMul, Nat.reduceEqDiff, Nat.reduceSub, Nat.reduceLT, reduceCtorEq, Nat.reduceLeDiff, Nat.reduceBEq, mwp_draw]
  refine callK_is (RunTurnsS_is _ _ n es ts (by omega) (by omega)) ?_
  simp (config := { maxSteps := 10000000, implicitDefEqProofs := false }) only [go_sem, ↓reduceIte, Nat.reduceAdd, Nat.reduceMul, Nat.reduceEqDiff, Nat.reduceSub, Nat.reduceLT, reduceCtorEq, Nat.reduceLeDiff, Nat.reduceBEq, mwp_draw]
  refine callK_is (GraphSame_is _ _ (rnN n es ts) (runE n es ts) _ _ (by omega)) ?_
  cases ho : runB n es ts
  · simp (config := { maxSteps := 10000000, implicitDefEqProofs := false }) only [go_sem, ↓reduceIte, Nat.reduceAdd, Nat.reduceMul, Nat.reduceEqDiff, Nat.reduceSub, Nat.reduceLT, reduceCtorEq, Nat.reduceLeDiff, Nat.reduceBEq, mwp_draw]
    refine callK_is (GraphSame_is _ _ (rnN n es ts) (runE n es ts) _ _ (by omega)) ?_
    simp (config := { maxSteps := 10000000, implicitDefEqProofs := false }) only [go_sem, ↓reduceIte, Nat.reduceAdd, Nat.reduceMul, Nat.reduceEqDiff, Nat.reduceSub, Nat.reduceLT, reduceCtorEq, Nat.reduceLeDiff, Nat.reduceBEq, mwp_draw]
  · rw [(run_yes ho).1, (run_yes ho).2] at *
    simp (config := { maxSteps := 10000000, implicitDefEqProofs := false }) only [go_sem, ↓reduceIte, Nat.reduceAdd, Nat.reduceMul, Nat.reduceEqDiff, Nat.reduceSub, Nat.reduceLT, reduceCtorEq, Nat.reduceLeDiff, Nat.reduceBEq, mwp_draw]
    repeat (refine ⟨by first | omega | decide | exact fits64 (by omega) (by omega) | kernel_rfl, ?_⟩)
    refine mwp_loopk (X := Nat × Int) (fun x => ⟨[(3, .pr 0 0 0), (4, .sr 1 0 ts.length), (5, .pr 2 0 0), (9, .sr 3 0 (ts.reverse.take x.1).length), (10, .i .i64 x.2)],
        [(0, .box [.i .i64 n, .sr 4 0 es.length]), (1, .arr true 2 (encE ts)), (2, .box [.i .i64 n, .sr 5 0 (trG n es ts).length]), (3, .arr true 2 (encE (ts.reverse.take x.1))), (4, .arr true 2 (encE es)), (5, .arr true 2 (encE (trG n es ts)))], 6⟩)
      (fun x => x.1 ≤ ts.length ∧ x.2 = (ts.length : Int) - 1 - x.1) (fun x => ts.length - x.1) (0, (ts.length : Int) - 1) (by rfl) (by simp) ?_
    rintro ⟨m, c⟩ ⟨h1, h2⟩ K kN kE kR
    simp only at h1 h2
    have hml : (ts.reverse.take m).length = m := by simp; omega
    simp (config := { maxSteps := 10000000, implicitDefEqProofs := false }) only [go_sem, ↓reduceIte, Nat.reduceAdd, Nat.reduceMul, Nat.reduceEqDiff, Nat.reduceSub, Nat.reduceLT, reduceCtorEq, Nat.reduceLeDiff, Nat.reduceBEq, mwp_draw]
    refine ⟨fun h3 => ⟨h3, by omega, by omega, fun x hx => ?_⟩, fun h3 => kE _ _ ?_⟩
    · have hn := rev_next (ts := ts) (m := m) (by omega) (by rw [← hx]; congr 1; omega)
      repeat (refine ⟨by first | omega | decide | exact fits64 (by omega) (by omega) | kernel_rfl, ?_⟩)
      refine kN _ (m + 1, c - 1) ?_ ⟨by simp only; omega, by simp only; omega⟩ (by simp only; omega)
      rw [hn]; simp; rfl
    · obtain rfl : m = ts.length := by omega
      have hr : ts.reverse.take ts.length = ts.reverse := List.take_of_length_le (by simp)
      obtain ⟨p1, p2⟩ := run_back ho
      rw [hr]
      simp (config := { maxSteps := 10000000, implicitDefEqProofs := false }) only [go_sem, ↓reduceIte, Nat.reduceAdd, Nat.reduceMul, Nat.reduceEqDiff, Nat.reduceSub, Nat.reduceLT, reduceCtorEq, Nat.reduceLeDiff, Nat.reduceBEq, mwp_draw]
      refine callK_is (RunTurns_is _ _ n (trG n es ts) ts.reverse (by omega) (by simp; omega)) ?_
      rw [(run_yes p1).1, (run_yes p1).2, p1, p2]
      simp (config := { maxSteps := 10000000, implicitDefEqProofs := false }) only [go_sem, ↓reduceIte, Nat.reduceAdd, Nat.reduceMul, Nat.reduceEqDiff, Nat.reduceSub, Nat.reduceLT, reduceCtorEq, Nat.reduceLeDiff, Nat.reduceBEq, mwp_draw]
      refine callK_is (GraphSame_is _ _ n es n es (by omega)) ?_
      simp (config := { maxSteps := 10000000, implicitDefEqProofs := false }) only [go_sem, ↓reduceIte, Nat.reduceAdd, Nat.reduceMul, Nat.reduceEqDiff, Nat.reduceSub, Nat.reduceLT, reduceCtorEq, Nat.reduceLeDiff, Nat.reduceBEq, mwp_draw]
theorem FnRunTurns_row (m : List (List D)) (h : ∀ r ∈ m, rowOK [.i .u8] r) (_ : m.length ≤ maxLen) : Is prog fid_laws_FnRunTurns [.s false 1 m] (.b true) := by
  obtain ⟨b, rfl, hb⟩ := rows_bytes h
  exact FnRunTurns_is _ b hb
theorem FnTurnsBack_row (m : List (List D)) (h : ∀ r ∈ m, rowOK [.i .u8] r) (_ : m.length ≤ maxLen) : Is prog fid_laws_FnTurnsBack [.s false 1 m] (.b true) := by
  obtain ⟨b, rfl, hb⟩ := rows_bytes h
  exact FnTurnsBack_is _ b hb
end Go.Fw
