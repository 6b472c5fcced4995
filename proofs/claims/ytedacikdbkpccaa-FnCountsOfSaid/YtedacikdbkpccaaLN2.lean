/-
  The law on counts: they are told.
-/
import Derived.Test.YtedacikdbkpccaaCtCt
import Derived.Test.YtedacikdbkpccaaCtS2
import Derived.Test.YtedacikdbkpccaaCtRow
namespace Go.Fw
set_option linter.unusedSimpArgs false
set_option linter.unusedVariables false
set_option maxRecDepth 100000
set_option maxHeartbeats 4000000
open Go.Proofs.Try (prog)
open Go.Pl

theorem DrawCountsOf_is (t : Bool) (b : List Int) (hb : Byt b) : MCall prog fid_spec_DrawCountsOf [.s t 1 (encB b)] DrT := by
  refine MCall.run mixed get_spec_DrawCountsOf ok_spec_DrawCountsOf (Nat.le_of_ble_eq_true rfl) (by decide) ?_
  unfold mc_spec_DrawCountsOf
  simp (config := { maxSteps := 10000000, implicitDefEqProofs := false }) only [go_sem, ↓reduceIte, Nat.reduceAdd, Nat.reduceMul, Nat.reduceEqDiff, Nat.reduceSub, Nat.reduceLT, reduceCtorEq, Nat.reduceLeDiff, Nat.reduceBEq, mwp_draw]
  refine callK_any (l11Case_is _ b hb) ?_
  rintro o r ⟨rfl, n, es, ts, rfl, w1, w2, w3, w4⟩
  simp (config := { maxSteps := 10000000, implicitDefEqProofs := false }) only [go_sem, ↓reduceIte, Nat.reduceAdd, Nat.reduceMul, Nat.reduceEqDiff, Nat.reduceSub, Nat.reduceLT, reduceCtorEq, Nat.reduceLeDiff, Nat.reduceBEq, mwp_draw]
  exact ⟨rfl, n, es, ts, rfl, w1, w2, w3, w4⟩
theorem csV_len {n : Int} {es ts : List E} : (csV n es ts).length ≤ 61 ∧ ∀ x ∈ csV n es ts, x.length = 3 := by
  unfold csV
  split
  · rename_i h
    have := (runB_get h).2.1
    refine ⟨by rw [List.length_map, grs_length]; omega, fun x hx => ?_⟩
    obtain ⟨g, _, rfl⟩ := List.mem_map.1 hx
    rfl
  · simp
theorem FnCountsOf_is (t : Bool) (b : List Int) (hb : Byt b) : Is prog fid_laws_FnCountsOf [.s t 1 (encB b)] (.b true) := by
  refine MCall.run mixed get_laws_FnCountsOf ok_laws_FnCountsOf (Nat.le_of_ble_eq_true rfl) (by decide) ?_
  unfold mc_laws_FnCountsOf
  by_cases hl : 1048576 < b.length
  · have c0 : ((1048576 : Int) < b.length) = True := eq_true (by omega)
    simp (config := { maxSteps := 10000000, implicitDefEqProofs := false }) only [go_sem, ↓reduceIte, Nat.reduceAdd, Nat.reduceMul, Nat.reduceEqDiff, Nat.reduceSub, Nat.reduceLT, reduceCtorEq, Nat.reduceLeDiff, Nat.reduceBEq, mwp_draw, c0]
  have c0 : ((1048576 : Int) < b.length) = False := eq_false (by omega)
  simp (config := { maxSteps := 10000000, implicitDefEqProofs := false }) only [go_sem, ↓reduceIte, Nat.reduceAdd, Nat.reduceMul, Nat.reduceEqDiff, Nat.reduceSub, Nat.reduceLT, reduceCtorEq, Nat.reduceLeDiff, Nat.reduceBEq, mwp_draw, c0]
  refine callK_any (DrawCountsOf_is _ b hb) ?_
  rintro o r ⟨rfl, n, es, ts, rfl, v1, v2, v3, v4⟩
  simp (config := { maxSteps := 10000000, implicitDefEqProofs := false }) only [go_sem, ↓reduceIte, Nat.reduceAdd, Nat.reduceMul, Nat.reduceEqDiff, Nat.reduceSub, Nat.reduceLT, reduceCtorEq, Nat.reduceLeDiff, Nat.reduceBEq, mwp_draw]
  refine callK_is (CountsOf_is _ _ n es ts (by omega) (by omega)) ?_
  simp (config := { maxSteps := 10000000, implicitDefEqProofs := false }) only [go_sem, ↓reduceIte, Nat.reduceAdd, Nat.reduceMul, Nat.reduceEqDiff, Nat.reduceSub, Nat.reduceLT, reduceCtorEq, Nat.reduceLeDiff, Nat.reduceBEq, mwp_draw]
  refine callK_is (CountsOfS_is _ _ n es ts (by omega) (by omega)) ?_
  obtain ⟨cl, cx⟩ := csV_len (n := n) (es := es) (ts := ts)
  have cx' : ∀ x ∈ csV n es ts, x.length ≤ 1000000 := fun x hx => by rw [cx x hx]; omega
  have hcs : runB n es ts = true → (csV n es ts).length = ts.length + 1 ∧ ∀ i, i ≤ ts.length → (csV n es ts)[i]? = some (cn3 n (trG n es (ts.take i))) := fun h => by
    unfold csV
    rw [if_pos h]
    refine ⟨by rw [List.length_map, grs_length], fun i hi => ?_⟩
    rw [List.getElem?_map, grs_get hi]; rfl
  generalize csV n es ts = cs at *
  simp (config := { maxSteps := 10000000, implicitDefEqProofs := false }) only [go_sem, ↓reduceIte, Nat.reduceAdd, Nat.reduceMul, Nat.reduceEqDiff, Nat.reduceSub, Nat.reduceLT, reduceCtorEq, Nat.reduceLeDiff, Nat.reduceBEq, mwp_draw]
  refine callK_is (dyLists_is _ _ cs cs (by omega) cx') ?_
  simp only [decide_true]
  cases h : runB n es ts with
  | false =>
    simp (config := { maxSteps := 10000000, implicitDefEqProofs := false }) only [go_sem, ↓reduceIte, Nat.reduceAdd, Nat.reduceMul, Nat.reduceEqDiff, Nat.reduceSub, Nat.reduceLT, reduceCtorEq, Nat.reduceLeDiff, Nat.reduceBEq, mwp_draw, beq_true, beq_false]
    refine callK_is (dyLists_is _ _ cs cs (by omega) cx') ?_
    simp only [decide_true]
    simp (config := { maxSteps := 10000000, implicitDefEqProofs := false }) only [go_sem, ↓reduceIte, Nat.reduceAdd, Nat.reduceMul, Nat.reduceEqDiff, Nat.reduceSub, Nat.reduceLT, reduceCtorEq, Nat.reduceLeDiff, Nat.reduceBEq, mwp_draw, beq_true, beq_false]
  | true =>
    obtain ⟨hc1, hc2⟩ := hcs h
    have hrun : ∀ i, i ≤ ts.length → runB n es (ts.take i) = true := fun i hi => by
      obtain ⟨h1, h2, h3, h4⟩ := runB_get h
      simp only [runB, h1, trT_take h3, Bool.true_and, Bool.and_true, decide_eq_true_eq, List.length_take]; omega
    simp (config := { maxSteps := 10000000, implicitDefEqProofs := false }) only [go_sem, ↓reduceIte, Nat.reduceAdd, Nat.reduceMul, Nat.reduceEqDiff, Nat.reduceSub, Nat.reduceLT, reduceCtorEq, Nat.reduceLeDiff, Nat.reduceBEq, mwp_draw, beq_true, beq_false]
    refine mwp_loopk (X := Nat) (fun i => ⟨[(3, .pr 0 0 0), (4, .sr 1 0 ts.length), (5, .sr 2 0 cs.length), (9, .i .i64 i)],
        [(0, .box [.i .i64 n, .sr 3 0 es.length]), (1, .arr true 2 (encE ts)), (2, .arr true 1 (encN cs)), (3, .arr true 2 (encE es))], 4⟩)
      (fun i => i ≤ cs.length) (fun i => cs.length - i) 0 (by kernel_rfl) (Nat.zero_le _) ?_
    rintro i g1 K kN kE kR
    by_cases hi : i < cs.length
    · have hx := hc2 i (by omega)
      have gx := goneN hx
      have c1 : ((i : Int) < cs.length) = True := eq_true (by omega)
      have c2 : (i < cs.length) = True := eq_true hi
      have c6 : (i ≤ ts.length) = True := eq_true (by omega)
      simp (config := { maxSteps := 10000000, implicitDefEqProofs := false }) only [go_sem, ↓reduceIte, Nat.reduceAdd, Nat.reduceMul, Nat.reduceEqDiff, Nat.reduceSub, Nat.reduceLT, reduceCtorEq, Nat.reduceLeDiff, Nat.reduceBEq, mwp_draw, c1, c2, c6, ↓gx]
      repeat (refine ⟨by first | omega | decide | exact fits64 (by omega) (by omega) | kernel_rfl | (intros; omega), ?_⟩)
      refine callK_is (RunTurns_is _ _ n es (ts.take i) (by omega) (by simp; omega)) ?_
      have e1 : rnN n es (ts.take i) = n := by unfold rnN; rw [if_pos (hrun i (by omega))]
      have e2 : runE n es (ts.take i) = trG n es (ts.take i) := by unfold runE; rw [if_pos (hrun i (by omega))]
      have e3 := runE_len (n := n) (es := es) (ts := ts.take i)
      rw [e2] at e3
      rw [e1, e2, hrun i (by omega)]
      generalize trG n es (ts.take i) = g at *
      simp (config := { maxSteps := 10000000, implicitDefEqProofs := false }) only [go_sem, ↓reduceIte, Nat.reduceAdd, Nat.reduceMul, Nat.reduceEqDiff, Nat.reduceSub, Nat.reduceLT, reduceCtorEq, Nat.reduceLeDiff, Nat.reduceBEq, mwp_draw, c1, c2, ↓gx]
      repeat (refine ⟨by first | omega | decide | exact fits64 (by omega) (by omega) | kernel_rfl | (intros; omega), ?_⟩)
      refine callK_is (PartCount_is _ n g (by omega)) ?_
      simp (config := { maxSteps := 10000000, implicitDefEqProofs := false }) only [go_sem, ↓reduceIte, Nat.reduceAdd, Nat.reduceMul, Nat.reduceEqDiff, Nat.reduceSub, Nat.reduceLT, reduceCtorEq, Nat.reduceLeDiff, Nat.reduceBEq, mwp_draw, c1, c2, ↓gx]
      refine callK_is (BridgesOf_is _ n g (by omega)) ?_
      simp (config := { maxSteps := 10000000, implicitDefEqProofs := false }) only [go_sem, ↓reduceIte, Nat.reduceAdd, Nat.reduceMul, Nat.reduceEqDiff, Nat.reduceSub, Nat.reduceLT, reduceCtorEq, Nat.reduceLeDiff, Nat.reduceBEq, mwp_draw, c1, c2, ↓gx]
      refine callK_is (CutNodesOf_is _ n g (by omega)) ?_
      simp (config := { maxSteps := 10000000, implicitDefEqProofs := false }) only [go_sem, ↓reduceIte, Nat.reduceAdd, Nat.reduceMul, Nat.reduceEqDiff, Nat.reduceSub, Nat.reduceLT, reduceCtorEq, Nat.reduceLeDiff, Nat.reduceBEq, mwp_draw, c1, c2, encI3, ↓gx]
      repeat (refine ⟨by first | omega | decide | exact fits64 (by omega) (by omega) | kernel_rfl | (intros; omega), ?_⟩)
      refine callK_is (dyInts_is _ _ (cn3 n g) [pcB n g, ((brV n g).length : Int), ((cnV n g).length : Int)] (by simp [cn3])) ?_
      simp only [cn3, decide_true]
      simp (config := { maxSteps := 10000000, implicitDefEqProofs := false }) only [go_sem, ↓reduceIte, Nat.reduceAdd, Nat.reduceMul, Nat.reduceEqDiff, Nat.reduceSub, Nat.reduceLT, reduceCtorEq, Nat.reduceLeDiff, Nat.reduceBEq, mwp_draw]
      repeat (refine ⟨by first | omega | decide | exact fits64 (by omega) (by omega) | kernel_rfl | (intros; omega), ?_⟩)
      exact kN _ (i + 1) (by kernel_rfl) (by omega) (by omega)
    · have c1 : ((i : Int) < cs.length) = False := eq_false (by omega)
      simp (config := { maxSteps := 10000000, implicitDefEqProofs := false }) only [go_sem, ↓reduceIte, Nat.reduceAdd, Nat.reduceMul, Nat.reduceEqDiff, Nat.reduceSub, Nat.reduceLT, reduceCtorEq, Nat.reduceLeDiff, Nat.reduceBEq, mwp_draw, c1]
      refine kE _ _ ?_
      clear kN kE kR
      have c3 : ((cs.length : Int) = (ts.length : Int) + 1) = True := eq_true (by omega)
      simp (config := { maxSteps := 10000000, implicitDefEqProofs := false }) only [go_sem, ↓reduceIte, Nat.reduceAdd, Nat.reduceMul, Nat.reduceEqDiff, Nat.reduceSub, Nat.reduceLT, reduceCtorEq, Nat.reduceLeDiff, Nat.reduceBEq, mwp_draw, c3]
      first | done | exact fits64 (by omega) (by omega) | exact ⟨fits64 (by omega) (by omega), rfl⟩
theorem FnCountsOf_row (m : List (List D)) (h : ∀ r ∈ m, rowOK [.i .u8] r) (_ : m.length ≤ maxLen) : Is prog fid_laws_FnCountsOf [.s false 1 m] (.b true) := by
  obtain ⟨b, rfl, hb⟩ := rows_bytes h
  exact FnCountsOf_is _ b hb
end Go.Fw
