/-
  The law on counts: turns are small.
-/
import Derived.Test.YtedacikdbkpccaaCtCt
import Derived.Test.YtedacikdbkpccaaCtS2
import Derived.Test.YtedacikdbkpccaaCtRow
namespace Go.Fw
set_option linter.unusedSimpArgs false
set_option linter.unusedVariables false
set_option maxRecDepth 100000
set_option maxHeartbeats 4000000
open Go.Proofs.Try (prog)
open Go.Pl

theorem DrawCountsOfT_is (t : Bool) (b : List Int) (hb : Byt b) : MCall prog fid_spec_DrawCountsOf [.s t 1 (encB b)] DrT := by
  refine MCall.run mixed get_spec_DrawCountsOf ok_spec_DrawCountsOf (Nat.le_of_ble_eq_true rfl) (by decide) ?_
  unfold mc_spec_DrawCountsOf
  simp (config := { maxSteps := 10000000, implicitDefEqProofs := false }) only [go_sem, ↓reduceIte, Nat.reduceAdd, Nat.reduceMul, Nat.reduceEqDiff, Nat.reduceSub, Nat.reduceLT, reduceCtorEq, Nat.reduceLeDiff, Nat.reduceBEq, mwp_draw]
  refine callK_any (l11Case_is _ b hb) ?_
  rintro o r ⟨rfl, n, es, ts, rfl, w1, w2, w3, w4⟩
  simp (config := { maxSteps := 10000000, implicitDefEqProofs := false }) only [go_sem, ↓reduceIte, Nat.reduceAdd, Nat.reduceMul, Nat.reduceEqDiff, Nat.reduceSub, Nat.reduceLT, reduceCtorEq, Nat.reduceLeDiff, Nat.reduceBEq, mwp_draw]
  exact ⟨rfl, n, es, ts, rfl, w1, w2, w3, w4⟩
/-- A turn changes the number of parts by one at most. -/
theorem turn_pc {n : Int} {es : List E} {e : E} (hv : gvB n es = true) (h : turnOK n es e = true) : -1 ≤ pcB n (turnE n es e) - pcB n es ∧ pcB n (turnE n es e) - pcB n es ≤ 1 := by
  have hv2 := (turnOK_gv h).2.1
  rw [pcB_pcN hv, pcB_pcN hv2]
  have g1 := gvB_iff.1 hv
  have g2 := gvB_iff.1 hv2
  have go : ∀ xs ys : List E, GV n xs → GV n ys → EIn n e → (∀ d, d ∈ ys ↔ d = e ∨ d ∈ xs) → pc n ys = pc n xs ∨ pc n ys + 1 = pc n xs := fun xs ys ga gb he hm => by
    by_cases q : Rch xs e.1 e.2
    · exact .inl (pc_old ga.2.2.2.1 he hm q)
    · exact .inr (pc_new ga.2.2.2.1 he hm q)
  by_cases q : e ∈ es
  · have eT : turnE n es e = cutE es e := by unfold turnE; rw [if_pos h, if_pos q]
    rw [eT] at g2 ⊢
    have hm : ∀ d, d ∈ es ↔ d = e ∨ d ∈ cutE es e := fun d => by
      unfold cutE
      rw [List.mem_filter]
      by_cases w : d = e
      · simp [w, q]
      · simp [w]
    rcases go _ _ g2 g1 (g1.2.2.2.1 e q) hm with w | w <;> omega
  · have eT : turnE n es e = putE es e := by unfold turnE; rw [if_pos h, if_neg q]
    rw [eT] at g2 ⊢
    have he : EIn n e := g2.2.2.2.1 e (mem_putE.2 (.inl rfl))
    rcases go _ _ g1 g2 he (fun d => mem_putE) with w | w <;> omega
theorem FnCountsTurn_is (t : Bool) (b : List Int) (hb : Byt b) : Is prog fid_laws_FnCountsTurn [.s t 1 (encB b)] (.b true) := by
  refine MCall.run mixed get_laws_FnCountsTurn ok_laws_FnCountsTurn (Nat.le_of_ble_eq_true rfl) (by decide) ?_
  unfold mc_laws_FnCountsTurn
  by_cases hl : 1048576 < b.length
  · have c0 : ((1048576 : Int) < b.length) = True := eq_true (by omega)
    simp (config := { maxSteps := 10000000, implicitDefEqProofs := false }) only [go_sem, ↓reduceIte, Nat.reduceAdd, Nat.reduceMul, Nat.reduceEqDiff, Nat.reduceSub, Nat.reduceLT, reduceCtorEq, Nat.reduceLeDiff, Nat.reduceBEq, mwp_draw, c0]
  have c0 : ((1048576 : Int) < b.length) = False := eq_false (by omega)
  simp (config := { maxSteps := 10000000, implicitDefEqProofs := false }) only [go_sem, ↓reduceIte, Nat.reduceAdd, Nat.reduceMul, Nat.reduceEqDiff, Nat.reduceSub, Nat.reduceLT, reduceCtorEq, Nat.reduceLeDiff, Nat.reduceBEq, mwp_draw, c0]
  refine callK_any (DrawCountsOfT_is _ b hb) ?_
  rintro o r ⟨rfl, n, es, ts, rfl, v1, v2, v3, v4⟩
  simp (config := { maxSteps := 10000000, implicitDefEqProofs := false }) only [go_sem, ↓reduceIte, Nat.reduceAdd, Nat.reduceMul, Nat.reduceEqDiff, Nat.reduceSub, Nat.reduceLT, reduceCtorEq, Nat.reduceLeDiff, Nat.reduceBEq, mwp_draw]
  refine callK_is (CountsOf_is _ _ n es ts (by omega) (by omega)) ?_
  simp (config := { maxSteps := 10000000, implicitDefEqProofs := false }) only [go_sem, ↓reduceIte, Nat.reduceAdd, Nat.reduceMul, Nat.reduceEqDiff, Nat.reduceSub, Nat.reduceLT, reduceCtorEq, Nat.reduceLeDiff, Nat.reduceBEq, mwp_draw]
  refine callK_is (CountsOfS_is _ _ n es ts (by omega) (by omega)) ?_
  have cl : (csV n es ts).length ≤ 61 ∧ ∀ x ∈ csV n es ts, x.length = 3 := by
    unfold csV
    split
    · rename_i h
      have := (runB_get h).2.1
      refine ⟨by rw [List.length_map, grs_length]; omega, fun x hx => ?_⟩
      obtain ⟨g, _, rfl⟩ := List.mem_map.1 hx
      rfl
    · simp
  obtain ⟨cl, cx⟩ := cl
  have cx' : ∀ x ∈ csV n es ts, x.length ≤ 1000000 := fun x hx => by rw [cx x hx]; omega
  have hcs : runB n es ts = true → (csV n es ts).length = ts.length + 1 ∧ ∀ i, i ≤ ts.length → (csV n es ts)[i]? = some (cn3 n (trG n es (ts.take i))) := fun h => by
    unfold csV
    rw [if_pos h]
    refine ⟨by rw [List.length_map, grs_length], fun i hi => ?_⟩
    rw [List.getElem?_map, grs_get hi]; rfl
  generalize csV n es ts = cs at *
  simp (config := { maxSteps := 10000000, implicitDefEqProofs := false }) only [go_sem, ↓reduceIte, Nat.reduceAdd, Nat.reduceMul, Nat.reduceEqDiff, Nat.reduceSub, Nat.reduceLT, reduceCtorEq, Nat.reduceLeDiff, Nat.reduceBEq, mwp_draw]
  refine callK_is (dyLists_is _ _ cs cs (by omega) cx') ?_
  simp only [decide_true]
  cases h : runB n es ts with
  | false =>
    simp (config := { maxSteps := 10000000, implicitDefEqProofs := false }) only [go_sem, ↓reduceIte, Nat.reduceAdd, Nat.reduceMul, Nat.reduceEqDiff, Nat.reduceSub, Nat.reduceLT, reduceCtorEq, Nat.reduceLeDiff, Nat.reduceBEq, mwp_draw, beq_true, beq_false]
    refine callK_is (dyLists_is _ _ cs cs (by omega) cx') ?_
    simp only [decide_true]
    simp (config := { maxSteps := 10000000, implicitDefEqProofs := false }) only [go_sem, ↓reduceIte, Nat.reduceAdd, Nat.reduceMul, Nat.reduceEqDiff, Nat.reduceSub, Nat.reduceLT, reduceCtorEq, Nat.reduceLeDiff, Nat.reduceBEq, mwp_draw, beq_true, beq_false]
  | true =>
    obtain ⟨hc1, hc2⟩ := hcs h
    obtain ⟨h1, h2, h3, h4⟩ := runB_get h
    simp (config := { maxSteps := 10000000, implicitDefEqProofs := false }) only [go_sem, ↓reduceIte, Nat.reduceAdd, Nat.reduceMul, Nat.reduceEqDiff, Nat.reduceSub, Nat.reduceLT, reduceCtorEq, Nat.reduceLeDiff, Nat.reduceBEq, mwp_draw, beq_true, beq_false]
    refine mwp_loopk (X := Nat) (fun i => ⟨[(5, .sr 0 0 cs.length), (9, .i .i64 ((i + 1 : Nat) : Int))], [(0, .arr true 1 (encN cs))], 1⟩)
      (fun i => i + 1 ≤ cs.length) (fun i => cs.length - i) 0 (by kernel_rfl) (by omega) ?_
    rintro i g1 K kN kE kR
    by_cases hi : i + 1 < cs.length
    · have hx := hc2 i (by omega)
      have hy := hc2 (i + 1) (by omega)
      obtain ⟨e, he⟩ : ∃ e, ts[i]? = some e := ⟨_, List.getElem?_eq_getElem (by omega)⟩
      have hT := trT_take (i := i + 1) h3
      rw [trT_next he, Bool.and_eq_true] at hT
      have hp := turn_pc (trT_gv h1 hT.1) hT.2
      rw [trG_next he] at hy
      generalize trG n es (ts.take i) = g at *
      have ra := pcB_rng (n := n) (es := g)
      have rb := pcB_rng (n := n) (es := turnE n g e)
      unfold cn3 at hx hy
      have gx := goneN hx
      have gy := goneN hy
      have c1 : (((i + 1 : Nat) : Int) < cs.length) = True := eq_true (by omega)
      have c2 : (i + 1 < cs.length) = True := eq_true hi
      have c3 : (i < cs.length) = True := eq_true (by omega)
      have c4 : ((i : Int) < cs.length) = True := eq_true (by omega)
      have d1 : ((i + 1 : Nat) : Int) - 1 = (i : Nat) := by omega
      have gx0 := goneN (show ([pcB n g, ((brV n g).length : Int), ((cnV n g).length : Int)] : List Int)[0]? = some (pcB n g) from rfl)
      have gy0 := goneN (show ([pcB n (turnE n g e), ((brV n (turnE n g e)).length : Int), ((cnV n (turnE n g e)).length : Int)] : List Int)[0]? = some (pcB n (turnE n g e)) from rfl)
      have c5 : (pcB n (turnE n g e) - pcB n g < -1) = False := eq_false (by omega)
      have c6 : (1 < pcB n (turnE n g e) - pcB n g) = False := eq_false (by omega)
      have c7 : ((0 : Int) < 3) = True := eq_true (by decide)
      simp (config := { maxSteps := 10000000, implicitDefEqProofs := false }) only [go_sem, ↓reduceIte, Nat.reduceAdd, Nat.reduceMul, Nat.reduceEqDiff, Nat.reduceSub, Nat.reduceLT, reduceCtorEq, Nat.reduceLeDiff, Nat.reduceBEq, mwp_draw, c1, c2, c3, c4, c5, c6, c7, d1, ↓gx, ↓gy, ↓gx0, ↓gy0]
      repeat (refine ⟨by first | omega | decide | exact fits64 (by omega) (by omega) | kernel_rfl | (intros; omega), ?_⟩)
      exact kN _ (i + 1) (by kernel_rfl) (by omega) (by omega)
    · have c1 : (((i + 1 : Nat) : Int) < cs.length) = False := eq_false (by omega)
      simp (config := { maxSteps := 10000000, implicitDefEqProofs := false }) only [go_sem, ↓reduceIte, Nat.reduceAdd, Nat.reduceMul, Nat.reduceEqDiff, Nat.reduceSub, Nat.reduceLT, reduceCtorEq, Nat.reduceLeDiff, Nat.reduceBEq, mwp_draw, c1]
      refine kE _ _ ?_
      simp (config := { maxSteps := 10000000, implicitDefEqProofs := false }) only [go_sem, ↓reduceIte, Nat.reduceAdd, Nat.reduceMul, Nat.reduceEqDiff, Nat.reduceSub, Nat.reduceLT, reduceCtorEq, Nat.reduceLeDiff, Nat.reduceBEq, mwp_draw]
theorem FnCountsTurn_row (m : List (List D)) (h : ∀ r ∈ m, rowOK [.i .u8] r) (_ : m.length ≤ maxLen) : Is prog fid_laws_FnCountsTurn [.s false 1 m] (.b true) := by
  obtain ⟨b, rfl, hb⟩ := rows_bytes h
  exact FnCountsTurn_is _ b hb
end Go.Fw
