/-
  Forests, one after the other: the law.
-/
import Derived.Test.YtbolckhedohecaaCtFo
import Derived.Test.YtbolckhedohecaaCtN
import Derived.Test.YtbolckhedohecaaLW3
namespace Go.Fw
set_option linter.unusedSimpArgs false
set_option linter.unusedVariables false
set_option maxRecDepth 100000
set_option maxHeartbeats 4000000
open Go.Proofs.Try (prog)
open Go.Pl

theorem dyBlocks_is (t t' : Bool) (l m : List (List E)) (hl : l.length ≤ 2000000) (hm : ∀ x ∈ l, x.length ≤ 2000000) : Is prog fid_laws_dyBlocks [.s t 1 (encF l), .s t' 1 (encF m)] (.b (decide (l = m))) := by
  refine MCall.run mixed get_laws_dyBlocks ok_laws_dyBlocks (Nat.le_of_ble_eq_true rfl) (by decide) ?_
  unfold mc_laws_dyBlocks
  simp (config := { maxSteps := 10000000, implicitDefEqProofs := false }) only [go_sem, ↓reduceIte, Nat.reduceAdd, Nat.reduceMul, Nat.reduceEqDiff, Nat.reduceSub, Nat.reduceLT, reduceCtorEq, Nat.reduceLeDiff, Nat.reduceBEq, mwp_draw]
  refine ⟨fun h => mvb (eq_len h).symm, fun h => ?_⟩
  refine mwp_loopk (X := Nat) (fun i => ⟨[(0, .s t 1 (encF l)), (1, .s t' 1 (encF m)), (5, .i .i64 i)], [], 0⟩) (fun i => i ≤ l.length ∧ l.take i = m.take i) (fun i => l.length - i) 0 rfl (by simp) ?_
  rintro i ⟨h1, h2⟩ K kN kE kR
  simp (config := { maxSteps := 10000000, implicitDefEqProofs := false }) only [go_sem, ↓reduceIte, Nat.reduceAdd, Nat.reduceMul, Nat.reduceEqDiff, Nat.reduceSub, Nat.reduceLT, reduceCtorEq, Nat.reduceLeDiff, Nat.reduceBEq, mwp_draw]
  refine ⟨fun h3 => ⟨by omega, by omega, fun x hx => ⟨by omega, by omega, fun y hy => ?_⟩⟩, fun h3 => kE _ _ ?_⟩
  · refine callK_is (dyEdges_is _ _ x y (hm x (List.mem_of_getElem? hx))) ?_
    by_cases h4 : x = y
    · have h5 : decide (x = y) = true := decide_eq_true h4
      rw [h5]
      simp (config := { maxSteps := 10000000, implicitDefEqProofs := false }) only [go_sem, ↓reduceIte, Nat.reduceAdd, Nat.reduceMul, Nat.reduceEqDiff, Nat.reduceSub, Nat.reduceLT, reduceCtorEq, Nat.reduceLeDiff, Nat.reduceBEq, mwp_draw]
      exact ⟨by kernel_rfl, fits64 (by omega) (by omega), kN _ (i + 1) (by rfl) ⟨by omega, eq_step h2 hx hy h4⟩ (by omega)⟩
    · have h5 : decide (x = y) = false := decide_eq_false h4
      rw [h5]
      simp (config := { maxSteps := 10000000, implicitDefEqProofs := false }) only [go_sem, ↓reduceIte, Nat.reduceAdd, Nat.reduceMul, Nat.reduceEqDiff, Nat.reduceSub, Nat.reduceLT, reduceCtorEq, Nat.reduceLeDiff, Nat.reduceBEq, mwp_draw]
      refine ⟨by kernel_rfl, kR _ ?_⟩
      simp (config := { maxSteps := 10000000, implicitDefEqProofs := false }) only [go_sem, ↓reduceIte, Nat.reduceAdd, Nat.reduceMul, Nat.reduceEqDiff, Nat.reduceSub, Nat.reduceLT, reduceCtorEq, Nat.reduceLeDiff, Nat.reduceBEq, mwp_draw]
      exact mvb (eq_ne hx hy h4).symm
  · simp (config := { maxSteps := 10000000, implicitDefEqProofs := false }) only [go_sem, ↓reduceIte, Nat.reduceAdd, Nat.reduceMul, Nat.reduceEqDiff, Nat.reduceSub, Nat.reduceLT, reduceCtorEq, Nat.reduceLeDiff, Nat.reduceBEq, mwp_draw]
    obtain rfl : i = l.length := by omega
    exact mvb (eq_end (by omega) h2).symm
theorem DrawForestsOf_is (t : Bool) (b : List Int) (hb : Byt b) : MCall prog fid_spec_DrawForestsOf [.s t 1 (encB b)]
    (fun o r => o = [.u] ∧ ∃ n es k, r = .tup [.agg [.i .i64 n, .ow true 2 (encE es)], .i .i64 k] ∧ es.length ≤ 200) := by
  refine MCall.run mixed get_spec_DrawForestsOf ok_spec_DrawForestsOf (Nat.le_of_ble_eq_true rfl) (by decide) ?_
  unfold mc_spec_DrawForestsOf
  have hb' := byt_take2 hb 2000
  have hc' : (b.take 2000).length ≤ 2000 := by simp; omega
  simp (config := { maxSteps := 10000000, implicitDefEqProofs := false }) only [go_sem, ↓reduceIte, Nat.reduceAdd, Nat.reduceMul, Nat.reduceEqDiff, Nat.reduceSub, Nat.reduceLT, reduceCtorEq, Nat.reduceLeDiff, Nat.reduceBEq, mwp_draw]
  refine callK_is (l14Open_is b) ?_
  simp (config := { maxSteps := 10000000, implicitDefEqProofs := false }) only [go_sem, ↓reduceIte, Nat.reduceAdd, Nat.reduceMul, Nat.reduceEqDiff, Nat.reduceSub, Nat.reduceLT, reduceCtorEq, Nat.reduceLeDiff, Nat.reduceBEq, mwp_draw]
  generalize b.take 2000 = c at hb' hc'
  refine callK_any (l10Draw_is c 0 hb' hc' (by omega)) ?_
  rintro o r ⟨p, n, es, rfl, rfl, w1, w2, w3, w4, w5⟩
  simp (config := { maxSteps := 10000000, implicitDefEqProofs := false }) only [go_sem, ↓reduceIte, Nat.reduceAdd, Nat.reduceMul, Nat.reduceEqDiff, Nat.reduceSub, Nat.reduceLT, reduceCtorEq, Nat.reduceLeDiff, Nat.reduceBEq, mwp_draw]
  refine callK_any (l1Wrong_is c p _ n es hb' hc' (by omega) (by omega) (by omega)) ?_
  rintro o r ⟨p2, n2, es2, rfl, rfl, v1, v2, v3, v4, v5⟩
  simp (config := { maxSteps := 10000000, implicitDefEqProofs := false }) only [go_sem, ↓reduceIte, Nat.reduceAdd, Nat.reduceMul, Nat.reduceEqDiff, Nat.reduceSub, Nat.reduceLT, reduceCtorEq, Nat.reduceLeDiff, Nat.reduceBEq, mwp_draw]
  refine callK_det (num_is _ c p2 [2, 1, 3, 0, 5, -1, 41] hb' hc' (by omega) (by decide)) ?_
  simp (config := { maxSteps := 10000000, implicitDefEqProofs := false }) only [go_sem, ↓reduceIte, Nat.reduceAdd, Nat.reduceMul, Nat.reduceEqDiff, Nat.reduceSub, Nat.reduceLT, reduceCtorEq, Nat.reduceLeDiff, Nat.reduceBEq, mwp_draw]
  first | exact ⟨n2, es2, _, rfl, by omega⟩ | trace_state
theorem goneF {α : Type} {l : List α} {i : Nat} {x : α} (hx : l[i]? = some x) : ∀ P : α → Prop, (∀ z, l[i]? = some z → P z) ↔ P x := fun P => ⟨fun h => h x hx, fun h z hz => by rw [hx] at hz; cases hz; exact h⟩
theorem FnForestsOf_is (t : Bool) (b : List Int) (hb : Byt b) : Is prog fid_laws_FnForestsOf [.s t 1 (encB b)] (.b true) := by
  refine MCall.run mixed get_laws_FnForestsOf ok_laws_FnForestsOf (Nat.le_of_ble_eq_true rfl) (by decide) ?_
  unfold mc_laws_FnForestsOf
  simp (config := { maxSteps := 10000000, implicitDefEqProofs := false }) only [go_sem, ↓reduceIte, Nat.reduceAdd, Nat.reduceMul, Nat.reduceEqDiff, Nat.reduceSub, Nat.reduceLT, reduceCtorEq, Nat.reduceLeDiff, Nat.reduceBEq, mwp_draw]
  refine fun hlen => callK_any (DrawForestsOf_is _ b hb) ?_
  rintro o r ⟨rfl, n, es, k, rfl, w1⟩
  simp (config := { maxSteps := 10000000, implicitDefEqProofs := false }) only [go_sem, ↓reduceIte, Nat.reduceAdd, Nat.reduceMul, Nat.reduceEqDiff, Nat.reduceSub, Nat.reduceLT, reduceCtorEq, Nat.reduceLeDiff, Nat.reduceBEq, mwp_draw]
  refine callK_is (ForestsOf_is _ n es k (by omega)) ?_
  simp (config := { maxSteps := 10000000, implicitDefEqProofs := false }) only [go_sem, ↓reduceIte, Nat.reduceAdd, Nat.reduceMul, Nat.reduceEqDiff, Nat.reduceSub, Nat.reduceLT, reduceCtorEq, Nat.reduceLeDiff, Nat.reduceBEq, mwp_draw]
  refine callK_is (ForestsOfS_is _ n es k (by omega)) ?_
  have fl : (fsV n es k).length ≤ 2000000 ∧ ∀ x ∈ fsV n es k, x.length ≤ 2000000 := by
    cases q : fsB n es k
    · simp [fsV, q]
    · have q' := q
      simp only [fsB, Bool.and_eq_true, decide_eq_true_eq] at q'
      have hv : fsV n es k = frs n k.toNat es := by simp [fsV, q]
      rw [hv]
      refine ⟨by rw [frs_length]; omega, fun x hx => ?_⟩
      obtain ⟨i, hi⟩ := List.getElem?_of_mem hx
      have hil : i < k.toNat := by have := (List.getElem?_eq_some_iff.1 hi).1; rwa [frs_length] at this
      rw [frs_get hil] at hi
      cases hi
      have a := forest_len (n := n) (es := rsts n i es)
      have b := rsts_len (n := n) (es := es) (k := i)
      omega
  simp (config := { maxSteps := 10000000, implicitDefEqProofs := false }) only [go_sem, ↓reduceIte, Nat.reduceAdd, Nat.reduceMul, Nat.reduceEqDiff, Nat.reduceSub, Nat.reduceLT, reduceCtorEq, Nat.reduceLeDiff, Nat.reduceBEq, mwp_draw]
  refine callK_is (dyBlocks_is _ _ (fsV n es k) (fsV n es k) fl.1 fl.2) ?_
  cases q : fsB n es k
  · simp (config := { maxSteps := 10000000, implicitDefEqProofs := false }) only [go_sem, ↓reduceIte, Nat.reduceAdd, Nat.reduceMul, Nat.reduceEqDiff, Nat.reduceSub, Nat.reduceLT, reduceCtorEq, Nat.reduceLeDiff, Nat.reduceBEq, mwp_draw]
    refine callK_is (dyBlocks_is _ _ (fsV n es k) (fsV n es k) fl.1 fl.2) ?_
    simp (config := { maxSteps := 10000000, implicitDefEqProofs := false }) only [go_sem, ↓reduceIte, Nat.reduceAdd, Nat.reduceMul, Nat.reduceEqDiff, Nat.reduceSub, Nat.reduceLT, reduceCtorEq, Nat.reduceLeDiff, Nat.reduceBEq, mwp_draw]
  · have q' := q
    simp only [fsB, Bool.and_eq_true, decide_eq_true_eq] at q'
    have hv : fsV n es k = frs n k.toNat es := by simp [fsV, q]
    have hgv := q'.1.1
    rw [hv]
    have fl1 : (frs n k.toNat es).length = k.toNat := frs_length
    simp (config := { maxSteps := 10000000, implicitDefEqProofs := false }) only [go_sem, ↓reduceIte, Nat.reduceAdd, Nat.reduceMul, Nat.reduceEqDiff, Nat.reduceSub, Nat.reduceLT, reduceCtorEq, Nat.reduceLeDiff, Nat.reduceBEq, mwp_draw]
    refine mwp_loopk (X := Nat) (fun i => ⟨[(4, .i .i64 k), (5, .sr 0 0 (frs n k.toNat es).length), (9, .pr 1 0 0), (10, .i .i64 i)], [(0, .arr false 1 (encF (frs n k.toNat es))), (1, .box [.i .i64 n, .sr 2 0 (rsts n i es).length]), (2, .arr true 2 (encE (rsts n i es)))], 3⟩)
      (fun i => i ≤ k.toNat) (fun i => k.toNat - i) 0 (by rfl) (Nat.zero_le _) ?_
    rintro i h1 K kN kE kR
    by_cases hi : i < k.toNat
    · have hF := frs_get (n := n) (es := es) hi
      have hR := gv_rsts (k := i) hgv
      have hrl := rsts_len (n := n) (es := es) (k := i)
      have hfl := forest_len (n := n) (es := rsts n i es)
      have gF := goneF hF
      have hnx : ∀ {j : Nat} {x : E}, (forest n (rsts n i es))[j]? = some x → (wo (rsts n i es) ((forest n (rsts n i es)).take j)).filter (fun y => !decide (y = x)) = wo (rsts n i es) ((forest n (rsts n i es)).take (j + 1)) := fun hx => wo_next hx
      have hin : ∀ {j : Nat} {x : E}, (forest n (rsts n i es))[j]? = some x → (gvB n (wo (rsts n i es) ((forest n (rsts n i es)).take j)) && decide (x ∈ wo (rsts n i es) ((forest n (rsts n i es)).take j))) = true := fun hx => by
        rw [gv_wo hR, decide_eq_true (next_in hR hx)]; rfl
      have hfo := ForestOf_is false n (rsts n i es) (by omega)
      rw [if_pos hR] at hfo
      have hrs : rsts n (i + 1) es = wo (rsts n i es) (forest n (rsts n i es)) := by rw [rsts, rst]
      generalize forest n (rsts n i es) = F at *
      generalize rsts n i es = R at *
      have c1 : ((i : Int) < (frs n k.toNat es).length) = True := eq_true (by omega)
      have c2 : (i < (frs n k.toNat es).length) = True := eq_true (by omega)
      have c3 : (0 ≤ (i : Int)) = True := eq_true (by omega)
      simp (config := { maxSteps := 10000000, implicitDefEqProofs := false }) only [go_sem, ↓reduceIte, Nat.reduceAdd, Nat.reduceMul, Nat.reduceEqDiff, Nat.reduceSub, Nat.reduceLT, reduceCtorEq, Nat.reduceLeDiff, Nat.reduceBEq, mwp_draw, c1, c2, c3, ↓gF]
      refine callK_is hfo ?_
      simp (config := { maxSteps := 10000000, implicitDefEqProofs := false }) only [go_sem, ↓reduceIte, Nat.reduceAdd, Nat.reduceMul, Nat.reduceEqDiff, Nat.reduceSub, Nat.reduceLT, reduceCtorEq, Nat.reduceLeDiff, Nat.reduceBEq, mwp_draw]
      refine callK_is (dyEdges_is _ _ F F (by omega)) ?_
      simp (config := { maxSteps := 10000000, implicitDefEqProofs := false }) only [go_sem, ↓reduceIte, Nat.reduceAdd, Nat.reduceMul, Nat.reduceEqDiff, Nat.reduceSub, Nat.reduceLT, reduceCtorEq, Nat.reduceLeDiff, Nat.reduceBEq, mwp_draw]
      repeat (refine ⟨by first | omega | decide | exact fits64 (by omega) (by omega) | kernel_rfl | (intros; omega), ?_⟩)
      refine mwp_loopk (X := Nat) (fun j => ⟨[(4, .i .i64 k), (5, .sr 0 0 (frs n k.toNat es).length), (9, .pr 1 0 0), (10, .i .i64 i), (11, .i .i64 j)], [(0, .arr false 1 (encF (frs n k.toNat es))), (1, .box [.i .i64 n, .sr 2 0 (wo R (F.take j)).length]), (2, .arr true 2 (encE (wo R (F.take j))))], 3⟩)
        (fun j => j ≤ F.length) (fun j => F.length - j) 0 (by rw [List.take_zero, wo_nil]; rfl) (Nat.zero_le _) ?_
      rintro j h2 K2 kN2 kE2 kR2
      have wl := wo_len (es := R) (f := F.take j)
      by_cases hj : j < F.length
      · obtain ⟨y, hy⟩ : ∃ y, F[j]? = some y := ⟨_, List.getElem?_eq_getElem hj⟩
        have gy := goneF hy
        have d1 : ((j : Int) < F.length) = True := eq_true (by omega)
        have d2 : (j < F.length) = True := eq_true hj
        have d3 : (0 ≤ (j : Int)) = True := eq_true (by omega)
        simp (config := { maxSteps := 10000000, implicitDefEqProofs := false }) only [go_sem, ↓reduceIte, Nat.reduceAdd, Nat.reduceMul, Nat.reduceEqDiff, Nat.reduceSub, Nat.reduceLT, reduceCtorEq, Nat.reduceLeDiff, Nat.reduceBEq, mwp_draw, c1, c2, c3, d1, d2, d3, ↓gF, ↓gy]
        refine callK_is (CutEdge_is _ n (wo R (F.take j)) y (by omega)) ?_
        rw [hin hy, hnx hy]
        simp (config := { maxSteps := 10000000, implicitDefEqProofs := false }) only [go_sem, ↓reduceIte, Nat.reduceAdd, Nat.reduceMul, Nat.reduceEqDiff, Nat.reduceSub, Nat.reduceLT, reduceCtorEq, Nat.reduceLeDiff, Nat.reduceBEq, mwp_draw]
        repeat (refine ⟨by first | omega | decide | exact fits64 (by omega) (by omega) | kernel_rfl | (intros; omega), ?_⟩)
        exact kN2 _ (j + 1) (by rfl) (by omega) (by omega)
      · have d1 : ((j : Int) < F.length) = False := eq_false (by omega)
        simp (config := { maxSteps := 10000000, implicitDefEqProofs := false }) only [go_sem, ↓reduceIte, Nat.reduceAdd, Nat.reduceMul, Nat.reduceEqDiff, Nat.reduceSub, Nat.reduceLT, reduceCtorEq, Nat.reduceLeDiff, Nat.reduceBEq, mwp_draw, c1, c2, c3, d1, ↓gF]
        refine kE2 _ _ ?_
        have e : F.take j = F := List.take_of_length_le (by omega)
        rw [e, ← hrs]
        simp (config := { maxSteps := 10000000, implicitDefEqProofs := false }) only [go_sem, ↓reduceIte, Nat.reduceAdd, Nat.reduceMul, Nat.reduceEqDiff, Nat.reduceSub, Nat.reduceLT, reduceCtorEq, Nat.reduceLeDiff, Nat.reduceBEq, mwp_draw]
        repeat (refine ⟨by first | omega | decide | exact fits64 (by omega) (by omega) | kernel_rfl | (intros; omega), ?_⟩)
        exact kN _ (i + 1) (by rfl) (by omega) (by omega)
    · have c1 : ((i : Int) < (frs n k.toNat es).length) = False := eq_false (by omega)
      have e : (((frs n k.toNat es).length : Int) = k) = True := eq_true (by omega)
      simp (config := { maxSteps := 10000000, implicitDefEqProofs := false }) only [go_sem, ↓reduceIte, Nat.reduceAdd, Nat.reduceMul, Nat.reduceEqDiff, Nat.reduceSub, Nat.reduceLT, reduceCtorEq, Nat.reduceLeDiff, Nat.reduceBEq, mwp_draw, c1]
      refine kE _ _ ?_
      simp (config := { maxSteps := 10000000, implicitDefEqProofs := false }) only [go_sem, ↓reduceIte, Nat.reduceAdd, Nat.reduceMul, Nat.reduceEqDiff, Nat.reduceSub, Nat.reduceLT, reduceCtorEq, Nat.reduceLeDiff, Nat.reduceBEq, mwp_draw, e]
theorem FnForestsOf_row (m : List (List D)) (h : ∀ r ∈ m, rowOK [.i .u8] r) (_ : m.length ≤ maxLen) : Is prog fid_laws_FnForestsOf [.s false 1 m] (.b true) := by
  obtain ⟨b, rfl, hb⟩ := rows_bytes h
  exact FnForestsOf_is _ b hb
end Go.Fw
