/-
  Forests use all edges up, and do not grow.
-/
import Derived.Test.YtjklefjjmfpnoaaCtCf
import Derived.Test.YtjklefjjmfpnoaaCtN
import Derived.Test.YtjklefjjmfpnoaaCtP
import Derived.Test.YtjklefjjmfpnoaaCtDy
import Derived.Test.YtjklefjjmfpnoaaKFnForestsAll
namespace Go.Fw
set_option linter.unusedSimpArgs false
set_option linter.unusedVariables false
set_option maxRecDepth 100000
set_option maxHeartbeats 4000000
open Go.Proofs.Try (prog)
open Go.Pl

theorem dyBlocks_is (t t' : Bool) (l m : List (List E)) (hl : l.length ≤ 2000000) (hm : ∀ x ∈ l, x.length ≤ 2000000) : Is prog fid_laws_dyBlocks [.s t 1 (encF l), .s t' 1 (encF m)] (.b (decide (l = m))) := by
  refine MCall.run mixed get_laws_dyBlocks ok_laws_dyBlocks (Nat.le_of_ble_eq_true rfl) (by decide) ?_
  unfold mc_laws_dyBlocks
  simp (maxSteps := 9999999) -implicitDefEqProofs only [go_sem, mwp_draw]
  refine ⟨fun h => mvb (eq_len h).symm, fun h => ?_⟩
  refine mwp_loopk (X := Nat) (fun i => ⟨[(0, .s t 1 (encF l)), (1, .s t' 1 (encF m)), (5, .i .i64 i)], [], 0⟩) (fun i => i ≤ l.length ∧ l.take i = m.take i) (fun i => l.length - i) 0 rfl (by simp) ?_
  rintro i ⟨h1, h2⟩ K kN kE kR
  simp (maxSteps := 9999999) -implicitDefEqProofs only [go_sem, mwp_draw]
  refine ⟨fun h3 => ⟨by omega, by omega, fun x hx => ⟨by omega, by omega, fun y hy => ?_⟩⟩, fun h3 => kE _ _ ?_⟩
  · refine callK_is (dyEdges_is _ _ x y (hm x (List.mem_of_getElem? hx))) ?_
    by_cases h4 : x = y
    · have h5 : decide (x = y) = true := decide_eq_true h4
      rw [h5]
      simp (maxSteps := 9999999) -implicitDefEqProofs only [go_sem, mwp_draw]
      exact ⟨by kernel_rfl, fits64 (by omega) (by omega), kN _ (i + 1) (by rfl) ⟨by omega, eq_step h2 hx hy h4⟩ (by omega)⟩
    · have h5 : decide (x = y) = false := decide_eq_false h4
      rw [h5]
      simp (maxSteps := 9999999) -implicitDefEqProofs only [go_sem, mwp_draw]
      refine ⟨by kernel_rfl, kR _ ?_⟩
      simp (maxSteps := 9999999) -implicitDefEqProofs only [go_sem, mwp_draw]
      exact mvb (eq_ne hx hy h4).symm
  · simp (maxSteps := 9999999) -implicitDefEqProofs only [go_sem, mwp_draw]
    obtain rfl : i = l.length := by omega
    exact mvb (eq_end (by omega) h2).symm
theorem DrawForestsOf_is (t : Bool) (b : List Int) (hb : Byt b) : MCall prog fid_spec_DrawForestsOf [.s t 1 (encB b)]
    (fun o r => o = [.u] ∧ ∃ n es k, r = .tup [.agg [.i .i64 n, .ow true 2 (encE es)], .i .i64 k] ∧ es.length ≤ 200) := by
  refine MCall.run mixed get_spec_DrawForestsOf ok_spec_DrawForestsOf (Nat.le_of_ble_eq_true rfl) (by decide) ?_
  unfold mc_spec_DrawForestsOf
  have hb' := byt_take2 hb 2000
  have hc' : (b.take 2000).length ≤ 2000 := by simp; omega
  simp (maxSteps := 9999999) -implicitDefEqProofs only [go_sem, mwp_draw]
  refine callK_is (l14Open_is b) ?_
  simp (maxSteps := 9999999) -implicitDefEqProofs only [go_sem, mwp_draw]
  generalize b.take 2000 = c at hb' hc'
  refine callK_any (l10Draw_is c 0 hb' hc' (by omega)) ?_
  rintro o r ⟨p, n, es, rfl, rfl, w1, w2, w3, w4, w5⟩
  simp (maxSteps := 9999999) -implicitDefEqProofs only [go_sem, mwp_draw]
  refine callK_any (l1Wrong_is c p _ n es hb' hc' (by omega) (by omega) (by omega)) ?_
  rintro o r ⟨p2, n2, es2, rfl, rfl, v1, v2, v3, v4, v5⟩
  simp (maxSteps := 9999999) -implicitDefEqProofs only [go_sem, mwp_draw]
  refine callK_det (num_is _ c p2 [2, 1, 3, 0, 5, -1, 41] hb' hc' (by omega) (by decide)) ?_
  simp (maxSteps := 9999999) -implicitDefEqProofs only [go_sem, mwp_draw]
  exact ⟨n2, es2, _, rfl, by omega⟩
theorem FnForestsAll_is (t : Bool) (b : List Int) (hb : Byt b) : Is prog fid_laws_FnForestsAll [.s t 1 (encB b)] (.b true) := by
  refine MCall.run mixed get_laws_FnForestsAll ok_laws_FnForestsAll (Nat.le_of_ble_eq_true rfl) (by decide) ?_
  unfold mc_laws_FnForestsAll
  simp (maxSteps := 9999999) -implicitDefEqProofs only [go_sem, mwp_draw]
  refine fun hlen => callK_any (DrawForestsOf_is _ b hb) ?_
  rintro o r ⟨rfl, n, es, k, rfl, w1⟩
  simp (maxSteps := 9999999) -implicitDefEqProofs only [go_sem, mwp_draw]
  refine callK_is (ForestsOf_is _ n es k (by omega)) ?_
  simp (maxSteps := 9999999) -implicitDefEqProofs only [go_sem, mwp_draw]
  refine callK_is (ForestsOfS_is _ n es k (by omega)) ?_
  have fl : (fsV n es k).length ≤ 2000000 ∧ ∀ x ∈ fsV n es k, x.length ≤ 2000000 := by
    cases q : fsB n es k
    · simp [fsV, q]
    · have q' := q
      simp only [fsB, Bool.and_eq_true, decide_eq_true_eq] at q'
      have hv : fsV n es k = frs n k.toNat es := by simp [fsV, q]
      rw [hv]
      refine ⟨by rw [frs_length]; omega, fun x hx => ?_⟩
      obtain ⟨i, hi⟩ := List.getElem?_of_mem hx
      have hil : i < k.toNat := by have := (List.getElem?_eq_some_iff.1 hi).1; rwa [frs_length] at this
      rw [frs_get hil] at hi
      cases hi
      have a := forest_len (n := n) (es := rsts n i es)
      have b := rsts_len (n := n) (es := es) (k := i)
      omega
  simp (maxSteps := 9999999) -implicitDefEqProofs only [go_sem, mwp_draw]
  refine callK_is (dyBlocks_is _ _ (fsV n es k) (fsV n es k) fl.1 fl.2) ?_
  cases q : fsB n es k
  · simp (maxSteps := 9999999) -implicitDefEqProofs only [go_sem, mwp_draw]
    refine callK_is (dyBlocks_is _ _ (fsV n es k) (fsV n es k) fl.1 fl.2) ?_
    simp (maxSteps := 9999999) -implicitDefEqProofs only [go_sem, mwp_draw]
  · have q' := q
    simp only [fsB, Bool.and_eq_true, decide_eq_true_eq] at q'
    have hv : fsV n es k = frs n k.toNat es := by simp [fsV, q]
    have hgv := q'.1.1
    have hel := (gvB_iff.1 hgv).2.2.1
    rw [hv]
    have fl1 : (frs n k.toNat es).length = k.toNat := frs_length
    have q40 : fsB n es 40 = true := by simp [fsB, hgv]
    have c40 : ceV n es 40 = es := by
      have := cer_all (n := n) hgv (k := 40) hel
      simpa [ceV, q40] using this
    have n40 : ceN n es 40 = n := by simp [ceN, q40]
    simp (maxSteps := 9999999) -implicitDefEqProofs only [go_sem, mwp_draw]
    refine callK_is (CertificateOf_is _ n es 40 (by omega)) ?_
    rw [q40, c40, n40]
    simp (maxSteps := 9999999) -implicitDefEqProofs only [go_sem, mwp_draw]
    refine mwp_loopk (X := Nat) (fun i => ⟨[(3, .pr 0 0 0), (5, .sr 1 0 (frs n k.toNat es).length), (9, .pr 2 0 0), (10, .b true), (11, .i .i64 i)],
        [(0, .box [.i .i64 n, .sr 3 0 es.length]), (1, .arr false 1 (encF (frs n k.toNat es))), (2, .box [.i .i64 n, .sr 4 0 es.length]), (3, .arr true 2 (encE es)), (4, .arr true 2 (encE es))], 5⟩)
      (fun i => 1 ≤ i) (fun i => k.toNat + 1 - i) 1 (by kernel_rfl) (Nat.le_refl _) ?_
    rintro i h1 K kN kE kR
    by_cases hi : i < k.toNat
    · obtain ⟨j, rfl⟩ : ∃ j, i = j + 1 := ⟨i - 1, by omega⟩
      have gF := goneF (frs_get (n := n) (es := es) hi)
      have gG := goneF (frs_get (n := n) (es := es) (k := k.toNat) (i := j) (by omega))
      have hd := frs_desc (n := n) hgv (i := j)
      have hr1 := rsts_len (n := n) (es := es) (k := j + 1)
      have hr2 := rsts_len (n := n) (es := es) (k := j)
      have hf1 := forest_len (n := n) (es := rsts n (j + 1) es)
      have hf2 := forest_len (n := n) (es := rsts n j es)
      have c1 : (((j + 1 : Nat) : Int) < (frs n k.toNat es).length) = True := eq_true (by omega)
      have c2 : (j + 1 < (frs n k.toNat es).length) = True := eq_true (by omega)
      have c3 : (0 ≤ ((j + 1 : Nat) : Int)) = True := eq_true (by omega)
      have c4 : (j < (frs n k.toNat es).length) = True := eq_true (by omega)
      have c5 : (((j + 1 : Nat) : Int) - 1) = (j : Int) := by omega
      have c6 : ((j : Int) < (frs n k.toNat es).length) = True := eq_true (by omega)
      have c7 : (0 ≤ (j : Int)) = True := eq_true (by omega)
      have c8 : (((forest n (rsts n j es)).length : Int) < ((forest n (rsts n (j + 1) es)).length : Int)) = False := eq_false (by omega)
      simp (maxSteps := 9999999) -implicitDefEqProofs only [go_sem, mwp_draw, c1, c2, c3, c4, c5, c6, c7, c8, ↓gF, ↓gG]
      repeat (refine ⟨by first | omega | decide | exact fits64 (by omega) (by omega) | kernel_rfl | (intros; omega), ?_⟩)
      exact kN _ (j + 1 + 1) (by kernel_rfl) (by omega) (by omega)
    · have c1 : ((i : Int) < (frs n k.toNat es).length) = False := eq_false (by omega)
      simp (maxSteps := 9999999) -implicitDefEqProofs only [go_sem, mwp_draw, c1]
      refine kE _ _ ?_
      simp (maxSteps := 9999999) -implicitDefEqProofs only [go_sem, mwp_draw]
      refine callK_is (GraphSame_is _ _ n es n es (by omega)) ?_
      simp (maxSteps := 9999999) -implicitDefEqProofs only [go_sem, mwp_draw]
theorem FnForestsAll_row (m : List (List D)) (h : ∀ r ∈ m, rowOK [.i .u8] r) (_ : m.length ≤ maxLen) : Is prog fid_laws_FnForestsAll [.s false 1 m] (.b true) := by
  obtain ⟨b, rfl, hb⟩ := rows_bytes h
  exact FnForestsAll_is _ b hb
end Go.Fw
