/-
  The program's weakest cut.
-/
import Derived.Test.YtjklefjjmfpnoaaCtFg
namespace Go.Fw
set_option linter.unusedSimpArgs false
set_option linter.unusedVariables false
set_option maxRecDepth 100000
set_option maxHeartbeats 4000000
open Go.Proofs.Try (prog)
open Go.Pl

theorem WeakestCut_is (t : Bool) (n : Int) (es : List E) (hl : es.length ≤ 1048576) :
    MCall prog fid_impl_WeakestCut [Gr t n es] (fun o r => o = [.u] ∧ ((wkB n es = false ∧ r = .tup [.i .i64 0, .b false]) ∨ (wkB n es = true ∧ ∃ m : Nat, r = .tup [.i .i64 m, .b true] ∧ m ≤ 40 ∧
      (∃ x y : Int, 0 ≤ x ∧ x < n ∧ 0 ≤ y ∧ y < n ∧ x ≠ y ∧ IsMin es x y m) ∧ ∀ y : Int, 1 ≤ y → y < n → ∃ c, IsMin es 0 y c ∧ m ≤ c))) := by
  refine MCall.run mixed get_impl_WeakestCut ok_impl_WeakestCut (Nat.le_of_ble_eq_true rfl) (by decide) ?_
  unfold mc_impl_WeakestCut
  simp (maxSteps := 9999999) -implicitDefEqProofs only [go_sem, mwp_draw]
  refine callK_is (GraphValid_is _ n es hl) ?_
  cases hg : gvB n es with
  | false =>
    have hw : wkB n es = false := by simp [wkB, hg]
    rw [hw]
    simp (maxSteps := 9999999) -implicitDefEqProofs only [go_sem, mwp_draw]
    first | done | exact .inl trivial | simp
  | true =>
    have hv := gvB_iff.1 hg
    have n0 := hv.1
    have n16 := hv.2.1
    have el := hv.2.2.1
    by_cases h2 : n = 1
    · have hw : wkB n es = false := by simp [wkB, hg]; omega
      have c1 := eq_true h2
      rw [hw]
      simp (maxSteps := 9999999) -implicitDefEqProofs only [go_sem, mwp_draw, c1]
      first | done | exact .inl trivial | simp
    · have hw : wkB n es = true := by simp [wkB, hg]; omega
      have c1 := eq_false h2
      rw [hw]
      simp (maxSteps := 9999999) -implicitDefEqProofs only [go_sem, mwp_draw, c1]
      refine callK_any (flow_is _ n es 0 1 hv (by omega) (by omega) (by omega) (by omega) (by omega)) ?_
      rintro o r ⟨rfl, u, c, rfl, hc⟩
      have lu := ul_length u
      simp (maxSteps := 9999999) -implicitDefEqProofs only [go_sem, mwp_draw, impL_ul, lu, zs_length, splice_zs]
      repeat (refine ⟨by first | omega | decide | exact fits64 (by omega) (by omega) | kernel_rfl | (intros; omega), ?_⟩)
      refine mwp_loopk (X := Nat × Nat) (fun z => ⟨[(1, .pr 0 0 0), (5, .i .i64 z.2), (24, .i .i64 n), (25, .i .i64 z.1)], [(0, .box [.i .i64 n, .s t 2 (encE es)])], 1⟩)
        (fun z => (z.1 : Int) ≤ n ∧ z.2 ≤ 40 ∧ (∃ x y : Int, 0 ≤ x ∧ x < n ∧ 0 ≤ y ∧ y < n ∧ x ≠ y ∧ IsMin es x y z.2) ∧ ∀ y : Int, 1 ≤ y → y < z.1 → ∃ c, IsMin es 0 y c ∧ z.2 ≤ c) (fun z => n.toNat - z.1) (0, c) (by kernel_rfl)
        ⟨by simp only; omega, Nat.le_trans hc.len el, ⟨0, 1, by omega, by omega, by omega, by omega, by omega, hc⟩, fun y a b => by simp only at b; omega⟩ ?_
      clear hc lu
      rintro ⟨y, m⟩ ⟨yn, m40, hex, hall⟩ K kN kE kR
      simp only at yn m40 hex hall ⊢
      by_cases hy : (y : Int) < n
      · have d1 := eq_true hy
        simp (maxSteps := 9999999) -implicitDefEqProofs only [go_sem, mwp_draw, d1]
        repeat (refine ⟨by first | omega | decide | exact fits64 (by omega) (by omega) | kernel_rfl | (intros; omega), ?_⟩)
        refine mwp_loopk (X := Nat × Nat) (fun z => ⟨[(1, .pr 0 0 0), (5, .i .i64 z.2), (6, .i .i64 y), (24, .i .i64 n), (25, .i .i64 y), (28, .i .i64 y), (29, .i .i64 z.1)], [(0, .box [.i .i64 n, .s t 2 (encE es)])], 1⟩)
          (fun z => z.1 ≤ y ∧ z.2 ≤ 40 ∧ (∃ x y : Int, 0 ≤ x ∧ x < n ∧ 0 ≤ y ∧ y < n ∧ x ≠ y ∧ IsMin es x y z.2) ∧ (∀ y' : Int, 1 ≤ y' → y' < y → ∃ c, IsMin es 0 y' c ∧ z.2 ≤ c) ∧ (0 < z.1 → ∃ c, IsMin es 0 y c ∧ z.2 ≤ c)) (fun z => y - z.1) (0, m) (by kernel_rfl)
          ⟨Nat.zero_le _, m40, hex, hall, fun h => by simp only at h; omega⟩ ?_
        clear hex hall m40
        rintro ⟨x, m⟩ ⟨xy, m40, hex, hall, h0⟩ K' kN' kE' kR'
        simp only at xy m40 hex hall h0 ⊢
        by_cases hx : (x : Int) < y
        · have d2 := eq_true hx
          simp (maxSteps := 9999999) -implicitDefEqProofs only [go_sem, mwp_draw, d2]
          repeat (refine ⟨by first | omega | decide | exact fits64 (by omega) (by omega) | kernel_rfl | (intros; omega), ?_⟩)
          refine callK_any (flow_is _ n es x y hv (by omega) (by omega) (by omega) (by omega) (by omega)) ?_
          rintro o r ⟨rfl, u, c, rfl, hc⟩
          have lu := ul_length u
          have c40 : c ≤ 40 := Nat.le_trans hc.len el
          have both : ∀ m' : Nat, m' ≤ m → m' ≤ c → (∀ y' : Int, 1 ≤ y' → y' < y → ∃ c, IsMin es 0 y' c ∧ m' ≤ c) ∧ (0 < x + 1 → ∃ c, IsMin es 0 y c ∧ m' ≤ c) := fun m' q1 q2 => ⟨fun y' w1 w2 => by
              obtain ⟨d, q3, q4⟩ := hall y' w1 w2
              exact ⟨d, q3, by omega⟩, fun _ => by
              by_cases e : x = 0
              · subst e; exact ⟨c, hc, q2⟩
              · obtain ⟨d, q3, q4⟩ := h0 (by omega)
                exact ⟨d, q3, by omega⟩⟩
          by_cases hcm : (m : Int) ≤ c
          · have d3 : ((m : Int) ≤ c) = True := eq_true hcm
            have d4 : min (m : Int) c = m := by omega
            simp (maxSteps := 9999999) -implicitDefEqProofs only [go_sem, mwp_draw, impL_ul, lu, zs_length, splice_zs, d2, d3, d4]
            repeat (refine ⟨by first | omega | decide | exact fits64 (by omega) (by omega) | kernel_rfl | (intros; omega), ?_⟩)
            exact kN' _ (x + 1, m) (by kernel_rfl) ⟨by simp only; omega, m40, hex, both m (Nat.le_refl _) (by omega)⟩ (by simp only; omega)
          · have d3 : ((m : Int) ≤ c) = False := eq_false hcm
            have d4 : min (m : Int) c = c := by omega
            simp (maxSteps := 9999999) -implicitDefEqProofs only [go_sem, mwp_draw, impL_ul, lu, zs_length, splice_zs, d2, d3, d4]
            repeat (refine ⟨by first | omega | decide | exact fits64 (by omega) (by omega) | kernel_rfl | (intros; omega), ?_⟩)
            exact kN' _ (x + 1, c) (by kernel_rfl) ⟨by simp only; omega, c40, ⟨x, y, by omega, by omega, by omega, by omega, by omega, hc⟩, both c (by omega) (Nat.le_refl _)⟩ (by simp only; omega)
        · obtain rfl : x = y := by omega
          have d2 := eq_false hx
          simp (maxSteps := 9999999) -implicitDefEqProofs only [go_sem, mwp_draw, d2]
          refine kE' _ _ ?_
          clear kN' kE' kR'
          simp (maxSteps := 9999999) -implicitDefEqProofs only [go_sem, mwp_draw]
          repeat (refine ⟨by first | omega | decide | exact fits64 (by omega) (by omega) | kernel_rfl | (intros; omega), ?_⟩)
          refine kN _ (x + 1, m) (by kernel_rfl) ⟨by simp only; omega, m40, hex, fun y' w1 w2 => ?_⟩ (by simp only; omega)
          simp only at w2
          by_cases e : y' = x
          · subst e; exact h0 (by omega)
          · exact hall y' w1 (by omega)
      · have d1 := eq_false hy
        simp (maxSteps := 9999999) -implicitDefEqProofs only [go_sem, mwp_draw, d1]
        refine kE _ _ ?_
        clear kN kE kR
        simp (maxSteps := 9999999) -implicitDefEqProofs only [go_sem, mwp_draw]
        exact .inr ⟨m, rfl, m40, hex, fun w w1 w2 => hall w w1 (by omega)⟩
end Go.Fw
