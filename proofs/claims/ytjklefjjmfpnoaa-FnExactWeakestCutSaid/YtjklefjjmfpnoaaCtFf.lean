/-
  The reference's weakest cut.
-/
import Derived.Test.YtjklefjjmfpnoaaCtFe
namespace Go.Fw
set_option linter.unusedSimpArgs false
set_option linter.unusedVariables false
set_option maxRecDepth 100000
set_option maxHeartbeats 4000000
open Go.Proofs.Try (prog)
open Go.Pl

theorem WeakestCutS_is (t : Bool) (n : Int) (es : List E) (hl : es.length ≤ 1048576) :
    MCall prog fid_spec_WeakestCut [Gr t n es] (fun o r => o = [.u] ∧ ((wkB n es = false ∧ r = .tup [.i .i64 0, .b false]) ∨ (wkB n es = true ∧ ∃ b : Nat, r = .tup [.i .i64 b, .b true] ∧ b ≤ 40 ∧
      (∃ y : Int, 1 ≤ y ∧ y < n ∧ IsMin es 0 y b) ∧ ∀ y : Int, 1 ≤ y → y < n → ∃ c, IsMin es 0 y c ∧ b ≤ c))) := by
  refine MCall.run mixed get_spec_WeakestCut ok_spec_WeakestCut (Nat.le_of_ble_eq_true rfl) (by decide) ?_
  unfold mc_spec_WeakestCut
  simp (maxSteps := 9999999) -implicitDefEqProofs only [go_sem, mwp_draw]
  refine callK_is (GraphValidS_is _ n es hl) ?_
  cases hg : gvB n es with
  | false =>
    have hw : wkB n es = false := by simp [wkB, hg]
    rw [hw]
    simp (maxSteps := 9999999) -implicitDefEqProofs only [go_sem, mwp_draw]
    first | done | exact .inl trivial | simp
  | true =>
    have hv := gvB_iff.1 hg
    have n0 := hv.1
    have n16 := hv.2.1
    by_cases h2 : n < 2
    · have hw : wkB n es = false := by simp [wkB, hg]; omega
      have c1 := eq_true h2
      rw [hw]
      simp (maxSteps := 9999999) -implicitDefEqProofs only [go_sem, mwp_draw, c1]
      first | done | exact .inl trivial | simp
    · have hw : wkB n es = true := by simp [wkB, hg]; omega
      have c1 := eq_false h2
      rw [hw]
      simp (maxSteps := 9999999) -implicitDefEqProofs only [go_sem, mwp_draw, c1]
      refine mwp_loopk (X := Nat × Nat) (fun z => ⟨[(1, .pr 0 0 0), (4, .i .i64 z.2), (5, .i .i64 z.1)], [(0, .box [.i .i64 n, .s t 2 (encE es)])], 1⟩)
        (fun z => 1 ≤ z.1 ∧ (z.1 : Int) ≤ n ∧ z.2 ≤ 40 ∧ (∀ y : Int, 1 ≤ y → y < z.1 → ∃ c, IsMin es 0 y c ∧ z.2 ≤ c) ∧ ((∃ y : Int, 1 ≤ y ∧ y < z.1 ∧ IsMin es 0 y z.2) ∨ (z.1 = 1 ∧ z.2 = 40))) (fun z => n.toNat - z.1) (1, 40) (by kernel_rfl)
        ⟨Nat.le_refl _, by simp only; omega, Nat.le_refl _, fun y a b => by simp only at b; omega, .inr ⟨rfl, rfl⟩⟩ ?_
      rintro ⟨y, b⟩ ⟨y1, yn, b40, hall, hex⟩ K kN kE kR
      simp only at y1 yn b40 hall hex ⊢
      by_cases hy : (y : Int) < n
      · have d1 := eq_true hy
        simp (maxSteps := 9999999) -implicitDefEqProofs only [go_sem, mwp_draw, d1]
        repeat (refine ⟨by first | omega | decide | exact fits64 (by omega) (by omega) | kernel_rfl | (intros; omega), ?_⟩)
        refine callK_any (l10Run_is _ n es 0 y hv (Int.le_refl _) (by omega) (by omega) hy (by omega)) ?_
        rintro o r ⟨rfl, ps, c, rfl, hc⟩
        have cl := hc.len
        have c40 : c ≤ 40 := Nat.le_trans cl hv.2.2.1
        have hall2 : ∀ b' : Nat, b' ≤ b → b' ≤ c → ∀ w : Int, 1 ≤ w → w < ((y + 1 : Nat) : Int) → ∃ c, IsMin es 0 w c ∧ b' ≤ c := fun b' q1 q2 w w1 w2 => by
          by_cases e : w = y
          · subst e; exact ⟨c, hc, q2⟩
          · obtain ⟨d, q3, q4⟩ := hall w w1 (by omega)
            exact ⟨d, q3, by omega⟩
        by_cases hcb : (c : Int) < b
        · have d2 := eq_true hcb
          simp (maxSteps := 9999999) -implicitDefEqProofs only [go_sem, mwp_draw, d1, d2]
          repeat (refine ⟨by first | omega | decide | exact fits64 (by omega) (by omega) | kernel_rfl | (intros; omega), ?_⟩)
          exact kN _ (y + 1, c) (by kernel_rfl) ⟨by simp only; omega, by simp only; omega, c40, hall2 c (by omega) (Nat.le_refl _), .inl ⟨y, by omega, by simp only; omega, hc⟩⟩ (by simp only; omega)
        · have d2 := eq_false hcb
          simp (maxSteps := 9999999) -implicitDefEqProofs only [go_sem, mwp_draw, d1, d2]
          repeat (refine ⟨by first | omega | decide | exact fits64 (by omega) (by omega) | kernel_rfl | (intros; omega), ?_⟩)
          refine kN _ (y + 1, b) (by kernel_rfl) ⟨by simp only; omega, by simp only; omega, b40, hall2 b (Nat.le_refl _) (by omega), .inl ?_⟩ (by simp only; omega)
          rcases hex with ⟨w, w1, w2, w3⟩ | ⟨e1, e2⟩
          · exact ⟨w, w1, by simp only; omega, w3⟩
          · have e3 : c = b := by omega
            subst e3
            exact ⟨y, by omega, by simp only; omega, hc⟩
      · have d1 := eq_false hy
        have hyn : (y : Int) = n := by omega
        simp (maxSteps := 9999999) -implicitDefEqProofs only [go_sem, mwp_draw, d1]
        refine kE _ _ ?_
        clear kN kE kR
        simp (maxSteps := 9999999) -implicitDefEqProofs only [go_sem, mwp_draw]
        refine .inr ⟨b, rfl, b40, ?_, fun w w1 w2 => hall w w1 (by omega)⟩
        rcases hex with ⟨w, w1, w2, w3⟩ | ⟨e1, e2⟩
        · exact ⟨w, w1, by omega, w3⟩
        · omega
end Go.Fw
