/-
  Graphs: the order of edges, valid graphs.
-/
import Derived.Test.YtjklefjjmfpnoaaCtK
import Derived.Test.YtjklefjjmfpnoaaCe
import Derived.Test.YtjklefjjmfpnoaaPlG
namespace Go.Fw
set_option linter.unusedSimpArgs false
set_option linter.unusedVariables false
set_option maxRecDepth 100000
set_option maxHeartbeats 4000000
open Go.Proofs.Try (prog)
open Go.Pl

/-- A graph, an edge. -/
abbrev Gr (t : Bool) (n : Int) (es : List E) : MV := .agg [.i .i64 n, .s t 2 (encE es)]
abbrev Ed1 (e : E) : MV := .agg [.i .i64 e.1, .i .i64 e.2]

def cmpI (a b : Int) : Int := if a < b then -1 else if b < a then 1 else 0
def cmpE (a b : E) : Int := if cmpI a.1 b.1 ≠ 0 then cmpI a.1 b.1 else cmpI a.2 b.2
theorem cmpE_lt {a b : E} : cmpE a b < 0 ↔ eLt a b := by
  unfold cmpE cmpI eLt; repeat' split
  all_goals omega
theorem cmpE_eq {a b : E} : cmpE a b = 0 ↔ a = b := by
  have : a = b ↔ a.1 = b.1 ∧ a.2 = b.2 := Prod.ext_iff
  rw [this]; unfold cmpE cmpI; repeat' split
  all_goals omega
theorem cmpE_ge {a b : E} : 0 ≤ cmpE a b ↔ ¬ eLt a b := by rw [← cmpE_lt]; omega
theorem isNaN_is (x : Int) : Is prog fid_cmp_isNaN_int [.i .i64 x] (.b false) := by
  refine MCall.run mixed get_cmp_isNaN_int ok_cmp_isNaN_int (Nat.le_of_ble_eq_true rfl) (by decide) ?_
  unfold mc_cmp_isNaN_int
  simp (maxSteps := 9999999) -implicitDefEqProofs only [go_sem, mwp_draw]
theorem Compare_is (a b : Int) : Is prog fid_cmp_Compare_int [.i .i64 a, .i .i64 b] (.i .i64 (cmpI a b)) := by
  refine MCall.run mixed get_cmp_Compare_int ok_cmp_Compare_int (Nat.le_of_ble_eq_true rfl) (by decide) ?_
  unfold mc_cmp_Compare_int
  simp (maxSteps := 9999999) -implicitDefEqProofs only [go_sem, mwp_draw]
  refine callK_is (isNaN_is a) ?_
  simp (maxSteps := 9999999) -implicitDefEqProofs only [go_sem, mwp_draw]
  refine callK_is (isNaN_is b) ?_
  simp (maxSteps := 9999999) -implicitDefEqProofs only [go_sem, mwp_draw]
  refine ⟨fun h => mvi (by simp [cmpI, h]), fun h => ⟨fun h2 => mvi (by simp [cmpI, h, h2]), fun h2 => mvi (by simp [cmpI, h, h2])⟩⟩
theorem Or_is (t : Bool) (a b : Int) : Is prog fid_cmp_Or_int [.s t 1 (encI [a, b])] (.i .i64 (if a ≠ 0 then a else b)) := by
  refine MCall.run mixed get_cmp_Or_int ok_cmp_Or_int (Nat.le_of_ble_eq_true rfl) (by decide) ?_
  unfold mc_cmp_Or_int
  simp (maxSteps := 9999999) -implicitDefEqProofs only [go_sem, mwp_draw]
  refine mwp_loopk (X := Nat) (fun i => ⟨[(3, .i .i64 0), (6, .s t 1 (encI [a, b])), (7, .i .i64 2), (8, .i .i64 i)], [], 0⟩) (fun i => i ≤ 2 ∧ (1 ≤ i → a = 0) ∧ (2 ≤ i → b = 0)) (fun i => 2 - i) 0 rfl (by simp) ?_
  rintro i ⟨h1, h2, h3⟩ K kN kE kR
  simp (maxSteps := 9999999) -implicitDefEqProofs only [go_sem, mwp_draw]
  refine ⟨fun h4 => ⟨by omega, by omega, fun x hx => ?_⟩, fun h4 => kE _ _ ?_⟩
  · refine ⟨fun h5 => kR _ ?_, fun h5 => ?_⟩
    rotate_left
    · refine ⟨fits64 (by omega) (by omega), kN _ (i + 1) (by rfl) ⟨by omega, fun _ => ?_, fun _ => ?_⟩ (by omega)⟩
      · have : i = 0 ∨ i = 1 := by omega
        rcases this with rfl | rfl
        · simp at hx; omega
        · exact h2 (by omega)
      · have : i = 1 := by omega
        subst this; simp at hx; omega
    · simp (maxSteps := 9999999) -implicitDefEqProofs only [go_sem, mwp_draw]
      have : i = 0 ∨ i = 1 := by omega
      rcases this with rfl | rfl
      · simp at hx; subst hx; rw [if_pos h5]
      · simp at hx; subst hx; rw [if_neg (by simp [h2])]
  · simp (maxSteps := 9999999) -implicitDefEqProofs only [go_sem, mwp_draw]
    rw [h2 (by omega), h3 (by omega)]; rfl
theorem compareEdges_is (a b : E) : Is prog fid_impl_compareEdges [Ed1 a, Ed1 b] (.i .i64 (cmpE a b)) := by
  refine MCall.run mixed get_impl_compareEdges ok_impl_compareEdges (Nat.le_of_ble_eq_true rfl) (by decide) ?_
  unfold mc_impl_compareEdges
  simp (maxSteps := 9999999) -implicitDefEqProofs only [go_sem, mwp_draw]
  refine callK_is (Compare_is a.1 b.1) ?_
  simp (maxSteps := 9999999) -implicitDefEqProofs only [go_sem, mwp_draw]
  refine callK_is (Compare_is a.2 b.2) ?_
  simp (maxSteps := 9999999) -implicitDefEqProofs only [go_sem, mwp_draw]
  refine callK_is (Or_is _ (cmpI a.1 b.1) (cmpI a.2 b.2)) ?_
  simp (maxSteps := 9999999) -implicitDefEqProofs only [go_sem, mwp_draw]
  exact ⟨by kernel_rfl, rfl⟩
theorem l1Less_is (a b : E) : Is prog fid_spec_l1Less [Ed1 a, Ed1 b] (.b (decide (eLt a b))) := by
  refine MCall.run mixed get_spec_l1Less ok_spec_l1Less (Nat.le_of_ble_eq_true rfl) (by decide) ?_
  unfold mc_spec_l1Less
  simp (maxSteps := 9999999) -implicitDefEqProofs only [go_sem, mwp_draw]
  refine ⟨fun h => ⟨fun h2 => mvb ?_, fun h2 => mvb ?_⟩, fun h => mvb ?_⟩ <;> simp [eLt, *]
end Go.Fw
