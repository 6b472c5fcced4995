/-
  Comparisons in the statements.
-/
import Derived.Test.YtjklefjjmfpnoaaCtH
import Derived.Test.YtjklefjjmfpnoaaCtP
namespace Go.Fw
set_option linter.unusedSimpArgs false
set_option linter.unusedVariables false
set_option maxRecDepth 100000
set_option maxHeartbeats 4000000
open Go.Proofs.Try (prog)
open Go.Pl

theorem goneD {α : Type} {l : List α} {i : Nat} {x : α} (hx : l[i]? = some x) : ∀ P : α → Prop, (∀ z, l[i]? = some z → P z) ↔ P x := fun P => ⟨fun h => h x hx, fun h z hz => by rw [hx] at hz; cases hz; exact h⟩
theorem dyEdges_is (t t' : Bool) (l m : List E) (hl : l.length ≤ 2000000) : Is prog fid_laws_dyEdges [.s t 2 (encE l), .s t' 2 (encE m)] (.b (decide (l = m))) := by
  refine MCall.run mixed get_laws_dyEdges ok_laws_dyEdges (Nat.le_of_ble_eq_true rfl) (by decide) ?_
  unfold mc_laws_dyEdges
  simp (maxSteps := 9999999) -implicitDefEqProofs only [go_sem, mwp_draw]
  refine ⟨fun h => mvb (eq_len h).symm, fun h => ?_⟩
  refine mwp_loopk (X := Nat) (fun i => ⟨[(0, .s t 2 (encE l)), (1, .s t' 2 (encE m)), (5, .i .i64 i)], [], 0⟩) (fun i => i ≤ l.length ∧ l.take i = m.take i) (fun i => l.length - i) 0 rfl (by simp) ?_
  rintro i ⟨h1, h2⟩ K kN kE kR
  simp (maxSteps := 9999999) -implicitDefEqProofs only [go_sem, mwp_draw]
  refine ⟨fun h3 => ⟨by omega, h3, fun x hx => ⟨by omega, by omega, fun y hy => ⟨by kernel_rfl, fun h4 => kR _ ?_, fun h4 => ⟨fits64 (by omega) (by omega), kN _ (i + 1) (by rfl) ⟨by omega, eq_step h2 hx hy (by simpa using h4)⟩ (by omega)⟩⟩⟩⟩, fun h3 => kE _ _ ?_⟩
  · simp (maxSteps := 9999999) -implicitDefEqProofs only [go_sem, mwp_draw]
    exact mvb (eq_ne hx hy (by simpa using h4)).symm
  · simp (maxSteps := 9999999) -implicitDefEqProofs only [go_sem, mwp_draw]
    obtain rfl : i = l.length := by omega
    exact mvb (eq_end (by omega) h2).symm
theorem dyHas_is (t : Bool) (l : List E) (e : E) (hl : l.length ≤ 2000000) : Is prog fid_laws_dyHas [.s t 2 (encE l), Ed1 e] (.b (decide (e ∈ l))) := by
  refine MCall.run mixed get_laws_dyHas ok_laws_dyHas (Nat.le_of_ble_eq_true rfl) (by decide) ?_
  unfold mc_laws_dyHas
  simp (maxSteps := 9999999) -implicitDefEqProofs only [go_sem, mwp_draw]
  refine mwp_loopk (X := Nat) (fun i => ⟨[(0, .s t 2 (encE l)), (3, .pr 0 0 0), (5, .i .i64 i)], [(0, .box [.i .i64 e.1, .i .i64 e.2])], 1⟩) (fun i => i ≤ l.length ∧ e ∉ l.take i) (fun i => l.length - i) 0 (by rfl) (by simp) ?_
  rintro i ⟨h1, h2⟩ K kN kE kR
  by_cases hi : i < l.length
  · obtain ⟨x, hx⟩ : ∃ x, l[i]? = some x := ⟨_, List.getElem?_eq_getElem hi⟩
    have gx := goneD hx
    have c1 : ((i : Int) < l.length) = True := eq_true (by omega)
    have c2 : (i < l.length) = True := eq_true hi
    by_cases q1 : x.1 = e.1
    · have d1 : (x.1 = e.1) = True := eq_true q1
      by_cases q2 : x.2 = e.2
      · have d2 : (x.2 = e.2) = True := eq_true q2
        simp (maxSteps := 9999999) -implicitDefEqProofs only [go_sem, mwp_draw, c1, c2, d1, d2, ↓gx]
        repeat (refine ⟨by first | omega | decide | exact fits64 (by omega) (by omega) | kernel_rfl | (intros; omega), ?_⟩)
        refine kR _ ?_
        simp (maxSteps := 9999999) -implicitDefEqProofs only [go_sem, mwp_draw]
        have : x = e := Prod.ext q1 q2
        exact mvb (decide_eq_true (this ▸ List.mem_of_getElem? hx)).symm
      · have d2 : (x.2 = e.2) = False := eq_false q2
        simp (maxSteps := 9999999) -implicitDefEqProofs only [go_sem, mwp_draw, c1, c2, d1, d2, ↓gx]
        repeat (refine ⟨by first | omega | decide | exact fits64 (by omega) (by omega) | kernel_rfl | (intros; omega), ?_⟩)
        refine kN _ (i + 1) (by kernel_rfl) ⟨by omega, fun h => ?_⟩ (by omega)
        rw [List.take_add_one, hx, List.mem_append] at h
        rcases h with h | h
        · exact h2 h
        · simp at h; subst h; exact q2 rfl
    · have d1 : (x.1 = e.1) = False := eq_false q1
      simp (maxSteps := 9999999) -implicitDefEqProofs only [go_sem, mwp_draw, c1, c2, d1, ↓gx]
      repeat (refine ⟨by first | omega | decide | exact fits64 (by omega) (by omega) | kernel_rfl | (intros; omega), ?_⟩)
      refine kN _ (i + 1) (by kernel_rfl) ⟨by omega, fun h => ?_⟩ (by omega)
      rw [List.take_add_one, hx, List.mem_append] at h
      rcases h with h | h
      · exact h2 h
      · simp at h; subst h; exact q1 rfl
  · have c1 : ((i : Int) < l.length) = False := eq_false (by omega)
    simp (maxSteps := 9999999) -implicitDefEqProofs only [go_sem, mwp_draw, c1]
    refine kE _ _ ?_
    simp (maxSteps := 9999999) -implicitDefEqProofs only [go_sem, mwp_draw]
    obtain rfl : i = l.length := by omega
    rw [List.take_length] at h2
    exact mvb (decide_eq_false h2).symm
end Go.Fw
