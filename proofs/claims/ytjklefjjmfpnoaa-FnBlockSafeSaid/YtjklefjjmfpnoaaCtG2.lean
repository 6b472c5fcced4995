/-
  Graphs: looking for edges, putting them, taking them away.
-/
import Derived.Test.YtjklefjjmfpnoaaCtG
namespace Go.Fw
set_option linter.unusedSimpArgs false
set_option linter.unusedVariables false
set_option maxRecDepth 100000
set_option maxHeartbeats 4000000
open Go.Proofs.Try (prog)
open Go.Pl

/-- The place of the first element that fulfils something, or -1. -/
def idxP {α : Type} (p : α → Bool) (l : List α) : Int := match l.findIdx? p with | some i => i | none => -1
theorem idxP_step {α : Type} {p : α → Bool} {l : List α} {x : α} {i : Nat} (h : (l.take i).findIdx? p = none) (hx : l[i]? = some x) (e : p x = false) : (l.take (i + 1)).findIdx? p = none := by
  rw [List.findIdx?_eq_none_iff] at h ⊢
  rw [List.take_add_one, hx]
  intro y hy
  rcases List.mem_append.1 hy with hy | hy
  · exact h y hy
  · simp at hy; subst hy; exact e
theorem idxP_here {α : Type} {p : α → Bool} {l : List α} {x : α} {i : Nat} (h : (l.take i).findIdx? p = none) (hx : l[i]? = some x) (e : p x = true) : idxP p l = i := by
  have hi : i < l.length := (List.getElem?_eq_some_iff.1 hx).1
  have hx' : l[i] = x := (List.getElem?_eq_some_iff.1 hx).2
  have h1 : l = l.take i ++ x :: l.drop (i + 1) := by
    rw [← hx', ← List.drop_eq_getElem_cons hi, List.take_append_drop]
  unfold idxP
  rw [h1, List.findIdx?_append, h]
  simp [List.findIdx?_cons, e]; omega
theorem idxP_none {α : Type} {p : α → Bool} {l : List α} (h : l.findIdx? p = none) : idxP p l = -1 := by unfold idxP; rw [h]
theorem idxP_ge {α : Type} {p : α → Bool} {l : List α} : 0 ≤ idxP p l ↔ ∃ x ∈ l, p x = true := by
  unfold idxP
  cases h : l.findIdx? p with
  | none =>
    rw [List.findIdx?_eq_none_iff] at h
    simp only [show ¬ (0 : Int) ≤ -1 by omega, false_iff]
    rintro ⟨x, hx, e⟩; rw [h x hx] at e; cases e
  | some i =>
    obtain ⟨h1, h2, _⟩ := List.findIdx?_eq_some_iff_getElem.1 h
    exact ⟨fun _ => ⟨_, List.getElem_mem h1, h2⟩, fun _ => by simp⟩
/-- The place of an edge, or -1. -/
def idxE (l : List E) (e : E) : Int := idxP (fun x => decide (x = e)) l
theorem idxE_ge {l : List E} {e : E} : 0 ≤ idxE l e ↔ e ∈ l := by
  unfold idxE; rw [idxP_ge]; simp
theorem l1Find_is (t : Bool) (l : List E) (e : E) (hl : l.length ≤ 1048576) : Is prog fid_spec_l1Find [.s t 2 (encE l), Ed1 e] (.i .i64 (idxE l e)) := by
  refine MCall.run mixed get_spec_l1Find ok_spec_l1Find (Nat.le_of_ble_eq_true rfl) (by decide) ?_
  unfold mc_spec_l1Find
  simp (maxSteps := 9999999) -implicitDefEqProofs only [go_sem, mwp_draw]
  refine mwp_loopk (X := Nat) (fun i => ⟨[(0, .s t 2 (encE l)), (3, .pr 0 0 0), (5, .i .i64 i)], [(0, .box [.i .i64 e.1, .i .i64 e.2])], 1⟩)
    (fun i => i ≤ l.length ∧ (l.take i).findIdx? (fun x => decide (x = e)) = none) (fun i => l.length - i) 0 (by rfl) (by simp) ?_
  rintro i ⟨h1, h2⟩ K kN kE kR
  simp (maxSteps := 9999999) -implicitDefEqProofs only [go_sem, mwp_draw]
  refine ⟨fun h4 => ⟨by omega, h4, fun x hx => ⟨by kernel_rfl, fun h5 => kR _ ?_, fun h5 => ⟨fits64 (by omega) (by omega), kN _ (i + 1) (by rfl) ⟨by omega, idxP_step h2 hx (by simpa using h5)⟩ (by omega)⟩⟩⟩, fun h4 => kE _ _ ?_⟩
  · simp (maxSteps := 9999999) -implicitDefEqProofs only [go_sem, mwp_draw]
    exact mvi (idxP_here h2 hx (by simpa using h5)).symm
  · simp (maxSteps := 9999999) -implicitDefEqProofs only [go_sem, mwp_draw]
    obtain rfl : i = l.length := by omega
    rw [List.take_length] at h2
    exact mvi (idxP_none h2).symm
theorem IndexE_is (t : Bool) (l : List E) (e : E) (hl : l.length ≤ 1048576) : Is prog fid_slices_Index_impl_Edge_impl_Edge [.s t 2 (encE l), Ed1 e] (.i .i64 (idxE l e)) := by
  refine MCall.run mixed get_slices_Index_impl_Edge_impl_Edge ok_slices_Index_impl_Edge_impl_Edge (Nat.le_of_ble_eq_true rfl) (by decide) ?_
  unfold mc_slices_Index_impl_Edge_impl_Edge
  simp (maxSteps := 9999999) -implicitDefEqProofs only [go_sem, mwp_draw]
  refine mwp_loopk (X := Nat) (fun i => ⟨[(0, .s t 2 (encE l)), (3, .pr 0 0 0), (7, .i .i64 l.length), (8, .i .i64 i)], [(0, .box [.i .i64 e.1, .i .i64 e.2])], 1⟩)
    (fun i => i ≤ l.length ∧ (l.take i).findIdx? (fun x => decide (x = e)) = none) (fun i => l.length - i) 0 (by rfl) (by simp) ?_
  rintro i ⟨h1, h2⟩ K kN kE kR
  simp (maxSteps := 9999999) -implicitDefEqProofs only [go_sem, mwp_draw]
  refine ⟨fun h4 => ⟨by omega, h4, fun x hx => ⟨by kernel_rfl, fun h5 => kR _ ?_, fun h5 => ⟨fits64 (by omega) (by omega), kN _ (i + 1) (by rfl) ⟨by omega, idxP_step h2 hx (by simpa using fun q => h5 (Eq.symm q))⟩ (by omega)⟩⟩⟩, fun h4 => kE _ _ ?_⟩
  · simp (maxSteps := 9999999) -implicitDefEqProofs only [go_sem, mwp_draw]
    exact mvi (idxP_here h2 hx (by simp [h5])).symm
  · simp (maxSteps := 9999999) -implicitDefEqProofs only [go_sem, mwp_draw]
    obtain rfl : i = l.length := by omega
    rw [List.take_length] at h2
    exact mvi (idxP_none h2).symm
theorem ContainsE_is (t : Bool) (l : List E) (e : E) (hl : l.length ≤ 1048576) : Is prog fid_slices_Contains_impl_Edge_impl_Edge [.s t 2 (encE l), Ed1 e] (.b (decide (e ∈ l))) := by
  refine MCall.run mixed get_slices_Contains_impl_Edge_impl_Edge ok_slices_Contains_impl_Edge_impl_Edge (Nat.le_of_ble_eq_true rfl) (by decide) ?_
  unfold mc_slices_Contains_impl_Edge_impl_Edge
  simp (maxSteps := 9999999) -implicitDefEqProofs only [go_sem, mwp_draw]
  refine callK_is (IndexE_is _ l e hl) ?_
  simp (maxSteps := 9999999) -implicitDefEqProofs only [go_sem, mwp_draw]
  exact mvb (decide_eq_decide.2 idxE_ge)
end Go.Fw
