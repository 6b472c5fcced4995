/-
  Rooted trees: meeting nodes, cutting.
-/
import Derived.Test.YtbolckhedohecabCt12
namespace Go.Fw
set_option linter.unusedSimpArgs false
set_option linter.unusedVariables false
set_option maxRecDepth 100000
set_option maxHeartbeats 4000000
open Go.Proofs.Try (prog)
open Go.Pl

theorem find_step {α : Type} {p : α → Bool} {l : List α} {i : Nat} {x : α} (h : (l.take i).find? p = none) (hx : l[i]? = some x) (e : p x = false) : (l.take (i + 1)).find? p = none := by
  rw [List.take_add_one, hx, List.find?_append, h]; simp [e]
theorem find_here {α : Type} {p : α → Bool} {l : List α} {i : Nat} {x : α} (h : (l.take i).find? p = none) (hx : l[i]? = some x) (e : p x = true) : l.find? p = some x := by
  have h1 : l = l.take i ++ x :: l.drop (i + 1) := by
    have hi : i < l.length := (List.getElem?_eq_some_iff.1 hx).1
    have : l[i] = x := (List.getElem?_eq_some_iff.1 hx).2
    rw [← this, ← List.drop_eq_getElem_cons hi, List.take_append_drop]
  rw [h1, List.find?_append, h]; simp [e]

theorem l6In_is (t : Bool) (l : List Int) (n : Int) (hl : l.length ≤ 2000000) : Is prog fid_spec_l6In [.s t 1 (encI l), .i .i64 n] (.b (decide (n ∈ l))) := by
  refine MCall.run mixed get_spec_l6In ok_spec_l6In (Nat.le_of_ble_eq_true rfl) (by decide) ?_
  unfold mc_spec_l6In
  simp (config := { maxSteps := 10000000, implicitDefEqProofs := false }) only [go_sem, ↓reduceIte, Nat.reduceAdd, Nat.reduceMul, Nat.reduceEqDiff, Nat.reduceSub, Nat.reduceLT, reduceCtorEq, Nat.reduceLeDiff, Nat.reduceBEq, mwp_draw]
  refine mwp_loopk (X := Nat) (fun i => ⟨[(0, .s t 1 (encI l)), (1, .i .i64 n), (5, .i .i64 i)], [], 0⟩) (fun i => i ≤ l.length ∧ n ∉ l.take i) (fun i => l.length - i) 0 rfl (by simp) ?_
  rintro i ⟨h1, h2⟩ K kN kE kR
  simp (config := { maxSteps := 10000000, implicitDefEqProofs := false }) only [go_sem, ↓reduceIte, Nat.reduceAdd, Nat.reduceMul, Nat.reduceEqDiff, Nat.reduceSub, Nat.reduceLT, reduceCtorEq, Nat.reduceLeDiff, Nat.reduceBEq, mwp_draw]
  refine ⟨fun h3 => ⟨by omega, h3, fun x hx => ⟨fun h4 => kR _ ?_, fun h4 => ⟨fits64 (by omega) (by omega), kN _ (i + 1) (by rfl) ⟨by omega, in_step h2 hx h4⟩ (by omega)⟩⟩⟩, fun h3 => kE _ _ ?_⟩
  · simp (config := { maxSteps := 10000000, implicitDefEqProofs := false }) only [go_sem, ↓reduceIte, Nat.reduceAdd, Nat.reduceMul, Nat.reduceEqDiff, Nat.reduceSub, Nat.reduceLT, reduceCtorEq, Nat.reduceLeDiff, Nat.reduceBEq, mwp_draw]
    exact mvb (decide_eq_true (h4 ▸ List.mem_of_getElem? hx)).symm
  · simp (config := { maxSteps := 10000000, implicitDefEqProofs := false }) only [go_sem, ↓reduceIte, Nat.reduceAdd, Nat.reduceMul, Nat.reduceEqDiff, Nat.reduceSub, Nat.reduceLT, reduceCtorEq, Nat.reduceLeDiff, Nat.reduceBEq, mwp_draw]
    obtain rfl : i = l.length := by omega
    rw [List.take_length] at h2
    exact mvb (decide_eq_false h2).symm

/-- The first place of a number, or -1. -/
def idxM (l : List Int) (n : Int) : Int := match l.findIdx? (fun x => decide (n = x)) with | some i => i | none => -1
theorem idx_step {l : List Int} {n x : Int} {i : Nat} (h : (l.take i).findIdx? (fun x => decide (n = x)) = none) (hx : l[i]? = some x) (e : ¬ n = x) : (l.take (i + 1)).findIdx? (fun x => decide (n = x)) = none := by
  rw [List.findIdx?_eq_none_iff] at h ⊢
  rw [List.take_add_one, hx]
  intro y hy
  rcases List.mem_append.1 hy with hy | hy
  · exact h y hy
  · simp at hy; subst hy; simpa using e
theorem idx_here {l : List Int} {n x : Int} {i : Nat} (h : (l.take i).findIdx? (fun x => decide (n = x)) = none) (hx : l[i]? = some x) (e : n = x) : idxM l n = i := by
  have hi : i < l.length := (List.getElem?_eq_some_iff.1 hx).1
  have hx' : l[i] = x := (List.getElem?_eq_some_iff.1 hx).2
  have h1 : l = l.take i ++ x :: l.drop (i + 1) := by
    rw [← hx', ← List.drop_eq_getElem_cons hi, List.take_append_drop]
  unfold idxM
  rw [h1, List.findIdx?_append, h]
  simp [List.findIdx?_cons, e]; omega
theorem idxM_mem {l : List Int} {n : Int} : (0 ≤ idxM l n) ↔ n ∈ l := by
  unfold idxM
  cases h : l.findIdx? (fun x => decide (n = x)) with
  | none =>
    rw [List.findIdx?_eq_none_iff] at h
    simp; intro hm; simpa using h n hm
  | some i =>
    have := List.findIdx?_eq_some_iff_getElem.1 h
    obtain ⟨h1, h2, _⟩ := this
    simp at h2
    simp; rw [h2]; exact List.getElem_mem h1
theorem Index_is (t : Bool) (l : List Int) (n : Int) (hl : l.length ≤ 2000000) : Is prog fid_slices_Index_int_int [.s t 1 (encI l), .i .i64 n] (.i .i64 (idxM l n)) := by
  refine MCall.run mixed get_slices_Index_int_int ok_slices_Index_int_int (Nat.le_of_ble_eq_true rfl) (by decide) ?_
  unfold mc_slices_Index_int_int
  simp (config := { maxSteps := 10000000, implicitDefEqProofs := false }) only [go_sem, ↓reduceIte, Nat.reduceAdd, Nat.reduceMul, Nat.reduceEqDiff, Nat.reduceSub, Nat.reduceLT, reduceCtorEq, Nat.reduceLeDiff, Nat.reduceBEq, mwp_draw]
  refine mwp_loopk (X := Nat) (fun i => ⟨[(0, .s t 1 (encI l)), (1, .i .i64 n), (7, .i .i64 l.length), (8, .i .i64 i)], [], 0⟩) (fun i => i ≤ l.length ∧ (l.take i).findIdx? (fun x => decide (n = x)) = none) (fun i => l.length - i) 0 rfl (by simp) ?_
  rintro i ⟨h1, h2⟩ K kN kE kR
  simp (config := { maxSteps := 10000000, implicitDefEqProofs := false }) only [go_sem, ↓reduceIte, Nat.reduceAdd, Nat.reduceMul, Nat.reduceEqDiff, Nat.reduceSub, Nat.reduceLT, reduceCtorEq, Nat.reduceLeDiff, Nat.reduceBEq, mwp_draw]
  refine ⟨fun h3 => ⟨by omega, h3, fun x hx => ⟨fun h4 => kR _ ?_, fun h4 => ⟨fits64 (by omega) (by omega), kN _ (i + 1) (by rfl) ⟨by omega, idx_step h2 hx h4⟩ (by omega)⟩⟩⟩, fun h3 => kE _ _ ?_⟩
  · simp (config := { maxSteps := 10000000, implicitDefEqProofs := false }) only [go_sem, ↓reduceIte, Nat.reduceAdd, Nat.reduceMul, Nat.reduceEqDiff, Nat.reduceSub, Nat.reduceLT, reduceCtorEq, Nat.reduceLeDiff, Nat.reduceBEq, mwp_draw]
    exact mvi (idx_here h2 hx h4).symm
  · simp (config := { maxSteps := 10000000, implicitDefEqProofs := false }) only [go_sem, ↓reduceIte, Nat.reduceAdd, Nat.reduceMul, Nat.reduceEqDiff, Nat.reduceSub, Nat.reduceLT, reduceCtorEq, Nat.reduceLeDiff, Nat.reduceBEq, mwp_draw]
    obtain rfl : i = l.length := by omega
    rw [List.take_length] at h2
    exact mvi (by unfold idxM; rw [h2])
theorem Contains_is (t : Bool) (l : List Int) (n : Int) (hl : l.length ≤ 2000000) : Is prog fid_slices_Contains_int_int [.s t 1 (encI l), .i .i64 n] (.b (decide (n ∈ l))) := by
  refine MCall.run mixed get_slices_Contains_int_int ok_slices_Contains_int_int (Nat.le_of_ble_eq_true rfl) (by decide) ?_
  unfold mc_slices_Contains_int_int
  simp (config := { maxSteps := 10000000, implicitDefEqProofs := false }) only [go_sem, ↓reduceIte, Nat.reduceAdd, Nat.reduceMul, Nat.reduceEqDiff, Nat.reduceSub, Nat.reduceLT, reduceCtorEq, Nat.reduceLeDiff, Nat.reduceBEq, mwp_draw]
  refine callK_is (Index_is _ l n hl) ?_
  simp (config := { maxSteps := 10000000, implicitDefEqProofs := false }) only [go_sem, ↓reduceIte, Nat.reduceAdd, Nat.reduceMul, Nat.reduceEqDiff, Nat.reduceSub, Nat.reduceLT, reduceCtorEq, Nat.reduceLeDiff, Nat.reduceBEq, mwp_draw]
  exact mvb (decide_eq_decide.2 idxM_mem)
theorem Clone_is (t : Bool) (l : List Int) (hl : l.length ≤ 2000000) : Is prog fid_slices_Clone_int_int [.s t 1 (encI l)] (.ow true 1 (encI l)) := by
  refine MCall.run mixed get_slices_Clone_int_int ok_slices_Clone_int_int (Nat.le_of_ble_eq_true rfl) (by decide) ?_
  unfold mc_slices_Clone_int_int
  simp (config := { maxSteps := 10000000, implicitDefEqProofs := false }) only [go_sem, ↓reduceIte, Nat.reduceAdd, Nat.reduceMul, Nat.reduceEqDiff, Nat.reduceSub, Nat.reduceLT, reduceCtorEq, Nat.reduceLeDiff, Nat.reduceBEq, mwp_draw]
  exact ⟨fun h => by rw [h], by omega⟩
/-- A node is cut from its parent. -/
def cutOK (ps ws : List Int) (node : Int) : Bool := nodeOK ps ws node && !decide (par ps node = -1)
def cutP (ps ws : List Int) (node : Int) : List Int := if cutOK ps ws node then ps.set node.toNat (-1) else []
def cutW (ps ws : List Int) (node : Int) : List Int := if cutOK ps ws node then ws.set node.toNat 0 else []
/-- Where two ways up meet. -/
def meetO (ps ws : List Int) (x y : Int) : Option Int := if nodeOK ps ws x && nodeOK ps ws y then (wayL ps x).find? (fun n => decide (n ∈ wayL ps y)) else none
theorem MeetOf_is (t t' : Bool) (ps ws : List Int) (x y : Int) (hl : ps.length ≤ 1048576) (hl' : ws.length ≤ 1048576) :
    Is prog fid_impl_MeetOf [Rt t t' ps ws, .i .i64 x, .i .i64 y] (.tup [.i .i64 ((meetO ps ws x y).getD 0), .b (meetO ps ws x y).isSome]) := by
  refine MCall.run mixed get_impl_MeetOf ok_impl_MeetOf (Nat.le_of_ble_eq_true rfl) (by decide) ?_
  unfold mc_impl_MeetOf
  simp (config := { maxSteps := 10000000, implicitDefEqProofs := false }) only [go_sem, ↓reduceIte, Nat.reduceAdd, Nat.reduceMul, Nat.reduceEqDiff, Nat.reduceSub, Nat.reduceLT, reduceCtorEq, Nat.reduceLeDiff, Nat.reduceBEq, mwp_draw]
  refine callK_is (WayUp_is _ _ ps ws x hl hl') ?_
  simp (config := { maxSteps := 10000000, implicitDefEqProofs := false }) only [go_sem, ↓reduceIte, Nat.reduceAdd, Nat.reduceMul, Nat.reduceEqDiff, Nat.reduceSub, Nat.reduceLT, reduceCtorEq, Nat.reduceLeDiff, Nat.reduceBEq, mwp_draw]
  refine callK_is (WayUp_is _ _ ps ws y hl hl') ?_
  cases h : nodeOK ps ws x
  · simp (config := { maxSteps := 10000000, implicitDefEqProofs := false }) only [go_sem, ↓reduceIte, Nat.reduceAdd, Nat.reduceMul, Nat.reduceEqDiff, Nat.reduceSub, Nat.reduceLT, reduceCtorEq, Nat.reduceLeDiff, Nat.reduceBEq, mwp_draw]
    simp [meetO, h]
  cases h' : nodeOK ps ws y
  · simp (config := { maxSteps := 10000000, implicitDefEqProofs := false }) only [go_sem, ↓reduceIte, Nat.reduceAdd, Nat.reduceMul, Nat.reduceEqDiff, Nat.reduceSub, Nat.reduceLT, reduceCtorEq, Nat.reduceLeDiff, Nat.reduceBEq, mwp_draw]
    simp [meetO, h, h']
  simp (config := { maxSteps := 10000000, implicitDefEqProofs := false }) only [go_sem, ↓reduceIte, Nat.reduceAdd, Nat.reduceMul, Nat.reduceEqDiff, Nat.reduceSub, Nat.reduceLT, reduceCtorEq, Nat.reduceLeDiff, Nat.reduceBEq, mwp_draw]
  have e1 : wayN ps ws x = wayL ps x := by simp [wayN, h]
  have e2 : wayN ps ws y = wayL ps y := by simp [wayN, h']
  rw [e1, e2]
  obtain ⟨_, g1⟩ := wayL_ne h
  obtain ⟨_, g2⟩ := wayL_ne h'
  refine mwp_loopk (X := Nat) (fun i => ⟨[(10, .sr 0 0 (wayL ps y).length), (32, .sr 1 0 (wayL ps x).length), (33, .i .i64 (wayL ps x).length), (34, .i .i64 i)], [(0, .arr true 1 (encI (wayL ps y))), (1, .arr true 1 (encI (wayL ps x)))], 2⟩)
    (fun i => i ≤ (wayL ps x).length ∧ ((wayL ps x).take i).find? (fun n => decide (n ∈ wayL ps y)) = none) (fun i => (wayL ps x).length - i) 0 (by rfl) (by simp) ?_
  rintro i ⟨k1, k2⟩ K kN kE kR
  simp (config := { maxSteps := 10000000, implicitDefEqProofs := false }) only [go_sem, ↓reduceIte, Nat.reduceAdd, Nat.reduceMul, Nat.reduceEqDiff, Nat.reduceSub, Nat.reduceLT, reduceCtorEq, Nat.reduceLeDiff, Nat.reduceBEq, mwp_draw]
  refine ⟨fun k3 => ⟨by omega, k3, by omega, fun z hz => ?_⟩, fun k3 => kE _ _ ?_⟩
  · refine callK_is (Contains_is _ (wayL ps y) z (by omega)) ?_
    cases hc : decide (z ∈ wayL ps y)
    · simp (config := { maxSteps := 10000000, implicitDefEqProofs := false }) only [go_sem, ↓reduceIte, Nat.reduceAdd, Nat.reduceMul, Nat.reduceEqDiff, Nat.reduceSub, Nat.reduceLT, reduceCtorEq, Nat.reduceLeDiff, Nat.reduceBEq, mwp_draw]
      exact ⟨fits64 (by omega) (by omega), kN _ (i + 1) (by rfl) ⟨by omega, find_step k2 hz hc⟩ (by omega)⟩
    · simp (config := { maxSteps := 10000000, implicitDefEqProofs := false }) only [go_sem, ↓reduceIte, Nat.reduceAdd, Nat.reduceMul, Nat.reduceEqDiff, Nat.reduceSub, Nat.reduceLT, reduceCtorEq, Nat.reduceLeDiff, Nat.reduceBEq, mwp_draw]
      refine kR _ ?_
      simp (config := { maxSteps := 10000000, implicitDefEqProofs := false }) only [go_sem, ↓reduceIte, Nat.reduceAdd, Nat.reduceMul, Nat.reduceEqDiff, Nat.reduceSub, Nat.reduceLT, reduceCtorEq, Nat.reduceLeDiff, Nat.reduceBEq, mwp_draw]
      simp [meetO, h, h', find_here k2 hz hc]
  · simp (config := { maxSteps := 10000000, implicitDefEqProofs := false }) only [go_sem, ↓reduceIte, Nat.reduceAdd, Nat.reduceMul, Nat.reduceEqDiff, Nat.reduceSub, Nat.reduceLT, reduceCtorEq, Nat.reduceLeDiff, Nat.reduceBEq, mwp_draw]
    obtain rfl : i = (wayL ps x).length := by omega
    rw [List.take_length] at k2
    simp [meetO, h, h', k2]
theorem MeetOfS_is (t t' : Bool) (ps ws : List Int) (x y : Int) (hl : ps.length ≤ 1048576) (hl' : ws.length ≤ 1048576) :
    Is prog fid_spec_MeetOf [Rt t t' ps ws, .i .i64 x, .i .i64 y] (.tup [.i .i64 ((meetO ps ws x y).getD 0), .b (meetO ps ws x y).isSome]) := by
  refine MCall.run mixed get_spec_MeetOf ok_spec_MeetOf (Nat.le_of_ble_eq_true rfl) (by decide) ?_
  unfold mc_spec_MeetOf
  simp (config := { maxSteps := 10000000, implicitDefEqProofs := false }) only [go_sem, ↓reduceIte, Nat.reduceAdd, Nat.reduceMul, Nat.reduceEqDiff, Nat.reduceSub, Nat.reduceLT, reduceCtorEq, Nat.reduceLeDiff, Nat.reduceBEq, mwp_draw]
  refine callK_is (l12Node_is _ _ ps ws x hl hl') ?_
  cases h : nodeOK ps ws x
  · simp (config := { maxSteps := 10000000, implicitDefEqProofs := false }) only [go_sem, ↓reduceIte, Nat.reduceAdd, Nat.reduceMul, Nat.reduceEqDiff, Nat.reduceSub, Nat.reduceLT, reduceCtorEq, Nat.reduceLeDiff, Nat.reduceBEq, mwp_draw]
    simp [meetO, h]
  simp (config := { maxSteps := 10000000, implicitDefEqProofs := false }) only [go_sem, ↓reduceIte, Nat.reduceAdd, Nat.reduceMul, Nat.reduceEqDiff, Nat.reduceSub, Nat.reduceLT, reduceCtorEq, Nat.reduceLeDiff, Nat.reduceBEq, mwp_draw]
  refine callK_is (l12Node_is _ _ ps ws y hl hl') ?_
  cases h' : nodeOK ps ws y
  · simp (config := { maxSteps := 10000000, implicitDefEqProofs := false }) only [go_sem, ↓reduceIte, Nat.reduceAdd, Nat.reduceMul, Nat.reduceEqDiff, Nat.reduceSub, Nat.reduceLT, reduceCtorEq, Nat.reduceLeDiff, Nat.reduceBEq, mwp_draw]
    simp [meetO, h, h']
  simp (config := { maxSteps := 10000000, implicitDefEqProofs := false }) only [go_sem, ↓reduceIte, Nat.reduceAdd, Nat.reduceMul, Nat.reduceEqDiff, Nat.reduceSub, Nat.reduceLT, reduceCtorEq, Nat.reduceLeDiff, Nat.reduceBEq, mwp_draw]
  obtain ⟨h1, h2, h3, h4, h5, h6⟩ := nodeOK_get h
  obtain ⟨_, _, i3, i4, _, i6⟩ := nodeOK_get h'
  obtain ⟨_, g1⟩ := wayL_ne h
  obtain ⟨_, g2⟩ := wayL_ne h'
  refine callK_is (l12Up_is _ _ ps ws x h1 (by omega) hl h6) ?_
  simp (config := { maxSteps := 10000000, implicitDefEqProofs := false }) only [go_sem, ↓reduceIte, Nat.reduceAdd, Nat.reduceMul, Nat.reduceEqDiff, Nat.reduceSub, Nat.reduceLT, reduceCtorEq, Nat.reduceLeDiff, Nat.reduceBEq, mwp_draw]
  refine callK_is (l12Up_is _ _ ps ws y h1 (by omega) hl i6) ?_
  simp (config := { maxSteps := 10000000, implicitDefEqProofs := false }) only [go_sem, ↓reduceIte, Nat.reduceAdd, Nat.reduceMul, Nat.reduceEqDiff, Nat.reduceSub, Nat.reduceLT, reduceCtorEq, Nat.reduceLeDiff, Nat.reduceBEq, mwp_draw]
  refine mwp_loopk (X := Nat) (fun i => ⟨[(8, .sr 0 0 (wayL ps x).length), (9, .sr 1 0 (wayL ps y).length), (10, .i .i64 i)], [(0, .arr true 1 (encI (wayL ps x))), (1, .arr true 1 (encI (wayL ps y)))], 2⟩)
    (fun i => i ≤ (wayL ps x).length ∧ ((wayL ps x).take i).find? (fun n => decide (n ∈ wayL ps y)) = none) (fun i => (wayL ps x).length - i) 0 (by rfl) (by simp) ?_
  rintro i ⟨k1, k2⟩ K kN kE kR
  simp (config := { maxSteps := 10000000, implicitDefEqProofs := false }) only [go_sem, ↓reduceIte, Nat.reduceAdd, Nat.reduceMul, Nat.reduceEqDiff, Nat.reduceSub, Nat.reduceLT, reduceCtorEq, Nat.reduceLeDiff, Nat.reduceBEq, mwp_draw]
  refine ⟨fun k3 => ⟨by omega, k3, by omega, fun z hz => ?_⟩, fun k3 => kE _ _ ?_⟩
  · refine callK_is (l6In_is _ (wayL ps y) z (by omega)) ?_
    cases hc : decide (z ∈ wayL ps y)
    · simp (config := { maxSteps := 10000000, implicitDefEqProofs := false }) only [go_sem, ↓reduceIte, Nat.reduceAdd, Nat.reduceMul, Nat.reduceEqDiff, Nat.reduceSub, Nat.reduceLT, reduceCtorEq, Nat.reduceLeDiff, Nat.reduceBEq, mwp_draw]
      exact ⟨fits64 (by omega) (by omega), kN _ (i + 1) (by rfl) ⟨by omega, find_step k2 hz hc⟩ (by omega)⟩
    · simp (config := { maxSteps := 10000000, implicitDefEqProofs := false }) only [go_sem, ↓reduceIte, Nat.reduceAdd, Nat.reduceMul, Nat.reduceEqDiff, Nat.reduceSub, Nat.reduceLT, reduceCtorEq, Nat.reduceLeDiff, Nat.reduceBEq, mwp_draw]
      refine ⟨by omega, by omega, by omega, fun z' hz' => kR _ ?_⟩
      simp (config := { maxSteps := 10000000, implicitDefEqProofs := false }) only [go_sem, ↓reduceIte, Nat.reduceAdd, Nat.reduceMul, Nat.reduceEqDiff, Nat.reduceSub, Nat.reduceLT, reduceCtorEq, Nat.reduceLeDiff, Nat.reduceBEq, mwp_draw]
      obtain rfl : z = z' := by rw [hz] at hz'; exact Option.some.inj hz'
      simp [meetO, h, h', find_here k2 hz hc]
  · simp (config := { maxSteps := 10000000, implicitDefEqProofs := false }) only [go_sem, ↓reduceIte, Nat.reduceAdd, Nat.reduceMul, Nat.reduceEqDiff, Nat.reduceSub, Nat.reduceLT, reduceCtorEq, Nat.reduceLeDiff, Nat.reduceBEq, mwp_draw]
    obtain rfl : i = (wayL ps x).length := by omega
    rw [List.take_length] at k2
    simp [meetO, h, h', k2]
end Go.Fw
