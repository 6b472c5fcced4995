/-
  Laws on chains: how many, and of which edges.
-/
import Derived.Test.YtedacikdbkpccaaCtDw
import Derived.Test.YtedacikdbkpccaaCtRow
import Derived.Test.YtedacikdbkpccaaKFnChainsOf
namespace Go.Fw
set_option linter.unusedSimpArgs false
set_option linter.unusedVariables false
set_option maxRecDepth 100000
set_option maxHeartbeats 4000000
open Go.Proofs.Try (prog)
open Go.Pl

theorem FnChainsOf_is (t : Bool) (b : List Int) (hb : Byt b) : Is prog fid_laws_FnChainsOf [.s t 1 (encB b)] (.b true) := by
  refine MCall.run mixed get_laws_FnChainsOf ok_laws_FnChainsOf (Nat.le_of_ble_eq_true rfl) (by decide) ?_
  unfold mc_laws_FnChainsOf
  by_cases hl : 1048576 < b.length
  · have c0 : ((1048576 : Int) < b.length) = True := eq_true (by omega)
    simp (maxSteps := 9999999) -implicitDefEqProofs only [go_sem, mwp_draw, c0]
  have c0 : ((1048576 : Int) < b.length) = False := eq_false (by omega)
  simp (maxSteps := 9999999) -implicitDefEqProofs only [go_sem, mwp_draw, c0]
  refine callK_any (DrawChainsOf_is _ b hb) ?_
  rintro o r ⟨rfl, n, es, rfl, w1, w2, w3⟩
  simp (maxSteps := 9999999) -implicitDefEqProofs only [go_sem, mwp_draw]
  refine callK_is (ChainsOf_is _ n es (by omega)) ?_
  have ln := chV_len (n := n) (es := es)
  have hF := fun c hc => (chV_form (n := n) (es := es) (c := c) hc).2
  have hP := fun c hc => (chV_chP (n := n) (es := es) (c := c) hc).1
  have hR := fun c hc => chV_chR (n := n) (es := es) (c := c) hc
  have hS := fun u => ChainsOfS_is u n es (by omega)
  have h0 : gvB n es = false → chV n es = [] := fun h => by unfold chV; rw [h]; rfl
  have hT := fun h => chV_count (n := n) (es := es) h
  generalize chV n es = L at *
  simp (maxSteps := 9999999) -implicitDefEqProofs only [go_sem, mwp_draw]
  refine callK_is (hS _) ?_
  simp (maxSteps := 9999999) -implicitDefEqProofs only [go_sem, mwp_draw]
  refine callK_is (dyLists_is _ _ L L (by omega) (fun c hc => by have := hP c hc; omega)) ?_
  simp only [decide_true]
  simp (maxSteps := 9999999) -implicitDefEqProofs only [go_sem, mwp_draw, beq_true, beq_false]
  refine callK_is (GraphValid_is _ n es (by omega)) ?_
  cases hg : gvB n es with
  | false =>
    have e0 := h0 hg
    simp (maxSteps := 9999999) -implicitDefEqProofs only [go_sem, mwp_draw, beq_true, beq_false]
    refine callK_is (hS _) ?_
    simp (maxSteps := 9999999) -implicitDefEqProofs only [go_sem, mwp_draw]
    refine callK_is (dyLists_is _ _ L L (by omega) (fun c hc => by have := hP c hc; omega)) ?_
    subst e0
    simp only [decide_true]
    simp (maxSteps := 9999999) -implicitDefEqProofs only [go_sem, mwp_draw, beq_true, beq_false, List.length_nil]
    first | done | rfl
  | true =>
    have hT' := hT hg
    simp (maxSteps := 9999999) -implicitDefEqProofs only [go_sem, mwp_draw, beq_true, beq_false]
    refine mwp_loopk (X := Nat) (fun i => ⟨[(3, .pr 0 0 0), (4, .sr 1 0 L.length), (5, .i .i64 i)], [(0, .box [.i .i64 n, .sr 2 0 es.length]), (1, .arr true 1 (encN L)), (2, .arr true 2 (encE es))], 3⟩)
      (fun i => i ≤ L.length) (fun i => L.length - i) 0 (by kernel_rfl) (Nat.zero_le _) ?_
    rintro i g1 K kN kE kR
    by_cases hi : i < L.length
    · obtain ⟨c, hc⟩ : ∃ c, L[i]? = some c := ⟨_, List.getElem?_eq_getElem hi⟩
      have gc := goneS hc
      have f := hF c (List.mem_of_getElem? hc)
      have cl := hP c (List.mem_of_getElem? hc)
      have cr := hR c (List.mem_of_getElem? hc)
      have c1 : ((i : Int) < L.length) = True := eq_true (by omega)
      have c2 : (i < L.length) = True := eq_true hi
      simp (maxSteps := 9999999) -implicitDefEqProofs only [go_sem, mwp_draw, c1, c2, ↓gc]
      repeat (refine ⟨by first | omega | decide | exact fits64 (by omega) (by omega) | kernel_rfl | (intros; omega), ?_⟩)
      refine callK_is (ChainEdges_is _ c (by omega)) ?_
      rw [cr.1, cr.2]
      have ge := f.ge
      have sl := stE_len c
      have fe := f.edg
      have c5 : ((c.length : Int) < 2) = False := eq_false (by omega)
      generalize stE c = se at *
      simp (maxSteps := 9999999) -implicitDefEqProofs only [go_sem, mwp_draw, c1, c2, c5, ↓gc]
      repeat (refine ⟨by first | omega | decide | exact fits64 (by omega) (by omega) | kernel_rfl | (intros; omega), ?_⟩)
      refine mwp_loopk (X := Nat) (fun k => ⟨[(3, .pr 0 0 0), (4, .sr 1 0 L.length), (5, .i .i64 i), (6, .sr 2 0 se.length), (8, .i .i64 k)], [(0, .box [.i .i64 n, .sr 3 0 es.length]), (1, .arr true 1 (encN L)), (2, .arr true 2 (encE se)), (3, .arr true 2 (encE es))], 4⟩)
        (fun k => k ≤ se.length) (fun k => se.length - k) 0 (by kernel_rfl) (Nat.zero_le _) ?_
      rintro k k1 K' kN' kE' kR'
      by_cases hk : k < se.length
      · obtain ⟨e, he⟩ : ∃ e, se[k]? = some e := ⟨_, List.getElem?_eq_getElem hk⟩
        have ge' := goneS he
        have em := fe e (List.mem_of_getElem? he)
        have d1 : ((k : Int) < se.length) = True := eq_true (by omega)
        have d2 : (k < se.length) = True := eq_true hk
        simp (maxSteps := 9999999) -implicitDefEqProofs only [go_sem, mwp_draw, d1, d2, ↓ge']
        repeat (refine ⟨by first | omega | decide | exact fits64 (by omega) (by omega) | kernel_rfl | (intros; omega), ?_⟩)
        refine callK_is (HasEdge_is _ n es e (by omega)) ?_
        rw [hg, decide_eq_true em]
        simp (maxSteps := 9999999) -implicitDefEqProofs only [go_sem, mwp_draw, beq_true, beq_false, Bool.and_self]
        repeat (refine ⟨by first | omega | decide | exact fits64 (by omega) (by omega) | kernel_rfl | (intros; omega), ?_⟩)
        exact kN' _ (k + 1) (by kernel_rfl) (by omega) (by omega)
      · have d1 : ((k : Int) < se.length) = False := eq_false (by omega)
        simp (maxSteps := 9999999) -implicitDefEqProofs only [go_sem, mwp_draw, d1]
        refine kE' _ _ ?_
        clear kN' kE' kR'
        simp (maxSteps := 9999999) -implicitDefEqProofs only [go_sem, mwp_draw]
        repeat (refine ⟨by first | omega | decide | exact fits64 (by omega) (by omega) | kernel_rfl | (intros; omega), ?_⟩)
        exact kN _ (i + 1) (by kernel_rfl) (by omega) (by omega)
    · have c1 : ((i : Int) < L.length) = False := eq_false (by omega)
      simp (maxSteps := 9999999) -implicitDefEqProofs only [go_sem, mwp_draw, c1]
      refine kE _ _ ?_
      clear kN kE kR
      simp (maxSteps := 9999999) -implicitDefEqProofs only [go_sem, mwp_draw]
      refine callK_is (ForestOf_is _ n es (by omega)) ?_
      rw [hg, if_pos rfl]
      have z : ((L.length : Int) = (es.length : Int) - ((forest n es).length : Int)) = True := eq_true (by omega)
      simp (maxSteps := 9999999) -implicitDefEqProofs only [go_sem, mwp_draw, z]
      repeat (refine ⟨by first | omega | decide | exact fits64 (by omega) (by omega) | kernel_rfl | (intros; omega), ?_⟩)
      first | done | rfl
theorem FnChainsOf_row (m : List (List D)) (h : ∀ r ∈ m, rowOK [.i .u8] r) (_ : m.length ≤ maxLen) : Is prog fid_laws_FnChainsOf [.s false 1 m] (.b true) := by
  obtain ⟨b, rfl, hb⟩ := rows_bytes h
  exact FnChainsOf_is _ b hb
end Go.Fw
