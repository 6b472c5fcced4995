/-
  Laws on chains: their nodes, their edges.
-/
import Derived.Test.YtedacikdbkpccaaCtDw
import Derived.Test.YtedacikdbkpccaaCtRow
import Derived.Test.YtedacikdbkpccaaKFnChainNodes
namespace Go.Fw
set_option linter.unusedSimpArgs false
set_option linter.unusedVariables false
set_option maxRecDepth 100000
set_option maxHeartbeats 4000000
open Go.Proofs.Try (prog)
open Go.Pl

theorem FnChainNodes_is (t : Bool) (b : List Int) (hb : Byt b) : Is prog fid_laws_FnChainNodes [.s t 1 (encB b)] (.b true) := by
  refine MCall.run mixed get_laws_FnChainNodes ok_laws_FnChainNodes (Nat.le_of_ble_eq_true rfl) (by decide) ?_
  unfold mc_laws_FnChainNodes
  by_cases hl : 1048576 < b.length
  · have c0 : ((1048576 : Int) < b.length) = True := eq_true (by omega)
    simp (maxSteps := 9999999) -implicitDefEqProofs only [go_sem, mwp_draw, c0]
  have c0 : ((1048576 : Int) < b.length) = False := eq_false (by omega)
  simp (maxSteps := 9999999) -implicitDefEqProofs only [go_sem, mwp_draw, c0]
  refine callK_any (DrawChainsOf_is _ b hb) ?_
  rintro o r ⟨rfl, n, es, rfl, w1, w2, w3⟩
  simp (maxSteps := 9999999) -implicitDefEqProofs only [go_sem, mwp_draw]
  refine callK_is (ChainsOf_is _ n es (by omega)) ?_
  have ln := chV_len (n := n) (es := es)
  have hF := fun c hc => (chV_form (n := n) (es := es) (c := c) hc).2
  have hP := fun c hc => (chV_chP (n := n) (es := es) (c := c) hc).1
  have hS := fun u => ChainsOfS_is u n es (by omega)
  generalize chV n es = L at *
  simp (maxSteps := 9999999) -implicitDefEqProofs only [go_sem, mwp_draw]
  refine callK_is (hS _) ?_
  simp (maxSteps := 9999999) -implicitDefEqProofs only [go_sem, mwp_draw]
  refine callK_is (dyLists_is _ _ L L (by omega) (fun c hc => by have := hP c hc; omega)) ?_
  simp only [decide_true]
  simp (maxSteps := 9999999) -implicitDefEqProofs only [go_sem, mwp_draw, beq_true, beq_false]
  refine callK_is (GraphValid_is _ n es (by omega)) ?_
  cases hg : gvB n es with
  | false =>
    simp (maxSteps := 9999999) -implicitDefEqProofs only [go_sem, mwp_draw, beq_true, beq_false]
    refine callK_is (hS _) ?_
    simp (maxSteps := 9999999) -implicitDefEqProofs only [go_sem, mwp_draw]
    refine callK_is (dyLists_is _ _ L L (by omega) (fun c hc => by have := hP c hc; omega)) ?_
    simp only [decide_true]
    simp (maxSteps := 9999999) -implicitDefEqProofs only [go_sem, mwp_draw, beq_true, beq_false]
  | true =>
    simp (maxSteps := 9999999) -implicitDefEqProofs only [go_sem, mwp_draw, beq_true, beq_false]
    refine mwp_loopk (X := Nat) (fun i => ⟨[(4, .sr 0 0 L.length), (5, .i .i64 i)], [(0, .arr true 1 (encN L))], 1⟩)
      (fun i => i ≤ L.length) (fun i => L.length - i) 0 (by kernel_rfl) (Nat.zero_le _) ?_
    rintro i g1 K kN kE kR
    by_cases hi : i < L.length
    · obtain ⟨c, hc⟩ : ∃ c, L[i]? = some c := ⟨_, List.getElem?_eq_getElem hi⟩
      have gc := goneS hc
      have f := hF c (List.mem_of_getElem? hc)
      have cl := hP c (List.mem_of_getElem? hc)
      have c1 : ((i : Int) < L.length) = True := eq_true (by omega)
      have c2 : (i < L.length) = True := eq_true hi
      simp (maxSteps := 9999999) -implicitDefEqProofs only [go_sem, mwp_draw, c1, c2, ↓gc]
      repeat (refine ⟨by first | omega | decide | exact fits64 (by omega) (by omega) | kernel_rfl | (intros; omega), ?_⟩)
      have ge := f.ge
      refine mwp_loopk (X := Nat) (fun k => ⟨[(4, .sr 0 0 L.length), (5, .i .i64 i), (6, .s true 1 (encI c)), (7, .i .i64 k)], [(0, .arr true 1 (encN L))], 1⟩)
        (fun k => 1 ≤ k ∧ k ≤ c.length - 1) (fun k => c.length - k) 1 (by kernel_rfl) ⟨by omega, by omega⟩ ?_
      rintro k ⟨k1, k2⟩ K' kN' kE' kR'
      have z : ((c.length : Int) - 1) = ((c.length - 1 : Nat) : Int) := by omega
      by_cases hk : k + 1 < c.length
      · obtain ⟨x, hx⟩ : ∃ x, c[k]? = some x := ⟨_, List.getElem?_eq_getElem (by omega)⟩
        obtain ⟨y, hy⟩ : ∃ y, c[c.length - 1]? = some y := ⟨_, List.getElem?_eq_getElem (by omega)⟩
        have na := f.not_ahead hk hx
        have nl := f.not_last k1 hk hx hy
        have gx := goneS hx
        have gy := goneS hy
        have d1 : ((k : Int) < ((c.length - 1 : Nat) : Int)) = True := eq_true (by omega)
        have d2 : (k < c.length) = True := eq_true (by omega)
        have d3 : (k ≤ c.length) = True := eq_true (by omega)
        have d4 : ((k : Int) < (c.length : Int)) = True := eq_true (by omega)
        have d5 : ((k : Int) ≤ (c.length : Int)) = True := eq_true (by omega)
        have d6 : (((c.length - 1 : Nat) : Int) < (c.length : Int)) = True := eq_true (by omega)
        have d7 : (c.length - 1 < c.length) = True := eq_true (by omega)
        simp (maxSteps := 9999999) -implicitDefEqProofs only [go_sem, mwp_draw, z, d1, d2, d3, d4, d5, ↓gx]
        repeat (refine ⟨by first | omega | decide | exact fits64 (by omega) (by omega) | kernel_rfl | (intros; omega), ?_⟩)
        refine callK_is (dyIn_is _ (c.take k) x (by rw [List.length_take]; omega)) ?_
        rw [decide_eq_false na]
        have e1 : (x = y) = False := eq_false nl
        simp (maxSteps := 9999999) -implicitDefEqProofs only [go_sem, mwp_draw, z, d1, d2, d3, d4, d5, d6, d7, e1, ↓gx, ↓gy]
        repeat (refine ⟨by first | omega | decide | exact fits64 (by omega) (by omega) | kernel_rfl | (intros; omega), ?_⟩)
        exact kN' _ (k + 1) (by kernel_rfl) ⟨by omega, by omega⟩ (by omega)
      · have d1 : ((k : Int) < ((c.length - 1 : Nat) : Int)) = False := eq_false (by omega)
        simp (maxSteps := 9999999) -implicitDefEqProofs only [go_sem, mwp_draw, z, d1]
        repeat (refine ⟨by first | omega | decide | exact fits64 (by omega) (by omega) | kernel_rfl | (intros; omega), ?_⟩)
        refine kE' _ _ ?_
        clear kN' kE' kR'
        simp (maxSteps := 9999999) -implicitDefEqProofs only [go_sem, mwp_draw]
        repeat (refine ⟨by first | omega | decide | exact fits64 (by omega) (by omega) | kernel_rfl | (intros; omega), ?_⟩)
        exact kN _ (i + 1) (by kernel_rfl) (by omega) (by omega)
    · have c1 : ((i : Int) < L.length) = False := eq_false (by omega)
      simp (maxSteps := 9999999) -implicitDefEqProofs only [go_sem, mwp_draw, c1]
      refine kE _ _ ?_
      clear kN kE kR
      simp (maxSteps := 9999999) -implicitDefEqProofs only [go_sem, mwp_draw]
      first | done | rfl
theorem FnChainNodes_row (m : List (List D)) (h : ∀ r ∈ m, rowOK [.i .u8] r) (_ : m.length ≤ maxLen) : Is prog fid_laws_FnChainNodes [.s false 1 m] (.b true) := by
  obtain ⟨b, rfl, hb⟩ := rows_bytes h
  exact FnChainNodes_is _ b hb
end Go.Fw
