/-
  The law on cycles: an edge is in one of them if and only if it is no bridge.
-/
import Derived.Test.YtjklefjjmfpnoaaCtCy
import Derived.Test.YtjklefjjmfpnoaaCtDs
import Derived.Test.YtjklefjjmfpnoaaCtDy
import Derived.Test.YtjklefjjmfpnoaaCtRow
import Derived.Test.YtjklefjjmfpnoaaKFnCyclesSafe
namespace Go.Fw
set_option linter.unusedSimpArgs false
set_option linter.unusedVariables false
set_option maxRecDepth 100000
set_option maxHeartbeats 4000000
open Go.Proofs.Try (prog)
open Go.Pl

theorem DrawCyclesOf_is (t : Bool) (b : List Int) (hb : Byt b) : MCall prog fid_spec_DrawCyclesOf [.s t 1 (encB b)] DrW := by
  refine MCall.run mixed get_spec_DrawCyclesOf ok_spec_DrawCyclesOf (Nat.le_of_ble_eq_true rfl) (by decide) ?_
  unfold mc_spec_DrawCyclesOf
  simp (maxSteps := 9999999) -implicitDefEqProofs only [go_sem, mwp_draw]
  refine callK_any (DrawGraphValid_is _ b hb) ?_
  rintro o r ⟨rfl, n, es, rfl, w1, w2, w3⟩
  simp (maxSteps := 9999999) -implicitDefEqProofs only [go_sem, mwp_draw]
  exact ⟨rfl, n, es, rfl, w1, w2, w3⟩
def smB (L : List (List Int)) (e : E) (k : Nat) : Bool := (L.take k).any fun c => decide (e ∈ stE (clo c))
theorem smB_next {L : List (List Int)} {e : E} {k : Nat} {c : List Int} (hc : L[k]? = some c) : smB L e (k + 1) = (smB L e k || decide (e ∈ stE (clo c))) := by
  unfold smB; rw [take_snoc hc, List.any_append]; simp
theorem smB_all {n : Int} {es : List E} (hg : gvB n es = true) {e : E} (he : e ∈ es) : smB (cyV n es) e (cyV n es).length = !brB n es e := by
  unfold smB
  rw [List.take_length, Bool.eq_iff_iff, List.any_eq_true, Bool.not_eq_true']
  have q := brB_rch (gvB_iff.1 hg) he
  have r := cyV_cov hg he
  constructor
  · rintro ⟨c, hc, m⟩
    have := r.1 ⟨c, hc, of_decide_eq_true m⟩
    cases h : brB n es e with
    | false => rfl
    | true => exact absurd this (q.1 h)
  · intro h
    obtain ⟨c, hc, m⟩ := r.2 (Classical.byContradiction fun k => by rw [q.2 k] at h; cases h)
    exact ⟨c, hc, decide_eq_true m⟩
theorem FnCyclesSafe_is (t : Bool) (b : List Int) (hb : Byt b) : Is prog fid_laws_FnCyclesSafe [.s t 1 (encB b)] (.b true) := by
  refine MCall.run mixed get_laws_FnCyclesSafe ok_laws_FnCyclesSafe (Nat.le_of_ble_eq_true rfl) (by decide) ?_
  unfold mc_laws_FnCyclesSafe
  by_cases hl : 1048576 < b.length
  · have c0 : ((1048576 : Int) < b.length) = True := eq_true (by omega)
    simp (maxSteps := 9999999) -implicitDefEqProofs only [go_sem, mwp_draw, c0]
  have c0 : ((1048576 : Int) < b.length) = False := eq_false (by omega)
  simp (maxSteps := 9999999) -implicitDefEqProofs only [go_sem, mwp_draw, c0]
  refine callK_any (DrawCyclesOf_is _ b hb) ?_
  rintro o r ⟨rfl, n, es, rfl, w1, w2, w3⟩
  simp (maxSteps := 9999999) -implicitDefEqProofs only [go_sem, mwp_draw]
  refine callK_is (CyclesOf_is _ n es (by omega)) ?_
  have lc := cyV_count (n := n) (es := es)
  have ln := chV_len (n := n) (es := es)
  have hF := fun c hc => (cyV_form (n := n) (es := es) (c := c) hc).2
  have hv' := fun c hc => (cyV_form (n := n) (es := es) (c := c) hc).1
  have hS := fun u => CyclesOfS_is u n es (by omega)
  have hA := fun h e he => smB_all (n := n) (es := es) h (e := e) he
  generalize cyV n es = L at *
  simp (maxSteps := 9999999) -implicitDefEqProofs only [go_sem, mwp_draw]
  refine callK_is (hS _) ?_
  simp (maxSteps := 9999999) -implicitDefEqProofs only [go_sem, mwp_draw]
  refine callK_is (dyLists_is _ _ L L (by omega) (fun c hc => by have := hF c hc; omega)) ?_
  simp only [decide_true]
  simp (maxSteps := 9999999) -implicitDefEqProofs only [go_sem, mwp_draw, beq_true, beq_false]
  refine callK_is (GraphValid_is _ n es (by omega)) ?_
  cases hg : gvB n es with
  | false =>
    simp (maxSteps := 9999999) -implicitDefEqProofs only [go_sem, mwp_draw, beq_true, beq_false]
    refine callK_is (hS _) ?_
    simp (maxSteps := 9999999) -implicitDefEqProofs only [go_sem, mwp_draw]
    refine callK_is (dyLists_is _ _ L L (by omega) (fun c hc => by have := hF c hc; omega)) ?_
    simp only [decide_true]
    simp (maxSteps := 9999999) -implicitDefEqProofs only [go_sem, mwp_draw, beq_true, beq_false]
    first | done | rfl
  | true =>
    have hA' := hA hg
    simp (maxSteps := 9999999) -implicitDefEqProofs only [go_sem, mwp_draw, beq_true, beq_false]
    refine mwp_loopk (X := Nat) (fun i => ⟨[(3, .pr 0 0 0), (4, .sr 1 0 L.length), (5, .i .i64 i)], [(0, .box [.i .i64 n, .sr 2 0 es.length]), (1, .arr true 1 (encN L)), (2, .arr true 2 (encE es))], 3⟩)
      (fun i => i ≤ es.length) (fun i => es.length - i) 0 (by kernel_rfl) (Nat.zero_le _) ?_
    rintro i g1 K kN kE kR
    by_cases hi : i < es.length
    · obtain ⟨e, he⟩ : ∃ e, es[i]? = some e := ⟨_, List.getElem?_eq_getElem hi⟩
      have ge := goneS he
      have me := List.mem_of_getElem? he
      have hA2 := hA' e me
      have nx := fun k c hc => smB_next (L := L) (e := e) (k := k) (c := c) hc
      have s0 : smB L e 0 = false := rfl
      generalize smB L e = S at *
      have c1 : ((i : Int) < es.length) = True := eq_true (by omega)
      have c2 : (i < es.length) = True := eq_true hi
      simp (maxSteps := 9999999) -implicitDefEqProofs only [go_sem, mwp_draw, c1]
      repeat (refine ⟨by first | omega | decide | exact fits64 (by omega) (by omega) | kernel_rfl | (intros; omega), ?_⟩)
      refine mwp_loopk (X := Nat) (fun k => ⟨[(3, .pr 0 0 0), (4, .sr 1 0 L.length), (5, .i .i64 i), (6, .b (S k)), (7, .i .i64 k)], [(0, .box [.i .i64 n, .sr 2 0 es.length]), (1, .arr true 1 (encN L)), (2, .arr true 2 (encE es))], 3⟩)
        (fun k => k ≤ L.length) (fun k => L.length - k) 0 (by rw [s0]; kernel_rfl) (Nat.zero_le _) ?_
      rintro k k1 K' kN' kE' kR'
      by_cases hk : k < L.length
      · obtain ⟨d, hd⟩ : ∃ d, L[k]? = some d := ⟨_, List.getElem?_eq_getElem hk⟩
        have md := List.mem_of_getElem? hd
        obtain ⟨f', dl, dl2, nd'⟩ := hF d md
        obtain ⟨r1, r2⟩ := chF_chR (hv' d md) f'
        obtain ⟨w, hw⟩ : ∃ w, d[0]? = some w := ⟨_, List.getElem?_eq_getElem (by omega)⟩
        have nd := nx k d hd
        have gd := goneS hd
        have gw := goneS hw
        have cd : clo d = d ++ [w] := by unfold clo; rw [hw]; rfl
        have ll : (clo d).length ≤ 17 := by rw [cd]; simp; omega
        have sl := stE_len (clo d)
        have b1 : ((k : Int) < L.length) = True := eq_true (by omega)
        have b2 : (k < L.length) = True := eq_true hk
        have b3 : ((0 : Int) < d.length) = True := eq_true (by omega)
        have b4 : (0 < d.length) = True := eq_true (by omega)
        have cc := fun u => ChainEdges_is u (clo d) (by omega)
        rw [r1, r2] at cc
        generalize stE (clo d) = se at *
        rw [cd] at cc
        cases hs : S k with
        | true =>
          simp (maxSteps := 9999999) -implicitDefEqProofs only [go_sem, mwp_draw, b1, b2, b3, b4, ↓gd, ↓gw]
          repeat (refine ⟨by first | omega | decide | exact fits64 (by omega) (by omega) | kernel_rfl | (intros; omega), ?_⟩)
          refine callK_is (cc _) ?_
          simp (maxSteps := 9999999) -implicitDefEqProofs only [go_sem, mwp_draw, beq_true, beq_false]
          repeat (refine ⟨by first | omega | decide | exact fits64 (by omega) (by omega) | kernel_rfl | (intros; omega), ?_⟩)
          exact kN' _ (k + 1) (by rw [nd, hs]; kernel_rfl) (by omega) (by omega)
        | false =>
          simp (maxSteps := 9999999) -implicitDefEqProofs only [go_sem, mwp_draw, b1, b2, b3, b4, ↓gd, ↓gw]
          repeat (refine ⟨by first | omega | decide | exact fits64 (by omega) (by omega) | kernel_rfl | (intros; omega), ?_⟩)
          refine callK_is (cc _) ?_
          simp (maxSteps := 9999999) -implicitDefEqProofs only [go_sem, mwp_draw, beq_true, beq_false, c1, c2, ↓ge]
          repeat (refine ⟨by first | omega | decide | exact fits64 (by omega) (by omega) | kernel_rfl | (intros; omega), ?_⟩)
          refine callK_is (dyHas_is _ se e (by omega)) ?_
          simp (maxSteps := 9999999) -implicitDefEqProofs only [go_sem, mwp_draw, beq_true, beq_false]
          repeat (refine ⟨by first | omega | decide | exact fits64 (by omega) (by omega) | kernel_rfl | (intros; omega), ?_⟩)
          exact kN' _ (k + 1) (by rw [nd, hs, Bool.false_or]; kernel_rfl) (by omega) (by omega)
      · obtain rfl : k = L.length := by omega
        have b1 : ((L.length : Int) < L.length) = False := eq_false (by omega)
        simp (maxSteps := 9999999) -implicitDefEqProofs only [go_sem, mwp_draw, b1]
        refine kE' _ _ ?_
        clear kN' kE' kR'
        simp (maxSteps := 9999999) -implicitDefEqProofs only [go_sem, mwp_draw, c1, c2, ↓ge]
        repeat (refine ⟨by first | omega | decide | exact fits64 (by omega) (by omega) | kernel_rfl | (intros; omega), ?_⟩)
        refine callK_is (IsBridge_is _ n es e (by omega)) ?_
        rw [hA2, hg, decide_eq_true me]
        cases brB n es e with
        | true =>
          simp (maxSteps := 9999999) -implicitDefEqProofs only [go_sem, mwp_draw, beq_true, beq_false, Bool.and_self, Bool.and_true, Bool.true_and, Bool.not_true, Bool.not_false]
          repeat (refine ⟨by first | omega | decide | exact fits64 (by omega) (by omega) | kernel_rfl | (intros; omega), ?_⟩)
          exact kN _ (i + 1) (by kernel_rfl) (by omega) (by omega)
        | false =>
          simp (maxSteps := 9999999) -implicitDefEqProofs only [go_sem, mwp_draw, beq_true, beq_false, Bool.and_self, Bool.and_true, Bool.true_and, Bool.and_false, Bool.not_true, Bool.not_false]
          repeat (refine ⟨by first | omega | decide | exact fits64 (by omega) (by omega) | kernel_rfl | (intros; omega), ?_⟩)
          exact kN _ (i + 1) (by kernel_rfl) (by omega) (by omega)
    · have c1 : ((i : Int) < es.length) = False := eq_false (by omega)
      simp (maxSteps := 9999999) -implicitDefEqProofs only [go_sem, mwp_draw, c1]
      refine kE _ _ ?_
      clear kN kE kR
      simp (maxSteps := 9999999) -implicitDefEqProofs only [go_sem, mwp_draw]
      repeat (refine ⟨by first | omega | decide | exact fits64 (by omega) (by omega) | kernel_rfl | (intros; omega), ?_⟩)
      first | done | rfl
theorem FnCyclesSafe_row (m : List (List D)) (h : ∀ r ∈ m, rowOK [.i .u8] r) (_ : m.length ≤ maxLen) : Is prog fid_laws_FnCyclesSafe [.s false 1 m] (.b true) := by
  obtain ⟨b, rfl, hb⟩ := rows_bytes h
  exact FnCyclesSafe_is _ b hb
end Go.Fw
