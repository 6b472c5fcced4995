/-
  The law on safe graphs: all edges are in chains.
-/
import Derived.Test.YtedacikdbkpccaaCtDs
import Derived.Test.YtedacikdbkpccaaCtRow
import Derived.Test.YtedacikdbkpccaaKFnIsSafeGraph
namespace Go.Fw
set_option linter.unusedSimpArgs false
set_option linter.unusedVariables false
set_option maxRecDepth 100000
set_option maxHeartbeats 4000000
open Go.Proofs.Try (prog)
open Go.Pl

theorem safe_all {n : Int} {es : List E} (hg : gvB n es = true) (hp : pcB n es = 1) : safeB n es = es.all fun e => coB (chV n es) e := by
  have ce := fun e he => chV_edge (n := n) (es := es) (e := e) hg he
  unfold safeB brV brL
  rw [if_pos hg, decide_eq_true hp, Bool.true_and]
  rw [Bool.eq_iff_iff, decide_eq_true_eq, List.length_eq_zero_iff, List.filter_eq_nil_iff, List.all_eq_true]
  constructor
  · intro h e he
    rcases ce e he with ⟨a, _, _⟩ | ⟨_, a, _⟩
    · exact absurd a (h e he)
    · exact a
  · intro h e he
    rcases ce e he with ⟨_, a, _⟩ | ⟨a, _, _⟩
    · rw [h e he] at a; cases a
    · rw [a]; simp
def alN (es : List E) (p : E → Bool) (i : Nat) : Bool := (es.take i).all p
theorem alN_next {es : List E} {p : E → Bool} {i : Nat} {e : E} (h : es[i]? = some e) : alN es p (i + 1) = (alN es p i && p e) := by
  unfold alN; rw [take_snoc h, List.all_append]; simp
theorem FnIsSafeGraph_is (t : Bool) (b : List Int) (hb : Byt b) : Is prog fid_laws_FnIsSafeGraph [.s t 1 (encB b)] (.b true) := by
  refine MCall.run mixed get_laws_FnIsSafeGraph ok_laws_FnIsSafeGraph (Nat.le_of_ble_eq_true rfl) (by decide) ?_
  unfold mc_laws_FnIsSafeGraph
  by_cases hl : 1048576 < b.length
  · have c0 : ((1048576 : Int) < b.length) = True := eq_true (by omega)
    simp (maxSteps := 9999999) -implicitDefEqProofs only [go_sem, mwp_draw, c0]
  have c0 : ((1048576 : Int) < b.length) = False := eq_false (by omega)
  simp (maxSteps := 9999999) -implicitDefEqProofs only [go_sem, mwp_draw, c0]
  refine callK_any (DrawIsSafeGraph_is _ b hb) ?_
  rintro o r ⟨rfl, n, es, rfl, w1, w2, w3⟩
  simp (maxSteps := 9999999) -implicitDefEqProofs only [go_sem, mwp_draw]
  have hS := fun u => IsSafeGraph_is u n es (by omega)
  have hS' := fun u => IsSafeGraphS_is u n es (by omega)
  have hG := fun u => GraphValid_is u n es (by omega)
  have hQ := fun u => PartCount_is u n es (by omega)
  by_cases hp : pcB n es = 1
  · have hg := pcB_ok hp
    have sa := safe_all hg hp
    have hO := fun u e => ChainOf_is u n es e (by omega)
    rw [hg] at hG
    rw [hp] at hQ
    have nx := fun i e h => alN_next (es := es) (p := coB (chV n es)) (i := i) (e := e) h
    have a0 : alN es (coB (chV n es)) 0 = true := by simp [alN]
    have aE : alN es (coB (chV n es)) es.length = safeB n es := by rw [sa]; unfold alN; rw [List.take_length]
    generalize coB (chV n es) = cb at *
    generalize coI (chV n es) = ci at *
    generalize alN es cb = al at *
    clear sa
    generalize safeB n es = w at *
    refine callK_is (hS _) ?_
    simp (maxSteps := 9999999) -implicitDefEqProofs only [go_sem, mwp_draw]
    refine callK_is (hS' _) ?_
    have l1 : ∀ i : Nat, i < es.length → ((i : Int) < es.length) = True := fun i h => eq_true (by omega)
    cases w with
    | false =>
      simp (maxSteps := 9999999) -implicitDefEqProofs only [go_sem, mwp_draw, beq_true, beq_false]
      refine callK_is (hG _) ?_
      simp (maxSteps := 9999999) -implicitDefEqProofs only [go_sem, mwp_draw, beq_true, beq_false]
      refine callK_is (hQ _) ?_
      simp (maxSteps := 9999999) -implicitDefEqProofs only [go_sem, mwp_draw, beq_true, beq_false]
      refine mwp_loopk (X := Nat) (fun i => ⟨[(3, .pr 0 0 0), (4, .b false), (5, .b (al i)), (6, .i .i64 i)], [(0, .box [.i .i64 n, .sr 1 0 es.length]), (1, .arr true 2 (encE es))], 2⟩)
        (fun i => i ≤ es.length) (fun i => es.length - i) 0 (by rw [a0]; kernel_rfl) (Nat.zero_le _) ?_
      rintro i g1 K kN kE kR
      by_cases hi : i < es.length
      · obtain ⟨e, he⟩ : ∃ e, es[i]? = some e := ⟨_, List.getElem?_eq_getElem hi⟩
        have ge := goneS he
        have c1 : ((i : Int) < es.length) = True := eq_true (by omega)
        have c2 : (i < es.length) = True := eq_true hi
        have tk : es.take es.length = es := List.take_length
        simp (maxSteps := 9999999) -implicitDefEqProofs only [go_sem, mwp_draw, c1, c2, tk, ↓ge]
        repeat (refine ⟨by first | omega | decide | exact fits64 (by omega) (by omega) | kernel_rfl | (intros; omega), ?_⟩)
        refine callK_is (hO _ e) ?_
        have nx' := nx i e he
        cases q1 : al i
        all_goals cases q2 : cb e
        all_goals
          rw [q1, q2] at nx'
          simp (maxSteps := 9999999) -implicitDefEqProofs only [go_sem, mwp_draw, c1, c2, q1, q2]
          repeat (refine ⟨by first | omega | decide | exact fits64 (by omega) (by omega) | kernel_rfl | (intros; omega), ?_⟩)
          exact kN _ (i + 1) (by rw [nx']; kernel_rfl) (by omega) (by omega)
      · obtain rfl : i = es.length := by omega
        have c1 : ((es.length : Int) < es.length) = False := eq_false (by omega)
        simp (maxSteps := 9999999) -implicitDefEqProofs only [go_sem, mwp_draw, c1]
        refine kE _ _ ?_
        clear kN kE kR
        simp (maxSteps := 9999999) -implicitDefEqProofs only [go_sem, mwp_draw, aE, beq_true, beq_false]
        first | done | rfl
    | true =>
      simp (maxSteps := 9999999) -implicitDefEqProofs only [go_sem, mwp_draw, beq_true, beq_false]
      refine callK_is (hG _) ?_
      simp (maxSteps := 9999999) -implicitDefEqProofs only [go_sem, mwp_draw, beq_true, beq_false]
      refine callK_is (hQ _) ?_
      simp (maxSteps := 9999999) -implicitDefEqProofs only [go_sem, mwp_draw, beq_true, beq_false]
      refine mwp_loopk (X := Nat) (fun i => ⟨[(3, .pr 0 0 0), (4, .b true), (5, .b (al i)), (6, .i .i64 i)], [(0, .box [.i .i64 n, .sr 1 0 es.length]), (1, .arr true 2 (encE es))], 2⟩)
        (fun i => i ≤ es.length) (fun i => es.length - i) 0 (by rw [a0]; kernel_rfl) (Nat.zero_le _) ?_
      rintro i g1 K kN kE kR
      by_cases hi : i < es.length
      · obtain ⟨e, he⟩ : ∃ e, es[i]? = some e := ⟨_, List.getElem?_eq_getElem hi⟩
        have ge := goneS he
        have c1 : ((i : Int) < es.length) = True := eq_true (by omega)
        have c2 : (i < es.length) = True := eq_true hi
        have tk : es.take es.length = es := List.take_length
        simp (maxSteps := 9999999) -implicitDefEqProofs only [go_sem, mwp_draw, c1, c2, tk, ↓ge]
        repeat (refine ⟨by first | omega | decide | exact fits64 (by omega) (by omega) | kernel_rfl | (intros; omega), ?_⟩)
        refine callK_is (hO _ e) ?_
        have nx' := nx i e he
        cases q1 : al i
        all_goals cases q2 : cb e
        all_goals
          rw [q1, q2] at nx'
          simp (maxSteps := 9999999) -implicitDefEqProofs only [go_sem, mwp_draw, c1, c2, q1, q2]
          repeat (refine ⟨by first | omega | decide | exact fits64 (by omega) (by omega) | kernel_rfl | (intros; omega), ?_⟩)
          exact kN _ (i + 1) (by rw [nx']; kernel_rfl) (by omega) (by omega)
      · obtain rfl : i = es.length := by omega
        have c1 : ((es.length : Int) < es.length) = False := eq_false (by omega)
        simp (maxSteps := 9999999) -implicitDefEqProofs only [go_sem, mwp_draw, c1]
        refine kE _ _ ?_
        clear kN kE kR
        simp (maxSteps := 9999999) -implicitDefEqProofs only [go_sem, mwp_draw, aE, beq_true, beq_false]
        first | done | rfl
  · have sf : safeB n es = false := by unfold safeB; rw [decide_eq_false hp]; rfl
    have c1 : (pcB n es = 1) = False := eq_false hp
    rw [sf] at hS hS'
    refine callK_is (hS _) ?_
    simp (maxSteps := 9999999) -implicitDefEqProofs only [go_sem, mwp_draw]
    refine callK_is (hS' _) ?_
    simp (maxSteps := 9999999) -implicitDefEqProofs only [go_sem, mwp_draw, beq_true, beq_false]
    refine callK_is (hG _) ?_
    cases hg : gvB n es with
    | false =>
      simp (maxSteps := 9999999) -implicitDefEqProofs only [go_sem, mwp_draw, beq_true, beq_false]
      refine callK_is (hS' _) ?_
      simp (maxSteps := 9999999) -implicitDefEqProofs only [go_sem, mwp_draw, beq_true, beq_false]
    | true =>
      simp (maxSteps := 9999999) -implicitDefEqProofs only [go_sem, mwp_draw, beq_true, beq_false]
      refine callK_is (hQ _) ?_
      simp (maxSteps := 9999999) -implicitDefEqProofs only [go_sem, mwp_draw, beq_true, beq_false, c1]
      refine callK_is (hS' _) ?_
      simp (maxSteps := 9999999) -implicitDefEqProofs only [go_sem, mwp_draw, beq_true, beq_false]
theorem FnIsSafeGraph_row (m : List (List D)) (h : ∀ r ∈ m, rowOK [.i .u8] r) (_ : m.length ≤ maxLen) : Is prog fid_laws_FnIsSafeGraph [.s false 1 m] (.b true) := by
  obtain ⟨b, rfl, hb⟩ := rows_bytes h
  exact FnIsSafeGraph_is _ b hb
end Go.Fw
