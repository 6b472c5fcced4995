/-
  The law on ears: in a safe graph a chain but the first ends at nodes of chains before it.
-/
import Derived.Test.YtedacikdbkpccaaCtDs
import Derived.Test.YtedacikdbkpccaaCtRow
import Derived.Test.YtedacikdbkpccaaKFnChainsEars
namespace Go.Fw
set_option linter.unusedSimpArgs false
set_option linter.unusedVariables false
set_option maxRecDepth 100000
set_option maxHeartbeats 4000000
open Go.Proofs.Try (prog)
open Go.Pl

theorem chV_ears {n : Int} {es : List E} (hs : safeB n es = true) : gvB n es = true ∧ (∀ i c, 0 < i → (chV n es)[i]? = some c → (∀ x, c[0]? = some x → x ∈ ((chV n es).take i).flatten) ∧ ∀ x, c[c.length - 1]? = some x → x ∈ ((chV n es).take i).flatten) ∧
    (1 < n → ∀ x, 0 ≤ x → x < n → x ∈ (chV n es).flatten) := by
  have hp : pcB n es = 1 := by
    unfold safeB at hs
    rw [Bool.and_eq_true, decide_eq_true_eq] at hs; exact hs.1
  have hg := pcB_ok hp
  have hv := gvB_iff.1 hg
  have hn := hv.1
  have hE := hv.2.2.2.1
  have h := srch_nf hE (by omega : 0 ≤ n)
  have ev : chV n es = chainsL n es (srch n es).1 := by unfold chV; rw [if_pos hg]
  have hb : ∀ e ∈ es, Rch (butE es e) e.1 e.2 := fun e he => Classical.byContradiction fun q => by
    unfold safeB brV brL at hs
    rw [if_pos hg, Bool.and_eq_true, decide_eq_true_eq, decide_eq_true_eq, List.length_eq_zero_iff, List.filter_eq_nil_iff] at hs
    exact hs.2 e he ((brB_rch hv he).2 q)
  have hS := h.safe hE hn (fun x y x0 x1 y0 y1 => pc_one hE (by rw [pcB_pcN hg] at hp; omega) x0 x1 y0 y1) hb
  rw [ev]
  exact ⟨hg, fun i c hi hc => h.ears_ok hE hS hi hc, fun h1 x x0 x1 => h.ears_all hE hS h1 x0 x1⟩
def snL (L : List (List Int)) (i : Nat) : List Int := (L.take i).flatten
theorem snL_next {L : List (List Int)} {i : Nat} {c : List Int} (hc : L[i]? = some c) : snL L (i + 1) = snL L i ++ c := by
  unfold snL; rw [take_snoc hc, List.flatten_append]; simp
theorem snL_len {L : List (List Int)} (hL : ∀ c ∈ L, c.length ≤ 17) : ∀ {i : Nat}, i ≤ L.length → (snL L i).length ≤ 17 * i
  | 0, _ => by simp [snL]
  | i + 1, hi => by
    obtain ⟨c, hc⟩ : ∃ c, L[i]? = some c := ⟨_, List.getElem?_eq_getElem (by omega)⟩
    have ih := snL_len hL (i := i) (by omega)
    have a := hL c (List.mem_of_getElem? hc)
    rw [snL_next hc, List.length_append]; omega
theorem FnChainsEars_is (t : Bool) (b : List Int) (hb : Byt b) : Is prog fid_laws_FnChainsEars [.s t 1 (encB b)] (.b true) := by
  refine MCall.run mixed get_laws_FnChainsEars ok_laws_FnChainsEars (Nat.le_of_ble_eq_true rfl) (by decide) ?_
  unfold mc_laws_FnChainsEars
  by_cases hl : 1048576 < b.length
  · have c0 : ((1048576 : Int) < b.length) = True := eq_true (by omega)
    simp (maxSteps := 9999999) -implicitDefEqProofs only [go_sem, mwp_draw, c0]
  have c0 : ((1048576 : Int) < b.length) = False := eq_false (by omega)
  simp (maxSteps := 9999999) -implicitDefEqProofs only [go_sem, mwp_draw, c0]
  refine callK_any (DrawIsSafeGraph_is _ b hb) ?_
  rintro o r ⟨rfl, n, es, rfl, w1, w2, w3⟩
  simp (maxSteps := 9999999) -implicitDefEqProofs only [go_sem, mwp_draw]
  have hS := fun u => IsSafeGraph_is u n es (by omega)
  have hS' := fun u => IsSafeGraphS_is u n es (by omega)
  cases hs : safeB n es with
  | false =>
    rw [hs] at hS hS'
    refine callK_is (hS _) ?_
    simp (maxSteps := 9999999) -implicitDefEqProofs only [go_sem, mwp_draw]
    refine callK_is (hS' _) ?_
    simp (maxSteps := 9999999) -implicitDefEqProofs only [go_sem, mwp_draw, beq_true, beq_false]
    refine callK_is (hS' _) ?_
    simp (maxSteps := 9999999) -implicitDefEqProofs only [go_sem, mwp_draw, beq_true, beq_false]
  | true =>
    rw [hs] at hS hS'
    obtain ⟨hg, hi1, hi2⟩ := chV_ears hs
    have hn := (gvB_iff.1 hg).1
    refine callK_is (hS _) ?_
    simp (maxSteps := 9999999) -implicitDefEqProofs only [go_sem, mwp_draw]
    refine callK_is (hS' _) ?_
    simp (maxSteps := 9999999) -implicitDefEqProofs only [go_sem, mwp_draw, beq_true, beq_false]
    refine callK_is (ChainsOf_is _ n es (by omega)) ?_
    have ln := chV_len (n := n) (es := es)
    have hP := fun c hc => (chV_chP (n := n) (es := es) (c := c) hc).1
    have hF := fun c hc => (chV_form (n := n) (es := es) (c := c) hc).2.ge
    have sx := fun i c hc => snL_next (L := chV n es) (i := i) (c := c) hc
    have sl := fun i hi => snL_len (L := chV n es) hP (i := i) hi
    have s0 : snL (chV n es) 0 = [] := rfl
    have hi1' : ∀ i c, 0 < i → (chV n es)[i]? = some c → (∀ x, c[0]? = some x → x ∈ snL (chV n es) i) ∧ ∀ x, c[c.length - 1]? = some x → x ∈ snL (chV n es) i := hi1
    have hi2' : 1 < n → ∀ x, 0 ≤ x → x < n → x ∈ snL (chV n es) (chV n es).length := by unfold snL; rw [List.take_length]; exact hi2
    clear hi1 hi2
    generalize snL (chV n es) = S at *
    generalize chV n es = L at *
    simp (maxSteps := 9999999) -implicitDefEqProofs only [go_sem, mwp_draw]
    refine mwp_loopk (X := Nat) (fun i => ⟨[(3, .pr 0 0 0), (5, .sr 1 0 L.length), (6, .sr 2 0 (S i).length), (7, .i .i64 i)], [(0, .box [.i .i64 n, .sr 3 0 es.length]), (1, .arr true 1 (encN L)), (2, .arr true 1 (encI (S i))), (3, .arr true 2 (encE es))], 4⟩)
      (fun i => i ≤ L.length) (fun i => L.length - i) 0 (by rw [s0]; kernel_rfl) (Nat.zero_le _) ?_
    rintro i g1 K kN kE kR
    have tb := sl i g1
    by_cases hi : i < L.length
    · obtain ⟨c, hc⟩ : ∃ c, L[i]? = some c := ⟨_, List.getElem?_eq_getElem hi⟩
      have gc := goneS hc
      have cl := hP c (List.mem_of_getElem? hc)
      have cg := hF c (List.mem_of_getElem? hc)
      have nx := sx i c hc
      have tb' := sl (i + 1) hi
      have c1 : ((i : Int) < L.length) = True := eq_true (by omega)
      have c2 : (i < L.length) = True := eq_true hi
      have tk : (S i).take (S i).length = S i := List.take_length
      by_cases i0 : 0 < i
      · obtain ⟨x, hx⟩ : ∃ x, c[0]? = some x := ⟨_, List.getElem?_eq_getElem (by omega)⟩
        obtain ⟨y, hy⟩ : ∃ y, c[c.length - 1]? = some y := ⟨_, List.getElem?_eq_getElem (by omega)⟩
        obtain ⟨m1, m2⟩ := hi1' i c i0 hc
        have mx := m1 x hx
        have my := m2 y hy
        have gx := goneS hx
        have gy := goneS hy
        have c3 : (0 < (i : Int)) = True := eq_true (by omega)
        have z1 : ((c.length : Int) - 1) = ((c.length - 1 : Nat) : Int) := by omega
        have d1 : (0 < c.length) = True := eq_true (by omega)
        have d2 : (((c.length - 1 : Nat) : Int) < (c.length : Int)) = True := eq_true (by omega)
        have d3 : (c.length - 1 < c.length) = True := eq_true (by omega)
        have d4 : ((0 : Int) < (c.length : Int)) = True := eq_true (by omega)
        simp (maxSteps := 9999999) -implicitDefEqProofs only [go_sem, mwp_draw, c1, c2, c3, d1, d4, tk, ↓gc, ↓gx]
        repeat (refine ⟨by first | omega | decide | exact fits64 (by omega) (by omega) | kernel_rfl | (intros; omega), ?_⟩)
        refine callK_is (dyIn_is _ (S i) x (by omega)) ?_
        rw [decide_eq_true mx]
        simp (maxSteps := 9999999) -implicitDefEqProofs only [go_sem, mwp_draw, z1, d2, d3, tk, ↓gy]
        repeat (refine ⟨by first | omega | decide | exact fits64 (by omega) (by omega) | kernel_rfl | (intros; omega), ?_⟩)
        refine callK_is (dyIn_is _ (S i) y (by omega)) ?_
        rw [decide_eq_true my]
        simp (maxSteps := 9999999) -implicitDefEqProofs only [go_sem, mwp_draw, tk]
        repeat (refine ⟨by first | omega | decide | exact fits64 (by omega) (by omega) | kernel_rfl | (intros; omega), ?_⟩)
        exact kN _ (i + 1) (by rw [nx, List.length_append]; kernel_rfl) (by omega) (by omega)
      · have c3 : (0 < (i : Int)) = False := eq_false (by omega)
        simp (maxSteps := 9999999) -implicitDefEqProofs only [go_sem, mwp_draw, c1, c2, c3, tk, ↓gc]
        repeat (refine ⟨by first | omega | decide | exact fits64 (by omega) (by omega) | kernel_rfl | (intros; omega), ?_⟩)
        exact kN _ (i + 1) (by rw [nx, List.length_append]; kernel_rfl) (by omega) (by omega)
    · obtain rfl : i = L.length := by omega
      have c1 : ((L.length : Int) < L.length) = False := eq_false (by omega)
      simp (maxSteps := 9999999) -implicitDefEqProofs only [go_sem, mwp_draw, c1]
      refine kE _ _ ?_
      clear kN kE kR
      generalize S L.length = Z at *
      simp (maxSteps := 9999999) -implicitDefEqProofs only [go_sem, mwp_draw]
      refine mwp_loopk (X := Nat) (fun v => ⟨[(3, .pr 0 0 0), (6, .sr 1 0 Z.length), (9, .i .i64 v)], [(0, .box [.i .i64 n, .sr 2 0 es.length]), (1, .arr true 1 (encI Z)), (2, .arr true 2 (encE es))], 3⟩)
        (fun v => v ≤ n.toNat) (fun v => n.toNat - v) 0 (by kernel_rfl) (Nat.zero_le _) ?_
      rintro v v1 K kN kE kR
      by_cases h1 : 1 < n
      · have e1 : (1 < n) = True := eq_true h1
        by_cases hv : v < n.toNat
        · have mv := hi2' h1 v (by omega) (by omega)
          have c1 : ((v : Int) < n) = True := eq_true (by omega)
          have tk : Z.take Z.length = Z := List.take_length
          simp (maxSteps := 9999999) -implicitDefEqProofs only [go_sem, mwp_draw, c1, e1, tk]
          repeat (refine ⟨by first | omega | decide | exact fits64 (by omega) (by omega) | kernel_rfl | (intros; omega), ?_⟩)
          refine callK_is (dyIn_is _ Z v (by omega)) ?_
          rw [decide_eq_true mv]
          simp (maxSteps := 9999999) -implicitDefEqProofs only [go_sem, mwp_draw, tk]
          repeat (refine ⟨by first | omega | decide | exact fits64 (by omega) (by omega) | kernel_rfl | (intros; omega), ?_⟩)
          exact kN _ (v + 1) (by kernel_rfl) (by omega) (by omega)
        · obtain rfl : v = n.toNat := by omega
          have c1 : (((n.toNat : Nat) : Int) < n) = False := eq_false (by omega)
          simp (maxSteps := 9999999) -implicitDefEqProofs only [go_sem, mwp_draw, c1]
          refine kE _ _ ?_
          clear kN kE kR
          simp (maxSteps := 9999999) -implicitDefEqProofs only [go_sem, mwp_draw]
          first | done | rfl
      · have e1 : (1 < n) = False := eq_false h1
        by_cases hv : (v : Int) < n
        · have c1 := eq_true hv
          simp (maxSteps := 9999999) -implicitDefEqProofs only [go_sem, mwp_draw, c1, e1]
          refine kE _ _ ?_
          clear kN kE kR
          simp (maxSteps := 9999999) -implicitDefEqProofs only [go_sem, mwp_draw]
          first | done | rfl
        · have c1 := eq_false hv
          simp (maxSteps := 9999999) -implicitDefEqProofs only [go_sem, mwp_draw, c1]
          refine kE _ _ ?_
          clear kN kE kR
          simp (maxSteps := 9999999) -implicitDefEqProofs only [go_sem, mwp_draw]
          first | done | rfl
theorem FnChainsEars_row (m : List (List D)) (h : ∀ r ∈ m, rowOK [.i .u8] r) (_ : m.length ≤ maxLen) : Is prog fid_laws_FnChainsEars [.s false 1 m] (.b true) := by
  obtain ⟨b, rfl, hb⟩ := rows_bytes h
  exact FnChainsEars_is _ b hb
end Go.Fw
