/-
  The law on cycles: they are cycles, and each has an edge that no other one has.
-/
import Derived.Test.YtjklefjjmfpnoaaCtCy
import Derived.Test.YtjklefjjmfpnoaaCtDs
import Derived.Test.YtjklefjjmfpnoaaCtDy
import Derived.Test.YtjklefjjmfpnoaaCtRow
import Derived.Test.YtjklefjjmfpnoaaKFnCyclesOf
namespace Go.Fw
set_option linter.unusedSimpArgs false
set_option linter.unusedVariables false
set_option maxRecDepth 100000
set_option maxHeartbeats 4000000
open Go.Proofs.Try (prog)
open Go.Pl

theorem DrawCyclesOf_is (t : Bool) (b : List Int) (hb : Byt b) : MCall prog fid_spec_DrawCyclesOf [.s t 1 (encB b)] DrW := by
  refine MCall.run mixed get_spec_DrawCyclesOf ok_spec_DrawCyclesOf (Nat.le_of_ble_eq_true rfl) (by decide) ?_
  unfold mc_spec_DrawCyclesOf
  simp (maxSteps := 9999999) -implicitDefEqProofs only [go_sem, mwp_draw]
  refine callK_any (DrawGraphValid_is _ b hb) ?_
  rintro o r ⟨rfl, n, es, rfl, w1, w2, w3⟩
  simp (maxSteps := 9999999) -implicitDefEqProofs only [go_sem, mwp_draw]
  exact ⟨rfl, n, es, rfl, w1, w2, w3⟩
theorem tmodC {k m : Nat} : ((k : Int) + 1).tmod (m : Int) = (((k + 1) % m : Nat) : Int) := by
  have : (k : Int) + 1 = ((k + 1 : Nat) : Int) := by omega
  rw [this]; exact Int.ofNat_tmod (k + 1) m |>.symm
theorem ndB_of {n : Int} (hn : n ≤ 16) {x : Int} (h : 0 ≤ x ∧ x < n) : ndB x = true := ndB_iff'.2 (by omega)
/-- What the law asks of one cycle. -/
theorem cyV_step {n : Int} {es : List E} {c : List Int} (hc : c ∈ cyV n es) {k : Nat} {x y : Int} (hx : c[k]? = some x) (hy : c[(k + 1) % c.length]? = some y) : eoB x y = true ∧ edgN x y ∈ es := by
  obtain ⟨hv, f, _, _, _⟩ := cyV_form hc
  have hk := (List.getElem?_eq_some_iff.1 hx).1
  obtain ⟨g1, g2⟩ := clo_get hk
  rw [hx] at g1; rw [hy] at g2
  have rx := f.rng x (List.mem_of_getElem? g1)
  have ry := f.rng y (List.mem_of_getElem? g2)
  have ne := f.ne hv.2.2.2.1 g1 g2
  refine ⟨?_, f.edg _ (List.mem_of_getElem? (stE_get _ _ _ _ g1 g2))⟩
  unfold eoB
  rw [ndB_of hv.2.1 rx, ndB_of hv.2.1 ry]
  simp [ne]
theorem cyV_new {n : Int} {es : List E} {c : List Int} (hc : c ∈ cyV n es) {k : Nat} {x : Int} (hx : c[k]? = some x) : x ∉ c.take k := by
  obtain ⟨_, _, _, _, nd⟩ := cyV_form hc
  obtain ⟨h1, h2⟩ := List.getElem?_eq_some_iff.1 hx
  intro m
  obtain ⟨j, hj⟩ := List.getElem?_of_mem m
  rw [List.getElem?_take] at hj
  split at hj
  · rename_i q
    have e := (List.getElem?_inj (by omega) nd).1 (hj.trans hx.symm)
    omega
  · cases hj
theorem FnCyclesOf_is (t : Bool) (b : List Int) (hb : Byt b) : Is prog fid_laws_FnCyclesOf [.s t 1 (encB b)] (.b true) := by
  refine MCall.run mixed get_laws_FnCyclesOf ok_laws_FnCyclesOf (Nat.le_of_ble_eq_true rfl) (by decide) ?_
  unfold mc_laws_FnCyclesOf
  by_cases hl : 1048576 < b.length
  · have c0 : ((1048576 : Int) < b.length) = True := eq_true (by omega)
    simp (maxSteps := 9999999) -implicitDefEqProofs only [go_sem, mwp_draw, c0]
  have c0 : ((1048576 : Int) < b.length) = False := eq_false (by omega)
  simp (maxSteps := 9999999) -implicitDefEqProofs only [go_sem, mwp_draw, c0]
  refine callK_any (DrawCyclesOf_is _ b hb) ?_
  rintro o r ⟨rfl, n, es, rfl, w1, w2, w3⟩
  simp (maxSteps := 9999999) -implicitDefEqProofs only [go_sem, mwp_draw]
  refine callK_is (CyclesOf_is _ n es (by omega)) ?_
  have lc := cyV_count (n := n) (es := es)
  have ln := chV_len (n := n) (es := es)
  have hF := fun c hc => (cyV_form (n := n) (es := es) (c := c) hc).2
  have hv' := fun c hc => (cyV_form (n := n) (es := es) (c := c) hc).1
  have hS := fun u => CyclesOfS_is u n es (by omega)
  have h0 : gvB n es = false → cyV n es = [] := fun h => by unfold cyV; rw [h]; rfl
  have hst := fun c hc k x y => cyV_step (n := n) (es := es) (c := c) hc (k := k) (x := x) (y := y)
  have hnw := fun c hc k x => cyV_new (n := n) (es := es) (c := c) hc (k := k) (x := x)
  have how := fun i j c d x y => cyV_own (n := n) (es := es) (i := i) (j := j) (c := c) (d := d) (x := x) (y := y)
  generalize cyV n es = L at *
  simp (maxSteps := 9999999) -implicitDefEqProofs only [go_sem, mwp_draw]
  refine callK_is (hS _) ?_
  simp (maxSteps := 9999999) -implicitDefEqProofs only [go_sem, mwp_draw]
  refine callK_is (dyLists_is _ _ L L (by omega) (fun c hc => by have := hF c hc; omega)) ?_
  simp only [decide_true]
  simp (maxSteps := 9999999) -implicitDefEqProofs only [go_sem, mwp_draw, beq_true, beq_false]
  refine callK_is (GraphValid_is _ n es (by omega)) ?_
  cases hg : gvB n es with
  | false =>
    have e0 := h0 hg
    simp (maxSteps := 9999999) -implicitDefEqProofs only [go_sem, mwp_draw, beq_true, beq_false]
    refine callK_is (hS _) ?_
    simp (maxSteps := 9999999) -implicitDefEqProofs only [go_sem, mwp_draw]
    refine callK_is (dyLists_is _ _ L L (by omega) (fun c hc => by have := hF c hc; omega)) ?_
    subst e0
    simp only [decide_true]
    simp (maxSteps := 9999999) -implicitDefEqProofs only [go_sem, mwp_draw, beq_true, beq_false, List.length_nil]
    first | done | rfl
  | true =>
    simp (maxSteps := 9999999) -implicitDefEqProofs only [go_sem, mwp_draw, beq_true, beq_false]
    refine mwp_loopk (X := Nat) (fun i => ⟨[(3, .pr 0 0 0), (4, .sr 1 0 L.length), (5, .i .i64 i)], [(0, .box [.i .i64 n, .sr 2 0 es.length]), (1, .arr true 1 (encN L)), (2, .arr true 2 (encE es))], 3⟩)
      (fun i => i ≤ L.length) (fun i => L.length - i) 0 (by kernel_rfl) (Nat.zero_le _) ?_
    rintro i g1 K kN kE kR
    by_cases hi : i < L.length
    · obtain ⟨c, hc⟩ : ∃ c, L[i]? = some c := ⟨_, List.getElem?_eq_getElem hi⟩
      have gc := goneS hc
      have mc := List.mem_of_getElem? hc
      obtain ⟨f, cl, cl2, nd⟩ := hF c mc
      have c1 : ((i : Int) < L.length) = True := eq_true (by omega)
      have c2 : (i < L.length) = True := eq_true hi
      simp (maxSteps := 9999999) -implicitDefEqProofs only [go_sem, mwp_draw, c1, c2, ↓gc]
      repeat (refine ⟨by first | omega | decide | exact fits64 (by omega) (by omega) | kernel_rfl | (intros; omega), ?_⟩)
      refine mwp_loopk (X := Nat) (fun k => ⟨[(3, .pr 0 0 0), (4, .sr 1 0 L.length), (5, .i .i64 i), (6, .s true 1 (encI c)), (7, .i .i64 k)], [(0, .box [.i .i64 n, .sr 2 0 es.length]), (1, .arr true 1 (encN L)), (2, .arr true 2 (encE es))], 3⟩)
        (fun k => k ≤ c.length) (fun k => c.length - k) 0 (by kernel_rfl) (Nat.zero_le _) ?_
      rintro k k1 K' kN' kE' kR'
      by_cases hk : k < c.length
      · obtain ⟨x, hx⟩ : ∃ x, c[k]? = some x := ⟨_, List.getElem?_eq_getElem hk⟩
        have hm : (k + 1) % c.length < c.length := Nat.mod_lt _ (by omega)
        obtain ⟨y, hy⟩ : ∃ y, c[(k + 1) % c.length]? = some y := ⟨_, List.getElem?_eq_getElem hm⟩
        obtain ⟨ex, em⟩ := hst c mc k x y hx hy
        have nw := hnw c mc k x hx
        have gx := goneS hx
        have gy := goneS hy
        have d1 : ((k : Int) < c.length) = True := eq_true (by omega)
        have d2 : (k < c.length) = True := eq_true hk
        have e0 : ((c.length : Int) = 0) = False := eq_false (by omega)
        have e1 := tmodC (k := k) (m := c.length)
        have cE := EdgeOf_is x y
        rw [ex] at cE
        simp only [if_true] at cE
        generalize (k + 1) % c.length = q at *
        have d3 : ((q : Int) < c.length) = True := eq_true (by omega)
        have d4 : (q < c.length) = True := eq_true hm
        generalize edgN x y = e at *
        simp (maxSteps := 9999999) -implicitDefEqProofs only [go_sem, mwp_draw, d1, d2, d3, d4, e0, e1, ne_eq, not_false_eq_true, ↓gx, ↓gy]
        repeat (refine ⟨by first | omega | decide | exact fits64 (by omega) (by omega) | kernel_rfl | (intros; omega), ?_⟩)
        refine callK_is cE ?_
        simp (maxSteps := 9999999) -implicitDefEqProofs only [go_sem, mwp_draw, beq_true, beq_false]
        repeat (refine ⟨by first | omega | decide | exact fits64 (by omega) (by omega) | kernel_rfl | (intros; omega), ?_⟩)
        refine callK_is (HasEdge_is _ n es e (by omega)) ?_
        rw [hg, decide_eq_true em]
        have d5 : ((k : Int) ≤ c.length) = True := eq_true (by omega)
        have d6 : (k ≤ c.length) = True := eq_true (by omega)
        simp (maxSteps := 9999999) -implicitDefEqProofs only [go_sem, mwp_draw, beq_true, beq_false, Bool.and_self, d1, d2, d5, d6, ↓gx]
        repeat (refine ⟨by first | omega | decide | exact fits64 (by omega) (by omega) | kernel_rfl | (intros; omega), ?_⟩)
        refine callK_is (dyIn_is _ (c.take k) x (by simp; omega)) ?_
        rw [decide_eq_false nw]
        simp (maxSteps := 9999999) -implicitDefEqProofs only [go_sem, mwp_draw, beq_true, beq_false]
        repeat (refine ⟨by first | omega | decide | exact fits64 (by omega) (by omega) | kernel_rfl | (intros; omega), ?_⟩)
        exact kN' _ (k + 1) (by kernel_rfl) (by omega) (by omega)
      · have d1 : ((k : Int) < c.length) = False := eq_false (by omega)
        simp (maxSteps := 9999999) -implicitDefEqProofs only [go_sem, mwp_draw, d1]
        refine kE' _ _ ?_
        clear kN' kE' kR'
        obtain ⟨x, hx⟩ : ∃ x, c[0]? = some x := ⟨_, List.getElem?_eq_getElem (by omega)⟩
        obtain ⟨y, hy⟩ : ∃ y, c[1]? = some y := ⟨_, List.getElem?_eq_getElem (by omega)⟩
        have m1 : (0 + 1) % c.length = 1 := Nat.mod_eq_of_lt (by omega)
        obtain ⟨ex, em⟩ := hst c mc 0 x y hx (by rw [m1]; exact hy)
        have ho := fun j d hd hij => how i j c d x y hc hd hx hy hij
        have gx := goneS hx
        have gy := goneS hy
        have z1 : Int.toNat 1 = 1 := rfl
        have z0 : Int.toNat 0 = 0 := rfl
        have d1 : ((0 : Int) < c.length) = True := eq_true (by omega)
        have d2 : (0 < c.length) = True := eq_true (by omega)
        have d3 : ((1 : Int) < c.length) = True := eq_true (by omega)
        have d4 : (1 < c.length) = True := eq_true (by omega)
        have cE := EdgeOf_is x y
        rw [ex] at cE
        simp only [if_true] at cE
        generalize edgN x y = e at *
        simp (maxSteps := 9999999) -implicitDefEqProofs only [go_sem, mwp_draw, d1, d2, d3, d4, z0, z1, ↓gx, ↓gy]
        repeat (refine ⟨by first | omega | decide | exact fits64 (by omega) (by omega) | kernel_rfl | (intros; omega), ?_⟩)
        refine callK_is cE ?_
        simp (maxSteps := 9999999) -implicitDefEqProofs only [go_sem, mwp_draw]
        repeat (refine ⟨by first | omega | decide | exact fits64 (by omega) (by omega) | kernel_rfl | (intros; omega), ?_⟩)
        refine mwp_loopk (X := Nat) (fun k => ⟨[(3, .pr 0 0 0), (4, .sr 1 0 L.length), (5, .i .i64 i), (10, .pr 2 0 0), (12, .i .i64 k)], [(0, .box [.i .i64 n, .sr 3 0 es.length]), (1, .arr true 1 (encN L)), (2, .box [.i .i64 e.1, .i .i64 e.2]), (3, .arr true 2 (encE es))], 4⟩)
          (fun k => k ≤ L.length) (fun k => L.length - k) 0 (by kernel_rfl) (Nat.zero_le _) ?_
        rintro k k1 K' kN' kE' kR'
        by_cases hk : k < L.length
        · obtain ⟨d, hd⟩ : ∃ d, L[k]? = some d := ⟨_, List.getElem?_eq_getElem hk⟩
          have md := List.mem_of_getElem? hd
          obtain ⟨f', dl, dl2, nd'⟩ := hF d md
          obtain ⟨r1, r2⟩ := chF_chR (hv' d md) f'
          obtain ⟨w, hw⟩ : ∃ w, d[0]? = some w := ⟨_, List.getElem?_eq_getElem (by omega)⟩
          have gd := goneS hd
          have gw := goneS hw
          have cd : clo d = d ++ [w] := by unfold clo; rw [hw]; rfl
          have ll : (clo d).length ≤ 17 := by rw [cd]; simp; omega
          have sl := stE_len (clo d)
          have b1 : ((k : Int) < L.length) = True := eq_true (by omega)
          have b2 : (k < L.length) = True := eq_true hk
          have b3 : ((0 : Int) < d.length) = True := eq_true (by omega)
          have b4 : (0 < d.length) = True := eq_true (by omega)
          have cc := fun u => ChainEdges_is u (clo d) (by omega)
          rw [r1, r2] at cc
          by_cases hki : k = i
          · subst hki
            generalize stE (clo d) = se at *
            rw [cd] at cc
            simp (maxSteps := 9999999) -implicitDefEqProofs only [go_sem, mwp_draw, b1, b2, b3, b4, ↓gd, ↓gw]
            repeat (refine ⟨by first | omega | decide | exact fits64 (by omega) (by omega) | kernel_rfl | (intros; omega), ?_⟩)
            refine callK_is (cc _) ?_
            simp (maxSteps := 9999999) -implicitDefEqProofs only [go_sem, mwp_draw]
            repeat (refine ⟨by first | omega | decide | exact fits64 (by omega) (by omega) | kernel_rfl | (intros; omega), ?_⟩)
            exact kN' _ (k + 1) (by kernel_rfl) (by omega) (by omega)
          · have no := ho k d hd (fun q => hki q.symm)
            have q1 : ((k : Int) = i) = False := eq_false (by omega)
            generalize stE (clo d) = se at *
            rw [cd] at cc
            simp (maxSteps := 9999999) -implicitDefEqProofs only [go_sem, mwp_draw, b1, b2, b3, b4, ↓gd, ↓gw]
            repeat (refine ⟨by first | omega | decide | exact fits64 (by omega) (by omega) | kernel_rfl | (intros; omega), ?_⟩)
            refine callK_is (cc _) ?_
            simp (maxSteps := 9999999) -implicitDefEqProofs only [go_sem, mwp_draw, q1]
            repeat (refine ⟨by first | omega | decide | exact fits64 (by omega) (by omega) | kernel_rfl | (intros; omega), ?_⟩)
            refine callK_is (dyHas_is _ se e (by omega)) ?_
            rw [decide_eq_false no]
            simp (maxSteps := 9999999) -implicitDefEqProofs only [go_sem, mwp_draw, beq_true, beq_false]
            repeat (refine ⟨by first | omega | decide | exact fits64 (by omega) (by omega) | kernel_rfl | (intros; omega), ?_⟩)
            exact kN' _ (k + 1) (by kernel_rfl) (by omega) (by omega)
        · have b1 : ((k : Int) < L.length) = False := eq_false (by omega)
          simp (maxSteps := 9999999) -implicitDefEqProofs only [go_sem, mwp_draw, b1]
          refine kE' _ _ ?_
          clear kN' kE' kR'
          simp (maxSteps := 9999999) -implicitDefEqProofs only [go_sem, mwp_draw]
          repeat (refine ⟨by first | omega | decide | exact fits64 (by omega) (by omega) | kernel_rfl | (intros; omega), ?_⟩)
          exact kN _ (i + 1) (by kernel_rfl) (by omega) (by omega)
    · have c1 : ((i : Int) < L.length) = False := eq_false (by omega)
      simp (maxSteps := 9999999) -implicitDefEqProofs only [go_sem, mwp_draw, c1]
      refine kE _ _ ?_
      clear kN kE kR
      simp (maxSteps := 9999999) -implicitDefEqProofs only [go_sem, mwp_draw]
      refine callK_is (ChainsOf_is _ n es (by omega)) ?_
      generalize chV n es = M at *
      have z : ((L.length : Int) = (M.length : Int)) = True := eq_true (by omega)
      simp (maxSteps := 9999999) -implicitDefEqProofs only [go_sem, mwp_draw, z]
      repeat (refine ⟨by first | omega | decide | exact fits64 (by omega) (by omega) | kernel_rfl | (intros; omega), ?_⟩)
      first | done | rfl
theorem FnCyclesOf_row (m : List (List D)) (h : ∀ r ∈ m, rowOK [.i .u8] r) (_ : m.length ≤ maxLen) : Is prog fid_laws_FnCyclesOf [.s false 1 m] (.b true) := by
  obtain ⟨b, rfl, hb⟩ := rows_bytes h
  exact FnCyclesOf_is _ b hb
end Go.Fw
