/-
  The law on the edges of a chain.
-/
import Derived.Test.YtedacikdbkpccaaCtDw
import Derived.Test.YtedacikdbkpccaaCtRow
import Derived.Test.YtedacikdbkpccaaKFnChainEdges
namespace Go.Fw
set_option linter.unusedSimpArgs false
set_option linter.unusedVariables false
set_option maxRecDepth 100000
set_option maxHeartbeats 4000000
open Go.Proofs.Try (prog)
open Go.Pl

theorem DrawChainEdges_is (t : Bool) (b : List Int) (hb : Byt b) : MCall prog fid_spec_DrawChainEdges [.s t 1 (encB b)] (fun o r => o = [.u] ∧ ∃ l : List Int, (r = .ow true 1 (encI l) ∨ r = .s true 1 (encI l)) ∧ l.length ≤ 17) := by
  refine MCall.run mixed get_spec_DrawChainEdges ok_spec_DrawChainEdges (Nat.le_of_ble_eq_true rfl) (by decide) ?_
  unfold mc_spec_DrawChainEdges
  have hb' := byt_take2 hb 2000
  have hc' : (b.take 2000).length ≤ 2000 := by simp; omega
  simp (maxSteps := 9999999) -implicitDefEqProofs only [go_sem, mwp_draw]
  refine callK_any (DrawGraphValid_is _ b hb) ?_
  rintro o r ⟨rfl, n, es, rfl, w1, w2, w3⟩
  simp (maxSteps := 9999999) -implicitDefEqProofs only [go_sem, mwp_draw]
  refine callK_is (l14Open_is b) ?_
  simp (maxSteps := 9999999) -implicitDefEqProofs only [go_sem, mwp_draw]
  generalize b.take 2000 = c at hb' hc'
  refine callK_is (ChainsOfS_is _ n es (by omega)) ?_
  have hP := fun c hc => (chV_chP (n := n) (es := es) (c := c) hc).1
  have ln := chV_len (n := n) (es := es)
  generalize chV n es = L at *
  by_cases hL : L.length = 0
  · have c1 : ((L.length : Int) = 0) = True := eq_true (by omega)
    simp (maxSteps := 9999999) -implicitDefEqProofs only [go_sem, mwp_draw, c1]
    refine callK_det (num_is _ c (0) [0, 1] hb' hc' (by omega) (by decide)) ?_
    generalize numM c (0) [0, 1] = x
    simp (maxSteps := 9999999) -implicitDefEqProofs only [go_sem, mwp_draw]
    refine callK_det (num_is _ c (0 + 1) [2, 1, 16] hb' hc' (by omega) (by decide)) ?_
    generalize numM c (0 + 1) [2, 1, 16] = y
    simp (maxSteps := 9999999) -implicitDefEqProofs only [go_sem, mwp_draw]
    refine callK_det (num_is _ c (0 + 1 + 1) [3, -1, 0] hb' hc' (by omega) (by decide)) ?_
    generalize numM c (0 + 1 + 1) [3, -1, 0] = z
    simp (maxSteps := 9999999) -implicitDefEqProofs only [go_sem, mwp_draw]
    first | exact ⟨[x, y, z], .inl rfl, by simp⟩ | exact ⟨[x, y, z], rfl, by simp⟩
  · have c1 : ((L.length : Int) = 0) = False := eq_false (by omega)
    simp (maxSteps := 9999999) -implicitDefEqProofs only [go_sem, mwp_draw, c1]
    refine callK_det (pick_is c 0 6 hb' hc' (by omega) (by omega)) ?_
    generalize pickM c 0 6 = v
    by_cases hv0 : v = 0
    · have v0 := eq_true hv0
      simp (maxSteps := 9999999) -implicitDefEqProofs only [go_sem, mwp_draw, v0]
      refine callK_det (num_is _ c (0 + 1) [0, 1] hb' hc' (by omega) (by decide)) ?_
      generalize numM c (0 + 1) [0, 1] = x
      simp (maxSteps := 9999999) -implicitDefEqProofs only [go_sem, mwp_draw]
      refine callK_det (num_is _ c (0 + 1 + 1) [2, 1, 16] hb' hc' (by omega) (by decide)) ?_
      generalize numM c (0 + 1 + 1) [2, 1, 16] = y
      simp (maxSteps := 9999999) -implicitDefEqProofs only [go_sem, mwp_draw]
      refine callK_det (num_is _ c (0 + 1 + 1 + 1) [3, -1, 0] hb' hc' (by omega) (by decide)) ?_
      generalize numM c (0 + 1 + 1 + 1) [3, -1, 0] = z
      simp (maxSteps := 9999999) -implicitDefEqProofs only [go_sem, mwp_draw]
      first | exact ⟨[x, y, z], .inl rfl, by simp⟩ | exact ⟨[x, y, z], rfl, by simp⟩
    · have v0 := eq_false hv0
      simp (maxSteps := 9999999) -implicitDefEqProofs only [go_sem, mwp_draw, v0]
      refine callK_det (pick_is c (0 + 1) L.length hb' hc' (by omega) (by omega)) ?_
      have hr := pick_rng (b := c) (p := 0 + 1) L.length hb' hc' (by omega)
      generalize pickM c (0 + 1) L.length = k at hr
      have hr2 := hr.2 (by omega)
      simp (maxSteps := 9999999) -implicitDefEqProofs only [go_sem, mwp_draw]
      refine ⟨by omega, by omega, by omega, fun x hx => ⟨x, ?_, hP x (List.mem_of_getElem? hx)⟩⟩
      first | exact .inr rfl | simp
theorem FnChainEdges_is (t : Bool) (b : List Int) (hb : Byt b) : Is prog fid_laws_FnChainEdges [.s t 1 (encB b)] (.b true) := by
  refine MCall.run mixed get_laws_FnChainEdges ok_laws_FnChainEdges (Nat.le_of_ble_eq_true rfl) (by decide) ?_
  unfold mc_laws_FnChainEdges
  by_cases hl : 1048576 < b.length
  · have c0 : ((1048576 : Int) < b.length) = True := eq_true (by omega)
    simp (maxSteps := 9999999) -implicitDefEqProofs only [go_sem, mwp_draw, c0]
  have c0 : ((1048576 : Int) < b.length) = False := eq_false (by omega)
  simp (maxSteps := 9999999) -implicitDefEqProofs only [go_sem, mwp_draw, c0]
  refine callK_any (DrawChainEdges_is _ b hb) ?_
  rintro o r ⟨rfl, l, hr, hl17⟩
  have hE := fun u => ChainEdges_is u l (by omega)
  have hE' := fun u => ChainEdgesS_is u l (by omega)
  have rl17 := chR_len l
  have hwt : chB l = true → chP l ∧ chR l = prs l (l.length - 1) := fun h => ⟨Classical.byContradiction fun q => (by rw [chB_ff q] at h; cases h), by unfold chR; rw [if_pos h]⟩
  have hRi : ∀ i x y, chB l = true → i < (chR l).length → l[i]? = some x → l[i + 1]? = some y → eoB x y = true ∧ (chR l)[i]? = some (edgN x y) := fun i x y h hi hx hy => by
    obtain ⟨p, e⟩ := hwt h
    rw [e, prs_length] at hi
    have hs := stE_get l i x y hx hy
    rw [e, prs_stE l _ (Nat.le_refl _)]
    refine ⟨?_, by rw [List.getElem?_take_of_lt hi]; exact hs⟩
    have a := p.2.1 x (List.mem_of_getElem? hx)
    have c := p.2.1 y (List.mem_of_getElem? hy)
    have d := p.2.2 i (by have := (List.getElem?_eq_some_iff.1 hy).1; omega)
    rw [hx, hy] at d
    unfold eoB
    rw [a, c]
    simp only [Bool.and_true, Bool.not_eq_true', decide_eq_false_iff_not]
    exact fun q => d (by rw [q])
  generalize chR l = R at *
  generalize chB l = w at *
  rcases hr with rfl | rfl
  · simp (maxSteps := 9999999) -implicitDefEqProofs only [go_sem, mwp_draw]
    refine callK_is (hE _) ?_
    simp (maxSteps := 9999999) -implicitDefEqProofs only [go_sem, mwp_draw]
    refine callK_is (hE' _) ?_
    simp (maxSteps := 9999999) -implicitDefEqProofs only [go_sem, mwp_draw]
    refine callK_is (dyEdges_is _ _ R R (by omega)) ?_
    simp only [decide_true]
    cases hw : w with
    | false =>
      simp (maxSteps := 9999999) -implicitDefEqProofs only [go_sem, mwp_draw, beq_true, beq_false]
      refine callK_is (dyEdges_is _ _ R R (by omega)) ?_
      simp only [decide_true]
      simp (maxSteps := 9999999) -implicitDefEqProofs only [go_sem, mwp_draw, beq_true, beq_false]
    | true =>
      obtain ⟨hq, hR⟩ := hwt hw
      by_cases h0 : l.length = 0
      · have z0 : ((l.length : Int) = 0) = True := eq_true (by omega)
        simp (maxSteps := 9999999) -implicitDefEqProofs only [go_sem, mwp_draw, beq_true, beq_false, z0]
        refine callK_is (dyEdges_is _ _ R R (by omega)) ?_
        simp only [decide_true]
        simp (maxSteps := 9999999) -implicitDefEqProofs only [go_sem, mwp_draw, beq_true, beq_false]
      · have z0 : ((l.length : Int) = 0) = False := eq_false (by omega)
        have rl : R.length = l.length - 1 := by rw [hR, prs_length]
        simp (maxSteps := 9999999) -implicitDefEqProofs only [go_sem, mwp_draw, beq_true, beq_false, z0]
        refine mwp_loopk (X := Nat) (fun i => ⟨[(3, .sr 0 0 l.length), (4, .sr 1 0 R.length), (8, .i .i64 i)], [(0, .arr true 1 (encI l)), (1, .arr true 2 (encE R))], 2⟩)
          (fun i => i ≤ R.length) (fun i => R.length - i) 0 (by kernel_rfl) (Nat.zero_le _) ?_
        rintro i g1 K kN kE kR
        by_cases hi : i < R.length
        · obtain ⟨x, hx⟩ : ∃ x, l[i]? = some x := ⟨_, List.getElem?_eq_getElem (by omega)⟩
          obtain ⟨y, hy⟩ : ∃ y, l[i + 1]? = some y := ⟨_, List.getElem?_eq_getElem (by omega)⟩
          obtain ⟨ex, he⟩ := hRi i x y hw hi hx hy
          have gx := goneS hx
          have gy := goneS hy
          have ge := goneS he
          have c1 : ((i : Int) < R.length) = True := eq_true (by omega)
          have c2 : (i < R.length) = True := eq_true hi
          have d1 : ((i : Int) < l.length) = True := eq_true (by omega)
          have d2 : (i < l.length) = True := eq_true (by omega)
          have d3 : ((i : Int) + 1 < l.length) = True := eq_true (by omega)
          have d4 : (i + 1 < l.length) = True := eq_true (by omega)
          have d5 : (0 ≤ (i : Int) + 1) = True := eq_true (by omega)
          have z : ((i : Int) + 1).toNat = i + 1 := by omega
          have cE := EdgeOf_is x y
          rw [ex] at cE
          simp only [if_true] at cE
          generalize edgN x y = d at *
          simp (maxSteps := 9999999) -implicitDefEqProofs only [go_sem, mwp_draw, c1, c2, d1, d2, d3, d4, d5, z, ↓gx, ↓gy]
          repeat (refine ⟨by first | omega | decide | exact fits64 (by omega) (by omega) | kernel_rfl | (intros; omega), ?_⟩)
          refine callK_is cE ?_
          simp (maxSteps := 9999999) -implicitDefEqProofs only [go_sem, mwp_draw, c1, c2, ↓ge]
          repeat (refine ⟨by first | omega | decide | exact fits64 (by omega) (by omega) | kernel_rfl | (intros; omega), ?_⟩)
          exact kN _ (i + 1) (by kernel_rfl) (by omega) (by omega)
        · obtain rfl : i = R.length := by omega
          have c1 : ((R.length : Int) < R.length) = False := eq_false (by omega)
          have c2 : ((R.length : Int) = (l.length : Int) - 1) = True := eq_true (by omega)
          simp (maxSteps := 9999999) -implicitDefEqProofs only [go_sem, mwp_draw, c1]
          refine kE _ _ ?_
          clear kN kE kR
          simp (maxSteps := 9999999) -implicitDefEqProofs only [go_sem, mwp_draw, c2]
          repeat (refine ⟨by first | omega | decide | exact fits64 (by omega) (by omega) | kernel_rfl | (intros; omega), ?_⟩)
          first | done | rfl | exact fits64 (by omega) (by omega)
  · simp (maxSteps := 9999999) -implicitDefEqProofs only [go_sem, mwp_draw]
    refine callK_is (hE _) ?_
    simp (maxSteps := 9999999) -implicitDefEqProofs only [go_sem, mwp_draw]
    refine callK_is (hE' _) ?_
    simp (maxSteps := 9999999) -implicitDefEqProofs only [go_sem, mwp_draw]
    refine callK_is (dyEdges_is _ _ R R (by omega)) ?_
    simp only [decide_true]
    cases hw : w with
    | false =>
      simp (maxSteps := 9999999) -implicitDefEqProofs only [go_sem, mwp_draw, beq_true, beq_false]
      refine callK_is (dyEdges_is _ _ R R (by omega)) ?_
      simp only [decide_true]
      simp (maxSteps := 9999999) -implicitDefEqProofs only [go_sem, mwp_draw, beq_true, beq_false]
    | true =>
      obtain ⟨hq, hR⟩ := hwt hw
      by_cases h0 : l.length = 0
      · have z0 : ((l.length : Int) = 0) = True := eq_true (by omega)
        simp (maxSteps := 9999999) -implicitDefEqProofs only [go_sem, mwp_draw, beq_true, beq_false, z0]
        refine callK_is (dyEdges_is _ _ R R (by omega)) ?_
        simp only [decide_true]
        simp (maxSteps := 9999999) -implicitDefEqProofs only [go_sem, mwp_draw, beq_true, beq_false]
      · have z0 : ((l.length : Int) = 0) = False := eq_false (by omega)
        have rl : R.length = l.length - 1 := by rw [hR, prs_length]
        simp (maxSteps := 9999999) -implicitDefEqProofs only [go_sem, mwp_draw, beq_true, beq_false, z0]
        refine mwp_loopk (X := Nat) (fun i => ⟨[(3, .s true 1 (encI l)), (4, .sr 0 0 R.length), (8, .i .i64 i)], [(0, .arr true 2 (encE R))], 1⟩)
          (fun i => i ≤ R.length) (fun i => R.length - i) 0 (by kernel_rfl) (Nat.zero_le _) ?_
        rintro i g1 K kN kE kR
        by_cases hi : i < R.length
        · obtain ⟨x, hx⟩ : ∃ x, l[i]? = some x := ⟨_, List.getElem?_eq_getElem (by omega)⟩
          obtain ⟨y, hy⟩ : ∃ y, l[i + 1]? = some y := ⟨_, List.getElem?_eq_getElem (by omega)⟩
          obtain ⟨ex, he⟩ := hRi i x y hw hi hx hy
          have gx := goneS hx
          have gy := goneS hy
          have ge := goneS he
          have c1 : ((i : Int) < R.length) = True := eq_true (by omega)
          have c2 : (i < R.length) = True := eq_true hi
          have d1 : ((i : Int) < l.length) = True := eq_true (by omega)
          have d2 : (i < l.length) = True := eq_true (by omega)
          have d3 : ((i : Int) + 1 < l.length) = True := eq_true (by omega)
          have d4 : (i + 1 < l.length) = True := eq_true (by omega)
          have d5 : (0 ≤ (i : Int) + 1) = True := eq_true (by omega)
          have z : ((i : Int) + 1).toNat = i + 1 := by omega
          have cE := EdgeOf_is x y
          rw [ex] at cE
          simp only [if_true] at cE
          generalize edgN x y = d at *
          simp (maxSteps := 9999999) -implicitDefEqProofs only [go_sem, mwp_draw, c1, c2, d1, d2, d3, d4, d5, z, ↓gx, ↓gy]
          repeat (refine ⟨by first | omega | decide | exact fits64 (by omega) (by omega) | kernel_rfl | (intros; omega), ?_⟩)
          refine callK_is cE ?_
          simp (maxSteps := 9999999) -implicitDefEqProofs only [go_sem, mwp_draw, c1, c2, ↓ge]
          repeat (refine ⟨by first | omega | decide | exact fits64 (by omega) (by omega) | kernel_rfl | (intros; omega), ?_⟩)
          exact kN _ (i + 1) (by kernel_rfl) (by omega) (by omega)
        · obtain rfl : i = R.length := by omega
          have c1 : ((R.length : Int) < R.length) = False := eq_false (by omega)
          have c2 : ((R.length : Int) = (l.length : Int) - 1) = True := eq_true (by omega)
          simp (maxSteps := 9999999) -implicitDefEqProofs only [go_sem, mwp_draw, c1]
          refine kE _ _ ?_
          clear kN kE kR
          simp (maxSteps := 9999999) -implicitDefEqProofs only [go_sem, mwp_draw, c2]
          repeat (refine ⟨by first | omega | decide | exact fits64 (by omega) (by omega) | kernel_rfl | (intros; omega), ?_⟩)
          first | done | rfl | exact fits64 (by omega) (by omega)
theorem FnChainEdges_row (m : List (List D)) (h : ∀ r ∈ m, rowOK [.i .u8] r) (_ : m.length ≤ maxLen) : Is prog fid_laws_FnChainEdges [.s false 1 m] (.b true) := by
  obtain ⟨b, rfl, hb⟩ := rows_bytes h
  exact FnChainEdges_is _ b hb
end Go.Fw
