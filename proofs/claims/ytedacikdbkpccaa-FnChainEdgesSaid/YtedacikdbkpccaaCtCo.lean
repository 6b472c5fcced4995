/-
  Which chain goes along an edge; round chains: both sides.
-/
import Derived.Test.YtedacikdbkpccaaCtCh
import Derived.Test.YtedacikdbkpccaaPlC3
import Derived.Test.YtedacikdbkpccaaCtJ
namespace Go.Fw
set_option linter.unusedSimpArgs false
set_option linter.unusedVariables false
set_option maxRecDepth 100000
set_option maxHeartbeats 8000000
open Go.Proofs.Try (prog)
open Go.Pl

theorem chV_form {n : Int} {es : List E} {c : List Int} (hc : c ∈ chV n es) : GV n es ∧ ChF n es c := by
  unfold chV at hc
  by_cases hg : gvB n es = true
  · rw [if_pos hg] at hc
    have hv := gvB_iff.1 hg
    have hn1 := hv.1
    exact ⟨hv, (srch_nf hv.2.2.2.1 (by omega : 0 ≤ n)).chain_form hv.2.2.2.1 hc⟩
  · rw [if_neg hg] at hc; simp at hc
theorem chV_len {n : Int} {es : List E} : (chV n es).length ≤ 256 := by
  unfold chV
  by_cases hg : gvB n es = true
  · rw [if_pos hg]
    have hv := gvB_iff.1 hg
    have hn1 := hv.1
    have h := srch_nf hv.2.2.2.1 (by omega : 0 ≤ n)
    rw [(h.chains hv.2.2.2.1).1]
    exact back_len hv h
  · rw [if_neg hg]; simp
theorem ndB_iff' {x : Int} : ndB x = true ↔ 0 ≤ x ∧ x < 16 := by unfold ndB; simp
theorem prs_stE : ∀ (c : List Int) (k : Nat), k ≤ c.length - 1 → prs c k = (stE c).take k
  | c, 0, _ => by simp [prs]
  | c, k + 1, h => by
    have h1 : c[k]? = some c[k] := List.getElem?_eq_getElem (by omega)
    have h2 : c[k + 1]? = some c[k + 1] := List.getElem?_eq_getElem (by omega)
    rw [prs_succ h1 h2, prs_stE c k (by omega), take_snoc (stE_get c k _ _ h1 h2)]; rfl
theorem chV_chP {n : Int} {es : List E} {c : List Int} (hc : c ∈ chV n es) : chP c := by
  obtain ⟨hv, f⟩ := chV_form hc
  have := f.le
  have hn := hv.2.1
  refine ⟨by omega, fun x hx => ndB_iff'.2 ?_, fun j hj e => ?_⟩
  · have := f.rng x hx; omega
  · have h1 : c[j]? = some c[j] := List.getElem?_eq_getElem (by omega)
    have h2 : c[j + 1]? = some c[j + 1] := List.getElem?_eq_getElem (by omega)
    rw [h1, h2] at e
    exact f.ne hv.2.2.2.1 h1 h2 (Option.some.inj e)
theorem chV_chR {n : Int} {es : List E} {c : List Int} (hc : c ∈ chV n es) : chB c = true ∧ chR c = stE c := by
  have p := chB_tt (chV_chP hc)
  refine ⟨p, ?_⟩
  unfold chR
  rw [if_pos p, prs_stE c _ (Nat.le_refl _), List.take_of_length_le (by rw [stE_len]; omega)]

/-- The first chain that goes along an edge. -/
def onB (e : E) (c : List Int) : Bool := decide (e ∈ stE c)
def coB (L : List (List Int)) (e : E) : Bool := L.any (onB e)
def coI (L : List (List Int)) (e : E) : Nat := if coB L e then L.findIdx (onB e) else 0
theorem co_no {L : List (List Int)} {e : E} (h : ∀ j c, j < L.length → L[j]? = some c → onB e c = false) : coB L e = false ∧ coI L e = 0 := by
  have : coB L e = false := by
    unfold coB
    rw [List.any_eq_false]
    intro c hc
    obtain ⟨j, hj⟩ := List.mem_iff_getElem?.1 hc
    rw [h j c (List.getElem?_eq_some_iff.1 hj).1 hj]; simp
  exact ⟨this, by unfold coI; rw [this]; rfl⟩
theorem co_yes {L : List (List Int)} {e : E} {i : Nat} {c : List Int} (h : ∀ j c, j < i → L[j]? = some c → onB e c = false) (hc : L[i]? = some c) (hy : onB e c = true) : coB L e = true ∧ coI L e = i := by
  have hb : coB L e = true := by
    unfold coB
    rw [List.any_eq_true]
    exact ⟨c, List.mem_of_getElem? hc, hy⟩
  refine ⟨hb, ?_⟩
  unfold coI
  rw [if_pos hb]
  obtain ⟨hi, he⟩ := List.getElem?_eq_some_iff.1 hc
  rw [List.findIdx_eq hi]
  refine ⟨by rw [he]; exact hy, fun j hj => h j _ hj (List.getElem?_eq_getElem _)⟩
theorem no_next {L : List (List Int)} {e : E} {i : Nat} {c : List Int} (h : ∀ j c, j < i → L[j]? = some c → onB e c = false) (hc : L[i]? = some c) (hn : onB e c = false) : ∀ j c, j < i + 1 → L[j]? = some c → onB e c = false := fun j d hj hd => by
  by_cases q : j = i
  · subst q; rw [hc] at hd; cases hd; exact hn
  · exact h j d (by omega) hd

theorem l9Along_is (t : Bool) (c : List Int) (e : E) (hl : c.length ≤ 1000) : Is prog fid_spec_l9Along [.s t 1 (encI c), Ed1 e] (.b (onB e c)) := by
  refine MCall.run mixed get_spec_l9Along ok_spec_l9Along (Nat.le_of_ble_eq_true rfl) (by decide) ?_
  unfold mc_spec_l9Along
  simp (maxSteps := 9999999) -implicitDefEqProofs only [go_sem, mwp_draw]
  have sl := stE_len c
  refine mwp_loopk (X := Nat) (fun i => ⟨[(0, .s t 1 (encI c)), (3, .pr 0 0 0), (5, .i .i64 (i + 1 : Nat))], [(0, .box [.i .i64 e.1, .i .i64 e.2])], 1⟩)
    (fun i => i ≤ (stE c).length ∧ e ∉ (stE c).take i) (fun i => (stE c).length - i) 0 (by kernel_rfl) (by simp) ?_
  rintro i ⟨h1, h2⟩ K kN kE kR
  by_cases hi : i < (stE c).length
  · obtain ⟨x, hx⟩ : ∃ x, c[i]? = some x := ⟨_, List.getElem?_eq_getElem (by omega)⟩
    obtain ⟨y, hy⟩ : ∃ y, c[i + 1]? = some y := ⟨_, List.getElem?_eq_getElem (by omega)⟩
    have hs := stE_get c i x y hx hy
    have gx := goneS hx
    have gy := goneS hy
    have c1 : (((i + 1 : Nat) : Int) < c.length) = True := eq_true (by omega)
    have c2 : (i < c.length) = True := eq_true (by omega)
    have c3 : (i + 1 < c.length) = True := eq_true (by omega)
    have z : (((i + 1 : Nat) : Int) - 1) = (i : Int) := by omega
    have c4 : ((i : Int) < c.length) = True := eq_true (by omega)
    simp (maxSteps := 9999999) -implicitDefEqProofs only [go_sem, mwp_draw, c1, c2, c3, c4, z, ↓gx, ↓gy]
    repeat (refine ⟨by first | omega | decide | exact fits64 (by omega) (by omega) | kernel_rfl | (intros; omega), ?_⟩)
    refine callK_is (l1Edge_is x y) ?_
    by_cases q : e = edn x y
    · have e1 : ((edgN x y).1 = e.1) = True := eq_true (by rw [q]; rfl)
      have e2 : ((edgN x y).2 = e.2) = True := eq_true (by rw [q]; rfl)
      have on : onB e c = true := by
        unfold onB; rw [decide_eq_true_eq, q]; exact List.mem_of_getElem? hs
      clear hs
      generalize edgN x y = d at *
      simp (maxSteps := 9999999) -implicitDefEqProofs only [go_sem, mwp_draw, e1, e2]
      repeat (refine ⟨by first | omega | decide | exact fits64 (by omega) (by omega) | kernel_rfl | (intros; omega), ?_⟩)
      refine kR _ ?_
      rw [on]
      clear kN kE kR
      simp (maxSteps := 9999999) -implicitDefEqProofs only [go_sem, mwp_draw]
      repeat (refine ⟨by first | omega | decide | exact fits64 (by omega) (by omega) | kernel_rfl | (intros; omega), ?_⟩)
      first | done | rfl
    · have nq : ¬ ((edgN x y).1 = e.1 ∧ (edgN x y).2 = e.2) := fun ⟨a, b⟩ => q (Prod.ext a.symm b.symm)
      have nx : e ∉ (stE c).take (i + 1) := by
        rw [take_snoc hs]; simp only [List.mem_append, List.mem_singleton, not_or]; exact ⟨h2, q⟩
      clear hs q
      generalize edgN x y = d at *
      by_cases e1 : d.1 = e.1
      · have e2 : ¬ d.2 = e.2 := fun b => nq ⟨e1, b⟩
        have e1' := eq_true e1
        have e2' := eq_false e2
        simp (maxSteps := 9999999) -implicitDefEqProofs only [go_sem, mwp_draw, e1', e2']
        repeat (refine ⟨by first | omega | decide | exact fits64 (by omega) (by omega) | kernel_rfl | (intros; omega), ?_⟩)
        exact kN _ (i + 1) (by kernel_rfl) ⟨by omega, nx⟩ (by omega)
      · have e1' := eq_false e1
        simp (maxSteps := 9999999) -implicitDefEqProofs only [go_sem, mwp_draw, e1']
        repeat (refine ⟨by first | omega | decide | exact fits64 (by omega) (by omega) | kernel_rfl | (intros; omega), ?_⟩)
        exact kN _ (i + 1) (by kernel_rfl) ⟨by omega, nx⟩ (by omega)
  · have c1 : (((i + 1 : Nat) : Int) < c.length) = False := eq_false (by omega)
    rw [List.take_of_length_le (by omega)] at h2
    have on : onB e c = false := by unfold onB; exact decide_eq_false h2
    simp (maxSteps := 9999999) -implicitDefEqProofs only [go_sem, mwp_draw, c1]
    refine kE _ _ ?_
    clear kN kE kR
    rw [on]
    simp (maxSteps := 9999999) -implicitDefEqProofs only [go_sem, mwp_draw]
    repeat (refine ⟨by first | omega | decide | exact fits64 (by omega) (by omega) | kernel_rfl | (intros; omega), ?_⟩)
    first | done | rfl


theorem ChainOf_is (t : Bool) (n : Int) (es : List E) (e : E) (hl : es.length ≤ 1048576) : Is prog fid_impl_ChainOf [Gr t n es, Ed1 e] (.tup [.i .i64 (coI (chV n es) e), .b (coB (chV n es) e)]) := by
  refine MCall.run mixed get_impl_ChainOf ok_impl_ChainOf (Nat.le_of_ble_eq_true rfl) (by decide) ?_
  unfold mc_impl_ChainOf
  simp (maxSteps := 9999999) -implicitDefEqProofs only [go_sem, mwp_draw]
  refine callK_is (ChainsOf_is _ n es hl) ?_
  have ln := chV_len (n := n) (es := es)
  have hP := fun c hc => chV_chP (n := n) (es := es) (c := c) hc
  have hR := fun c hc => chV_chR (n := n) (es := es) (c := c) hc
  generalize chV n es = L at *
  simp (maxSteps := 9999999) -implicitDefEqProofs only [go_sem, mwp_draw]
  refine mwp_loopk (X := Nat) (fun i => ⟨[(3, .pr 0 0 0), (11, .sr 1 0 L.length), (12, .i .i64 L.length), (13, .i .i64 i)], [(0, .box [.i .i64 e.1, .i .i64 e.2]), (1, .arr true 1 (encN L))], 2⟩)
    (fun i => i ≤ L.length ∧ ∀ j c, j < i → L[j]? = some c → onB e c = false) (fun i => L.length - i) 0 (by kernel_rfl) (by simp) ?_
  rintro i ⟨h1, h2⟩ K kN kE kR
  by_cases hi : i < L.length
  · obtain ⟨c, hc⟩ : ∃ c, L[i]? = some c := ⟨_, List.getElem?_eq_getElem hi⟩
    have gc := goneS hc
    have cp := hP c (List.mem_of_getElem? hc)
    have cr := hR c (List.mem_of_getElem? hc)
    have c1 : ((i : Int) < L.length) = True := eq_true (by omega)
    have c2 : (i < L.length) = True := eq_true hi
    simp (maxSteps := 9999999) -implicitDefEqProofs only [go_sem, mwp_draw, c1, c2, ↓gc]
    repeat (refine ⟨by first | omega | decide | exact fits64 (by omega) (by omega) | kernel_rfl | (intros; omega), ?_⟩)
    refine callK_is (steps_is _ c cp.1 cp.2.1) ?_
    rw [cr.1, cr.2]
    have sl := stE_len c
    have cl := cp.1
    have ob : decide (e ∈ stE c) = onB e c := rfl
    have ci := ContainsE_is false (stE c) e (by omega)
    rw [ob] at ci
    generalize stE c = se at *
    simp (maxSteps := 9999999) -implicitDefEqProofs only [go_sem, mwp_draw]
    refine callK_is ci ?_
    cases on : onB e c with
    | true =>
      obtain ⟨a1, a2⟩ := co_yes h2 hc on
      simp (maxSteps := 9999999) -implicitDefEqProofs only [go_sem, mwp_draw]
      repeat (refine ⟨by first | omega | decide | exact fits64 (by omega) (by omega) | kernel_rfl | (intros; omega), ?_⟩)
      refine kR _ ?_
      rw [a1, a2]
      clear kN kE kR
      simp (maxSteps := 9999999) -implicitDefEqProofs only [go_sem, mwp_draw]
      repeat (refine ⟨by first | omega | decide | exact fits64 (by omega) (by omega) | kernel_rfl | (intros; omega), ?_⟩)
      first | done | rfl
    | false =>
      simp (maxSteps := 9999999) -implicitDefEqProofs only [go_sem, mwp_draw]
      repeat (refine ⟨by first | omega | decide | exact fits64 (by omega) (by omega) | kernel_rfl | (intros; omega), ?_⟩)
      exact kN _ (i + 1) (by kernel_rfl) ⟨by omega, no_next h2 hc on⟩ (by omega)
  · obtain rfl : i = L.length := by omega
    have c1 : ((L.length : Int) < L.length) = False := eq_false (by omega)
    obtain ⟨a1, a2⟩ := co_no h2
    simp (maxSteps := 9999999) -implicitDefEqProofs only [go_sem, mwp_draw, c1]
    refine kE _ _ ?_
    rw [a1, a2]
    clear kN kE kR
    simp (maxSteps := 9999999) -implicitDefEqProofs only [go_sem, mwp_draw]
    repeat (refine ⟨by first | omega | decide | exact fits64 (by omega) (by omega) | kernel_rfl | (intros; omega), ?_⟩)
    first | done | rfl
theorem ChainOfS_is (t : Bool) (n : Int) (es : List E) (e : E) (hl : es.length ≤ 1048576) : Is prog fid_spec_ChainOf [Gr t n es, Ed1 e] (.tup [.i .i64 (coI (chV n es) e), .b (coB (chV n es) e)]) := by
  refine MCall.run mixed get_spec_ChainOf ok_spec_ChainOf (Nat.le_of_ble_eq_true rfl) (by decide) ?_
  unfold mc_spec_ChainOf
  simp (maxSteps := 9999999) -implicitDefEqProofs only [go_sem, mwp_draw]
  refine callK_is (ChainsOfS_is _ n es hl) ?_
  have ln := chV_len (n := n) (es := es)
  have hP := fun c hc => chV_chP (n := n) (es := es) (c := c) hc
  generalize chV n es = L at *
  simp (maxSteps := 9999999) -implicitDefEqProofs only [go_sem, mwp_draw]
  refine mwp_loopk (X := Nat) (fun i => ⟨[(3, .pr 0 0 0), (6, .sr 1 0 L.length), (7, .i .i64 i)], [(0, .box [.i .i64 e.1, .i .i64 e.2]), (1, .arr true 1 (encN L))], 2⟩)
    (fun i => i ≤ L.length ∧ ∀ j c, j < i → L[j]? = some c → onB e c = false) (fun i => L.length - i) 0 (by kernel_rfl) (by simp) ?_
  rintro i ⟨h1, h2⟩ K kN kE kR
  by_cases hi : i < L.length
  · obtain ⟨c, hc⟩ : ∃ c, L[i]? = some c := ⟨_, List.getElem?_eq_getElem hi⟩
    have gc := goneS hc
    have cp := hP c (List.mem_of_getElem? hc)
    have c1 : ((i : Int) < L.length) = True := eq_true (by omega)
    have c2 : (i < L.length) = True := eq_true hi
    have cl := cp.1
    simp (maxSteps := 9999999) -implicitDefEqProofs only [go_sem, mwp_draw, c1, c2, ↓gc]
    repeat (refine ⟨by first | omega | decide | exact fits64 (by omega) (by omega) | kernel_rfl | (intros; omega), ?_⟩)
    refine callK_is (l9Along_is _ c e (by omega)) ?_
    cases on : onB e c with
    | true =>
      obtain ⟨a1, a2⟩ := co_yes h2 hc on
      simp (maxSteps := 9999999) -implicitDefEqProofs only [go_sem, mwp_draw]
      repeat (refine ⟨by first | omega | decide | exact fits64 (by omega) (by omega) | kernel_rfl | (intros; omega), ?_⟩)
      refine kR _ ?_
      rw [a1, a2]
      clear kN kE kR
      simp (maxSteps := 9999999) -implicitDefEqProofs only [go_sem, mwp_draw]
      repeat (refine ⟨by first | omega | decide | exact fits64 (by omega) (by omega) | kernel_rfl | (intros; omega), ?_⟩)
      first | done | rfl
    | false =>
      simp (maxSteps := 9999999) -implicitDefEqProofs only [go_sem, mwp_draw]
      repeat (refine ⟨by first | omega | decide | exact fits64 (by omega) (by omega) | kernel_rfl | (intros; omega), ?_⟩)
      exact kN _ (i + 1) (by kernel_rfl) ⟨by omega, no_next h2 hc on⟩ (by omega)
  · obtain rfl : i = L.length := by omega
    have c1 : ((L.length : Int) < L.length) = False := eq_false (by omega)
    obtain ⟨a1, a2⟩ := co_no h2
    simp (maxSteps := 9999999) -implicitDefEqProofs only [go_sem, mwp_draw, c1]
    refine kE _ _ ?_
    rw [a1, a2]
    clear kN kE kR
    simp (maxSteps := 9999999) -implicitDefEqProofs only [go_sem, mwp_draw]
    repeat (refine ⟨by first | omega | decide | exact fits64 (by omega) (by omega) | kernel_rfl | (intros; omega), ?_⟩)
    first | done | rfl

/-- Chains that end where they begin. -/
def rdB (c : List Int) : Bool := decide (nth c 0 = nth c (c.length - 1 : Nat))
def rdL (L : List (List Int)) (i : Nat) : List Int := ((List.range i).filter fun j => rdB ((L[j]?).getD [])).map Int.ofNat
theorem rdL_next {L : List (List Int)} {i : Nat} {c : List Int} (hc : L[i]? = some c) : rdL L (i + 1) = rdL L i ++ if rdB c then [(i : Int)] else [] := by
  unfold rdL
  rw [List.range_succ, List.filter_append, List.map_append]
  simp only [List.filter_cons, List.filter_nil, hc, Option.getD_some]
  cases rdB c <;> simp
theorem rdL_len {L : List (List Int)} {i : Nat} : (rdL L i).length ≤ i := by
  unfold rdL
  rw [List.length_map]
  exact Nat.le_trans (List.length_filter_le _ _) (by simp)
theorem RoundChains_is (t : Bool) (n : Int) (es : List E) (hl : es.length ≤ 1048576) : Is prog fid_impl_RoundChains [Gr t n es] (.ow true 1 (encI (rdL (chV n es) (chV n es).length))) := by
  refine MCall.run mixed get_impl_RoundChains ok_impl_RoundChains (Nat.le_of_ble_eq_true rfl) (by decide) ?_
  unfold mc_impl_RoundChains
  simp (maxSteps := 9999999) -implicitDefEqProofs only [go_sem, mwp_draw]
  refine callK_is (ChainsOf_is _ n es hl) ?_
  have ln := chV_len (n := n) (es := es)
  have hF := fun c hc => (chV_form (n := n) (es := es) (c := c) hc).2.ge
  have rn := fun i c hc => rdL_next (L := chV n es) (i := i) (c := c) hc
  have rl := fun i => rdL_len (L := chV n es) (i := i)
  have r0 : rdL (chV n es) 0 = [] := rfl
  have hP := fun c hc => chV_chP (n := n) (es := es) (c := c) hc
  generalize rdL (chV n es) = R at *
  generalize chV n es = L at *
  simp (maxSteps := 9999999) -implicitDefEqProofs only [go_sem, mwp_draw]
  refine mwp_loopk (X := Nat) (fun i => ⟨[(3, .sr 0 0 (R i).length), (8, .sr 1 0 L.length), (9, .i .i64 L.length), (10, .i .i64 i)], [(0, .arr true 1 (encI (R i))), (1, .arr true 1 (encN L))], 2⟩)
    (fun i => i ≤ L.length) (fun i => L.length - i) 0 (by rw [r0]; kernel_rfl) (Nat.zero_le _) ?_
  rintro i h1 K kN kE kR
  have l3 := rl i
  by_cases hi : i < L.length
  · obtain ⟨c, hc⟩ : ∃ c, L[i]? = some c := ⟨_, List.getElem?_eq_getElem hi⟩
    have gc := goneS hc
    have cg := hF c (List.mem_of_getElem? hc)
    have cp := (hP c (List.mem_of_getElem? hc)).1
    have c1 : ((i : Int) < L.length) = True := eq_true (by omega)
    have c2 : (i < L.length) = True := eq_true hi
    have g0 := goneS (show c[0]? = some (nth c 0) from nth_some (l := c) (x := 0) ⟨by omega, by omega⟩)
    have gl := goneS (show c[c.length - 1]? = some (nth c (c.length - 1 : Nat)) by have := nth_some (l := c) (x := ((c.length - 1 : Nat) : Int)) ⟨by omega, by omega⟩; simpa using this)
    have z1 : ((c.length : Int) - 1) = ((c.length - 1 : Nat) : Int) := by omega
    have d1 : (0 < c.length) = True := eq_true (by omega)
    have d2 : (((c.length - 1 : Nat) : Int) < (c.length : Int)) = True := eq_true (by omega)
    have d3 : (c.length - 1 < c.length) = True := eq_true (by omega)
    have d4 : ((0 : Int) < (c.length : Int)) = True := eq_true (by omega)
    have nx := rn i c hc
    unfold rdB at nx
    by_cases q : nth c 0 = nth c (c.length - 1 : Nat)
    · have e1 : (nth c 0 = nth c (c.length - 1 : Nat)) = True := eq_true q
      rw [if_pos (decide_eq_true q)] at nx
      simp (maxSteps := 9999999) -implicitDefEqProofs only [go_sem, mwp_draw, c1, c2, z1, d1, d2, d3, d4, e1, ↓gc, ↓g0, ↓gl]
      repeat (refine ⟨by first | omega | decide | exact fits64 (by omega) (by omega) | kernel_rfl | (intros; omega), ?_⟩)
      exact kN _ (i + 1) (by rw [nx, List.length_append]; kernel_rfl) (by omega) (by omega)
    · have e1 : (nth c 0 = nth c (c.length - 1 : Nat)) = False := eq_false q
      rw [if_neg (by simpa using q), List.append_nil] at nx
      simp (maxSteps := 9999999) -implicitDefEqProofs only [go_sem, mwp_draw, c1, c2, z1, d1, d2, d3, d4, e1, ↓gc, ↓g0, ↓gl]
      repeat (refine ⟨by first | omega | decide | exact fits64 (by omega) (by omega) | kernel_rfl | (intros; omega), ?_⟩)
      exact kN _ (i + 1) (by rw [nx]; kernel_rfl) (by omega) (by omega)
  · obtain rfl : i = L.length := by omega
    have c1 : ((L.length : Int) < L.length) = False := eq_false (by omega)
    simp (maxSteps := 9999999) -implicitDefEqProofs only [go_sem, mwp_draw, c1]
    refine kE _ _ ?_
    clear kN kE kR
    simp (maxSteps := 9999999) -implicitDefEqProofs only [go_sem, mwp_draw]
    repeat (refine ⟨by first | omega | decide | exact fits64 (by omega) (by omega) | kernel_rfl | (intros; omega), ?_⟩)
    first | done | rfl
theorem RoundChainsS_is (t : Bool) (n : Int) (es : List E) (hl : es.length ≤ 1048576) : Is prog fid_spec_RoundChains [Gr t n es] (.ow true 1 (encI (rdL (chV n es) (chV n es).length))) := by
  refine MCall.run mixed get_spec_RoundChains ok_spec_RoundChains (Nat.le_of_ble_eq_true rfl) (by decide) ?_
  unfold mc_spec_RoundChains
  simp (maxSteps := 9999999) -implicitDefEqProofs only [go_sem, mwp_draw]
  refine callK_is (ChainsOfS_is _ n es hl) ?_
  have ln := chV_len (n := n) (es := es)
  have hF := fun c hc => (chV_form (n := n) (es := es) (c := c) hc).2.ge
  have rn := fun i c hc => rdL_next (L := chV n es) (i := i) (c := c) hc
  have rl := fun i => rdL_len (L := chV n es) (i := i)
  have r0 : rdL (chV n es) 0 = [] := rfl
  have hP := fun c hc => chV_chP (n := n) (es := es) (c := c) hc
  generalize rdL (chV n es) = R at *
  generalize chV n es = L at *
  simp (maxSteps := 9999999) -implicitDefEqProofs only [go_sem, mwp_draw]
  refine mwp_loopk (X := Nat) (fun i => ⟨[(3, .sr 0 0 (R i).length), (4, .sr 1 0 L.length), (5, .i .i64 i)], [(0, .arr true 1 (encI (R i))), (1, .arr true 1 (encN L))], 2⟩)
    (fun i => i ≤ L.length) (fun i => L.length - i) 0 (by rw [r0]; kernel_rfl) (Nat.zero_le _) ?_
  rintro i h1 K kN kE kR
  have l3 := rl i
  by_cases hi : i < L.length
  · obtain ⟨c, hc⟩ : ∃ c, L[i]? = some c := ⟨_, List.getElem?_eq_getElem hi⟩
    have gc := goneS hc
    have cg := hF c (List.mem_of_getElem? hc)
    have cp := (hP c (List.mem_of_getElem? hc)).1
    have c1 : ((i : Int) < L.length) = True := eq_true (by omega)
    have c2 : (i < L.length) = True := eq_true hi
    have g0 := goneS (show c[0]? = some (nth c 0) from nth_some (l := c) (x := 0) ⟨by omega, by omega⟩)
    have gl := goneS (show c[c.length - 1]? = some (nth c (c.length - 1 : Nat)) by have := nth_some (l := c) (x := ((c.length - 1 : Nat) : Int)) ⟨by omega, by omega⟩; simpa using this)
    have z1 : ((c.length : Int) - 1) = ((c.length - 1 : Nat) : Int) := by omega
    have d1 : (0 < c.length) = True := eq_true (by omega)
    have d2 : (((c.length - 1 : Nat) : Int) < (c.length : Int)) = True := eq_true (by omega)
    have d3 : (c.length - 1 < c.length) = True := eq_true (by omega)
    have d4 : ((0 : Int) < (c.length : Int)) = True := eq_true (by omega)
    have nx := rn i c hc
    unfold rdB at nx
    by_cases q : nth c 0 = nth c (c.length - 1 : Nat)
    · have e1 : (nth c 0 = nth c (c.length - 1 : Nat)) = True := eq_true q
      rw [if_pos (decide_eq_true q)] at nx
      simp (maxSteps := 9999999) -implicitDefEqProofs only [go_sem, mwp_draw, c1, c2, z1, d1, d2, d3, d4, e1, ↓gc, ↓g0, ↓gl]
      repeat (refine ⟨by first | omega | decide | exact fits64 (by omega) (by omega) | kernel_rfl | (intros; omega), ?_⟩)
      exact kN _ (i + 1) (by rw [nx, List.length_append]; kernel_rfl) (by omega) (by omega)
    · have e1 : (nth c 0 = nth c (c.length - 1 : Nat)) = False := eq_false q
      rw [if_neg (by simpa using q), List.append_nil] at nx
      simp (maxSteps := 9999999) -implicitDefEqProofs only [go_sem, mwp_draw, c1, c2, z1, d1, d2, d3, d4, e1, ↓gc, ↓g0, ↓gl]
      repeat (refine ⟨by first | omega | decide | exact fits64 (by omega) (by omega) | kernel_rfl | (intros; omega), ?_⟩)
      exact kN _ (i + 1) (by rw [nx]; kernel_rfl) (by omega) (by omega)
  · obtain rfl : i = L.length := by omega
    have c1 : ((L.length : Int) < L.length) = False := eq_false (by omega)
    simp (maxSteps := 9999999) -implicitDefEqProofs only [go_sem, mwp_draw, c1]
    refine kE _ _ ?_
    clear kN kE kR
    simp (maxSteps := 9999999) -implicitDefEqProofs only [go_sem, mwp_draw]
    repeat (refine ⟨by first | omega | decide | exact fits64 (by omega) (by omega) | kernel_rfl | (intros; omega), ?_⟩)
    first | done | rfl
end Go.Fw
