/-
  The law on chains: which one goes along an edge.
-/
import Derived.Test.YtedacikdbkpccaaCtDw
import Derived.Test.YtedacikdbkpccaaCtRow
import Derived.Test.YtedacikdbkpccaaKFnChainOf
namespace Go.Fw
set_option linter.unusedSimpArgs false
set_option linter.unusedVariables false
set_option maxRecDepth 100000
set_option maxHeartbeats 4000000
open Go.Proofs.Try (prog)
open Go.Pl

theorem brB_rch {n : Int} {es : List E} {e : E} (hv : GV n es) (he : e ∈ es) : brB n es e = true ↔ ¬ Rch (butE es e) e.1 e.2 := by
  have hE := hv.2.2.2.1
  have h' := hE e he
  unfold EIn at h'
  have hF : ∀ d ∈ butE es e, EIn n d := fun d hd => hE d (mem_but.1 hd).1
  have j := jn_iff hF (x := e.1) (y := e.2) ⟨by omega, by omega⟩ ⟨by omega, by omega⟩
  unfold brB
  have k : jn n (butE es e) e.1 e.2 = jn n (es.filter fun x => !decide (x = e)) e.1 e.2 := rfl
  rw [k] at j
  rw [← j]; simp
/-- How often the first chains go along an edge. -/
def tmN (L : List (List Int)) (e : E) (i : Nat) : Nat := ((L.take i).flatMap stE).count e
theorem tmN_next {L : List (List Int)} {e : E} {i : Nat} {c : List Int} (hc : L[i]? = some c) : tmN L e (i + 1) = tmN L e i + (stE c).count e := by
  unfold tmN
  rw [take_snoc hc, List.flatMap_append, List.count_append]; simp
theorem tmN_len {L : List (List Int)} {e : E} (hL : ∀ c ∈ L, c.length ≤ 17) : ∀ {i : Nat}, i ≤ L.length → tmN L e i ≤ 16 * i
  | 0, _ => by simp [tmN]
  | i + 1, hi => by
    obtain ⟨c, hc⟩ : ∃ c, L[i]? = some c := ⟨_, List.getElem?_eq_getElem (by omega)⟩
    have ih := tmN_len (e := e) hL (i := i) (by omega)
    have a := hL c (List.mem_of_getElem? hc)
    have b : (stE c).count e ≤ (stE c).length := List.count_le_length
    rw [stE_len] at b
    rw [tmN_next hc]; omega
theorem cnt_next {l : List E} {e d : E} {k : Nat} (hd : l[k]? = some d) : (l.take (k + 1)).count e = (l.take k).count e + if d = e then 1 else 0 := by
  rw [take_snoc hd, List.count_append, List.count_singleton]
  by_cases q : d = e <;> simp [q]
theorem chV_edge {n : Int} {es : List E} {e : E} (hg : gvB n es = true) (he : e ∈ es) :
    (brB n es e = true ∧ coB (chV n es) e = false ∧ tmN (chV n es) e (chV n es).length = 0) ∨ (brB n es e = false ∧ coB (chV n es) e = true ∧ tmN (chV n es) e (chV n es).length = 1) := by
  have hv := gvB_iff.1 hg
  have hn1 := hv.1
  have h := srch_nf hv.2.2.2.1 (by omega : 0 ≤ n)
  obtain ⟨c1, c2⟩ := h.count_edge hv.2.2.2.1 hv.2.2.2.2 he
  have ev : chV n es = chainsL n es (srch n es).1 := by unfold chV; rw [if_pos hg]
  rw [← ev] at c1 c2
  have tm : tmN (chV n es) e (chV n es).length = ((chV n es).flatMap stE).count e := by unfold tmN; rw [List.take_length]
  have cb : coB (chV n es) e = true ↔ e ∈ (chV n es).flatMap stE := by
    unfold coB onB
    rw [List.any_eq_true, List.mem_flatMap]
    simp only [decide_eq_true_eq]
  have bn := brB_rch hv he
  rw [tm]
  cases q : brB n es e with
  | true =>
    have z := c2 (bn.1 q)
    refine .inl ⟨rfl, ?_, z⟩
    have : ¬ coB (chV n es) e = true := fun k => List.count_eq_zero.1 z (cb.1 k)
    simpa using this
  | false =>
    have z := c1 (Classical.byContradiction fun k => by rw [bn.2 k] at q; cases q)
    exact .inr ⟨rfl, cb.2 (List.count_pos_iff.1 (by omega)), z⟩
theorem coB_no {n : Int} {es : List E} {e : E} (hh : (gvB n es && decide (e ∈ es)) = false) : coB (chV n es) e = false ∧ coI (chV n es) e = 0 := by
  refine co_no fun j c _ hc => ?_
  obtain ⟨hv, f⟩ := chV_form (List.mem_of_getElem? hc)
  unfold onB
  refine decide_eq_false fun m => ?_
  rw [gvB_iff.2 hv, decide_eq_true (f.edg e m)] at hh; simp at hh
theorem FnChainOf_is (t : Bool) (b : List Int) (hb : Byt b) : Is prog fid_laws_FnChainOf [.s t 1 (encB b)] (.b true) := by
  refine MCall.run mixed get_laws_FnChainOf ok_laws_FnChainOf (Nat.le_of_ble_eq_true rfl) (by decide) ?_
  unfold mc_laws_FnChainOf
  by_cases hl : 1048576 < b.length
  · have c0 : ((1048576 : Int) < b.length) = True := eq_true (by omega)
    simp (maxSteps := 9999999) -implicitDefEqProofs only [go_sem, mwp_draw, c0]
  have c0 : ((1048576 : Int) < b.length) = False := eq_false (by omega)
  simp (maxSteps := 9999999) -implicitDefEqProofs only [go_sem, mwp_draw, c0]
  refine callK_any (DrawChainOf_is _ b hb) ?_
  rintro o r ⟨rfl, n, es, e, rfl, w1, w2, w3⟩
  simp (maxSteps := 9999999) -implicitDefEqProofs only [go_sem, mwp_draw]
  have hO := fun u => ChainOf_is u n es e (by omega)
  have hO' := fun u => ChainOfS_is u n es e (by omega)
  have hH := fun u => HasEdge_is u n es e (by omega)
  have ln := chV_len (n := n) (es := es)
  cases hh : gvB n es && decide (e ∈ es) with
  | false =>
    obtain ⟨a1, a2⟩ := coB_no hh
    rw [a1, a2] at hO hO'
    rw [hh] at hH
    refine callK_is (hO _) ?_
    simp (maxSteps := 9999999) -implicitDefEqProofs only [go_sem, mwp_draw]
    refine callK_is (hO' _) ?_
    simp (maxSteps := 9999999) -implicitDefEqProofs only [go_sem, mwp_draw, beq_true, beq_false]
    refine callK_is (hH _) ?_
    simp (maxSteps := 9999999) -implicitDefEqProofs only [go_sem, mwp_draw, beq_true, beq_false]
  | true =>
    have h' : gvB n es = true ∧ e ∈ es := by simpa using hh
    have hI := fun u => IsBridge_is u n es e (by omega)
    rw [hh] at hH hI
    have hC := fun u => ChainsOf_is u n es (by omega)
    have hP := fun c hc => (chV_chP (n := n) (es := es) (c := c) hc).1
    have hR := fun c hc => chV_chR (n := n) (es := es) (c := c) hc
    have tn := fun i c hc => tmN_next (L := chV n es) (e := e) (i := i) (c := c) hc
    have tl := fun i hi => tmN_len (L := chV n es) (e := e) hP (i := i) hi
    have t0 : tmN (chV n es) e 0 = 0 := by simp [tmN]
    have ce := chV_edge h'.1 h'.2
    generalize tmN (chV n es) e = tm at *
    generalize chV n es = L at *
    rcases ce with ⟨br, cb, tz⟩ | ⟨br, cb, tz⟩
    · have hbr := br
      have ht := tz
      have hO1 := hO
      rw [cb] at hO hO'
      clear hO1
      refine callK_is (hO _) ?_
      generalize coI L e = ci at *
      simp (maxSteps := 9999999) -implicitDefEqProofs only [go_sem, mwp_draw]
      refine callK_is (hO' _) ?_
      simp (maxSteps := 9999999) -implicitDefEqProofs only [go_sem, mwp_draw, beq_true, beq_false]
      refine callK_is (hH _) ?_
      simp (maxSteps := 9999999) -implicitDefEqProofs only [go_sem, mwp_draw, beq_true, beq_false]
      refine callK_is (hC _) ?_
      simp (maxSteps := 9999999) -implicitDefEqProofs only [go_sem, mwp_draw]
      refine mwp_loopk (X := Nat) (fun i => ⟨[(3, .pr 0 0 0), (4, .pr 1 0 0), (6, .b false), (9, .sr 2 0 L.length), (10, .i .i64 (tm i : Nat)), (11, .i .i64 i)], [(0, .box [.i .i64 n, .sr 3 0 es.length]), (1, .box [.i .i64 e.1, .i .i64 e.2]), (2, .arr true 1 (encN L)), (3, .arr true 2 (encE es))], 4⟩)
        (fun i => i ≤ L.length) (fun i => L.length - i) 0 (by rw [t0]; kernel_rfl) (Nat.zero_le _) ?_
      rintro i g1 K kN kE kR
      have tb := tl i g1
      by_cases hi : i < L.length
      · obtain ⟨c, hc⟩ : ∃ c, L[i]? = some c := ⟨_, List.getElem?_eq_getElem hi⟩
        have gc := goneS hc
        have cl := hP c (List.mem_of_getElem? hc)
        have cr := hR c (List.mem_of_getElem? hc)
        have tx := tn i c hc
        have c1 : ((i : Int) < L.length) = True := eq_true (by omega)
        have c2 : (i < L.length) = True := eq_true hi
        simp (maxSteps := 9999999) -implicitDefEqProofs only [go_sem, mwp_draw, c1, c2, ↓gc]
        repeat (refine ⟨by first | omega | decide | exact fits64 (by omega) (by omega) | kernel_rfl | (intros; omega), ?_⟩)
        refine callK_is (ChainEdges_is _ c (by omega)) ?_
        rw [cr.1, cr.2]
        have sl := stE_len c
        have sn := fun k d hd => cnt_next (l := stE c) (e := e) (k := k) (d := d) hd
        have sb := fun k => (List.count_le_length (a := e) (l := (stE c).take k))
        have tx' : tm (i + 1) = tm i + ((stE c).take (stE c).length).count e := by rw [List.take_length]; exact tx
        clear tx
        generalize stE c = se at *
        simp (maxSteps := 9999999) -implicitDefEqProofs only [go_sem, mwp_draw]
        refine mwp_loopk (X := Nat) (fun k => ⟨[(3, .pr 0 0 0), (4, .pr 1 0 0), (6, .b false), (9, .sr 2 0 L.length), (10, .i .i64 (tm i + (se.take k).count e : Nat)), (11, .i .i64 i), (12, .sr 3 0 se.length), (14, .i .i64 k)], [(0, .box [.i .i64 n, .sr 4 0 es.length]), (1, .box [.i .i64 e.1, .i .i64 e.2]), (2, .arr true 1 (encN L)), (3, .arr true 2 (encE se)), (4, .arr true 2 (encE es))], 5⟩)
          (fun k => k ≤ se.length) (fun k => se.length - k) 0 (by kernel_rfl) (Nat.zero_le _) ?_
        rintro k k1 K' kN' kE' kR'
        have sb' := sb k
        rw [List.length_take] at sb'
        by_cases hk : k < se.length
        · obtain ⟨d, hd⟩ : ∃ d, se[k]? = some d := ⟨_, List.getElem?_eq_getElem hk⟩
          have gd := goneS hd
          have sx := sn k d hd
          have d1 : ((k : Int) < se.length) = True := eq_true (by omega)
          have d2 : (k < se.length) = True := eq_true hk
          by_cases q1 : d.1 = e.1
          · by_cases q2 : d.2 = e.2
            · have q : d = e := Prod.ext q1 q2
              rw [if_pos q] at sx
              have e1 := eq_true q1
              have e2 := eq_true q2
              simp (maxSteps := 9999999) -implicitDefEqProofs only [go_sem, mwp_draw, d1, d2, e1, e2, ↓gd]
              repeat (refine ⟨by first | omega | decide | exact fits64 (by omega) (by omega) | kernel_rfl | (intros; omega), ?_⟩)
              exact kN' _ (k + 1) (by rw [sx]; kernel_rfl) (by omega) (by omega)
            · have q : ¬ d = e := fun h => q2 (by rw [h])
              rw [if_neg q] at sx
              have e1 := eq_true q1
              have e2 := eq_false q2
              simp (maxSteps := 9999999) -implicitDefEqProofs only [go_sem, mwp_draw, d1, d2, e1, e2, ↓gd]
              repeat (refine ⟨by first | omega | decide | exact fits64 (by omega) (by omega) | kernel_rfl | (intros; omega), ?_⟩)
              exact kN' _ (k + 1) (by rw [sx]; kernel_rfl) (by omega) (by omega)
          · have q : ¬ d = e := fun h => q1 (by rw [h])
            rw [if_neg q] at sx
            have e1 := eq_false q1
            simp (maxSteps := 9999999) -implicitDefEqProofs only [go_sem, mwp_draw, d1, d2, e1, ↓gd]
            repeat (refine ⟨by first | omega | decide | exact fits64 (by omega) (by omega) | kernel_rfl | (intros; omega), ?_⟩)
            exact kN' _ (k + 1) (by rw [sx]; kernel_rfl) (by omega) (by omega)
        · obtain rfl : k = se.length := by omega
          have d1 : ((se.length : Int) < se.length) = False := eq_false (by omega)
          rw [← tx']
          simp (maxSteps := 9999999) -implicitDefEqProofs only [go_sem, mwp_draw, d1]
          refine kE' _ _ ?_
          clear kN' kE' kR'
          simp (maxSteps := 9999999) -implicitDefEqProofs only [go_sem, mwp_draw]
          repeat (refine ⟨by first | omega | decide | exact fits64 (by omega) (by omega) | kernel_rfl | (intros; omega), ?_⟩)
          exact kN _ (i + 1) (by kernel_rfl) (by omega) (by omega)
      · obtain rfl : i = L.length := by omega
        have c1 : ((L.length : Int) < L.length) = False := eq_false (by omega)
        simp (maxSteps := 9999999) -implicitDefEqProofs only [go_sem, mwp_draw, c1]
        refine kE _ _ ?_
        clear kN kE kR
        rw [ht]
        simp (maxSteps := 9999999) -implicitDefEqProofs only [go_sem, mwp_draw]
        refine callK_is (hI _) ?_
        rw [hbr]
        simp (maxSteps := 9999999) -implicitDefEqProofs only [go_sem, mwp_draw, beq_true, beq_false]
        repeat (refine ⟨by first | omega | decide | exact fits64 (by omega) (by omega) | kernel_rfl | (intros; omega), ?_⟩)
        first | done | rfl
    · have hbr := br
      have ht := tz
      have hO1 := hO
      rw [cb] at hO hO'
      clear hO1
      refine callK_is (hO _) ?_
      generalize coI L e = ci at *
      simp (maxSteps := 9999999) -implicitDefEqProofs only [go_sem, mwp_draw]
      refine callK_is (hO' _) ?_
      simp (maxSteps := 9999999) -implicitDefEqProofs only [go_sem, mwp_draw, beq_true, beq_false]
      refine callK_is (hH _) ?_
      simp (maxSteps := 9999999) -implicitDefEqProofs only [go_sem, mwp_draw, beq_true, beq_false]
      refine callK_is (hC _) ?_
      simp (maxSteps := 9999999) -implicitDefEqProofs only [go_sem, mwp_draw]
      refine mwp_loopk (X := Nat) (fun i => ⟨[(3, .pr 0 0 0), (4, .pr 1 0 0), (6, .b true), (9, .sr 2 0 L.length), (10, .i .i64 (tm i : Nat)), (11, .i .i64 i)], [(0, .box [.i .i64 n, .sr 3 0 es.length]), (1, .box [.i .i64 e.1, .i .i64 e.2]), (2, .arr true 1 (encN L)), (3, .arr true 2 (encE es))], 4⟩)
        (fun i => i ≤ L.length) (fun i => L.length - i) 0 (by rw [t0]; kernel_rfl) (Nat.zero_le _) ?_
      rintro i g1 K kN kE kR
      have tb := tl i g1
      by_cases hi : i < L.length
      · obtain ⟨c, hc⟩ : ∃ c, L[i]? = some c := ⟨_, List.getElem?_eq_getElem hi⟩
        have gc := goneS hc
        have cl := hP c (List.mem_of_getElem? hc)
        have cr := hR c (List.mem_of_getElem? hc)
        have tx := tn i c hc
        have c1 : ((i : Int) < L.length) = True := eq_true (by omega)
        have c2 : (i < L.length) = True := eq_true hi
        simp (maxSteps := 9999999) -implicitDefEqProofs only [go_sem, mwp_draw, c1, c2, ↓gc]
        repeat (refine ⟨by first | omega | decide | exact fits64 (by omega) (by omega) | kernel_rfl | (intros; omega), ?_⟩)
        refine callK_is (ChainEdges_is _ c (by omega)) ?_
        rw [cr.1, cr.2]
        have sl := stE_len c
        have sn := fun k d hd => cnt_next (l := stE c) (e := e) (k := k) (d := d) hd
        have sb := fun k => (List.count_le_length (a := e) (l := (stE c).take k))
        have tx' : tm (i + 1) = tm i + ((stE c).take (stE c).length).count e := by rw [List.take_length]; exact tx
        clear tx
        generalize stE c = se at *
        simp (maxSteps := 9999999) -implicitDefEqProofs only [go_sem, mwp_draw]
        refine mwp_loopk (X := Nat) (fun k => ⟨[(3, .pr 0 0 0), (4, .pr 1 0 0), (6, .b true), (9, .sr 2 0 L.length), (10, .i .i64 (tm i + (se.take k).count e : Nat)), (11, .i .i64 i), (12, .sr 3 0 se.length), (14, .i .i64 k)], [(0, .box [.i .i64 n, .sr 4 0 es.length]), (1, .box [.i .i64 e.1, .i .i64 e.2]), (2, .arr true 1 (encN L)), (3, .arr true 2 (encE se)), (4, .arr true 2 (encE es))], 5⟩)
          (fun k => k ≤ se.length) (fun k => se.length - k) 0 (by kernel_rfl) (Nat.zero_le _) ?_
        rintro k k1 K' kN' kE' kR'
        have sb' := sb k
        rw [List.length_take] at sb'
        by_cases hk : k < se.length
        · obtain ⟨d, hd⟩ : ∃ d, se[k]? = some d := ⟨_, List.getElem?_eq_getElem hk⟩
          have gd := goneS hd
          have sx := sn k d hd
          have d1 : ((k : Int) < se.length) = True := eq_true (by omega)
          have d2 : (k < se.length) = True := eq_true hk
          by_cases q1 : d.1 = e.1
          · by_cases q2 : d.2 = e.2
            · have q : d = e := Prod.ext q1 q2
              rw [if_pos q] at sx
              have e1 := eq_true q1
              have e2 := eq_true q2
              simp (maxSteps := 9999999) -implicitDefEqProofs only [go_sem, mwp_draw, d1, d2, e1, e2, ↓gd]
              repeat (refine ⟨by first | omega | decide | exact fits64 (by omega) (by omega) | kernel_rfl | (intros; omega), ?_⟩)
              exact kN' _ (k + 1) (by rw [sx]; kernel_rfl) (by omega) (by omega)
            · have q : ¬ d = e := fun h => q2 (by rw [h])
              rw [if_neg q] at sx
              have e1 := eq_true q1
              have e2 := eq_false q2
              simp (maxSteps := 9999999) -implicitDefEqProofs only [go_sem, mwp_draw, d1, d2, e1, e2, ↓gd]
              repeat (refine ⟨by first | omega | decide | exact fits64 (by omega) (by omega) | kernel_rfl | (intros; omega), ?_⟩)
              exact kN' _ (k + 1) (by rw [sx]; kernel_rfl) (by omega) (by omega)
          · have q : ¬ d = e := fun h => q1 (by rw [h])
            rw [if_neg q] at sx
            have e1 := eq_false q1
            simp (maxSteps := 9999999) -implicitDefEqProofs only [go_sem, mwp_draw, d1, d2, e1, ↓gd]
            repeat (refine ⟨by first | omega | decide | exact fits64 (by omega) (by omega) | kernel_rfl | (intros; omega), ?_⟩)
            exact kN' _ (k + 1) (by rw [sx]; kernel_rfl) (by omega) (by omega)
        · obtain rfl : k = se.length := by omega
          have d1 : ((se.length : Int) < se.length) = False := eq_false (by omega)
          rw [← tx']
          simp (maxSteps := 9999999) -implicitDefEqProofs only [go_sem, mwp_draw, d1]
          refine kE' _ _ ?_
          clear kN' kE' kR'
          simp (maxSteps := 9999999) -implicitDefEqProofs only [go_sem, mwp_draw]
          repeat (refine ⟨by first | omega | decide | exact fits64 (by omega) (by omega) | kernel_rfl | (intros; omega), ?_⟩)
          exact kN _ (i + 1) (by kernel_rfl) (by omega) (by omega)
      · obtain rfl : i = L.length := by omega
        have c1 : ((L.length : Int) < L.length) = False := eq_false (by omega)
        simp (maxSteps := 9999999) -implicitDefEqProofs only [go_sem, mwp_draw, c1]
        refine kE _ _ ?_
        clear kN kE kR
        rw [ht]
        simp (maxSteps := 9999999) -implicitDefEqProofs only [go_sem, mwp_draw]
        refine callK_is (hI _) ?_
        rw [hbr]
        simp (maxSteps := 9999999) -implicitDefEqProofs only [go_sem, mwp_draw, beq_true, beq_false]
        repeat (refine ⟨by first | omega | decide | exact fits64 (by omega) (by omega) | kernel_rfl | (intros; omega), ?_⟩)
        first | done | rfl
theorem FnChainOf_row (m : List (List D)) (h : ∀ r ∈ m, rowOK [.i .u8] r) (_ : m.length ≤ maxLen) : Is prog fid_laws_FnChainOf [.s false 1 m] (.b true) := by
  obtain ⟨b, rfl, hb⟩ := rows_bytes h
  exact FnChainOf_is _ b hb
end Go.Fw
