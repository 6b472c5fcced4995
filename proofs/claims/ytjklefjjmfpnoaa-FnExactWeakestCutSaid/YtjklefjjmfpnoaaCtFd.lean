/-
  The reference's search by levels, and its greatest flows.
-/
import Derived.Test.YtjklefjjmfpnoaaCtFa
import Derived.Test.YtjklefjjmfpnoaaCtNb
namespace Go.Fw
set_option linter.unusedSimpArgs false
set_option linter.unusedVariables false
set_option maxRecDepth 100000
set_option maxHeartbeats 4000000
open Go.Proofs.Try (prog)
open Go.Pl

theorem l10Reach_is (t t1 t2 : Bool) (n : Int) (es : List E) (ps : List (Int × Int)) (x : Int) (hv : GV n es) (x0 : 0 ≤ x) (x1 : x < n) (hl : ps.length ≤ 10000) :
    MCall prog fid_spec_l10Reach [Gr t n es, .agg [.s t1 1 (encI (ps.map Prod.fst)), .s t2 1 (encI (ps.map Prod.snd))], .i .i64 x] (fun o r => o = [.u, .u, .u] ∧ ∃ od fr, r = .ow true 1 (encI fr) ∧ BF n es (un ps) x od fr od.length) := by
  have n0 := hv.1
  have n16 := hv.2.1
  have hE := hv.2.2.2.1
  refine MCall.run mixed get_spec_l10Reach ok_spec_l10Reach (Nat.le_of_ble_eq_true rfl) (by decide) ?_
  unfold mc_spec_l10Reach
  have hH := fun t t' a b => l10Has_is t t' ps a b (by omega)
  generalize hF : ps.map Prod.fst = F at *
  generalize hT : ps.map Prod.snd = T at *
  generalize un ps = u at *
  simp (maxSteps := 9999999) -implicitDefEqProofs only [go_sem, mwp_draw]
  refine mwp_loopk (X := Nat) (fun i => ⟨[(2, .i .i64 x), (3, .pr 0 0 0), (4, .pr 1 0 0), (7, .sr 2 0 i), (8, .i .i64 i)], [(0, .box [.i .i64 n, .s t 2 (encE es)]), (1, .box [.s t1 1 (encI F), .s t2 1 (encI T)]), (2, .arr true 1 (encI (List.replicate i (-1))))], 3⟩)
    (fun i => i ≤ n.toNat) (fun i => n.toNat - i) 0 (by kernel_rfl) (Nat.zero_le _) ?_
  rintro i h1 K kN kE kR
  have lr : (List.replicate i (-1 : Int)).length = i := List.length_replicate
  by_cases hi : i < n.toNat
  · have c1 : ((i : Int) < n) = True := eq_true (by omega)
    have t1 : (List.replicate i (-1 : Int)).take i = List.replicate i (-1) := List.take_of_length_le (by omega)
    have ap : List.replicate i (-1 : Int) ++ [-1] = List.replicate (i + 1) (-1) := by rw [List.replicate_succ']
    simp (maxSteps := 9999999) -implicitDefEqProofs only [go_sem, mwp_draw, c1, lr, t1, ap]
    repeat (refine ⟨by first | omega | decide | exact fits64 (by omega) (by omega) | kernel_rfl | (intros; omega), ?_⟩)
    exact kN _ (i + 1) (by kernel_rfl) (by omega) (by omega)
  · obtain rfl : i = n.toNat := by omega
    have c1 : ((n.toNat : Int) < n) = False := eq_false (by omega)
    simp (maxSteps := 9999999) -implicitDefEqProofs only [go_sem, mwp_draw, c1]
    refine kE _ _ ?_
    clear kN kE kR
    have a1 : (0 ≤ x) = True := eq_true x0
    have a2 : (x < (n.toNat : Int)) = True := eq_true (by omega)
    have a3 : (x.toNat < n.toNat) = True := eq_true (by omega)
    have a4 := goneR (show (List.replicate n.toNat (-1 : Int))[x.toNat]? = some (-1) by rw [List.getElem?_replicate, if_pos (by omega)])
    simp (maxSteps := 9999999) -implicitDefEqProofs only [go_sem, mwp_draw, lr, a1, a2, a3, ↓a4]
    repeat (refine ⟨by first | omega | decide | exact fits64 (by omega) (by omega) | kernel_rfl | (intros; omega), ?_⟩)
    refine mwp_loopk (X := List Int × List Int × Nat × List Int × Nat × Nat) (fun z => ⟨[(3, .pr 0 0 0), (4, .pr 1 0 0), (7, .sr 2 0 n.toNat), (9, .sr 3 z.2.2.2.2.1 z.2.2.2.2.2)],
        [(0, .box [.i .i64 n, .s t 2 (encE es)]), (1, .box [.s t1 1 (encI F), .s t2 1 (encI T)]), (2, .arr true 1 (encI z.2.1)), (3, .arr true 1 (encI z.2.2.2.1))], 4⟩)
      (fun z => BF n es u x z.1 z.2.1 z.2.2.1 ∧ z.2.2.2.1.drop z.2.2.2.2.1 = z.1.drop z.2.2.1 ∧ z.2.2.2.2.1 + z.2.2.2.2.2 = z.2.2.2.1.length ∧ z.2.2.2.1.length ≤ 16) (fun z => n.toNat - z.2.2.1) ([x], (List.replicate n.toNat (-1)).set x.toNat x, 0, [x], 0, 1) (by kernel_rfl) ⟨BF.init x0 x1, rfl, rfl, by simp⟩ ?_
    rintro ⟨od, fr, i, Q, off, len⟩ ⟨h, hQ, hQl, hQ16⟩ K kN kE kR
    simp only at h hQ hQl hQ16 ⊢
    have ol := h.od_len
    have il := h.il
    have fl := h.len
    have hql : len = od.length - i := by
      have := congrArg List.length hQ
      rw [List.length_drop, List.length_drop] at this; omega
    by_cases hi : i < od.length
    · obtain ⟨v, hvv⟩ : ∃ v, od[i]? = some v := ⟨_, List.getElem?_eq_getElem hi⟩
      have hqv : Q[off]? = some v := by
        have : (Q.drop off)[0]? = (od.drop i)[0]? := by rw [hQ]
        rw [List.getElem?_drop, List.getElem?_drop, Nat.add_zero, Nat.add_zero] at this
        rw [this]; exact hvv
      have gv := goneR hqv
      have c1 : ((0 : Int) < len) = True := eq_true (by omega)
      have c2 : (off < Q.length) = True := eq_true (by omega)
      have c3 : ((1 : Int) ≤ len) = True := eq_true (by omega)
      have z0 : Int.toNat 0 = 0 := rfl
      have z1 : Int.toNat 1 = 1 := rfl
      simp (maxSteps := 9999999) -implicitDefEqProofs only [go_sem, mwp_draw, c1, c2, c3, z0, z1, ↓gv]
      repeat (refine ⟨by first | omega | decide | exact fits64 (by omega) (by omega) | kernel_rfl | (intros; omega), ?_⟩)
      refine callK_is (l1Next_is _ n es v hv) ?_
      have nl := nbr_len hv v
      have nm := fun q => mem_nbr hE (x := v) (y := q)
      have nr := fun q (hq : Adj es v q) => nbr_rng hE hq
      generalize nbr es v = nb at *
      simp (maxSteps := 9999999) -implicitDefEqProofs only [go_sem, mwp_draw]
      repeat (refine ⟨by first | omega | decide | exact fits64 (by omega) (by omega) | kernel_rfl | (intros; omega), ?_⟩)
      have hQ1 : Q.drop (off + 1) = od.drop (i + 1) := by rw [← List.drop_drop, hQ, List.drop_drop]
      refine mwp_loopk (X := List Int × List Int × Nat × List Int × Nat × Nat) (fun z => ⟨[(3, .pr 0 0 0), (4, .pr 1 0 0), (7, .sr 2 0 n.toNat), (9, .sr 3 z.2.2.2.2.1 z.2.2.2.2.2), (10, .i .i64 v), (11, .sr 4 0 nb.length), (12, .i .i64 z.2.2.1)],
          [(0, .box [.i .i64 n, .s t 2 (encE es)]), (1, .box [.s t1 1 (encI F), .s t2 1 (encI T)]), (2, .arr true 1 (encI z.2.1)), (3, .arr true 1 (encI z.2.2.2.1)), (4, .arr true 1 (encI nb))], 5⟩)
        (fun z => (z.2.2.1 ≤ nb.length ∧ BF n es u x z.1 z.2.1 i ∧ z.1[i]? = some v ∧ ∀ q ∈ nb.take z.2.2.1, u v q = false → 0 ≤ nth z.2.1 q) ∧ z.2.2.2.1.drop z.2.2.2.2.1 = z.1.drop (i + 1) ∧ z.2.2.2.2.1 + z.2.2.2.2.2 = z.2.2.2.1.length ∧ z.2.2.2.1.length ≤ 16) (fun z => nb.length - z.2.2.1)
        (od, fr, 0, Q, off + 1, len - 1) (by kernel_rfl) ⟨⟨Nat.zero_le _, h, hvv, by simp⟩, hQ1, by simp only; omega, hQ16⟩ ?_
      clear h il fl ol hvv gv c1 c2 c3 hi hQ hQ1 hQl hQ16 hql hqv
      rintro ⟨od, fr, j, Q, off, len⟩ ⟨⟨j1, h, hvv, hq⟩, hQ, hQl, hQ16⟩ K' kN' kE' kR'
      simp only at j1 h hvv hq hQ hQl hQ16 ⊢
      have ol := h.od_len
      have il := h.il
      have fl := h.len
      have hi := (List.getElem?_eq_some_iff.1 hvv).1
      have rv := h.rng v (List.mem_of_getElem? hvv)
      have hql : len = od.length - (i + 1) := by
        have := congrArg List.length hQ
        rw [List.length_drop, List.length_drop] at this; omega
      by_cases hj : j < nb.length
      · obtain ⟨q, hqq⟩ : ∃ q, nb[j]? = some q := ⟨_, List.getElem?_eq_getElem hj⟩
        have ha := (nm q).1 (List.mem_of_getElem? hqq)
        have rq := nr q ha
        have gq := goneR hqq
        have gf := goneR (nth_some (l := fr) (x := q) ⟨rq.2.2.1, by omega⟩)
        have tk : nb.take (j + 1) = nb.take j ++ [q] := by rw [List.take_add_one, hqq]; rfl
        have d1 : ((j : Int) < nb.length) = True := eq_true (by omega)
        have d2 : (j < nb.length) = True := eq_true hj
        have d3 : (0 ≤ (j : Int)) = True := eq_true (by omega)
        have d4 : (0 ≤ q) = True := eq_true rq.2.2.1
        have d5 : (q < (n.toNat : Int)) = True := eq_true (by omega)
        have d6 : (q.toNat < n.toNat) = True := eq_true (by omega)
        by_cases hf : nth fr q < 0
        · have e1 := eq_true hf
          simp (maxSteps := 9999999) -implicitDefEqProofs only [go_sem, mwp_draw, fl, d1, d2, d3, d4, d5, d6, e1, ↓gq, ↓gf]
          repeat (refine ⟨by first | omega | decide | exact fits64 (by omega) (by omega) | kernel_rfl | (intros; omega), ?_⟩)
          refine callK_is (hH _ _ v q) ?_
          by_cases hu : u v q = true
          · rw [hu]
            simp (maxSteps := 9999999) -implicitDefEqProofs only [go_sem, mwp_draw, fl, d1, d2, d3, d4, d5, d6, e1, ↓gq, ↓gf]
            repeat (refine ⟨by first | omega | decide | exact fits64 (by omega) (by omega) | kernel_rfl | (intros; omega), ?_⟩)
            refine kN' _ (od, fr, j + 1, Q, off, len) (by kernel_rfl) ⟨⟨by simp only; omega, h, hvv, ?_⟩, hQ, hQl, hQ16⟩ (by simp only; omega)
            intro p hp hup
            rw [tk] at hp
            rcases List.mem_append.1 hp with hp | hp
            · exact hq p hp hup
            · simp at hp; subst hp; rw [hu] at hup; cases hup
          · have hu : u v q = false := by simpa using hu
            rw [hu]
            have tq : (Q.drop off).take len = Q.drop off := List.take_of_length_le (by rw [List.length_drop]; omega)
            have lq : (Q.drop off).length = len := by rw [List.length_drop]; omega
            have h' := h.add hvv rq.2.2.1 rq.2.2.2.1 ha hu hf
            have ol' := h'.od_len
            rw [List.length_append, List.length_singleton] at ol'
            have e2 : (off + len ≤ Q.length) = True := eq_true (by omega)
            simp (maxSteps := 9999999) -implicitDefEqProofs only [go_sem, mwp_draw, fl, d1, d2, d3, d4, d5, d6, e1, e2, tq, lq, ↓gq, ↓gf]
            repeat (refine ⟨by first | omega | decide | exact fits64 (by omega) (by omega) | kernel_rfl | (intros; omega), ?_⟩)
            refine kN' _ (od ++ [q], fr.set q.toNat v, j + 1, Q.drop off ++ [q], 0, len + 1) (by kernel_rfl) ⟨⟨by simp only; omega, h', by rw [List.getElem?_append_left hi]; exact hvv, ?_⟩, ?_, ?_, ?_⟩ (by simp only; omega)
            · intro p hp hup
              rw [tk] at hp
              have r0 : 0 ≤ p := (nr p ((nm p).1 (by
                rcases List.mem_append.1 hp with hp | hp
                · exact List.mem_of_mem_take hp
                · simp at hp; subst hp; exact List.mem_of_getElem? hqq))).2.2.1
              show 0 ≤ nth (fr.set q.toNat v) p
              rw [nth_set rq.2.2.1 r0 (by omega)]
              by_cases e : p = q
              · rw [if_pos e]; exact rv.1
              · rw [if_neg e]
                rcases List.mem_append.1 hp with hp | hp
                · exact hq p hp hup
                · simp at hp; exact absurd hp e
            · show (Q.drop off ++ [q]).drop 0 = (od ++ [q]).drop (i + 1)
              rw [List.drop_zero, hQ, List.drop_append_of_le_length (by omega)]
            · show 0 + (len + 1) = (Q.drop off ++ [q]).length
              rw [List.length_append, lq]; simp
            · show (Q.drop off ++ [q]).length ≤ 16
              rw [List.length_append, lq]; simp only [List.length_singleton]; omega
        · have e1 := eq_false hf
          simp (maxSteps := 9999999) -implicitDefEqProofs only [go_sem, mwp_draw, fl, d1, d2, d3, d4, d5, d6, e1, ↓gq, ↓gf]
          repeat (refine ⟨by first | omega | decide | exact fits64 (by omega) (by omega) | kernel_rfl | (intros; omega), ?_⟩)
          refine kN' _ (od, fr, j + 1, Q, off, len) (by kernel_rfl) ⟨⟨by simp only; omega, h, hvv, ?_⟩, hQ, hQl, hQ16⟩ (by simp only; omega)
          intro p hp hup
          rw [tk] at hp
          rcases List.mem_append.1 hp with hp | hp
          · exact hq p hp hup
          · simp at hp; subst hp; show 0 ≤ nth fr p; omega
      · obtain rfl : j = nb.length := by omega
        have d1 : ((nb.length : Int) < nb.length) = False := eq_false (by omega)
        rw [List.take_length] at hq
        simp (maxSteps := 9999999) -implicitDefEqProofs only [go_sem, mwp_draw, d1]
        refine kE' _ _ ?_
        clear kN' kE' kR'
        simp (maxSteps := 9999999) -implicitDefEqProofs only [go_sem, mwp_draw]
        repeat (refine ⟨by first | omega | decide | exact fits64 (by omega) (by omega) | kernel_rfl | (intros; omega), ?_⟩)
        exact kN _ (od, fr, i + 1, Q, off, len) (by kernel_rfl) ⟨h.next hvv fun q ha hu => hq q ((nm q).2 ha) hu, hQ, hQl, hQ16⟩ (by simp only; omega)
    · obtain rfl : i = od.length := by omega
      have c1 : ((0 : Int) < len) = False := eq_false (by omega)
      simp (maxSteps := 9999999) -implicitDefEqProofs only [go_sem, mwp_draw, c1]
      refine kE _ _ ?_
      clear kN kE kR
      have t2 : fr.take n.toNat = fr := List.take_of_length_le (by omega)
      simp (maxSteps := 9999999) -implicitDefEqProofs only [go_sem, mwp_draw, fl, t2]
      first | exact ⟨od, fr, rfl, h⟩ | exact ⟨Nat.le_refl _, od, fr, rfl, h⟩ | exact ⟨Nat.le_refl _, Nat.le_refl _, od, fr, rfl, h⟩
end Go.Fw
