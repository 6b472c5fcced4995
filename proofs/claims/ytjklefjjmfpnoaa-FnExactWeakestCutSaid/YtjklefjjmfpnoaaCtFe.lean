/-
  The reference's greatest flows, and its weakest cut.
-/
import Derived.Test.YtjklefjjmfpnoaaCtFd
namespace Go.Fw
set_option linter.unusedSimpArgs false
set_option linter.unusedVariables false
set_option maxRecDepth 100000
set_option maxHeartbeats 4000000
open Go.Proofs.Try (prog)
open Go.Pl

theorem l10Run_is (t : Bool) (n : Int) (es : List E) (x y : Int) (hv : GV n es) (x0 : 0 ≤ x) (x1 : x < n) (y0 : 0 ≤ y) (y1 : y < n) (hne : x ≠ y) :
    MCall prog fid_spec_l10Run [Gr t n es, .i .i64 x, .i .i64 y] (fun o r => o = [.u, .u, .u] ∧ ∃ (ps : List (Int × Int)) (c : Nat), r = .tup [.agg [.ow true 1 (encI (ps.map Prod.fst)), .ow true 1 (encI (ps.map Prod.snd))], .i .i64 c] ∧ IsMin es x y c) := by
  have n0 := hv.1
  have n16 := hv.2.1
  have el := hv.2.2.1
  have hE := hv.2.2.2.1
  have hs := gv_simp hv
  refine MCall.run mixed get_spec_l10Run ok_spec_l10Run (Nat.le_of_ble_eq_true rfl) (by decide) ?_
  unfold mc_spec_l10Run
  simp (maxSteps := 9999999) -implicitDefEqProofs only [go_sem, mwp_draw]
  refine mwp_loopk (X := Bool × List (Int × Int) × Nat) (fun z => ⟨[(1, .i .i64 x), (2, .i .i64 y), (3, .pr 0 0 0), (6, .pr 1 0 0), (8, .pr 2 0 0), (9, .i .i64 z.2.2)],
      match z.1 with
      | false => [(0, .box [.i .i64 n, .s t 2 (encE es)]), (1, .box [.nl 1, .nl 1]), (2, .box [.nl 1, .nl 1])]
      | true => [(0, .box [.i .i64 n, .s t 2 (encE es)]), (1, .box [.nl 1, .nl 1]), (2, .box [.sr 3 0 z.2.1.length, .sr 4 0 z.2.1.length]), (3, .arr true 1 (encI (z.2.1.map Prod.fst))), (4, .arr true 1 (encI (z.2.1.map Prod.snd)))],
      match z.1 with | false => 3 | true => 5⟩)
    (fun z => (z.1 = false → z.2.1 = []) ∧ Flow es x y (un z.2.1) z.2.2 ∧ z.2.1.length ≤ 16 * z.2.2 ∧ z.2.2 ≤ 40) (fun z => 40 - z.2.2) (false, [], 0) (by kernel_rfl) ⟨fun _ => rfl, by rw [un_nil]; exact Flow.zero, Nat.zero_le _, Nat.zero_le _⟩ ?_
  rintro ⟨b, ps, c⟩ ⟨hb, hf, hp, hc⟩ K kN kE kR
  simp only at hb hf hp hc ⊢
  have lm1 : (ps.map Prod.fst).length = ps.length := List.length_map _
  have lm2 : (ps.map Prod.snd).length = ps.length := List.length_map _
  have tm1 : (ps.map Prod.fst).take ps.length = ps.map Prod.fst := List.take_of_length_le (by omega)
  have tm2 : (ps.map Prod.snd).take ps.length = ps.map Prod.snd := List.take_of_length_le (by omega)
  by_cases hc4 : c < 40
  · have c1 : ((c : Int) < 40) = True := eq_true (by omega)
    have a1 : (0 ≤ y) = True := eq_true y0
    have a2 : (y < (n.toNat : Int)) = True := eq_true (by omega)
    have a3 : (y.toNat < n.toNat) = True := eq_true (by omega)
    cases b with
    | false =>
      obtain rfl := hb rfl
      simp (maxSteps := 9999999) -implicitDefEqProofs only [go_sem, mwp_draw, c1]
      refine callK_any (l10Reach_is _ true true n es [] x hv x0 x1 (by simp)) ?_
      rintro o r ⟨rfl, od, fr, rfl, h⟩
      have fl := h.len
      have gy := goneR (nth_some (l := fr) (x := y) ⟨y0, by omega⟩)
      by_cases hy : nth fr y < 0
      · have e1 := eq_true hy
        simp (maxSteps := 9999999) -implicitDefEqProofs only [go_sem, mwp_draw, fl, a1, a2, a3, e1, ↓gy]
        repeat (refine ⟨by first | omega | decide | exact fits64 (by omega) (by omega) | kernel_rfl | (intros; omega), ?_⟩)
        refine kE _ _ ?_
        clear kN kE kR
        simp (maxSteps := 9999999) -implicitDefEqProofs only [go_sem, mwp_draw]
        exact ⟨[], c, rfl, h.done hE hf y0 y1 hy⟩
      · have e1 := eq_false hy
        simp (maxSteps := 9999999) -implicitDefEqProofs only [go_sem, mwp_draw, fl, a1, a2, a3, e1, ↓gy]
        repeat (refine ⟨by first | omega | decide | exact fits64 (by omega) (by omega) | kernel_rfl | (intros; omega), ?_⟩)
        have hyo : y ∈ od := (h.mem y y0 y1).1 (by omega)
        refine mwp_loopk (X := Bool × List (Int × Int) × Int × List Int) (fun z => ⟨[(1, .i .i64 x), (2, .i .i64 y), (3, .pr 0 0 0), (6, .pr 1 0 0), (8, .pr 2 0 0), (9, .i .i64 c), (10, .sr 3 0 n.toNat), (11, .i .i64 z.2.2.1)],
            match z.1 with
            | false => [(0, .box [.i .i64 n, .s t 2 (encE es)]), (1, .box [.nl 1, .nl 1]), (2, .box [.nl 1, .nl 1]), (3, .arr true 1 (encI fr))]
            | true => [(0, .box [.i .i64 n, .s t 2 (encE es)]), (1, .box [.nl 1, .nl 1]), (2, .box [.sr 4 0 z.2.1.length, .sr 5 0 z.2.1.length]), (3, .arr true 1 (encI fr)), (4, .arr true 1 (encI (z.2.1.map Prod.fst))), (5, .arr true 1 (encI (z.2.1.map Prod.snd)))],
            match z.1 with | false => 4 | true => 6⟩)
          (fun z => (z.1 = false → z.2.1 = []) ∧ WI n fr od x y z.2.2.2 z.2.2.1 ∧ un z.2.1 = incs (un []) (lnk z.2.2.2).reverse ∧ z.2.1.length + 1 ≤ ([] : List (Int × Int)).length + z.2.2.2.length) (fun z => rk od z.2.2.1) (false, [], y, [y]) (by kernel_rfl) ⟨fun _ => rfl, WI.init h hyo, rfl, by simp⟩ ?_
        rintro ⟨b', ps', cur, L⟩ ⟨hb', w, hu', hl'⟩ K' kN' kE' kR'
        simp only at hb' w hu' hl' ⊢
        have wl := w.le
        have lm1' : (ps'.map Prod.fst).length = ps'.length := List.length_map _
        have lm2' : (ps'.map Prod.snd).length = ps'.length := List.length_map _
        have tm1' : (ps'.map Prod.fst).take ps'.length = ps'.map Prod.fst := List.take_of_length_le (by omega)
        have tm2' : (ps'.map Prod.snd).take ps'.length = ps'.map Prod.snd := List.take_of_length_le (by omega)
        simp only [List.length_nil] at hl'
        by_cases hx : cur = x
        · have v := eq_true hx
          have step : Flow es x y (un ps') (c + 1) := by rw [hu']; exact (BF.step hs hE h hf w.pth (by rw [w.hd, hx]) w.lst).2
          cases b' with
          | false =>
            simp (maxSteps := 9999999) -implicitDefEqProofs only [go_sem, mwp_draw, v]
            refine kE' _ _ ?_
            clear kN' kE' kR'
            simp (maxSteps := 9999999) -implicitDefEqProofs only [go_sem, mwp_draw]
            repeat (refine ⟨by first | omega | decide | exact fits64 (by omega) (by omega) | kernel_rfl | (intros; omega), ?_⟩)
            exact kN _ (false, ps', c + 1) (by obtain rfl := hb' rfl; kernel_rfl) ⟨hb', step, by simp only; omega, by simp only; omega⟩ (by simp only; omega)
          | true =>
            simp (maxSteps := 9999999) -implicitDefEqProofs only [go_sem, mwp_draw, v]
            refine kE' _ _ ?_
            clear kN' kE' kR'
            simp (maxSteps := 9999999) -implicitDefEqProofs only [go_sem, mwp_draw]
            repeat (refine ⟨by first | omega | decide | exact fits64 (by omega) (by omega) | kernel_rfl | (intros; omega), ?_⟩)
            exact kN _ (true, ps', c + 1) (by kernel_rfl) ⟨hb', step, by simp only; omega, by simp only; omega⟩ (by simp only; omega)
        · have v := eq_false hx
          have rc := h.rng cur (w.cur_in h)
          have gc := goneR (nth_some (l := fr) (x := cur) ⟨rc.1, by omega⟩)
          obtain ⟨w', hr⟩ := w.go h hx
          have hu2 : un (stp ps' (nth fr cur) cur) = incs (un []) (lnk (nth fr cur :: L)).reverse := by
            rw [un_stp, hu', w.lnk, List.reverse_cons, incs_snoc]
          have sl := stp_len ps' (nth fr cur) cur
          have sm1 : ((stp ps' (nth fr cur) cur).map Prod.fst).length = (stp ps' (nth fr cur) cur).length := List.length_map _
          have sm2 : ((stp ps' (nth fr cur) cur).map Prod.snd).length = (stp ps' (nth fr cur) cur).length := List.length_map _
          have d1 : (0 ≤ cur) = True := eq_true rc.1
          have d2 : (cur < (n.toNat : Int)) = True := eq_true (by omega)
          have d3 : (cur.toNat < n.toNat) = True := eq_true (by omega)
          cases b' with
          | false =>
            obtain rfl := hb' rfl
            simp (maxSteps := 9999999) -implicitDefEqProofs only [go_sem, mwp_draw, fl, v, d1, d2, d3, lm1', lm2', tm1', tm2', ↓gc]
            repeat (refine ⟨by first | omega | decide | exact fits64 (by omega) (by omega) | kernel_rfl | (intros; omega), ?_⟩)
            refine callK_is (l10Step_is _ _ [] (nth fr cur) cur (by simp)) ?_
            simp (maxSteps := 9999999) -implicitDefEqProofs only [go_sem, mwp_draw, fl, v, d1, d2, d3, sm1, sm2, lm1', lm2', tm1', tm2', ↓gc]
            repeat (refine ⟨by first | omega | decide | exact fits64 (by omega) (by omega) | kernel_rfl | (intros; omega), ?_⟩)
            exact kN' _ (true, stp [] (nth fr cur) cur, nth fr cur, nth fr cur :: L) (by kernel_rfl) ⟨(fun e => by cases e), w', hu2, by simp only [List.length_cons, List.length_nil] at hl' sl ⊢; omega⟩ hr
          | true =>
            simp (maxSteps := 9999999) -implicitDefEqProofs only [go_sem, mwp_draw, fl, v, d1, d2, d3, lm1', lm2', tm1', tm2', ↓gc]
            repeat (refine ⟨by first | omega | decide | exact fits64 (by omega) (by omega) | kernel_rfl | (intros; omega), ?_⟩)
            refine callK_is (l10Step_is _ _ ps' (nth fr cur) cur (by omega)) ?_
            simp (maxSteps := 9999999) -implicitDefEqProofs only [go_sem, mwp_draw, fl, v, d1, d2, d3, sm1, sm2, lm1', lm2', tm1', tm2', ↓gc]
            repeat (refine ⟨by first | omega | decide | exact fits64 (by omega) (by omega) | kernel_rfl | (intros; omega), ?_⟩)
            exact kN' _ (true, stp ps' (nth fr cur) cur, nth fr cur, nth fr cur :: L) (by kernel_rfl) ⟨(fun e => by cases e), w', hu2, by simp only [List.length_cons, List.length_nil] at hl' sl ⊢; omega⟩ hr
    | true =>
      simp (maxSteps := 9999999) -implicitDefEqProofs only [go_sem, mwp_draw, c1, lm1, lm2, tm1, tm2]
      repeat (refine ⟨by first | omega | decide | exact fits64 (by omega) (by omega) | kernel_rfl | (intros; omega), ?_⟩)
      refine callK_any (l10Reach_is _ _ _ n es ps x hv x0 x1 (by omega)) ?_
      rintro o r ⟨rfl, od, fr, rfl, h⟩
      have fl := h.len
      have gy := goneR (nth_some (l := fr) (x := y) ⟨y0, by omega⟩)
      by_cases hy : nth fr y < 0
      · have e1 := eq_true hy
        simp (maxSteps := 9999999) -implicitDefEqProofs only [go_sem, mwp_draw, fl, a1, a2, a3, e1, ↓gy]
        repeat (refine ⟨by first | omega | decide | exact fits64 (by omega) (by omega) | kernel_rfl | (intros; omega), ?_⟩)
        refine kE _ _ ?_
        clear kN kE kR
        simp (maxSteps := 9999999) -implicitDefEqProofs only [go_sem, mwp_draw, lm1, lm2, tm1, tm2]
        first | exact ⟨ps, c, rfl, h.done hE hf y0 y1 hy⟩ | exact ⟨Nat.le_refl _, ps, c, rfl, h.done hE hf y0 y1 hy⟩ | exact ⟨Nat.le_refl _, Nat.le_refl _, ps, c, rfl, h.done hE hf y0 y1 hy⟩
      · have e1 := eq_false hy
        simp (maxSteps := 9999999) -implicitDefEqProofs only [go_sem, mwp_draw, fl, a1, a2, a3, e1, ↓gy]
        repeat (refine ⟨by first | omega | decide | exact fits64 (by omega) (by omega) | kernel_rfl | (intros; omega), ?_⟩)
        have hyo : y ∈ od := (h.mem y y0 y1).1 (by omega)
        refine mwp_loopk (X := Bool × List (Int × Int) × Int × List Int) (fun z => ⟨[(1, .i .i64 x), (2, .i .i64 y), (3, .pr 0 0 0), (6, .pr 1 0 0), (8, .pr 2 0 0), (9, .i .i64 c), (10, .sr 3 0 n.toNat), (11, .i .i64 z.2.2.1)],
            match z.1 with
            | false => [(0, .box [.i .i64 n, .s t 2 (encE es)]), (1, .box [.nl 1, .nl 1]), (2, .box [.nl 1, .nl 1]), (3, .arr true 1 (encI fr))]
            | true => [(0, .box [.i .i64 n, .s t 2 (encE es)]), (1, .box [.nl 1, .nl 1]), (2, .box [.sr 4 0 z.2.1.length, .sr 5 0 z.2.1.length]), (3, .arr true 1 (encI fr)), (4, .arr true 1 (encI (z.2.1.map Prod.fst))), (5, .arr true 1 (encI (z.2.1.map Prod.snd)))],
            match z.1 with | false => 4 | true => 6⟩)
          (fun z => (z.1 = false → z.2.1 = []) ∧ WI n fr od x y z.2.2.2 z.2.2.1 ∧ un z.2.1 = incs (un ps) (lnk z.2.2.2).reverse ∧ z.2.1.length + 1 ≤ (ps : List (Int × Int)).length + z.2.2.2.length) (fun z => rk od z.2.2.1) (true, ps, y, [y]) (by kernel_rfl) ⟨(fun e => by cases e), WI.init h hyo, rfl, by simp⟩ ?_
        rintro ⟨b', ps', cur, L⟩ ⟨hb', w, hu', hl'⟩ K' kN' kE' kR'
        simp only at hb' w hu' hl' ⊢
        have wl := w.le
        have lm1' : (ps'.map Prod.fst).length = ps'.length := List.length_map _
        have lm2' : (ps'.map Prod.snd).length = ps'.length := List.length_map _
        have tm1' : (ps'.map Prod.fst).take ps'.length = ps'.map Prod.fst := List.take_of_length_le (by omega)
        have tm2' : (ps'.map Prod.snd).take ps'.length = ps'.map Prod.snd := List.take_of_length_le (by omega)
        by_cases hx : cur = x
        · have v := eq_true hx
          have step : Flow es x y (un ps') (c + 1) := by rw [hu']; exact (BF.step hs hE h hf w.pth (by rw [w.hd, hx]) w.lst).2
          cases b' with
          | false =>
            simp (maxSteps := 9999999) -implicitDefEqProofs only [go_sem, mwp_draw, v]
            refine kE' _ _ ?_
            clear kN' kE' kR'
            simp (maxSteps := 9999999) -implicitDefEqProofs only [go_sem, mwp_draw]
            repeat (refine ⟨by first | omega | decide | exact fits64 (by omega) (by omega) | kernel_rfl | (intros; omega), ?_⟩)
            exact kN _ (false, ps', c + 1) (by obtain rfl := hb' rfl; kernel_rfl) ⟨hb', step, by simp only; omega, by simp only; omega⟩ (by simp only; omega)
          | true =>
            simp (maxSteps := 9999999) -implicitDefEqProofs only [go_sem, mwp_draw, v]
            refine kE' _ _ ?_
            clear kN' kE' kR'
            simp (maxSteps := 9999999) -implicitDefEqProofs only [go_sem, mwp_draw]
            repeat (refine ⟨by first | omega | decide | exact fits64 (by omega) (by omega) | kernel_rfl | (intros; omega), ?_⟩)
            exact kN _ (true, ps', c + 1) (by kernel_rfl) ⟨hb', step, by simp only; omega, by simp only; omega⟩ (by simp only; omega)
        · have v := eq_false hx
          have rc := h.rng cur (w.cur_in h)
          have gc := goneR (nth_some (l := fr) (x := cur) ⟨rc.1, by omega⟩)
          obtain ⟨w', hr⟩ := w.go h hx
          have hu2 : un (stp ps' (nth fr cur) cur) = incs (un ps) (lnk (nth fr cur :: L)).reverse := by
            rw [un_stp, hu', w.lnk, List.reverse_cons, incs_snoc]
          have sl := stp_len ps' (nth fr cur) cur
          have sm1 : ((stp ps' (nth fr cur) cur).map Prod.fst).length = (stp ps' (nth fr cur) cur).length := List.length_map _
          have sm2 : ((stp ps' (nth fr cur) cur).map Prod.snd).length = (stp ps' (nth fr cur) cur).length := List.length_map _
          have d1 : (0 ≤ cur) = True := eq_true rc.1
          have d2 : (cur < (n.toNat : Int)) = True := eq_true (by omega)
          have d3 : (cur.toNat < n.toNat) = True := eq_true (by omega)
          cases b' with
          | false =>
            obtain rfl := hb' rfl
            simp (maxSteps := 9999999) -implicitDefEqProofs only [go_sem, mwp_draw, fl, v, d1, d2, d3, lm1', lm2', tm1', tm2', ↓gc]
            repeat (refine ⟨by first | omega | decide | exact fits64 (by omega) (by omega) | kernel_rfl | (intros; omega), ?_⟩)
            refine callK_is (l10Step_is _ _ [] (nth fr cur) cur (by simp)) ?_
            simp (maxSteps := 9999999) -implicitDefEqProofs only [go_sem, mwp_draw, fl, v, d1, d2, d3, sm1, sm2, lm1', lm2', tm1', tm2', ↓gc]
            repeat (refine ⟨by first | omega | decide | exact fits64 (by omega) (by omega) | kernel_rfl | (intros; omega), ?_⟩)
            exact kN' _ (true, stp [] (nth fr cur) cur, nth fr cur, nth fr cur :: L) (by kernel_rfl) ⟨(fun e => by cases e), w', hu2, by simp only [List.length_cons, List.length_nil] at hl' sl ⊢; omega⟩ hr
          | true =>
            simp (maxSteps := 9999999) -implicitDefEqProofs only [go_sem, mwp_draw, fl, v, d1, d2, d3, lm1', lm2', tm1', tm2', ↓gc]
            repeat (refine ⟨by first | omega | decide | exact fits64 (by omega) (by omega) | kernel_rfl | (intros; omega), ?_⟩)
            refine callK_is (l10Step_is _ _ ps' (nth fr cur) cur (by omega)) ?_
            simp (maxSteps := 9999999) -implicitDefEqProofs only [go_sem, mwp_draw, fl, v, d1, d2, d3, sm1, sm2, lm1', lm2', tm1', tm2', ↓gc]
            repeat (refine ⟨by first | omega | decide | exact fits64 (by omega) (by omega) | kernel_rfl | (intros; omega), ?_⟩)
            exact kN' _ (true, stp ps' (nth fr cur) cur, nth fr cur, nth fr cur :: L) (by kernel_rfl) ⟨(fun e => by cases e), w', hu2, by simp only [List.length_cons] at hl' sl ⊢; omega⟩ hr
  · obtain rfl : c = 40 := by omega
    have hm := hf.full hne el
    have c1 : (((40 : Nat) : Int) < 40) = False := eq_false (by omega)
    cases b with
    | false =>
      obtain rfl := hb rfl
      simp (maxSteps := 9999999) -implicitDefEqProofs only [go_sem, mwp_draw, c1]
      refine kE _ _ ?_
      clear kN kE kR
      simp (maxSteps := 9999999) -implicitDefEqProofs only [go_sem, mwp_draw]
      exact ⟨[], 40, rfl, hm⟩
    | true =>
      simp (maxSteps := 9999999) -implicitDefEqProofs only [go_sem, mwp_draw, c1]
      refine kE _ _ ?_
      clear kN kE kR
      simp (maxSteps := 9999999) -implicitDefEqProofs only [go_sem, mwp_draw, lm1, lm2, tm1, tm2]
      first | exact ⟨ps, 40, rfl, hm⟩ | exact ⟨Nat.le_refl _, ps, 40, rfl, hm⟩ | exact ⟨Nat.le_refl _, Nat.le_refl _, ps, 40, rfl, hm⟩
end Go.Fw
