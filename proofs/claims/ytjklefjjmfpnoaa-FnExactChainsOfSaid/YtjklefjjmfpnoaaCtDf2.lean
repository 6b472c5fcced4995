/-
  Searching a graph in depth: the reference; both from all nodes.
-/
import Derived.Test.YtjklefjjmfpnoaaCtDf
namespace Go.Fw
set_option linter.unusedSimpArgs false
set_option linter.unusedVariables false
set_option maxRecDepth 100000
set_option maxHeartbeats 8000000
open Go.Proofs.Try (prog)
open Go.Pl

theorem l4Search_is {n : Int} {es : List E} (hv : GV n es) : ∀ (f : Nat) (x p : Int) (s : Sr) (c : Int) (t u : Bool), DfP n es f x p (s, c) →
    Is prog fid_spec_l4Search [Gr t n es, .i .i64 x, .i .i64 p, .agg [.ow u 1 (encI s.num), .ow u 1 (encI s.par), .ow u 1 (encI s.low)], .i .i64 c]
      (.tup [.agg [.ow true 1 (encI (dfs es f x p (s, c)).1.num), .ow true 1 (encI (dfs es f x p (s, c)).1.par), .ow true 1 (encI (dfs es f x p (s, c)).1.low)], .i .i64 (dfs es f x p (s, c)).2])
  | 0, x, p, s, c, t, u, h => (h.no hv.2.2.2.1).elim
  | f + 1, x, p, s, c, t, u, h => by
    have hE := hv.2.2.2.1
    have hn1 := hv.1
    have hn16 := hv.2.1
    have hat := h.at hE
    have hnx := fun (i : Nat) (y : Int) hy => h.next hE (i := i) (y := y) hy
    have hx := h.hx
    have ll := nbr_len hv x
    have hcn := wf_cnt h.wf hn1
    have w1 := h.wf.l1
    have w2 := h.wf.l2
    have w3 := h.wf.l3
    simp only at w1 w2 w3 hcn
    have qn := fun (i : Nat) (y : Int) hy => dfQ_next (es := es) (f := f) (x := x) (p := p) (q := (s, c)) (i := i) (y := y) hy
    rw [← dfQ_all]
    have q0 := dfQ_zero (es := es) (f := f) (x := x) (p := p) (q := (s, c))
    generalize dfQ es f x p (s, c) = Q at *
    refine MCall.run mixed get_spec_l4Search ok_spec_l4Search (Nat.le_of_ble_eq_true rfl) (by decide) ?_
    unfold mc_spec_l4Search
    have c1 : (0 ≤ x) = True := eq_true hx.1
    have c2 : (x < (n.toNat : Int)) = True := eq_true (by omega)
    have d2 : (x.toNat < n.toNat) = True := eq_true (by omega)
    have gn := goneS (show s.num[x.toNat]? = some (nth s.num x) from nth_some ⟨hx.1, by omega⟩)
    have gp := goneS (show s.par[x.toNat]? = some (nth s.par x) from nth_some ⟨hx.1, by omega⟩)
    have gl := goneS (show s.low[x.toNat]? = some (nth s.low x) from nth_some ⟨hx.1, by omega⟩)
    simp (maxSteps := 9999999) -implicitDefEqProofs only [go_sem, mwp_draw, w1, w2, w3, c1, c2, d2, ↓gn, ↓gp, ↓gl]
    repeat (refine ⟨by first | omega | decide | exact fits64 (by omega) (by omega) | kernel_rfl | (intros; omega), ?_⟩)
    refine callK_is (l1Next_is _ n es x hv) ?_
    have nrg : ∀ y ∈ nbr es x, 0 ≤ y ∧ y < n := fun y hy => by have := nbr_rng hE ((mem_nbr hE).1 hy); omega
    generalize hN : nbr es x = nb at *
    simp (maxSteps := 9999999) -implicitDefEqProofs only [go_sem, mwp_draw, w1, w2, w3]
    refine mwp_loopk (X := Nat × Bool) (fun i => ⟨[(1, .i .i64 x), (2, .i .i64 p), (4, .i .i64 (Q i.1).2), (5, .pr 0 0 0), (8, .pr 1 0 0), (10, .pr 2 0 0), (12, .sr 3 0 nb.length), (13, .i .i64 (i.1 : Int))],
        [(0, .box [.i .i64 n, .s t 2 (encE es)]), (1, .box [.sr 4 0 n.toNat, .sr 5 0 n.toNat, .sr 6 0 n.toNat]), (2, .box [.nl 1, .nl 1, .nl 1]), (3, .arr true 1 (encI nb)), (4, .arr i.2 1 (encI (Q i.1).1.num)), (5, .arr i.2 1 (encI (Q i.1).1.par)), (6, .arr i.2 1 (encI (Q i.1).1.low))], 7⟩)
      (fun i => i.1 ≤ nb.length) (fun i => nb.length - i.1) (0, u) (by rw [q0]; kernel_rfl) (Nat.zero_le _) ?_
    rintro ⟨i, b⟩ h1 K kN kE kR
    simp only at h1 ⊢
    have wq := (hat i).1
    have hpv := (hat i).2.2.2.2
    have cq := wf_cnt wq hn1
    by_cases hi : i < nb.length
    · obtain ⟨y, hy⟩ : ∃ y, nb[i]? = some y := ⟨_, List.getElem?_eq_getElem hi⟩
      have ry := nrg y (List.mem_of_getElem? hy)
      have gy := goneS hy
      have nx := qn i y hy
      have dn := hnx i y hy
      have q1 := wq.l1
      have q2 := wq.l2
      have q3 := wq.l3
      have lx := wq.low x hx.1 hx.2
      have ny := wq.num y ry.1 ry.2
      generalize Q i = q at *
      have k1 : ((i : Int) < nb.length) = True := eq_true (by omega)
      have k2 : (i < nb.length) = True := eq_true hi
      have y1 : (0 ≤ y) = True := eq_true ry.1
      have y2 : (y < (n.toNat : Int)) = True := eq_true (by omega)
      have y3 : (y.toNat < n.toNat) = True := eq_true (by omega)
      have gny := goneS (show q.1.num[y.toNat]? = some (nth q.1.num y) from nth_some ⟨ry.1, by omega⟩)
      have glx := goneS (show q.1.low[x.toNat]? = some (nth q.1.low x) from nth_some ⟨hx.1, by omega⟩)
      by_cases yp : y = p
      · have e1 : (y = p) = True := eq_true yp
        have v0 : nth q.1.num y ≠ 0 := by rw [yp]; exact hpv (by omega)
        have nx' : Q (i + 1) = q := by rw [nx]; unfold step1; rw [if_neg v0, if_pos yp]
        simp (maxSteps := 9999999) -implicitDefEqProofs only [go_sem, mwp_draw, c1, c2, d2, k1, k2, y1, y2, y3, e1, q1, q2, q3, ↓gy, ↓gny, ↓glx]
        repeat (refine ⟨by first | omega | decide | exact fits64 (by omega) (by omega) | kernel_rfl | (intros; omega), ?_⟩)
        exact kN _ (i + 1, b) (by rw [nx']; kernel_rfl) (by simp only; omega) (by simp only; omega)
      · have e1 : (y = p) = False := eq_false yp
        by_cases v0 : nth q.1.num y = 0
        · have e0 : (nth q.1.num y = 0) = True := eq_true v0
          have D : DfP n es f y x (q.1, q.2) := dn v0
          have ih := fun t u => l4Search_is hv f y x q.1 q.2 t u D
          have wr := D.out hE
          have nx' : Q (i + 1) = (⟨(dfs es f y x (q.1, q.2)).1.num, (dfs es f y x (q.1, q.2)).1.par, (dfs es f y x (q.1, q.2)).1.low.set x.toNat (min (nth (dfs es f y x (q.1, q.2)).1.low x) (nth (dfs es f y x (q.1, q.2)).1.low y))⟩, (dfs es f y x (q.1, q.2)).2) := by
            rw [nx]; unfold step1; rw [if_pos v0]
          generalize dfs es f y x (q.1, q.2) = r at *
          have r1 := wr.l1
          have r2 := wr.l2
          have r3 := wr.l3
          have grx := goneS (show r.1.low[x.toNat]? = some (nth r.1.low x) from nth_some ⟨hx.1, by omega⟩)
          have gry := goneS (show r.1.low[y.toNat]? = some (nth r.1.low y) from nth_some ⟨ry.1, by omega⟩)
          simp (maxSteps := 9999999) -implicitDefEqProofs only [go_sem, mwp_draw, c1, c2, d2, k1, k2, y1, y2, y3, e0, e1, q1, q2, q3, ↓gy, ↓gny, ↓glx]
          repeat (refine ⟨by first | omega | decide | exact fits64 (by omega) (by omega) | kernel_rfl | (intros; omega), ?_⟩)
          refine callK_is (ih _ _) ?_
          by_cases lt : nth r.1.low y < nth r.1.low x
          · have e2 : (nth r.1.low y < nth r.1.low x) = True := eq_true lt
            rw [show min (nth r.1.low x) (nth r.1.low y) = nth r.1.low y by omega] at nx'
            simp (maxSteps := 9999999) -implicitDefEqProofs only [go_sem, mwp_draw, c1, c2, d2, k1, k2, y1, y2, y3, e0, e2, q1, q2, q3, r1, r2, r3, ↓gy, ↓gny, ↓grx, ↓gry]
            repeat (refine ⟨by first | omega | decide | exact fits64 (by omega) (by omega) | kernel_rfl | (intros; omega), ?_⟩)
            exact kN _ (i + 1, true) (by rw [nx']; kernel_rfl) (by simp only; omega) (by simp only; omega)
          · have e2 : (nth r.1.low y < nth r.1.low x) = False := eq_false lt
            rw [show min (nth r.1.low x) (nth r.1.low y) = nth r.1.low x by omega, set_nth (by omega)] at nx'
            simp (maxSteps := 9999999) -implicitDefEqProofs only [go_sem, mwp_draw, c1, c2, d2, k1, k2, y1, y2, y3, e0, e2, q1, q2, q3, r1, r2, r3, ↓gy, ↓gny, ↓grx, ↓gry]
            repeat (refine ⟨by first | omega | decide | exact fits64 (by omega) (by omega) | kernel_rfl | (intros; omega), ?_⟩)
            exact kN _ (i + 1, true) (by rw [nx']; kernel_rfl) (by simp only; omega) (by simp only; omega)
        · have e0 : (nth q.1.num y = 0) = False := eq_false v0
          have nx' : Q (i + 1) = (⟨q.1.num, q.1.par, q.1.low.set x.toNat (min (nth q.1.low x) (nth q.1.num y))⟩, q.2) := by rw [nx]; unfold step1; rw [if_neg v0, if_neg yp]
          by_cases lt : nth q.1.num y < nth q.1.low x
          · have e2 : (nth q.1.num y < nth q.1.low x) = True := eq_true lt
            rw [show min (nth q.1.low x) (nth q.1.num y) = nth q.1.num y by omega] at nx'
            simp (maxSteps := 9999999) -implicitDefEqProofs only [go_sem, mwp_draw, c1, c2, d2, k1, k2, y1, y2, y3, e0, e1, e2, q1, q2, q3, ↓gy, ↓gny, ↓glx]
            repeat (refine ⟨by first | omega | decide | exact fits64 (by omega) (by omega) | kernel_rfl | (intros; omega), ?_⟩)
            exact kN _ (i + 1, b) (by rw [nx']; kernel_rfl) (by simp only; omega) (by simp only; omega)
          · have e2 : (nth q.1.num y < nth q.1.low x) = False := eq_false lt
            rw [show min (nth q.1.low x) (nth q.1.num y) = nth q.1.low x by omega, set_nth (by omega)] at nx'
            simp (maxSteps := 9999999) -implicitDefEqProofs only [go_sem, mwp_draw, c1, c2, d2, k1, k2, y1, y2, y3, e0, e1, e2, q1, q2, q3, ↓gy, ↓gny, ↓glx]
            repeat (refine ⟨by first | omega | decide | exact fits64 (by omega) (by omega) | kernel_rfl | (intros; omega), ?_⟩)
            exact kN _ (i + 1, b) (by rw [nx']; kernel_rfl) (by simp only; omega) (by simp only; omega)
    · obtain rfl : i = nb.length := by omega
      have k1 : ((nb.length : Int) < nb.length) = False := eq_false (by omega)
      have q1 := wq.l1
      have q2 := wq.l2
      have q3 := wq.l3
      simp (maxSteps := 9999999) -implicitDefEqProofs only [go_sem, mwp_draw, k1]
      refine kE _ _ ?_
      clear kN kE kR
      have t1 : (Q nb.length).1.num.take n.toNat = (Q nb.length).1.num := List.take_of_length_le (by omega)
      have t2 : (Q nb.length).1.par.take n.toNat = (Q nb.length).1.par := List.take_of_length_le (by omega)
      have t3 : (Q nb.length).1.low.take n.toNat = (Q nb.length).1.low := List.take_of_length_le (by omega)
      simp (maxSteps := 9999999) -implicitDefEqProofs only [go_sem, mwp_draw, q1, q2, q3, t1, t2, t3]
      repeat (refine ⟨by first | omega | decide | exact fits64 (by omega) (by omega) | kernel_rfl | (intros; omega), ?_⟩)
      first | done | rfl | exact ⟨rfl, rfl⟩
/-- From the first nodes. -/
def srQ (n : Int) (es : List E) (i : Nat) : Sr × Int := ((ups n.toNat).take i).foldl (srN n es) (sr0 n)
theorem srQ_all {n : Int} {es : List E} : srQ n es n.toNat = srch n es := by
  unfold srQ srch
  rw [List.take_of_length_le (by rw [ups_length]; exact Nat.le_refl _)]
theorem srQ_next {n : Int} {es : List E} {i : Nat} (h : (i : Int) < n) : srQ n es (i + 1) = srN n es (srQ n es i) i := by
  have : (ups n.toNat)[i]? = some (i : Int) := ups_get (by omega)
  unfold srQ; exact foldl_snoc _ this _
theorem srQ_at {n : Int} {es : List E} (hv : GV n es) (i : Nat) (hi : (i : Int) ≤ n) : Wf n es (srQ n es i) ∧ ((i : Int) < n → nth (srQ n es i).1.num i = 0 → DfP n es n.toNat i (-1) (srQ n es i)) := by
  have hE := hv.2.2.2.1
  have hn := hv.1
  obtain ⟨w0, f0⟩ := sr0_ok (n := n) (es := es) (by omega)
  obtain ⟨a, _, c, d, _⟩ := srN_ok hE (by omega) ((ups n.toNat).take i) (sr0 n) (fun x hx => by have := mem_upsI.1 (List.mem_of_mem_take hx); omega) w0 (Int.le_refl _) f0
  refine ⟨a, fun h1 h2 => ⟨a, ⟨by omega, h1⟩, h2, ?_, .inl rfl, c⟩⟩
  have : 0 ≤ (srQ n es i).2 := d
  omega
theorem search_is (t : Bool) (n : Int) (es : List E) (hv : GV n es) : Is prog fid_impl_Graph_search [Gr t n es] (.agg [.ow true 1 (encI (srch n es).1.num), .ow true 1 (encI (srch n es).1.par), .ow true 1 (encI (srch n es).1.low)]) := by
  have hE := hv.2.2.2.1
  have hn1 := hv.1
  have hn16 := hv.2.1
  have hat := srQ_at hv
  have qn := fun i h => srQ_next (n := n) (es := es) (i := i) h
  have q0 : srQ n es 0 = sr0 n := rfl
  rw [← srQ_all]
  generalize srQ n es = Q at *
  refine MCall.run mixed get_impl_Graph_search ok_impl_Graph_search (Nat.le_of_ble_eq_true rfl) (by decide) ?_
  unfold mc_impl_Graph_search
  simp (maxSteps := 9999999) -implicitDefEqProofs only [go_sem, mwp_draw]
  repeat (refine ⟨by first | omega | decide | exact fits64 (by omega) (by omega) | kernel_rfl | (intros; omega), ?_⟩)
  refine mwp_loopk (X := Nat × Bool) (fun i => ⟨[(1, .pr 0 0 0), (2, .pr 1 0 0), (3, .pr 2 0 0), (4, .i .i64 (Q i.1).2), (17, .i .i64 n), (18, .i .i64 (i.1 : Int))],
      [(0, .box [.i .i64 n, .s t 2 (encE es)]), (1, .box [.nl 1, .nl 1, .nl 1]), (2, .box [.sr 3 0 n.toNat, .sr 4 0 n.toNat, .sr 5 0 n.toNat]), (3, .arr i.2 1 (encI (Q i.1).1.num)), (4, .arr i.2 1 (encI (Q i.1).1.par)), (5, .arr i.2 1 (encI (Q i.1).1.low))], 6⟩)
    (fun i => (i.1 : Int) ≤ n) (fun i => n.toNat - i.1) (0, true) (by rw [q0]; kernel_rfl) (by simp only; omega) ?_
  rintro ⟨i, b⟩ h1 K kN kE kR
  simp only at h1 ⊢
  have wq := (hat i h1).1
  have q1 := wq.l1
  have q2 := wq.l2
  have q3 := wq.l3
  by_cases hi : (i : Int) < n
  · have nx := qn i hi
    have dn := (hat i h1).2 hi
    have gny := goneS (show (Q i).1.num[i]? = some (nth (Q i).1.num i) by have := nth_some (l := (Q i).1.num) (x := (i : Int)) ⟨by omega, by omega⟩; simpa using this)
    generalize Q i = q at *
    have k1 : ((i : Int) < n) = True := eq_true hi
    have y2 : ((i : Int) < (n.toNat : Int)) = True := eq_true (by omega)
    have y3 : (i < n.toNat) = True := eq_true (by omega)
    by_cases v0 : nth q.1.num i = 0
    · have e0 : (nth q.1.num i = 0) = True := eq_true v0
      have D : DfP n es n.toNat i (-1) (q.1, q.2) := dn v0
      have nx' : Q (i + 1) = dfs es n.toNat i (-1) (q.1, q.2) := by rw [nx]; unfold srN; rw [if_pos v0]
      have wr := D.out hE
      have ih := fun t u => find_is hv n.toNat i (-1) q.1 q.2 t u D
      generalize dfs es n.toNat i (-1) (q.1, q.2) = r at *
      have r1 := wr.l1
      have r2 := wr.l2
      have r3 := wr.l3
      simp (maxSteps := 9999999) -implicitDefEqProofs only [go_sem, mwp_draw, k1, y2, y3, e0, q1, q2, q3, ↓gny]
      repeat (refine ⟨by first | omega | decide | exact fits64 (by omega) (by omega) | kernel_rfl | (intros; omega), ?_⟩)
      refine callK_det (ih _ _) ?_
      simp (maxSteps := 9999999) -implicitDefEqProofs only [go_sem, mwp_draw, q1, q2, q3, r1, r2, r3]
      repeat (refine ⟨by first | omega | decide | exact fits64 (by omega) (by omega) | kernel_rfl | (intros; omega), ?_⟩)
      exact kN _ (i + 1, true) (by rw [nx']; kernel_rfl) (by simp only; omega) (by simp only; omega)
    · have e0 : (nth q.1.num i = 0) = False := eq_false v0
      have nx' : Q (i + 1) = q := by rw [nx]; unfold srN; rw [if_neg v0]
      simp (maxSteps := 9999999) -implicitDefEqProofs only [go_sem, mwp_draw, k1, y2, y3, e0, q1, q2, q3, ↓gny]
      repeat (refine ⟨by first | omega | decide | exact fits64 (by omega) (by omega) | kernel_rfl | (intros; omega), ?_⟩)
      exact kN _ (i + 1, b) (by rw [nx']; kernel_rfl) (by simp only; omega) (by simp only; omega)
  · obtain rfl : i = n.toNat := by omega
    have k1 : (((n.toNat : Nat) : Int) < n) = False := eq_false (by omega)
    simp (maxSteps := 9999999) -implicitDefEqProofs only [go_sem, mwp_draw, k1]
    refine kE _ _ ?_
    clear kN kE kR
    have t1 : (Q n.toNat).1.num.take n.toNat = (Q n.toNat).1.num := List.take_of_length_le (by omega)
    have t2 : (Q n.toNat).1.par.take n.toNat = (Q n.toNat).1.par := List.take_of_length_le (by omega)
    have t3 : (Q n.toNat).1.low.take n.toNat = (Q n.toNat).1.low := List.take_of_length_le (by omega)
    simp (maxSteps := 9999999) -implicitDefEqProofs only [go_sem, mwp_draw, q1, q2, q3, t1, t2, t3]
    repeat (refine ⟨by first | omega | decide | exact fits64 (by omega) (by omega) | kernel_rfl | (intros; omega), ?_⟩)
    first | done | rfl | exact ⟨rfl, rfl⟩
theorem l4Run_is (t : Bool) (n : Int) (es : List E) (hv : GV n es) : Is prog fid_spec_l4Run [Gr t n es] (.agg [.ow true 1 (encI (srch n es).1.num), .ow true 1 (encI (srch n es).1.par), .ow true 1 (encI (srch n es).1.low)]) := by
  have hE := hv.2.2.2.1
  have hn1 := hv.1
  have hn16 := hv.2.1
  have hat := srQ_at hv
  have qn := fun i h => srQ_next (n := n) (es := es) (i := i) h
  have q0 : srQ n es 0 = sr0 n := rfl
  rw [← srQ_all]
  generalize srQ n es = Q at *
  refine MCall.run mixed get_spec_l4Run ok_spec_l4Run (Nat.le_of_ble_eq_true rfl) (by decide) ?_
  unfold mc_spec_l4Run
  simp (maxSteps := 9999999) -implicitDefEqProofs only [go_sem, mwp_draw]
  repeat (refine ⟨by first | omega | decide | exact fits64 (by omega) (by omega) | kernel_rfl | (intros; omega), ?_⟩)
  refine mwp_loopk (X := Nat × Bool) (fun i => ⟨[(1, .pr 0 0 0), (2, .pr 1 0 0), (3, .pr 2 0 0), (4, .i .i64 (Q i.1).2), (5, .i .i64 (i.1 : Int))],
      [(0, .box [.i .i64 n, .s t 2 (encE es)]), (1, .box [.nl 1, .nl 1, .nl 1]), (2, .box [.sr 3 0 n.toNat, .sr 4 0 n.toNat, .sr 5 0 n.toNat]), (3, .arr i.2 1 (encI (Q i.1).1.num)), (4, .arr i.2 1 (encI (Q i.1).1.par)), (5, .arr i.2 1 (encI (Q i.1).1.low))], 6⟩)
    (fun i => (i.1 : Int) ≤ n) (fun i => n.toNat - i.1) (0, true) (by rw [q0]; kernel_rfl) (by simp only; omega) ?_
  rintro ⟨i, b⟩ h1 K kN kE kR
  simp only at h1 ⊢
  have wq := (hat i h1).1
  have q1 := wq.l1
  have q2 := wq.l2
  have q3 := wq.l3
  by_cases hi : (i : Int) < n
  · have nx := qn i hi
    have dn := (hat i h1).2 hi
    have gny := goneS (show (Q i).1.num[i]? = some (nth (Q i).1.num i) by have := nth_some (l := (Q i).1.num) (x := (i : Int)) ⟨by omega, by omega⟩; simpa using this)
    generalize Q i = q at *
    have k1 : ((i : Int) < n) = True := eq_true hi
    have y2 : ((i : Int) < (n.toNat : Int)) = True := eq_true (by omega)
    have y3 : (i < n.toNat) = True := eq_true (by omega)
    by_cases v0 : nth q.1.num i = 0
    · have e0 : (nth q.1.num i = 0) = True := eq_true v0
      have D : DfP n es n.toNat i (-1) (q.1, q.2) := dn v0
      have nx' : Q (i + 1) = dfs es n.toNat i (-1) (q.1, q.2) := by rw [nx]; unfold srN; rw [if_pos v0]
      have wr := D.out hE
      have ih := fun t u => l4Search_is hv n.toNat i (-1) q.1 q.2 t u D
      generalize dfs es n.toNat i (-1) (q.1, q.2) = r at *
      have r1 := wr.l1
      have r2 := wr.l2
      have r3 := wr.l3
      simp (maxSteps := 9999999) -implicitDefEqProofs only [go_sem, mwp_draw, k1, y2, y3, e0, q1, q2, q3, ↓gny]
      repeat (refine ⟨by first | omega | decide | exact fits64 (by omega) (by omega) | kernel_rfl | (intros; omega), ?_⟩)
      refine callK_is (ih _ _) ?_
      simp (maxSteps := 9999999) -implicitDefEqProofs only [go_sem, mwp_draw, q1, q2, q3, r1, r2, r3]
      repeat (refine ⟨by first | omega | decide | exact fits64 (by omega) (by omega) | kernel_rfl | (intros; omega), ?_⟩)
      exact kN _ (i + 1, true) (by rw [nx']; kernel_rfl) (by simp only; omega) (by simp only; omega)
    · have e0 : (nth q.1.num i = 0) = False := eq_false v0
      have nx' : Q (i + 1) = q := by rw [nx]; unfold srN; rw [if_neg v0]
      simp (maxSteps := 9999999) -implicitDefEqProofs only [go_sem, mwp_draw, k1, y2, y3, e0, q1, q2, q3, ↓gny]
      repeat (refine ⟨by first | omega | decide | exact fits64 (by omega) (by omega) | kernel_rfl | (intros; omega), ?_⟩)
      exact kN _ (i + 1, b) (by rw [nx']; kernel_rfl) (by simp only; omega) (by simp only; omega)
  · obtain rfl : i = n.toNat := by omega
    have k1 : (((n.toNat : Nat) : Int) < n) = False := eq_false (by omega)
    simp (maxSteps := 9999999) -implicitDefEqProofs only [go_sem, mwp_draw, k1]
    refine kE _ _ ?_
    clear kN kE kR
    have t1 : (Q n.toNat).1.num.take n.toNat = (Q n.toNat).1.num := List.take_of_length_le (by omega)
    have t2 : (Q n.toNat).1.par.take n.toNat = (Q n.toNat).1.par := List.take_of_length_le (by omega)
    have t3 : (Q n.toNat).1.low.take n.toNat = (Q n.toNat).1.low := List.take_of_length_le (by omega)
    simp (maxSteps := 9999999) -implicitDefEqProofs only [go_sem, mwp_draw, q1, q2, q3, t1, t2, t3]
    repeat (refine ⟨by first | omega | decide | exact fits64 (by omega) (by omega) | kernel_rfl | (intros; omega), ?_⟩)
    first | done | rfl | exact ⟨rfl, rfl⟩
end Go.Fw
