/-
  Searching a graph in depth: the program.
-/
import Derived.Test.YtjklefjjmfpnoaaCtNb
import Derived.Test.YtjklefjjmfpnoaaPlC
namespace Go.Fw
set_option linter.unusedSimpArgs false
set_option linter.unusedVariables false
set_option maxRecDepth 100000
set_option maxHeartbeats 8000000
open Go.Proofs.Try (prog)
open Go.Pl

/-- What a search from a node goes through. -/
structure DfP (n : Int) (es : List E) (f : Nat) (x p : Int) (q : Sr × Int) : Prop where
  wf : Wf n es q
  hx : 0 ≤ x ∧ x < n
  hv : nth q.1.num x = 0
  hf : n - q.2 ≤ f
  hp : p = -1 ∨ (0 ≤ p ∧ p < n ∧ nth q.1.num p ≠ 0 ∧ Adj es p x)
  fr : Fr n es q.1 p
def dfQ (es : List E) (f : Nat) (x p : Int) (q : Sr × Int) (i : Nat) : Sr × Int := ((nbr es x).take i).foldl (step1 (fun y q => dfs es f y x q) x p) (opn x p q)
theorem DfP.no {n : Int} {es : List E} {x p : Int} {q : Sr × Int} (hE : ∀ e ∈ es, EIn n e) (h : DfP n es 0 x p q) : False := by
  obtain ⟨_, _, _, _, h5⟩ := dfs_ok hE 0 x p q h.wf h.hx h.hv h.hf h.hp h.fr
  simp [dfs] at h5
theorem DfP.at {n : Int} {es : List E} {f : Nat} {x p : Int} {q : Sr × Int} (hE : ∀ e ∈ es, EIn n e) (h : DfP n es (f + 1) x p q) (i : Nat) :
    Wf n es (dfQ es f x p q i) ∧ nth (dfQ es f x p q i).1.num x ≠ 0 ∧ n - (dfQ es f x p q i).2 ≤ f ∧ Fr n es (dfQ es f x p q i).1 x ∧ (0 ≤ p → nth (dfQ es f x p q i).1.num p ≠ 0) := by
  obtain ⟨w1, e1, v1, p1, f1⟩ := opn_ok hE h.wf h.hx h.hv h.hp h.fr
  have e2 : (opn x p q).2 = q.2 + 1 := rfl
  have hf := h.hf
  obtain ⟨w2, e2', f2, c2, v2⟩ := step_ok hE (f := f) (p := p) h.hx (rec := fun y q => dfs es f y x q) (fun y q' w' hy hv' hq' vx' ay hf' => dfs_ok hE f y x q' w' hy hv' hq' (.inr ⟨h.hx.1, h.hx.2, vx', ay⟩) hf')
    ((nbr es x).take i) (opn x p q) (fun y hy => (mem_nbr hE).1 (List.mem_of_mem_take hy)) w1 v1 (by omega) f1
  exact ⟨w2, e2'.vis h.hx.1 h.hx.2 v1, by unfold dfQ; omega, f2, fun p0 => by
    rcases h.hp with q | ⟨_, a, b, _⟩
    · omega
    · exact (e1.trans e2').vis p0 a b⟩
theorem dfQ_zero {es : List E} {f : Nat} {x p : Int} {q : Sr × Int} : dfQ es f x p q 0 = opn x p q := rfl
theorem dfQ_next {es : List E} {f : Nat} {x p y : Int} {q : Sr × Int} {i : Nat} (h : (nbr es x)[i]? = some y) : dfQ es f x p q (i + 1) = step1 (fun y q => dfs es f y x q) x p (dfQ es f x p q i) y := foldl_snoc _ h _
theorem dfQ_all {es : List E} {f : Nat} {x p : Int} {q : Sr × Int} : dfQ es f x p q (nbr es x).length = dfs es (f + 1) x p q := by unfold dfQ; rw [List.take_length]; rfl
theorem DfP.next {n : Int} {es : List E} {f : Nat} {x p y : Int} {q : Sr × Int} (hE : ∀ e ∈ es, EIn n e) (h : DfP n es (f + 1) x p q) {i : Nat} (hy : (nbr es x)[i]? = some y) (hv : nth (dfQ es f x p q i).1.num y = 0) : DfP n es f y x (dfQ es f x p q i) := by
  obtain ⟨a, b, c, d, _⟩ := h.at hE i
  have ay := (mem_nbr hE).1 (List.mem_of_getElem? hy)
  have r := nbr_rng hE ay
  exact ⟨a, ⟨by omega, by omega⟩, hv, c, .inr ⟨h.hx.1, h.hx.2, b, ay⟩, d⟩
theorem DfP.out {n : Int} {es : List E} {f : Nat} {x p : Int} {q : Sr × Int} (hE : ∀ e ∈ es, EIn n e) (h : DfP n es f x p q) : Wf n es (dfs es f x p q) := (dfs_ok hE f x p q h.wf h.hx h.hv h.hf h.hp h.fr).1
theorem wf_cnt {n : Int} {es : List E} {q : Sr × Int} (w : Wf n es q) (hn : 1 ≤ n) : 0 ≤ q.2 ∧ q.2 ≤ n := by
  have := w.num 0 (Int.le_refl _) (by omega)
  have := w.tot
  omega
theorem find_is {n : Int} {es : List E} (hv : GV n es) : ∀ (f : Nat) (x p : Int) (s : Sr) (c : Int) (t u : Bool), DfP n es f x p (s, c) →
    MCall prog fid_p_impl_Search_find [.pw [.ow u 1 (encI s.num), .ow u 1 (encI s.par), .ow u 1 (encI s.low)], Gr t n es, .i .i64 x, .i .i64 p, .i .i64 c]
      (fun o r => o = [.pw [.ow true 1 (encI (dfs es f x p (s, c)).1.num), .ow true 1 (encI (dfs es f x p (s, c)).1.par), .ow true 1 (encI (dfs es f x p (s, c)).1.low)], .u, .u, .u, .u] ∧ r = .i .i64 (dfs es f x p (s, c)).2)
  | 0, x, p, s, c, t, u, h => (h.no hv.2.2.2.1).elim
  | f + 1, x, p, s, c, t, u, h => by
    have hE := hv.2.2.2.1
    have hn1 := hv.1
    have hn16 := hv.2.1
    have hat := h.at hE
    have hnx := fun (i : Nat) (y : Int) hy => h.next hE (i := i) (y := y) hy
    have hx := h.hx
    have ll := nbr_len hv x
    have hcn := wf_cnt h.wf hn1
    have w1 := h.wf.l1
    have w2 := h.wf.l2
    have w3 := h.wf.l3
    simp only at w1 w2 w3 hcn
    have qn := fun (i : Nat) (y : Int) hy => dfQ_next (es := es) (f := f) (x := x) (p := p) (q := (s, c)) (i := i) (y := y) hy
    rw [← dfQ_all]
    have q0 := dfQ_zero (es := es) (f := f) (x := x) (p := p) (q := (s, c))
    generalize dfQ es f x p (s, c) = Q at *
    refine MCall.run mixed get_p_impl_Search_find ok_p_impl_Search_find (Nat.le_of_ble_eq_true rfl) (by decide) ?_
    unfold mc_p_impl_Search_find
    have c1 : (0 ≤ x) = True := eq_true hx.1
    have c2 : (x < (n.toNat : Int)) = True := eq_true (by omega)
    have d2 : (x.toNat < n.toNat) = True := eq_true (by omega)
    have gn := goneS (show s.num[x.toNat]? = some (nth s.num x) from nth_some ⟨hx.1, by omega⟩)
    have gp := goneS (show s.par[x.toNat]? = some (nth s.par x) from nth_some ⟨hx.1, by omega⟩)
    have gl := goneS (show s.low[x.toNat]? = some (nth s.low x) from nth_some ⟨hx.1, by omega⟩)
    simp (maxSteps := 9999999) -implicitDefEqProofs only [go_sem, mwp_draw, w1, w2, w3, c1, c2, d2, ↓gn, ↓gp, ↓gl]
    repeat (refine ⟨by first | omega | decide | exact fits64 (by omega) (by omega) | kernel_rfl | (intros; omega), ?_⟩)
    refine callK_is (neighbors_is _ n es x hv) ?_
    have nrg : ∀ y ∈ nbr es x, 0 ≤ y ∧ y < n := fun y hy => by have := nbr_rng hE ((mem_nbr hE).1 hy); omega
    generalize hN : nbr es x = nb at *
    simp (maxSteps := 9999999) -implicitDefEqProofs only [go_sem, mwp_draw, w1, w2, w3]
    refine mwp_loopk (X := Nat × Bool) (fun i => ⟨[(0, .pr 0 0 0), (2, .i .i64 x), (3, .i .i64 p), (4, .i .i64 (Q i.1).2), (6, .pr 1 0 0), (38, .sr 2 0 nb.length), (39, .i .i64 nb.length), (40, .i .i64 (i.1 : Int))],
        [(0, .box [.sr 3 0 n.toNat, .sr 4 0 n.toNat, .sr 5 0 n.toNat]), (1, .box [.i .i64 n, .s t 2 (encE es)]), (2, .arr true 1 (encI nb)), (3, .arr i.2 1 (encI (Q i.1).1.num)), (4, .arr i.2 1 (encI (Q i.1).1.par)), (5, .arr i.2 1 (encI (Q i.1).1.low))], 6⟩)
      (fun i => i.1 ≤ nb.length) (fun i => nb.length - i.1) (0, u) (by rw [q0]; kernel_rfl) (Nat.zero_le _) ?_
    rintro ⟨i, b⟩ h1 K kN kE kR
    simp only at h1 ⊢
    have wq := (hat i).1
    have cq := wf_cnt wq hn1
    by_cases hi : i < nb.length
    · obtain ⟨y, hy⟩ : ∃ y, nb[i]? = some y := ⟨_, List.getElem?_eq_getElem hi⟩
      have ry := nrg y (List.mem_of_getElem? hy)
      have gy := goneS hy
      have nx := qn i y hy
      have dn := hnx i y hy
      have q1 := wq.l1
      have q2 := wq.l2
      have q3 := wq.l3
      have lx := wq.low x hx.1 hx.2
      have ny := wq.num y ry.1 ry.2
      generalize Q i = q at *
      have k1 : ((i : Int) < nb.length) = True := eq_true (by omega)
      have k2 : (i < nb.length) = True := eq_true hi
      have y1 : (0 ≤ y) = True := eq_true ry.1
      have y2 : (y < (n.toNat : Int)) = True := eq_true (by omega)
      have y3 : (y.toNat < n.toNat) = True := eq_true (by omega)
      have gny := goneS (show q.1.num[y.toNat]? = some (nth q.1.num y) from nth_some ⟨ry.1, by omega⟩)
      have glx := goneS (show q.1.low[x.toNat]? = some (nth q.1.low x) from nth_some ⟨hx.1, by omega⟩)
      by_cases v0 : nth q.1.num y = 0
      · have e0 : (nth q.1.num y = 0) = True := eq_true v0
        have D : DfP n es f y x (q.1, q.2) := dn v0
        have ih := fun t u => find_is hv f y x q.1 q.2 t u D
        have wr := D.out hE
        have nx' : Q (i + 1) = (⟨(dfs es f y x (q.1, q.2)).1.num, (dfs es f y x (q.1, q.2)).1.par, (dfs es f y x (q.1, q.2)).1.low.set x.toNat (min (nth (dfs es f y x (q.1, q.2)).1.low x) (nth (dfs es f y x (q.1, q.2)).1.low y))⟩, (dfs es f y x (q.1, q.2)).2) := by
          rw [nx]; unfold step1; rw [if_pos v0]
        generalize dfs es f y x (q.1, q.2) = r at *
        have r1 := wr.l1
        have r2 := wr.l2
        have r3 := wr.l3
        have grx := goneS (show r.1.low[x.toNat]? = some (nth r.1.low x) from nth_some ⟨hx.1, by omega⟩)
        have gry := goneS (show r.1.low[y.toNat]? = some (nth r.1.low y) from nth_some ⟨ry.1, by omega⟩)
        simp (maxSteps := 9999999) -implicitDefEqProofs only [go_sem, mwp_draw, c1, c2, d2, k1, k2, y1, y2, y3, e0, q1, q2, q3, ↓gy, ↓gny, ↓glx]
        repeat (refine ⟨by first | omega | decide | exact fits64 (by omega) (by omega) | kernel_rfl | (intros; omega), ?_⟩)
        refine callK_det (ih _ _) ?_
        simp (maxSteps := 9999999) -implicitDefEqProofs only [go_sem, mwp_draw, c1, c2, d2, k1, k2, y1, y2, y3, e0, q1, q2, q3, r1, r2, r3, ↓gy, ↓gny, ↓grx, ↓gry]
        repeat (refine ⟨by first | omega | decide | exact fits64 (by omega) (by omega) | kernel_rfl | (intros; omega), ?_⟩)
        exact kN _ (i + 1, true) (by rw [nx']; kernel_rfl) (by simp only; omega) (by simp only; omega)
      · have e0 : (nth q.1.num y = 0) = False := eq_false v0
        by_cases yp : y = p
        · have e1 : (y = p) = True := eq_true yp
          have nx' : Q (i + 1) = q := by rw [nx]; unfold step1; rw [if_neg v0, if_pos yp]
          simp (maxSteps := 9999999) -implicitDefEqProofs only [go_sem, mwp_draw, c1, c2, d2, k1, k2, y1, y2, y3, e0, e1, q1, q2, q3, ↓gy, ↓gny, ↓glx]
          repeat (refine ⟨by first | omega | decide | exact fits64 (by omega) (by omega) | kernel_rfl | (intros; omega), ?_⟩)
          exact kN _ (i + 1, b) (by rw [nx']; kernel_rfl) (by simp only; omega) (by simp only; omega)
        · have e1 : (y = p) = False := eq_false yp
          have nx' : Q (i + 1) = (⟨q.1.num, q.1.par, q.1.low.set x.toNat (min (nth q.1.low x) (nth q.1.num y))⟩, q.2) := by rw [nx]; unfold step1; rw [if_neg v0, if_neg yp]
          simp (maxSteps := 9999999) -implicitDefEqProofs only [go_sem, mwp_draw, c1, c2, d2, k1, k2, y1, y2, y3, e0, e1, q1, q2, q3, ↓gy, ↓gny, ↓glx]
          repeat (refine ⟨by first | omega | decide | exact fits64 (by omega) (by omega) | kernel_rfl | (intros; omega), ?_⟩)
          exact kN _ (i + 1, b) (by rw [nx']; kernel_rfl) (by simp only; omega) (by simp only; omega)
    · obtain rfl : i = nb.length := by omega
      have k1 : ((nb.length : Int) < nb.length) = False := eq_false (by omega)
      have q1 := wq.l1
      have q2 := wq.l2
      have q3 := wq.l3
      simp (maxSteps := 9999999) -implicitDefEqProofs only [go_sem, mwp_draw, k1]
      refine kE _ _ ?_
      clear kN kE kR
      have t1 : (Q nb.length).1.num.take n.toNat = (Q nb.length).1.num := List.take_of_length_le (by omega)
      have t2 : (Q nb.length).1.par.take n.toNat = (Q nb.length).1.par := List.take_of_length_le (by omega)
      have t3 : (Q nb.length).1.low.take n.toNat = (Q nb.length).1.low := List.take_of_length_le (by omega)
      simp (maxSteps := 9999999) -implicitDefEqProofs only [go_sem, mwp_draw, q1, q2, q3, t1, t2, t3]
      repeat (refine ⟨by first | omega | decide | exact fits64 (by omega) (by omega) | kernel_rfl | (intros; omega), ?_⟩)
      first | done | rfl | exact ⟨rfl, rfl⟩
end Go.Fw
