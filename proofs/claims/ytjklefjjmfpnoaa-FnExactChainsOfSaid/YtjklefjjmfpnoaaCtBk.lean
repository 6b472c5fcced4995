/-
  Edges that lead back, in order.
-/
import Derived.Test.YtjklefjjmfpnoaaCtDf2
namespace Go.Fw
set_option linter.unusedSimpArgs false
set_option linter.unusedVariables false
set_option maxRecDepth 100000
set_option maxHeartbeats 8000000
open Go.Proofs.Try (prog)
open Go.Pl

abbrev Sv (t1 t2 t3 : Bool) (s : Sr) : MV := .agg [.s t1 1 (encI s.num), .s t2 1 (encI s.par), .s t3 1 (encI s.low)]
def bkP (s : Sr) (u v : Int) : Bool := decide (nth s.num u < nth s.num v) && !decide (nth s.par v = u)
def bkF (es : List E) (s : Sr) (u : Int) (j : Nat) : List E := (((nbr es u).take j).filter (bkP s u)).map fun v => (u, v)
def bkL (n : Int) (es : List E) (s : Sr) (i : Nat) : List E := ((ordL n s).take i).flatMap fun u => (bks es s u).map fun v => (u, v)
theorem bkF_next {es : List E} {s : Sr} {u : Int} {j : Nat} {v : Int} (h : (nbr es u)[j]? = some v) : bkF es s u (j + 1) = bkF es s u j ++ if bkP s u v then [(u, v)] else [] := by
  unfold bkF
  rw [take_snoc h, List.filter_append, List.map_append]
  cases q : bkP s u v <;> simp [q]
theorem bkF_all {es : List E} {s : Sr} {u : Int} : bkF es s u (nbr es u).length = (bks es s u).map fun v => (u, v) := by
  unfold bkF; rw [List.take_length]; rfl
theorem bkF_len {es : List E} {s : Sr} {u : Int} {j : Nat} : (bkF es s u j).length ≤ j := by
  unfold bkF
  rw [List.length_map]
  exact Nat.le_trans (List.length_filter_le _ _) (by simp; omega)
theorem bkL_next {n : Int} {es : List E} {s : Sr} {i : Nat} {u : Int} (h : (ordL n s)[i]? = some u) : bkL n es s (i + 1) = bkL n es s i ++ (bks es s u).map fun v => (u, v) := by
  unfold bkL; rw [take_snoc h, List.flatMap_append]; simp
theorem bkL_len {n : Int} {es : List E} (hv : GV n es) {s : Sr} : ∀ {i : Nat}, i ≤ (ordL n s).length → (bkL n es s i).length ≤ 16 * i
  | 0, _ => by simp [bkL]
  | i + 1, hi => by
    obtain ⟨u, hu⟩ : ∃ u, (ordL n s)[i]? = some u := ⟨_, List.getElem?_eq_getElem (by omega)⟩
    have ih := bkL_len hv (s := s) (i := i) (by omega)
    have a : (bks es s u).length ≤ 16 := Nat.le_trans (List.length_filter_le _ _) (nbr_len hv u)
    rw [bkL_next hu, List.length_append, List.length_map]; omega
theorem bkL_all {n : Int} {es : List E} {s : Sr} : bkL n es s (ordL n s).length = backL n es s := by unfold bkL; rw [List.take_length]; rfl

theorem l9Order_is (t1 t2 t3 : Bool) (n : Int) (es : List E) (s : Sr) (hv : GV n es) (h : NF n es s) : Is prog fid_spec_l9Order [Sv t1 t2 t3 s] (.ow true 1 (encI (ordL n s))) := by
  have hn1 := hv.1
  have hn16 := hv.2.1
  have w1 := h.l1
  refine MCall.run mixed get_spec_l9Order ok_spec_l9Order (Nat.le_of_ble_eq_true rfl) (by decide) ?_
  unfold mc_spec_l9Order
  simp (maxSteps := 9999999) -implicitDefEqProofs only [go_sem, mwp_draw, w1]
  repeat (refine ⟨by first | omega | decide | exact fits64 (by omega) (by omega) | kernel_rfl | (intros; omega), ?_⟩)
  refine mwp_loopk (X := Nat) (fun i => ⟨[(1, .pr 0 0 0), (3, .sr 1 0 n.toNat), (4, .i .i64 i)], [(0, .box [.s t1 1 (encI s.num), .s t2 1 (encI s.par), .s t3 1 (encI s.low)]), (1, .arr true 1 (encI (ordF s i (List.replicate n.toNat 0))))], 2⟩)
    (fun i => i ≤ n.toNat) (fun i => n.toNat - i) 0 (by kernel_rfl) (Nat.zero_le _) ?_
  rintro i h1 K kN kE kR
  have lo := (h.ordF (o := List.replicate n.toNat 0) (by simp) i (by omega)).1
  by_cases hi : i < n.toNat
  · have nx := ordF_next s i (List.replicate n.toNat 0)
    have gn := goneS (show s.num[i]? = some (nth s.num i) by have := nth_some (l := s.num) (x := (i : Int)) ⟨by omega, by omega⟩; simpa using this)
    have hr := h.num i (by omega) (by omega)
    have c1 : ((i : Int) < (n.toNat : Int)) = True := eq_true (by omega)
    have c2 : (i < n.toNat) = True := eq_true hi
    have c3 : (0 ≤ nth s.num i - 1) = True := eq_true (by omega)
    have c4 : (nth s.num i - 1 < (n.toNat : Int)) = True := eq_true (by omega)
    have c5 : ((nth s.num i - 1).toNat < n.toNat) = True := eq_true (by omega)
    have ho : ∃ z, (ordF s i (List.replicate n.toNat 0))[(nth s.num i - 1).toNat]? = some z := ⟨_, List.getElem?_eq_getElem (by omega)⟩
    obtain ⟨z, hz⟩ := ho
    have gz := goneS hz
    generalize ordF s i (List.replicate n.toNat 0) = o at *
    simp (maxSteps := 9999999) -implicitDefEqProofs only [go_sem, mwp_draw, w1, lo, c1, c2, c3, c4, c5, ↓gn, ↓gz]
    repeat (refine ⟨by first | omega | decide | exact fits64 (by omega) (by omega) | kernel_rfl | (intros; omega), ?_⟩)
    exact kN _ (i + 1) (by rw [nx]; kernel_rfl) (by omega) (by omega)
  · obtain rfl : i = n.toNat := by omega
    have c1 : ((n.toNat : Int) < (n.toNat : Int)) = False := eq_false (by omega)
    have e : ordF s n.toNat (List.replicate n.toNat 0) = ordL n s := rfl
    rw [e] at lo ⊢
    have t0 : (ordL n s).take n.toNat = ordL n s := List.take_of_length_le (by omega)
    simp (maxSteps := 9999999) -implicitDefEqProofs only [go_sem, mwp_draw, w1, c1]
    refine kE _ _ ?_
    clear kN kE kR
    simp (maxSteps := 9999999) -implicitDefEqProofs only [go_sem, mwp_draw, lo, t0]
    repeat (refine ⟨by first | omega | decide | exact fits64 (by omega) (by omega) | kernel_rfl | (intros; omega), ?_⟩)
    first | done | rfl
theorem l9Back_is (t t1 t2 t3 : Bool) (n : Int) (es : List E) (s : Sr) (u : Int) (hv : GV n es) (h : NF n es s) (hu : 0 ≤ u ∧ u < n) : Is prog fid_spec_l9Back [Gr t n es, Sv t1 t2 t3 s, .i .i64 u] (.ow true 1 (encI (bks es s u))) := by
  have hn1 := hv.1
  have hn16 := hv.2.1
  have hE := hv.2.2.2.1
  have w1 := h.l1
  have w2 := h.l2
  have ll := nbr_len hv u
  have nrg : ∀ y ∈ nbr es u, 0 ≤ y ∧ y < n := fun y hy => by have := nbr_rng hE ((mem_nbr hE).1 hy); omega
  have hb : bks es s u = (nbr es u).filter (bkP s u) := rfl
  rw [hb]
  refine MCall.run mixed get_spec_l9Back ok_spec_l9Back (Nat.le_of_ble_eq_true rfl) (by decide) ?_
  unfold mc_spec_l9Back
  simp (maxSteps := 9999999) -implicitDefEqProofs only [go_sem, mwp_draw]
  refine callK_is (l1Next_is _ n es u hv) ?_
  generalize nbr es u = nb at *
  have u1 : (0 ≤ u) = True := eq_true hu.1
  have u2 : (u < (n.toNat : Int)) = True := eq_true (by omega)
  have u3 : (u.toNat < n.toNat) = True := eq_true (by omega)
  have gu := goneS (show s.num[u.toNat]? = some (nth s.num u) from nth_some ⟨hu.1, by omega⟩)
  simp (maxSteps := 9999999) -implicitDefEqProofs only [go_sem, mwp_draw]
  refine mwp_loopk (X := Nat) (fun i => ⟨[(2, .i .i64 u), (4, .pr 0 0 0), (7, .sr 1 0 ((nb.take i).filter (bkP s u)).length), (8, .sr 2 0 nb.length), (9, .i .i64 i)], [(0, .box [.s t1 1 (encI s.num), .s t2 1 (encI s.par), .s t3 1 (encI s.low)]), (1, .arr true 1 (encI ((nb.take i).filter (bkP s u)))), (2, .arr true 1 (encI nb))], 3⟩)
    (fun i => i ≤ nb.length) (fun i => nb.length - i) 0 (by kernel_rfl) (Nat.zero_le _) ?_
  rintro i h1 K kN kE kR
  have lf : ((nb.take i).filter (bkP s u)).length ≤ i := Nat.le_trans (List.length_filter_le _ _) (by simp; omega)
  by_cases hi : i < nb.length
  · obtain ⟨v, hy⟩ : ∃ v, nb[i]? = some v := ⟨_, List.getElem?_eq_getElem hi⟩
    have rv := nrg v (List.mem_of_getElem? hy)
    have gy := goneS hy
    have gn := goneS (show s.num[v.toNat]? = some (nth s.num v) from nth_some ⟨rv.1, by omega⟩)
    have gp := goneS (show s.par[v.toNat]? = some (nth s.par v) from nth_some ⟨rv.1, by omega⟩)
    have c1 : ((i : Int) < nb.length) = True := eq_true (by omega)
    have c2 : (i < nb.length) = True := eq_true hi
    have v1 : (0 ≤ v) = True := eq_true rv.1
    have v2 : (v < (n.toNat : Int)) = True := eq_true (by omega)
    have v3 : (v.toNat < n.toNat) = True := eq_true (by omega)
    have hs : (nb.take (i + 1)).filter (bkP s u) = (nb.take i).filter (bkP s u) ++ if bkP s u v then [v] else [] := by
      rw [take_snoc hy, List.filter_append]
      cases q : bkP s u v <;> simp [q]
    by_cases a1 : nth s.num u < nth s.num v
    · have e1 : (nth s.num u < nth s.num v) = True := eq_true a1
      by_cases a2 : nth s.par v = u
      · have e2 : (nth s.par v = u) = True := eq_true a2
        rw [show bkP s u v = false by simp [bkP, a2]] at hs
        simp only [Bool.false_eq_true, if_false, List.append_nil] at hs
        simp (maxSteps := 9999999) -implicitDefEqProofs only [go_sem, mwp_draw, w1, w2, c1, c2, u1, u2, u3, v1, v2, v3, e1, e2, ↓gu, ↓gy, ↓gn, ↓gp]
        repeat (refine ⟨by first | omega | decide | exact fits64 (by omega) (by omega) | kernel_rfl | (intros; omega), ?_⟩)
        exact kN _ (i + 1) (by rw [hs]; kernel_rfl) (by omega) (by omega)
      · have e2 : (nth s.par v = u) = False := eq_false a2
        rw [show bkP s u v = true by simp [bkP, a1, a2]] at hs
        simp only [if_true] at hs
        simp (maxSteps := 9999999) -implicitDefEqProofs only [go_sem, mwp_draw, w1, w2, c1, c2, u1, u2, u3, v1, v2, v3, e1, e2, ↓gu, ↓gy, ↓gn, ↓gp]
        repeat (refine ⟨by first | omega | decide | exact fits64 (by omega) (by omega) | kernel_rfl | (intros; omega), ?_⟩)
        exact kN _ (i + 1) (by rw [hs]; simp only [List.length_append]; kernel_rfl) (by omega) (by omega)
    · have e1 : (nth s.num u < nth s.num v) = False := eq_false a1
      rw [show bkP s u v = false by simp [bkP, a1]] at hs
      simp only [Bool.false_eq_true, if_false, List.append_nil] at hs
      simp (maxSteps := 9999999) -implicitDefEqProofs only [go_sem, mwp_draw, w1, w2, c1, c2, u1, u2, u3, v1, v2, v3, e1, ↓gu, ↓gy, ↓gn, ↓gp]
      repeat (refine ⟨by first | omega | decide | exact fits64 (by omega) (by omega) | kernel_rfl | (intros; omega), ?_⟩)
      exact kN _ (i + 1) (by rw [hs]; kernel_rfl) (by omega) (by omega)
  · obtain rfl : i = nb.length := by omega
    have c1 : ((nb.length : Int) < nb.length) = False := eq_false (by omega)
    rw [List.take_length]
    simp (maxSteps := 9999999) -implicitDefEqProofs only [go_sem, mwp_draw, c1]
    refine kE _ _ ?_
    clear kN kE kR
    simp (maxSteps := 9999999) -implicitDefEqProofs only [go_sem, mwp_draw]
    repeat (refine ⟨by first | omega | decide | exact fits64 (by omega) (by omega) | kernel_rfl | (intros; omega), ?_⟩)
    first | done | rfl
theorem backs_is (t t1 t2 t3 : Bool) (n : Int) (es : List E) (s : Sr) (hv : GV n es) (h : NF n es s) : Is prog fid_impl_Graph_backs [Gr t n es, Sv t1 t2 t3 s] (.ow true 2 (encE (backL n es s))) := by
  have hn1 := hv.1
  have hn16 := hv.2.1
  have hE := hv.2.2.2.1
  have w1 := h.l1
  have w2 := h.l2
  refine MCall.run mixed get_impl_Graph_backs ok_impl_Graph_backs (Nat.le_of_ble_eq_true rfl) (by decide) ?_
  unfold mc_impl_Graph_backs
  simp (maxSteps := 9999999) -implicitDefEqProofs only [go_sem, mwp_draw]
  repeat (refine ⟨by first | omega | decide | exact fits64 (by omega) (by omega) | kernel_rfl | (intros; omega), ?_⟩)
  refine mwp_loopk (X := Nat) (fun i => ⟨[(2, .pr 0 0 0), (3, .pr 1 0 0), (5, .sr 2 0 n.toNat), (17, .s t1 1 (encI s.num)), (18, .i .i64 s.num.length), (19, .i .i64 i)], [(0, .box [.i .i64 n, .s t 2 (encE es)]), (1, .box [.s t1 1 (encI s.num), .s t2 1 (encI s.par), .s t3 1 (encI s.low)]), (2, .arr true 1 (encI (ordF s i (List.replicate n.toNat 0))))], 3⟩)
    (fun i => i ≤ n.toNat) (fun i => n.toNat - i) 0 (by kernel_rfl) (Nat.zero_le _) ?_
  rintro i h1 K kN kE kR
  have lo := (h.ordF (o := List.replicate n.toNat 0) (by simp) i (by omega)).1
  by_cases hi : i < n.toNat
  · have nx := ordF_next s i (List.replicate n.toNat 0)
    have gn := goneS (show s.num[i]? = some (nth s.num i) by have := nth_some (l := s.num) (x := (i : Int)) ⟨by omega, by omega⟩; simpa using this)
    have hr := h.num i (by omega) (by omega)
    have c1 : ((i : Int) < (s.num.length : Int)) = True := eq_true (by omega)
    have c2 : (i < s.num.length) = True := eq_true (by omega)
    have c3 : (0 ≤ nth s.num i - 1) = True := eq_true (by omega)
    have c4 : (nth s.num i - 1 < (n.toNat : Int)) = True := eq_true (by omega)
    have c5 : ((nth s.num i - 1).toNat < n.toNat) = True := eq_true (by omega)
    have ho : ∃ z, (ordF s i (List.replicate n.toNat 0))[(nth s.num i - 1).toNat]? = some z := ⟨_, List.getElem?_eq_getElem (by omega)⟩
    obtain ⟨z, hz⟩ := ho
    have gz := goneS hz
    generalize ordF s i (List.replicate n.toNat 0) = o at *
    simp (maxSteps := 9999999) -implicitDefEqProofs only [go_sem, mwp_draw, lo, c1, c2, c3, c4, c5, ↓gn, ↓gz]
    repeat (refine ⟨by first | omega | decide | exact fits64 (by omega) (by omega) | kernel_rfl | (intros; omega), ?_⟩)
    exact kN _ (i + 1) (by rw [nx]; kernel_rfl) (by omega) (by omega)
  · obtain rfl : i = n.toNat := by omega
    have c1 : ((n.toNat : Int) < (s.num.length : Int)) = False := eq_false (by omega)
    have e : ordF s n.toNat (List.replicate n.toNat 0) = ordL n s := rfl
    rw [e] at lo ⊢
    simp (maxSteps := 9999999) -implicitDefEqProofs only [go_sem, mwp_draw, c1]
    refine kE _ _ ?_
    clear kN kE kR
    have ol := h.ord_len
    have oat := fun i hi => h.ord_at (i := i) hi
    have bnx := fun i u hu => bkL_next (n := n) (es := es) (s := s) (i := i) (u := u) hu
    have bln := fun i hi => bkL_len hv (s := s) (i := i) hi
    have b0 : bkL n es s 0 = [] := rfl
    rw [← bkL_all]
    generalize bkL n es s = B at *
    generalize ordL n s = od at *
    simp (maxSteps := 9999999) -implicitDefEqProofs only [go_sem, mwp_draw]
    refine mwp_loopk (X := Nat) (fun i => ⟨[(2, .pr 0 0 0), (3, .pr 1 0 0), (8, .sr 2 0 (B i).length), (31, .sr 3 0 n.toNat), (32, .i .i64 n.toNat), (33, .i .i64 i)],
        [(0, .box [.i .i64 n, .s t 2 (encE es)]), (1, .box [.s t1 1 (encI s.num), .s t2 1 (encI s.par), .s t3 1 (encI s.low)]), (2, .arr true 2 (encE (B i))), (3, .arr true 1 (encI od))], 4⟩)
      (fun i => i ≤ n.toNat) (fun i => n.toNat - i) 0 (by rw [b0]; kernel_rfl) (Nat.zero_le _) ?_
    rintro i h2 K kN kE kR
    by_cases hi : i < n.toNat
    · obtain ⟨u, hu, u0, u1', un⟩ := oat i hi
      have gu := goneS hu
      have bl := bln i (by omega)
      have bn := bnx i u hu
      have c1 : ((i : Int) < (n.toNat : Int)) = True := eq_true (by omega)
      have c2 : (i < n.toNat) = True := eq_true hi
      simp (maxSteps := 9999999) -implicitDefEqProofs only [go_sem, mwp_draw, ol, c1, c2, ↓gu]
      repeat (refine ⟨by first | omega | decide | exact fits64 (by omega) (by omega) | kernel_rfl | (intros; omega), ?_⟩)
      refine callK_is (neighbors_is _ n es u hv) ?_
      have ll := nbr_len hv u
      have nrg : ∀ y ∈ nbr es u, 0 ≤ y ∧ y < n := fun y hy => by have := nbr_rng hE ((mem_nbr hE).1 hy); omega
      have fnx := fun j v hy => bkF_next (es := es) (s := s) (u := u) (j := j) (v := v) hy
      have fln := fun j => bkF_len (es := es) (s := s) (u := u) (j := j)
      have f0 : bkF es s u 0 = [] := rfl
      rw [← bkF_all] at bn
      generalize bkF es s u = F at *
      generalize nbr es u = nb at *
      simp (maxSteps := 9999999) -implicitDefEqProofs only [go_sem, mwp_draw]
      have u1 : (0 ≤ u) = True := eq_true u0
      have u2 : (u < (n.toNat : Int)) = True := eq_true (by omega)
      have u3 : (u.toNat < n.toNat) = True := eq_true (by omega)
      have gnu := goneS (show s.num[u.toNat]? = some (nth s.num u) from nth_some ⟨u0, by omega⟩)
      refine mwp_loopk (X := Nat) (fun j => ⟨[(2, .pr 0 0 0), (3, .pr 1 0 0), (8, .sr 2 0 (B i ++ F j).length), (10, .i .i64 u), (31, .sr 3 0 n.toNat), (32, .i .i64 n.toNat), (33, .i .i64 i), (39, .sr 4 0 nb.length), (40, .i .i64 nb.length), (41, .i .i64 j)],
          [(0, .box [.i .i64 n, .s t 2 (encE es)]), (1, .box [.s t1 1 (encI s.num), .s t2 1 (encI s.par), .s t3 1 (encI s.low)]), (2, .arr true 2 (encE (B i ++ F j))), (3, .arr true 1 (encI od)), (4, .arr true 1 (encI nb))], 5⟩)
        (fun j => j ≤ nb.length) (fun j => nb.length - j) 0 (by rw [f0, List.append_nil]; kernel_rfl) (Nat.zero_le _) ?_
      rintro j h3 K' kN' kE' kR'
      have fl := fln j
      have al : (B i ++ F j).length ≤ 1000 := by rw [List.length_append]; omega
      by_cases hj : j < nb.length
      · obtain ⟨v, hy⟩ : ∃ v, nb[j]? = some v := ⟨_, List.getElem?_eq_getElem hj⟩
        have rv := nrg v (List.mem_of_getElem? hy)
        have gy := goneS hy
        have gn := goneS (show s.num[v.toNat]? = some (nth s.num v) from nth_some ⟨rv.1, by omega⟩)
        have gp := goneS (show s.par[v.toNat]? = some (nth s.par v) from nth_some ⟨rv.1, by omega⟩)
        have k1 : ((j : Int) < nb.length) = True := eq_true (by omega)
        have k2 : (j < nb.length) = True := eq_true hj
        have v1 : (0 ≤ v) = True := eq_true rv.1
        have v2 : (v < (n.toNat : Int)) = True := eq_true (by omega)
        have v3 : (v.toNat < n.toNat) = True := eq_true (by omega)
        have hs := fnx j v hy
        have hs2 : B i ++ F (j + 1) = (B i ++ F j) ++ if bkP s u v then [(u, v)] else [] := by rw [hs, List.append_assoc]
        generalize B i ++ F j = o at *
        by_cases a1 : nth s.num u < nth s.num v
        · have e1 : (nth s.num u < nth s.num v) = True := eq_true a1
          by_cases a2 : nth s.par v = u
          · have e2 : (nth s.par v = u) = True := eq_true a2
            rw [show bkP s u v = false by simp [bkP, a2]] at hs2
            simp only [Bool.false_eq_true, if_false, List.append_nil] at hs2
            simp (maxSteps := 9999999) -implicitDefEqProofs only [go_sem, mwp_draw, w1, w2, k1, k2, u1, u2, u3, v1, v2, v3, e1, e2, ↓gnu, ↓gy, ↓gn, ↓gp]
            repeat (refine ⟨by first | omega | decide | exact fits64 (by omega) (by omega) | kernel_rfl | (intros; omega), ?_⟩)
            exact kN' _ (j + 1) (by rw [hs2]; kernel_rfl) (by omega) (by omega)
          · have e2 : (nth s.par v = u) = False := eq_false a2
            rw [show bkP s u v = true by simp [bkP, a1, a2]] at hs2
            simp only [if_true] at hs2
            simp (maxSteps := 9999999) -implicitDefEqProofs only [go_sem, mwp_draw, w1, w2, k1, k2, u1, u2, u3, v1, v2, v3, e1, e2, ↓gnu, ↓gy, ↓gn, ↓gp]
            repeat (refine ⟨by first | omega | decide | exact fits64 (by omega) (by omega) | kernel_rfl | (intros; omega), ?_⟩)
            exact kN' _ (j + 1) (by rw [hs2, List.length_append]; kernel_rfl) (by omega) (by omega)
        · have e1 : (nth s.num u < nth s.num v) = False := eq_false a1
          rw [show bkP s u v = false by simp [bkP, a1]] at hs2
          simp only [Bool.false_eq_true, if_false, List.append_nil] at hs2
          simp (maxSteps := 9999999) -implicitDefEqProofs only [go_sem, mwp_draw, w1, w2, k1, k2, u1, u2, u3, v1, v2, v3, e1, ↓gnu, ↓gy, ↓gn, ↓gp]
          repeat (refine ⟨by first | omega | decide | exact fits64 (by omega) (by omega) | kernel_rfl | (intros; omega), ?_⟩)
          exact kN' _ (j + 1) (by rw [hs2]; kernel_rfl) (by omega) (by omega)
      · obtain rfl : j = nb.length := by omega
        have k1 : ((nb.length : Int) < nb.length) = False := eq_false (by omega)
        rw [← bn]
        simp (maxSteps := 9999999) -implicitDefEqProofs only [go_sem, mwp_draw, k1]
        refine kE' _ _ ?_
        clear kN' kE' kR'
        simp (maxSteps := 9999999) -implicitDefEqProofs only [go_sem, mwp_draw]
        repeat (refine ⟨by first | omega | decide | exact fits64 (by omega) (by omega) | kernel_rfl | (intros; omega), ?_⟩)
        exact kN _ (i + 1) (by kernel_rfl) (by omega) (by omega)
    · obtain rfl : i = n.toNat := by omega
      have c1 : ((n.toNat : Int) < (n.toNat : Int)) = False := eq_false (by omega)
      simp (maxSteps := 9999999) -implicitDefEqProofs only [go_sem, mwp_draw, c1]
      refine kE _ _ ?_
      clear kN kE kR
      rw [ol]
      simp (maxSteps := 9999999) -implicitDefEqProofs only [go_sem, mwp_draw]
      repeat (refine ⟨by first | omega | decide | exact fits64 (by omega) (by omega) | kernel_rfl | (intros; omega), ?_⟩)
      first | done | rfl
end Go.Fw
