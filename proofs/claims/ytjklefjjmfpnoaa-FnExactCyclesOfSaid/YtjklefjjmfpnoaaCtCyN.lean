/-
  Cycles of a graph, both sides; the program's lie in memory of their own.
-/
import Derived.Test.YtjklefjjmfpnoaaCtBk
import Derived.Test.YtjklefjjmfpnoaaCtChN
import Derived.Test.YtjklefjjmfpnoaaPlY
import Derived.Test.YtjklefjjmfpnoaaCtNe
namespace Go.Fw
set_option linter.unusedSimpArgs false
set_option linter.unusedVariables false
set_option maxRecDepth 100000
set_option maxHeartbeats 8000000
open Go.Proofs.Try (prog)
open Go.Pl

def cyV (n : Int) (es : List E) : List (List Int) := if gvB n es = true then cycL n es (srch n es).1 else []
theorem cyc_two {n : Int} {es : List E} {s : Sr} (h : NF n es s) (hE : ∀ e ∈ es, EIn n e) {b : E} (hb : b ∈ backL n es s) : (cyc n s b)[0]? = some b.1 ∧ (cyc n s b)[1]? = some b.2 := by
  obtain ⟨_, _, _, hn⟩ := h.back_ok hE hb
  unfold cyc
  rw [cyW, if_neg (fun e => hn e.symm)]
  exact ⟨rfl, rfl⟩
theorem cyV_form {n : Int} {es : List E} {c : List Int} (hc : c ∈ cyV n es) : GV n es ∧ ChF n es (clo c) ∧ 2 ≤ c.length ∧ c.length ≤ 16 ∧ c.Nodup := by
  unfold cyV at hc
  by_cases hg : gvB n es = true
  · rw [if_pos hg] at hc
    have hv := gvB_iff.1 hg
    have hn1 := hv.1
    have hn2 := hv.2.1
    have h := srch_nf hv.2.2.2.1 (by omega : 0 ≤ n)
    obtain ⟨b, hb, rfl⟩ := List.mem_map.1 hc
    obtain ⟨ws, e1, _, e2, _, f⟩ := h.cyc_form hv.2.2.2.1 hb
    have t := (cyc_two h hv.2.2.2.1 hb).2
    have l2 := (List.getElem?_eq_some_iff.1 t).1
    have le := f.le
    have one := f.one
    have ll : (clo (cyc n (srch n es).1 b)).length = (cyc n (srch n es).1 b).length + 1 := by unfold clo; simp
    refine ⟨hv, f, by omega, by omega, ?_⟩
    unfold clo at one
    rw [List.dropLast_concat] at one
    exact one
  · rw [if_neg hg] at hc; simp at hc
theorem cyV_len {n : Int} {es : List E} : (cyV n es).length ≤ 256 := by
  unfold cyV
  by_cases hg : gvB n es = true
  · rw [if_pos hg]
    have hv := gvB_iff.1 hg
    have hn1 := hv.1
    have := back_len hv (srch_nf hv.2.2.2.1 (by omega : 0 ≤ n))
    simpa [cycL] using this
  · rw [if_neg hg]; simp
theorem cyV_each {n : Int} {es : List E} {c : List Int} (hc : c ∈ cyV n es) : c.length ≤ 1000 := by have := (cyV_form hc).2.2.2.1; omega
theorem cyV_no {n : Int} {es : List E} (hg : gvB n es = false) : cyV n es = [] := by simp [cyV, hg]
/-- The invariant of the way up: what is gathered, and what is still to come. -/
structure CyI (n : Int) (s : Sr) (u : Int) (R : List Int) (f : Nat) (a : Int) (c : List Int) : Prop where
  a0 : 0 ≤ a
  a1 : a < n
  an : Anc s u a
  hf : nth s.num a - nth s.num u < f
  res : c ++ cyW s u f a = R
  cl : c.length + f ≤ n.toNat + 3
theorem CyI.init {n : Int} {s : Sr} {es : List E} (h : NF n es s) {b : E} (u0 : 0 ≤ b.1 ∧ b.1 < n) (v0 : 0 ≤ b.2 ∧ b.2 < n) (ha : Anc s b.1 b.2) : CyI n s b.1 (cyc n s b) (n.toNat + 1) b.2 [b.1] := by
  have n1 := h.num b.1 u0.1 u0.2
  have n2 := h.num b.2 v0.1 v0.2
  exact ⟨v0.1, v0.2, ha, by omega, rfl, by simp; omega⟩
theorem CyI.pos {n : Int} {es : List E} {s : Sr} (h : NF n es s) {u a : Int} {R : List Int} {f : Nat} {c : List Int} (w : CyI n s u R f a c) : 0 < f := by
  have := h.le w.an w.a0 w.a1
  have := w.hf
  omega
theorem CyI.stop {n : Int} {es : List E} {s : Sr} (h : NF n es s) {u : Int} {R : List Int} {f : Nat} {c : List Int} (w : CyI n s u R f u c) : R = c := by
  have p := w.pos h
  obtain ⟨f, rfl⟩ : ∃ g, f = g + 1 := ⟨f - 1, by omega⟩
  rw [← w.res, cyW, if_pos rfl, List.append_nil]
theorem CyI.go {n : Int} {es : List E} {s : Sr} (h : NF n es s) {u a : Int} {R : List Int} {f : Nat} {c : List Int} (w : CyI n s u R f a c) (q : a ≠ u) : CyI n s u R (f - 1) (nth s.par a) (c ++ [a]) := by
  have p := w.pos h
  obtain ⟨f, rfl⟩ : ∃ g, f = g + 1 := ⟨f - 1, by omega⟩
  obtain ⟨p0, r'⟩ := w.an.step (fun e => q e.symm)
  have pp := h.up_par w.a0 w.a1 p0
  have hf := w.hf
  have cl := w.cl
  refine ⟨p0, pp.1, r', by omega, ?_, by rw [List.length_append, List.length_singleton]; omega⟩
  rw [← w.res, cyW, if_neg q]
  simp
def cyQ (n : Int) (es : List E) (s : Sr) (i : Nat) : List (List Int) := ((backL n es s).take i).map (cyc n s)
theorem cyQ_next {n : Int} {es : List E} {s : Sr} {i : Nat} {b : E} (h : (backL n es s)[i]? = some b) : cyQ n es s (i + 1) = cyQ n es s i ++ [cyc n s b] := by
  unfold cyQ; rw [take_snoc h, List.map_append]; rfl
theorem cyQ_all {n : Int} {es : List E} {s : Sr} : cyQ n es s (backL n es s).length = cycL n es s := by unfold cyQ cycL; rw [List.take_length]
theorem cyQ_len {n : Int} {es : List E} {s : Sr} {i : Nat} (hi : i ≤ (backL n es s).length) : (cyQ n es s i).length = i := by
  unfold cyQ; rw [List.length_map, List.length_take]; omega

theorem CyclesOf_is (t : Bool) (n : Int) (es : List E) (hl : es.length ≤ 1048576) : MCall prog fid_impl_CyclesOf [Gr t n es]
    (fun o r => o = [.u] ∧ ((gvB n es = false ∧ r = .ow true 1 []) ∨ (gvB n es = true ∧ ∃ hs, r = .on hs 1 (rwI (cyV n es))))) := by
  refine MCall.run mixed get_impl_CyclesOf ok_impl_CyclesOf (Nat.le_of_ble_eq_true rfl) (by decide) ?_
  unfold mc_impl_CyclesOf
  simp (maxSteps := 9999999) -implicitDefEqProofs only [go_sem, mwp_draw]
  refine callK_is (GraphValid_is _ n es hl) ?_
  cases hg : gvB n es with
  | false =>
    simp (maxSteps := 9999999) -implicitDefEqProofs only [go_sem, mwp_draw]
    first | done | exact .inl trivial | simp
  | true =>
    have hv := gvB_iff.1 hg
    have hn1 := hv.1
    have hn16 := hv.2.1
    have hE := hv.2.2.2.1
    simp (maxSteps := 9999999) -implicitDefEqProofs only [go_sem, mwp_draw]
    refine callK_is (search_is _ n es hv) ?_
    have ev : cyV n es = cycL n es (srch n es).1 := by unfold cyV; rw [if_pos hg]
    rw [ev]
    have h := srch_nf hE (by omega : 0 ≤ n)
    have hB := fun u1 u2 u3 => backs_is t u1 u2 u3 n es _ hv h
    generalize (srch n es).1 = s at *
    simp (maxSteps := 9999999) -implicitDefEqProofs only [go_sem, mwp_draw]
    repeat (refine ⟨by first | omega | decide | exact fits64 (by omega) (by omega) | kernel_rfl | (intros; omega), ?_⟩)
    refine callK_is (hB _ _ _) ?_
    have bl := back_len hv h
    have bok := fun b hb => h.back_ok hE (b := b) hb
    have qn := fun i b hb => cyQ_next (n := n) (es := es) (s := s) (i := i) (b := b) hb
    have ql := fun i hi => cyQ_len (n := n) (es := es) (s := s) (i := i) hi
    have q0 : cyQ n es s 0 = [] := rfl
    rw [← cyQ_all]
    generalize cyQ n es s = Q at *
    generalize backL n es s = B at *
    have w1 := h.l1
    have w2 := h.l2
    simp (maxSteps := 9999999) -implicitDefEqProofs only [go_sem, mwp_draw, w1, w2]
    refine mwp_loopk (X := Nat × List Value) (fun x => ⟨[(3, .pr 0 0 0), (4, .sr 1 0 x.1), (17, .sr 2 0 B.length), (18, .i .i64 B.length), (19, .i .i64 x.1)],
        [(0, .box [.sr 3 0 n.toNat, .sr 4 0 n.toNat, .sr 5 0 s.low.length]), (1, .nst x.2 1 (rwI (Q x.1))), (2, .arr true 2 (encE B)), (3, .arr true 1 (encI s.num)), (4, .arr true 1 (encI s.par)), (5, .arr true 1 (encI s.low))], 6⟩)
      (fun x => x.1 ≤ B.length) (fun x => B.length - x.1) (0, []) (by simp only [q0]; kernel_rfl) (Nat.zero_le _) ?_
    rintro ⟨i, hs⟩ h1 K kN kE kR
    simp only at h1 ⊢
    have l2 := ql i h1
    by_cases hi : i < B.length
    · obtain ⟨b, hb⟩ : ∃ b, B[i]? = some b := ⟨_, List.getElem?_eq_getElem hi⟩
      obtain ⟨x0, x1, xa, xn⟩ := bok b (List.mem_of_getElem? hb)
      have nx := qn i b hb
      have gb := goneS hb
      have W := CyI.init h x0 x1 xa
      generalize cyc n s b = R at *
      generalize Q i = q at *
      have c1 : ((i : Int) < B.length) = True := eq_true (by omega)
      have c2 : (i < B.length) = True := eq_true hi
      have z1 : Int.toNat 1 = 1 := rfl
      simp (maxSteps := 9999999) -implicitDefEqProofs only [go_sem, mwp_draw, l2, c1, c2, z1, ↓gb]
      repeat (refine ⟨by first | omega | decide | exact fits64 (by omega) (by omega) | kernel_rfl | (intros; omega), ?_⟩)
      refine mwp_loopk (X := Nat × Int × List Int) (fun x => ⟨[(3, .pr 0 0 0), (4, .sr 1 0 i), (6, .pr 2 0 0), (7, .sr 3 0 x.2.2.length), (8, .i .i64 x.2.1), (17, .sr 4 0 B.length), (18, .i .i64 B.length), (19, .i .i64 i)],
          [(0, .box [.sr 5 0 n.toNat, .sr 6 0 n.toNat, .sr 7 0 s.low.length]), (1, .nst hs 1 (rwI q)), (2, .box [.i .i64 b.1, .i .i64 b.2]), (3, .arr true 1 (encI x.2.2)), (4, .arr true 2 (encE B)), (5, .arr true 1 (encI s.num)), (6, .arr true 1 (encI s.par)), (7, .arr true 1 (encI s.low))], 8⟩)
        (fun x => CyI n s b.1 R x.1 x.2.1 x.2.2) (fun x => x.1) (n.toNat + 1, b.2, [b.1]) (by kernel_rfl) W ?_
      rintro ⟨f, a, c⟩ wk K' kN' kE' kR'
      simp only at wk ⊢
      have a0 := wk.a0
      have a1 := wk.a1
      have cl := wk.cl
      by_cases hm : a = b.1
      · have v0 := eq_true hm
        subst hm
        have e := wk.stop h
        subst e
        simp (maxSteps := 9999999) -implicitDefEqProofs only [go_sem, mwp_draw, v0]
        repeat (refine ⟨by first | omega | decide | exact fits64 (by omega) (by omega) | kernel_rfl | (intros; omega), ?_⟩)
        refine kE' _ _ ?_
        clear kN' kE' kR'
        have t1 : R.take R.length = R := List.take_length
        have t2 : q.take i = q := List.take_of_length_le (by omega)
        simp (maxSteps := 9999999) -implicitDefEqProofs only [go_sem, mwp_draw, l2, t1, t2]
        repeat (refine ⟨by first | omega | decide | exact fits64 (by omega) (by omega) | kernel_rfl | (intros; omega), ?_⟩)
        intro hd
        exact ⟨fits64 (by omega) (by omega), kN _ (i + 1, hs ++ [hd]) (by simp only [nx]; kernel_rfl) (by simp only; omega) (by simp only; omega)⟩
      · have v0 := eq_false hm
        have fp := wk.pos h
        have wg := wk.go h hm
        have v1 : (0 ≤ a) = True := eq_true a0
        have v2 : (a < (n.toNat : Int)) = True := eq_true (by omega)
        have v3 : (a.toNat < n.toNat) = True := eq_true (by omega)
        have gp := goneS (show s.par[a.toNat]? = some (nth s.par a) from nth_some ⟨a0, by omega⟩)
        simp (maxSteps := 9999999) -implicitDefEqProofs only [go_sem, mwp_draw, v0, w2, v1, v2, v3, ↓gp]
        repeat (refine ⟨by first | omega | decide | exact fits64 (by omega) (by omega) | kernel_rfl | (intros; omega), ?_⟩)
        exact kN' _ (f - 1, nth s.par a, c ++ [a]) (by rw [List.length_append]; kernel_rfl) wg (by simp only; omega)
    · obtain rfl : i = B.length := by omega
      have c1 : ((B.length : Int) < B.length) = False := eq_false (by omega)
      simp (maxSteps := 9999999) -implicitDefEqProofs only [go_sem, mwp_draw, c1]
      refine kE _ _ ?_
      clear kN kE kR
      simp (maxSteps := 9999999) -implicitDefEqProofs only [go_sem, mwp_draw, l2]
      repeat (refine ⟨by first | omega | decide | exact fits64 (by omega) (by omega) | kernel_rfl | (intros; omega), ?_⟩)
      first | done | rfl

def cyZ (n : Int) (s : Sr) (P : List E) : List (List Int) := P.map (cyc n s)
theorem CyclesOfS_is (t : Bool) (n : Int) (es : List E) (hl : es.length ≤ 1048576) : Is prog fid_spec_CyclesOf [Gr t n es] (.ow true 1 (encN (cyV n es))) := by
  refine MCall.run mixed get_spec_CyclesOf ok_spec_CyclesOf (Nat.le_of_ble_eq_true rfl) (by decide) ?_
  unfold mc_spec_CyclesOf
  simp (maxSteps := 9999999) -implicitDefEqProofs only [go_sem, mwp_draw]
  refine callK_is (GraphValidS_is _ n es hl) ?_
  cases hg : gvB n es with
  | false =>
    simp (maxSteps := 9999999) -implicitDefEqProofs only [go_sem, mwp_draw]
    simp [cyV, hg, encN]
  | true =>
  have hv := gvB_iff.1 hg
  have hn1 := hv.1
  have hn16 := hv.2.1
  have hE := hv.2.2.2.1
  simp (maxSteps := 9999999) -implicitDefEqProofs only [go_sem, mwp_draw]
  refine callK_is (l4Run_is _ n es hv) ?_
  have ev : cyV n es = cycL n es (srch n es).1 := by unfold cyV; rw [if_pos hg]
  rw [ev]
  have h := srch_nf hE (by omega : 0 ≤ n)
  have hO := fun u1 u2 u3 => l9Order_is u1 u2 u3 n es _ hv h
  have hB := fun u1 u2 u3 u hu => l9Back_is t u1 u2 u3 n es _ u hv h hu
  generalize (srch n es).1 = s at *
  simp (maxSteps := 9999999) -implicitDefEqProofs only [go_sem, mwp_draw]
  repeat (refine ⟨by first | omega | decide | exact fits64 (by omega) (by omega) | kernel_rfl | (intros; omega), ?_⟩)
  refine callK_is (hO _ _ _) ?_
  have w1 := h.l1
  have w2 := h.l2
  have ol := h.ord_len
  have oat := fun i hi => h.ord_at (i := i) hi
  have bln := fun i hi => bkL_len hv (s := s) (i := i) hi
  have bnx := fun i u hu => bkL_next (n := n) (es := es) (s := s) (i := i) (u := u) hu
  have b0 : cyZ n s (bkL n es s 0) = [] := rfl
  have bok : ∀ i u v, (ordL n s)[i]? = some u → v ∈ bks es s u → (0 ≤ u ∧ u < n) ∧ (0 ≤ v ∧ v < n) ∧ Anc s u v ∧ u ≠ v := fun i u v hu hv' =>
    h.back_ok hE (b := (u, v)) (List.mem_flatMap.2 ⟨u, List.mem_of_getElem? hu, List.mem_map.2 ⟨v, hv', rfl⟩⟩)
  have ev : cycL n es s = cyZ n s (bkL n es s (ordL n s).length) := by rw [bkL_all]; rfl
  rw [ev]
  generalize bkL n es s = B at *
  generalize ordL n s = od at *
  simp (maxSteps := 9999999) -implicitDefEqProofs only [go_sem, mwp_draw, w1, w2, ol]
  refine mwp_loopk (X := Nat) (fun i => ⟨[(1, .pr 0 0 0), (3, .sr 1 0 (B i).length), (4, .pr 2 0 0), (5, .sr 3 0 n.toNat), (6, .i .i64 i)],
      [(0, .box [.i .i64 n, .s t 2 (encE es)]), (1, .arr true 1 (encN (cyZ n s (B i)))), (2, .box [.sr 4 0 n.toNat, .sr 5 0 n.toNat, .sr 6 0 s.low.length]), (3, .arr true 1 (encI od)), (4, .arr true 1 (encI s.num)), (5, .arr true 1 (encI s.par)), (6, .arr true 1 (encI s.low))], 7⟩)
    (fun i => i ≤ n.toNat) (fun i => n.toNat - i) 0 (by rw [b0, show (B 0).length = 0 by have := bln 0 (Nat.zero_le _); omega]; kernel_rfl) (Nat.zero_le _) ?_
  rintro i h1 K kN kE kR
  have lB := bln i (by omega)
  by_cases hi : i < n.toNat
  · obtain ⟨u, hu, u0, u1', un⟩ := oat i hi
    have gu := goneS hu
    have bn := bnx i u hu
    have c1 : ((i : Int) < (n.toNat : Int)) = True := eq_true (by omega)
    have c2 : (i < n.toNat) = True := eq_true hi
    have bo := fun v hv' => bok i u v hu hv'
    have ll : (bks es s u).length ≤ 16 := Nat.le_trans (List.length_filter_le _ _) (nbr_len hv u)
    have tn1 : s.num.take n.toNat = s.num := List.take_of_length_le (by omega)
    have tn2 : s.par.take n.toNat = s.par := List.take_of_length_le (by omega)
    simp (maxSteps := 9999999) -implicitDefEqProofs only [go_sem, mwp_draw, ol, w1, w2, tn1, tn2, c1, c2, ↓gu]
    repeat (refine ⟨by first | omega | decide | exact fits64 (by omega) (by omega) | kernel_rfl | (intros; omega), ?_⟩)
    refine callK_is (hB _ _ _ u ⟨u0, u1'⟩) ?_
    generalize bks es s u = bk at *
    simp (maxSteps := 9999999) -implicitDefEqProofs only [go_sem, mwp_draw, w1, w2]
    repeat (refine ⟨by first | omega | decide | exact fits64 (by omega) (by omega) | kernel_rfl | (intros; omega), ?_⟩)
    refine mwp_loopk (X := Nat) (fun k => ⟨[(1, .pr 0 0 0), (3, .sr 1 0 (B i ++ (bk.take k).map fun v => (u, v)).length), (4, .pr 2 0 0), (5, .sr 3 0 n.toNat), (6, .i .i64 i), (7, .sr 4 0 bk.length), (8, .i .i64 k)],
        [(0, .box [.i .i64 n, .s t 2 (encE es)]), (1, .arr true 1 (encN (cyZ n s (B i ++ (bk.take k).map fun v => (u, v))))), (2, .box [.sr 5 0 n.toNat, .sr 6 0 n.toNat, .sr 7 0 s.low.length]), (3, .arr true 1 (encI od)), (4, .arr true 1 (encI bk)), (5, .arr true 1 (encI s.num)), (6, .arr true 1 (encI s.par)), (7, .arr true 1 (encI s.low))], 8⟩)
      (fun k => k ≤ bk.length) (fun k => bk.length - k) 0 (by rw [List.take_zero, List.map_nil, List.append_nil]; kernel_rfl) (Nat.zero_le _) ?_
    rintro k h2 K' kN' kE' kR'
    by_cases hk : k < bk.length
    · obtain ⟨v, hy⟩ : ∃ v, bk[k]? = some v := ⟨_, List.getElem?_eq_getElem hk⟩
      obtain ⟨x0, x1, xa, xn⟩ := bo v (List.mem_of_getElem? hy)
      have nx : cyZ n s (B i ++ (bk.take (k + 1)).map fun v => (u, v)) = cyZ n s (B i ++ (bk.take k).map fun v => (u, v)) ++ [cyc n s (u, v)] := by
        rw [take_snoc hy, List.map_append, ← List.append_assoc]
        unfold cyZ
        rw [List.map_append]; rfl
      have nl : (B i ++ (bk.take (k + 1)).map fun v => (u, v)).length = (B i ++ (bk.take k).map fun v => (u, v)).length + 1 := by
        rw [take_snoc hy, List.map_append, ← List.append_assoc, List.length_append]; rfl
      have pl : (B i ++ (bk.take k).map fun v => (u, v)).length ≤ 1000 := by
        rw [List.length_append, List.length_map, List.length_take]; omega
      have l2 : (cyZ n s (B i ++ (bk.take k).map fun v => (u, v))).length = (B i ++ (bk.take k).map fun v => (u, v)).length := by unfold cyZ; rw [List.length_map]
      have gy := goneS hy
      generalize B i ++ (bk.take k).map (fun v => (u, v)) = P at *
      have W := (CyI.init (b := (u, v)) h x0 x1 xa).go h (fun e => xn e.symm)
      generalize cyc n s (u, v) = R at *
      generalize cyZ n s P = q at *
      have gv := goneS (show s.par[v.toNat]? = some (nth s.par v) from nth_some ⟨x1.1, by omega⟩)
      have k1 : ((k : Int) < bk.length) = True := eq_true (by omega)
      have k2 : (k < bk.length) = True := eq_true hk
      have p1 : (0 ≤ v) = True := eq_true x1.1
      have p2 : (v < (n.toNat : Int)) = True := eq_true (by omega)
      have p3 : (v.toNat < n.toNat) = True := eq_true (by omega)
      simp (maxSteps := 9999999) -implicitDefEqProofs only [go_sem, mwp_draw, l2, ol, w2, c1, c2, k1, k2, p1, p2, p3, ↓gu, ↓gy, ↓gv]
      repeat (refine ⟨by first | omega | decide | exact fits64 (by omega) (by omega) | kernel_rfl | (intros; omega), ?_⟩)
      refine mwp_loopk (X := Nat × Int × List Int) (fun x => ⟨[(1, .pr 0 0 0), (3, .sr 1 0 P.length), (4, .pr 2 0 0), (5, .sr 3 0 n.toNat), (6, .i .i64 i), (7, .sr 4 0 bk.length), (8, .i .i64 k), (9, .sr 5 0 x.2.2.length), (10, .i .i64 x.2.1)],
          [(0, .box [.i .i64 n, .s t 2 (encE es)]), (1, .arr true 1 (encN q)), (2, .box [.sr 6 0 n.toNat, .sr 7 0 n.toNat, .sr 8 0 s.low.length]), (3, .arr true 1 (encI od)), (4, .arr true 1 (encI bk)), (5, .arr true 1 (encI x.2.2)), (6, .arr true 1 (encI s.num)), (7, .arr true 1 (encI s.par)), (8, .arr true 1 (encI s.low))], 9⟩)
        (fun x => CyI n s u R x.1 x.2.1 x.2.2) (fun x => x.1) (n.toNat + 1 - 1, nth s.par v, [u] ++ [v]) (by kernel_rfl) W ?_
      rintro ⟨f, a, c⟩ wk K'' kN'' kE'' kR''
      simp only at wk ⊢
      have a0 := wk.a0
      have a1 := wk.a1
      have cl := wk.cl
      by_cases hm : a = u
      · have v0 := eq_true hm
        subst hm
        have e := wk.stop h
        subst e
        simp (maxSteps := 9999999) -implicitDefEqProofs only [go_sem, mwp_draw, ol, c1, c2, ↓gu, v0]
        repeat (refine ⟨by first | omega | decide | exact fits64 (by omega) (by omega) | kernel_rfl | (intros; omega), ?_⟩)
        refine kE'' _ _ ?_
        clear kN'' kE'' kR''
        have t1 : R.take R.length = R := List.take_length
        have t2 : q.take P.length = q := List.take_of_length_le (by omega)
        simp (maxSteps := 9999999) -implicitDefEqProofs only [go_sem, mwp_draw, l2, t1, t2]
        repeat (refine ⟨by first | omega | decide | exact fits64 (by omega) (by omega) | kernel_rfl | (intros; omega), ?_⟩)
        exact kN' _ (k + 1) (by rw [nx, nl]; kernel_rfl) (by omega) (by omega)
      · have v0 := eq_false hm
        have fp := wk.pos h
        have wg := wk.go h hm
        have v1 : (0 ≤ a) = True := eq_true a0
        have v2 : (a < (n.toNat : Int)) = True := eq_true (by omega)
        have v3 : (a.toNat < n.toNat) = True := eq_true (by omega)
        have gp := goneS (show s.par[a.toNat]? = some (nth s.par a) from nth_some ⟨a0, by omega⟩)
        simp (maxSteps := 9999999) -implicitDefEqProofs only [go_sem, mwp_draw, ol, c1, c2, ↓gu, v0, w2, v1, v2, v3, ↓gp]
        repeat (refine ⟨by first | omega | decide | exact fits64 (by omega) (by omega) | kernel_rfl | (intros; omega), ?_⟩)
        exact kN'' _ (f - 1, nth s.par a, c ++ [a]) (by rw [List.length_append]; kernel_rfl) wg (by simp only; omega)
    · obtain rfl : k = bk.length := by omega
      have k1 : ((bk.length : Int) < bk.length) = False := eq_false (by omega)
      rw [List.take_length, ← bn]
      simp (maxSteps := 9999999) -implicitDefEqProofs only [go_sem, mwp_draw, k1]
      refine kE' _ _ ?_
      clear kN' kE' kR'
      simp (maxSteps := 9999999) -implicitDefEqProofs only [go_sem, mwp_draw]
      repeat (refine ⟨by first | omega | decide | exact fits64 (by omega) (by omega) | kernel_rfl | (intros; omega), ?_⟩)
      exact kN _ (i + 1) (by kernel_rfl) (by omega) (by omega)
  · obtain rfl : i = n.toNat := by omega
    have c1 : ((n.toNat : Int) < (n.toNat : Int)) = False := eq_false (by omega)
    simp (maxSteps := 9999999) -implicitDefEqProofs only [go_sem, mwp_draw, ol, c1]
    refine kE _ _ ?_
    clear kN kE kR
    have t2 : (cyZ n s (B n.toNat)).length = (B n.toNat).length := by unfold cyZ; rw [List.length_map]
    have t1 : (cyZ n s (B n.toNat)).take (B n.toNat).length = cyZ n s (B n.toNat) := List.take_of_length_le (by omega)
    simp (maxSteps := 9999999) -implicitDefEqProofs only [go_sem, mwp_draw, t1, t2, ol]
    repeat (refine ⟨by first | omega | decide | exact fits64 (by omega) (by omega) | kernel_rfl | (intros; omega), ?_⟩)
    first | done | rfl
end Go.Fw
