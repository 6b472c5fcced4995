/-
  Chains of a graph, both sides; the program's lie in memory of their own.
-/
import Derived.Test.YtjklefjjmfpnoaaCtBk
import Derived.Test.YtjklefjjmfpnoaaPlC2
import Derived.Test.YtjklefjjmfpnoaaPlC4
import Derived.Test.YtjklefjjmfpnoaaCtKn
import Derived.Test.YtjklefjjmfpnoaaCtNe
namespace Go.Fw
set_option linter.unusedSimpArgs false
set_option linter.unusedVariables false
set_option maxRecDepth 100000
set_option maxHeartbeats 8000000
open Go.Proofs.Try (prog)
open Go.Pl

def chV (n : Int) (es : List E) : List (List Int) := if gvB n es = true then chainsL n es (srch n es).1 else []
def chQ (n : Int) (es : List E) (s : Sr) (i : Nat) : List Bool × List (List Int) := ((backL n es s).take i).foldl (chSt n s) (ch0 n)
theorem chQ_next {n : Int} {es : List E} {s : Sr} {i : Nat} {b : E} (h : (backL n es s)[i]? = some b) : chQ n es s (i + 1) = chSt n s (chQ n es s i) b := foldl_snoc _ h _
theorem chQ_all {n : Int} {es : List E} {s : Sr} : (chQ n es s (backL n es s).length).2 = chainsL n es s := by unfold chQ chainsL; rw [List.take_length]
theorem chQ_len {n : Int} {es : List E} {s : Sr} (hv : GV n es) (h : NF n es s) {i : Nat} (hi : i ≤ (backL n es s).length) : (chQ n es s i).1.length = n.toNat ∧ (chQ n es s i).2.length = i := by
  have st := h.stage (B := backL n es s) (fun b hb => h.back_ok hv.2.2.2.1 hb) h.back_sorted i hi
  exact ⟨st.1, st.2.2.1⟩
theorem back_len {n : Int} {es : List E} {s : Sr} (hv : GV n es) (h : NF n es s) : (backL n es s).length ≤ 256 := by
  rw [← bkL_all]
  have := bkL_len hv (s := s) (i := (ordL n s).length) (Nat.le_refl _)
  have := h.ord_len
  have := hv.2.1
  omega
/-- The walk's invariant: from a node at or below `u`, with `u` marked. -/
structure WkI (n : Int) (s : Sr) (u : Int) (R : List Bool × List Int) (f : Nat) (m : List Bool) (a : Int) (c : List Int) : Prop where
  ml : m.length = n.toNat
  a0 : 0 ≤ a
  a1 : a < n
  an : Anc s u a
  mu : isM m u = true
  hf : nth s.num a - nth s.num u < f
  res : wlk s f m a c = R
  cl : c.length + f ≤ n.toNat + 3
theorem WkI.init {n : Int} {es : List E} {s : Sr} (h : NF n es s) {m : List Bool} {u v : Int} (hm : m.length = n.toNat) (u0 : 0 ≤ u ∧ u < n) (v0 : 0 ≤ v ∧ v < n) (ha : Anc s u v) :
    WkI n s u (wlk s (n.toNat + 1) (m.set u.toNat true) v [u, v]) (n.toNat + 1) (m.set u.toNat true) v [u, v] := by
  have n1 := h.num u u0.1 u0.2
  have n2 := h.num v v0.1 v0.2
  refine ⟨by simp [hm], v0.1, v0.2, ha, ?_, by omega, rfl, by simp; omega⟩
  rw [isM_set u0.1 u0.1 (by omega)]; simp
theorem WkI.pos {n : Int} {es : List E} {s : Sr} (h : NF n es s) {u a : Int} {R : List Bool × List Int} {f : Nat} {m : List Bool} {c : List Int} (w : WkI n s u R f m a c) : 0 < f := by
  have := h.le w.an w.a0 w.a1
  have := w.hf
  omega
theorem WkI.stop {n : Int} {es : List E} {s : Sr} (h : NF n es s) {u a : Int} {R : List Bool × List Int} {f : Nat} {m : List Bool} {c : List Int} (w : WkI n s u R f m a c) (q : isM m a = true) : R = (m, c) := by
  have p := w.pos h
  obtain ⟨f, rfl⟩ : ∃ g, f = g + 1 := ⟨f - 1, by omega⟩
  rw [← w.res, wlk, if_pos q]
theorem WkI.go {n : Int} {es : List E} {s : Sr} (h : NF n es s) {u a : Int} {R : List Bool × List Int} {f : Nat} {m : List Bool} {c : List Int} (w : WkI n s u R f m a c) (q : isM m a = false) :
    WkI n s u R (f - 1) (m.set a.toNat true) (nth s.par a) (c ++ [nth s.par a]) := by
  have p := w.pos h
  obtain ⟨f, rfl⟩ : ∃ g, f = g + 1 := ⟨f - 1, by omega⟩
  have ne : u ≠ a := fun e => by subst e; rw [w.mu] at q; cases q
  obtain ⟨p0, r'⟩ := w.an.step ne
  have pp := h.up_par w.a0 w.a1 p0
  have hl := w.ml
  have a1 := w.a1
  have hf := w.hf
  have cl := w.cl
  refine ⟨by simp [hl], p0, pp.1, r', ?_, by omega, ?_, by rw [List.length_append, List.length_singleton]; omega⟩
  · rw [isM_set w.a0 (h.rng w.an w.a0 w.a1).1 (by omega), w.mu]; simp
  · rw [← w.res, wlk, if_neg (by rw [q]; simp)]; rfl

theorem ChainsOf_is (t : Bool) (n : Int) (es : List E) (hl : es.length ≤ 1048576) : MCall prog fid_impl_ChainsOf [Gr t n es]
    (fun o r => o = [.u] ∧ ((gvB n es = false ∧ r = .ow true 1 []) ∨ (gvB n es = true ∧ ∃ hs, r = .on hs 1 (rwI (chV n es))))) := by
  refine MCall.run mixed get_impl_ChainsOf ok_impl_ChainsOf (Nat.le_of_ble_eq_true rfl) (by decide) ?_
  unfold mc_impl_ChainsOf
  simp (maxSteps := 9999999) -implicitDefEqProofs only [go_sem, mwp_draw]
  refine callK_is (GraphValid_is _ n es hl) ?_
  cases hg : gvB n es with
  | false =>
    simp (maxSteps := 9999999) -implicitDefEqProofs only [go_sem, mwp_draw]
    first | done | exact .inl trivial | simp
  | true =>
    have hv := gvB_iff.1 hg
    have hn1 := hv.1
    have hn16 := hv.2.1
    have hE := hv.2.2.2.1
    simp (maxSteps := 9999999) -implicitDefEqProofs only [go_sem, mwp_draw]
    refine callK_is (search_is _ n es hv) ?_
    have ev : chV n es = chainsL n es (srch n es).1 := by unfold chV; rw [if_pos hg]
    rw [ev]
    have h := srch_nf hE (by omega : 0 ≤ n)
    have hB := fun u1 u2 u3 => backs_is t u1 u2 u3 n es _ hv h
    generalize (srch n es).1 = s at *
    simp (maxSteps := 9999999) -implicitDefEqProofs only [go_sem, mwp_draw]
    repeat (refine ⟨by first | omega | decide | exact fits64 (by omega) (by omega) | kernel_rfl | (intros; omega), ?_⟩)
    refine callK_is (hB _ _ _) ?_
    have bl := back_len hv h
    have bok := fun b hb => h.back_ok hE (b := b) hb
    have qn := fun i b hb => chQ_next (n := n) (es := es) (s := s) (i := i) (b := b) hb
    have ql := fun i hi => chQ_len hv h (i := i) hi
    have q0 : chQ n es s 0 = ch0 n := rfl
    rw [← chQ_all]
    generalize chQ n es s = Q at *
    generalize backL n es s = B at *
    have w1 := h.l1
    have w2 := h.l2
    simp (maxSteps := 9999999) -implicitDefEqProofs only [go_sem, mwp_draw, w1, w2]
    refine mwp_loopk (X := Nat × List Value) (fun x => ⟨[(3, .pr 0 0 0), (4, .sr 1 0 x.1), (5, .sr 2 0 n.toNat), (21, .sr 3 0 B.length), (22, .i .i64 B.length), (23, .i .i64 x.1)],
        [(0, .box [.sr 4 0 n.toNat, .sr 5 0 n.toNat, .sr 6 0 s.low.length]), (1, .nst x.2 1 (rwI (Q x.1).2)), (2, .arr true 1 (encT (Q x.1).1)), (3, .arr true 2 (encE B)), (4, .arr true 1 (encI s.num)), (5, .arr true 1 (encI s.par)), (6, .arr true 1 (encI s.low))], 7⟩)
      (fun x => x.1 ≤ B.length) (fun x => B.length - x.1) (0, []) (by simp only [q0]; kernel_rfl) (Nat.zero_le _) ?_
    rintro ⟨i, hs⟩ h1 K kN kE kR
    simp only at h1 ⊢
    obtain ⟨l1, l2⟩ := ql i h1
    by_cases hi : i < B.length
    · obtain ⟨b, hb⟩ : ∃ b, B[i]? = some b := ⟨_, List.getElem?_eq_getElem hi⟩
      obtain ⟨x0, x1, xa, xn⟩ := bok b (List.mem_of_getElem? hb)
      have nx := qn i b hb
      have gb := goneS hb
      have l3 := (ql (i + 1) hi).2
      have W := WkI.init h l1 x0 x1 xa
      unfold chSt at nx
      rw [nx] at l3
      generalize wlk s (n.toNat + 1) ((Q i).1.set b.1.toNat true) b.2 [b.1, b.2] = R at *
      generalize Q i = q at *
      have gm := goneS (isM_some (m := q.1) x0.1 (by omega))
      have c1 : ((i : Int) < B.length) = True := eq_true (by omega)
      have c2 : (i < B.length) = True := eq_true hi
      have u1 : (0 ≤ b.1) = True := eq_true x0.1
      have u2 : (b.1 < (n.toNat : Int)) = True := eq_true (by omega)
      have u3 : (b.1.toNat < n.toNat) = True := eq_true (by omega)
      have z1 : Int.toNat 1 = 1 := rfl
      simp (maxSteps := 9999999) -implicitDefEqProofs only [go_sem, mwp_draw, l1, l2, c1, c2, u1, u2, u3, z1, ↓gb, ↓gm]
      repeat (refine ⟨by first | omega | decide | exact fits64 (by omega) (by omega) | kernel_rfl | (intros; omega), ?_⟩)
      refine mwp_loopk (X := Nat × List Bool × Int × List Int) (fun x => ⟨[(3, .pr 0 0 0), (4, .sr 1 0 i), (5, .sr 2 0 n.toNat), (8, .sr 3 0 x.2.2.2.length), (9, .i .i64 x.2.2.1), (21, .sr 4 0 B.length), (22, .i .i64 B.length), (23, .i .i64 i)],
          [(0, .box [.sr 5 0 n.toNat, .sr 6 0 n.toNat, .sr 7 0 s.low.length]), (1, .nst hs 1 (rwI q.2)), (2, .arr true 1 (encT x.2.1)), (3, .arr true 1 (encI x.2.2.2)), (4, .arr true 2 (encE B)), (5, .arr true 1 (encI s.num)), (6, .arr true 1 (encI s.par)), (7, .arr true 1 (encI s.low))], 8⟩)
        (fun x => WkI n s b.1 R x.1 x.2.1 x.2.2.1 x.2.2.2) (fun x => x.1) (n.toNat + 1, q.1.set b.1.toNat true, b.2, [b.1, b.2]) (by kernel_rfl) W ?_
      rintro ⟨f, m, a, c⟩ wk K' kN' kE' kR'
      simp only at wk ⊢
      have a0 := wk.a0
      have a1 := wk.a1
      have ml := wk.ml
      have cl := wk.cl
      have v1 : (0 ≤ a) = True := eq_true a0
      have v2 : (a < (n.toNat : Int)) = True := eq_true (by omega)
      have v3 : (a.toNat < n.toNat) = True := eq_true (by omega)
      have ga := goneS (isM_some (m := m) a0 (by omega))
      have gp := goneS (show s.par[a.toNat]? = some (nth s.par a) from nth_some ⟨a0, by omega⟩)
      cases hm : isM m a with
      | false =>
        rw [hm] at ga
        have fp := wk.pos h
        have wg := wk.go h hm
        simp (maxSteps := 9999999) -implicitDefEqProofs only [go_sem, mwp_draw, ml, w2, v1, v2, v3, ↓ga, ↓gp]
        repeat (refine ⟨by first | omega | decide | exact fits64 (by omega) (by omega) | kernel_rfl | (intros; omega), ?_⟩)
        exact kN' _ (f - 1, m.set a.toNat true, nth s.par a, c ++ [nth s.par a]) (by rw [List.length_append]; kernel_rfl) wg (by simp only; omega)
      | true =>
        rw [hm] at ga
        have e := wk.stop h hm
        subst e
        simp (maxSteps := 9999999) -implicitDefEqProofs only [go_sem, mwp_draw, ml, w2, v1, v2, v3, ↓ga, ↓gp]
        refine kE' _ _ ?_
        clear kN' kE' kR'
        have t1 : c.take c.length = c := List.take_length
        have t2 : q.2.take i = q.2 := List.take_of_length_le (by omega)
        simp only [List.length_append, List.length_singleton] at l3
        simp (maxSteps := 9999999) -implicitDefEqProofs only [go_sem, mwp_draw, l2, t1, t2]
        repeat (refine ⟨by first | omega | decide | exact fits64 (by omega) (by omega) | kernel_rfl | (intros; omega), ?_⟩)
        intro hd
        exact ⟨fits64 (by omega) (by omega), kN _ (i + 1, hs ++ [hd]) (by simp only [nx]; kernel_rfl) (by simp only; omega) (by simp only; omega)⟩
    · obtain rfl : i = B.length := by omega
      have c1 : ((B.length : Int) < B.length) = False := eq_false (by omega)
      simp (maxSteps := 9999999) -implicitDefEqProofs only [go_sem, mwp_draw, c1]
      refine kE _ _ ?_
      clear kN kE kR
      simp (maxSteps := 9999999) -implicitDefEqProofs only [go_sem, mwp_draw, l2]
      repeat (refine ⟨by first | omega | decide | exact fits64 (by omega) (by omega) | kernel_rfl | (intros; omega), ?_⟩)
      first | done | rfl


theorem wlk_len {s : Sr} : ∀ (f : Nat) (m : List Bool) (a : Int) (c : List Int), (wlk s f m a c).1.length = m.length
  | 0, m, a, c => rfl
  | f + 1, m, a, c => by
    rw [wlk]
    split
    · rfl
    · rw [wlk_len]; simp
def chZ (n : Int) (s : Sr) (P : List E) : List Bool × List (List Int) := P.foldl (chSt n s) (ch0 n)
theorem chZ_snoc {n : Int} {s : Sr} {P : List E} {b : E} : chZ n s (P ++ [b]) = chSt n s (chZ n s P) b := by unfold chZ; simp
theorem chF_len {n : Int} {s : Sr} : ∀ (P : List E) (q : List Bool × List (List Int)), (P.foldl (chSt n s) q).1.length = q.1.length ∧ (P.foldl (chSt n s) q).2.length = q.2.length + P.length
  | [], q => by simp
  | b :: P, q => by
    obtain ⟨h1, h2⟩ := chF_len P (chSt n s q b)
    rw [List.foldl_cons]
    refine ⟨by rw [h1]; simp [chSt, wlk_len], by rw [h2]; simp [chSt]; omega⟩
theorem chZ_len {n : Int} {s : Sr} {P : List E} : (chZ n s P).1.length = n.toNat ∧ (chZ n s P).2.length = P.length := by
  have := chF_len (n := n) (s := s) P (ch0 n)
  simpa [chZ, ch0] using this
theorem l9Chains_is (t : Bool) (n : Int) (es : List E) (hv : GV n es) : Is prog fid_spec_l9Chains [Gr t n es] (.ow true 1 (encN (chainsL n es (srch n es).1))) := by
  have hn1 := hv.1
  have hn16 := hv.2.1
  have hE := hv.2.2.2.1
  refine MCall.run mixed get_spec_l9Chains ok_spec_l9Chains (Nat.le_of_ble_eq_true rfl) (by decide) ?_
  unfold mc_spec_l9Chains
  simp (maxSteps := 9999999) -implicitDefEqProofs only [go_sem, mwp_draw]
  refine callK_is (l4Run_is _ n es hv) ?_
  have h := srch_nf hE (by omega : 0 ≤ n)
  have hO := fun u1 u2 u3 => l9Order_is u1 u2 u3 n es _ hv h
  have hB := fun u1 u2 u3 u hu => l9Back_is t u1 u2 u3 n es _ u hv h hu
  generalize (srch n es).1 = s at *
  simp (maxSteps := 9999999) -implicitDefEqProofs only [go_sem, mwp_draw]
  repeat (refine ⟨by first | omega | decide | exact fits64 (by omega) (by omega) | kernel_rfl | (intros; omega), ?_⟩)
  refine callK_is (hO _ _ _) ?_
  have w1 := h.l1
  have w2 := h.l2
  have ol := h.ord_len
  have oat := fun i hi => h.ord_at (i := i) hi
  have bln := fun i hi => bkL_len hv (s := s) (i := i) hi
  have bnx := fun i u hu => bkL_next (n := n) (es := es) (s := s) (i := i) (u := u) hu
  have b0 : chZ n s (bkL n es s 0) = ch0 n := rfl
  have bok : ∀ i u v, (ordL n s)[i]? = some u → v ∈ bks es s u → (0 ≤ u ∧ u < n) ∧ (0 ≤ v ∧ v < n) ∧ Anc s u v ∧ u ≠ v := fun i u v hu hv' =>
    h.back_ok hE (b := (u, v)) (List.mem_flatMap.2 ⟨u, List.mem_of_getElem? hu, List.mem_map.2 ⟨v, hv', rfl⟩⟩)
  have ev : chainsL n es s = (chZ n s (bkL n es s (ordL n s).length)).2 := by rw [bkL_all]; rfl
  rw [ev]
  generalize bkL n es s = B at *
  generalize ordL n s = od at *
  simp (maxSteps := 9999999) -implicitDefEqProofs only [go_sem, mwp_draw, w1, w2, ol]
  refine mwp_loopk (X := Nat) (fun i => ⟨[(1, .pr 0 0 0), (3, .sr 1 0 (B i).length), (4, .pr 2 0 0), (5, .sr 3 0 n.toNat), (6, .sr 4 0 n.toNat), (7, .i .i64 i)],
      [(0, .box [.i .i64 n, .s t 2 (encE es)]), (1, .arr true 1 (encN (chZ n s (B i)).2)), (2, .box [.sr 5 0 n.toNat, .sr 6 0 n.toNat, .sr 7 0 s.low.length]), (3, .arr true 1 (encT (chZ n s (B i)).1)), (4, .arr true 1 (encI od)), (5, .arr true 1 (encI s.num)), (6, .arr true 1 (encI s.par)), (7, .arr true 1 (encI s.low))], 8⟩)
    (fun i => i ≤ n.toNat) (fun i => n.toNat - i) 0 (by rw [b0, show (B 0).length = 0 by have := bln 0 (Nat.zero_le _); omega]; kernel_rfl) (Nat.zero_le _) ?_
  rintro i h1 K kN kE kR
  have lB := bln i (by omega)
  by_cases hi : i < n.toNat
  · obtain ⟨u, hu, u0, u1', un⟩ := oat i hi
    have gu := goneS hu
    have bn := bnx i u hu
    have c1 : ((i : Int) < (n.toNat : Int)) = True := eq_true (by omega)
    have c2 : (i < n.toNat) = True := eq_true hi
    have bo := fun v hv' => bok i u v hu hv'
    have ll : (bks es s u).length ≤ 16 := Nat.le_trans (List.length_filter_le _ _) (nbr_len hv u)
    have tn1 : s.num.take n.toNat = s.num := List.take_of_length_le (by omega)
    have tn2 : s.par.take n.toNat = s.par := List.take_of_length_le (by omega)
    simp (maxSteps := 9999999) -implicitDefEqProofs only [go_sem, mwp_draw, ol, w1, w2, tn1, tn2, c1, c2, ↓gu]
    repeat (refine ⟨by first | omega | decide | exact fits64 (by omega) (by omega) | kernel_rfl | (intros; omega), ?_⟩)
    refine callK_is (hB _ _ _ u ⟨u0, u1'⟩) ?_
    generalize bks es s u = bk at *
    simp (maxSteps := 9999999) -implicitDefEqProofs only [go_sem, mwp_draw, w1, w2]
    repeat (refine ⟨by first | omega | decide | exact fits64 (by omega) (by omega) | kernel_rfl | (intros; omega), ?_⟩)
    have u1 : (0 ≤ u) = True := eq_true u0
    have u2 : (u < (n.toNat : Int)) = True := eq_true (by omega)
    have u3 : (u.toNat < n.toNat) = True := eq_true (by omega)
    refine mwp_loopk (X := Nat) (fun k => ⟨[(1, .pr 0 0 0), (3, .sr 1 0 (B i ++ (bk.take k).map fun v => (u, v)).length), (4, .pr 2 0 0), (5, .sr 3 0 n.toNat), (6, .sr 4 0 n.toNat), (7, .i .i64 i), (8, .sr 5 0 bk.length), (9, .i .i64 k)],
        [(0, .box [.i .i64 n, .s t 2 (encE es)]), (1, .arr true 1 (encN (chZ n s (B i ++ (bk.take k).map fun v => (u, v))).2)), (2, .box [.sr 6 0 n.toNat, .sr 7 0 n.toNat, .sr 8 0 s.low.length]), (3, .arr true 1 (encT (chZ n s (B i ++ (bk.take k).map fun v => (u, v))).1)), (4, .arr true 1 (encI od)), (5, .arr true 1 (encI bk)), (6, .arr true 1 (encI s.num)), (7, .arr true 1 (encI s.par)), (8, .arr true 1 (encI s.low))], 9⟩)
      (fun k => k ≤ bk.length) (fun k => bk.length - k) 0 (by rw [List.take_zero, List.map_nil, List.append_nil]; kernel_rfl) (Nat.zero_le _) ?_
    rintro k h2 K' kN' kE' kR'
    by_cases hk : k < bk.length
    · obtain ⟨v, hy⟩ : ∃ v, bk[k]? = some v := ⟨_, List.getElem?_eq_getElem hk⟩
      obtain ⟨x0, x1, xa, xn⟩ := bo v (List.mem_of_getElem? hy)
      have nx : chZ n s (B i ++ (bk.take (k + 1)).map fun v => (u, v)) = chSt n s (chZ n s (B i ++ (bk.take k).map fun v => (u, v))) (u, v) := by
        rw [take_snoc hy, List.map_append, ← List.append_assoc]
        exact chZ_snoc
      have nl : (B i ++ (bk.take (k + 1)).map fun v => (u, v)).length = (B i ++ (bk.take k).map fun v => (u, v)).length + 1 := by
        rw [take_snoc hy, List.map_append, ← List.append_assoc, List.length_append]; rfl
      have pl : (B i ++ (bk.take k).map fun v => (u, v)).length ≤ 1000 := by
        rw [List.length_append, List.length_map, List.length_take]; omega
      obtain ⟨l1, l2⟩ := chZ_len (n := n) (s := s) (P := B i ++ (bk.take k).map fun v => (u, v))
      have gy := goneS hy
      unfold chSt at nx
      generalize B i ++ (bk.take k).map (fun v => (u, v)) = P at *
      have W := WkI.init h l1 x0 x1 xa
      simp only at nx
      generalize wlk s (n.toNat + 1) ((chZ n s P).1.set u.toNat true) v [u, v] = R at *
      generalize chZ n s P = q at *
      have gm := goneS (isM_some (m := q.1) x0.1 (by omega))
      have k1 : ((k : Int) < bk.length) = True := eq_true (by omega)
      have k2 : (k < bk.length) = True := eq_true hk
      simp (maxSteps := 9999999) -implicitDefEqProofs only [go_sem, mwp_draw, l1, l2, ol, c1, c2, k1, k2, u1, u2, u3, ↓gu, ↓gy, ↓gm]
      repeat (refine ⟨by first | omega | decide | exact fits64 (by omega) (by omega) | kernel_rfl | (intros; omega), ?_⟩)
      refine mwp_loopk (X := Nat × List Bool × Int × List Int) (fun x => ⟨[(1, .pr 0 0 0), (3, .sr 1 0 P.length), (4, .pr 2 0 0), (5, .sr 3 0 n.toNat), (6, .sr 4 0 n.toNat), (7, .i .i64 i), (8, .sr 5 0 bk.length), (9, .i .i64 k), (10, .sr 6 0 x.2.2.2.length), (11, .i .i64 x.2.2.1)],
          [(0, .box [.i .i64 n, .s t 2 (encE es)]), (1, .arr true 1 (encN q.2)), (2, .box [.sr 7 0 n.toNat, .sr 8 0 n.toNat, .sr 9 0 s.low.length]), (3, .arr true 1 (encT x.2.1)), (4, .arr true 1 (encI od)), (5, .arr true 1 (encI bk)), (6, .arr true 1 (encI x.2.2.2)), (7, .arr true 1 (encI s.num)), (8, .arr true 1 (encI s.par)), (9, .arr true 1 (encI s.low))], 10⟩)
        (fun x => WkI n s u R x.1 x.2.1 x.2.2.1 x.2.2.2) (fun x => x.1) (n.toNat + 1, q.1.set u.toNat true, v, [u, v]) (by kernel_rfl) W ?_
      rintro ⟨f, m, a, c⟩ wk K'' kN'' kE'' kR''
      simp only at wk ⊢
      have a0 := wk.a0
      have a1 := wk.a1
      have ml := wk.ml
      have cl := wk.cl
      have v1 : (0 ≤ a) = True := eq_true a0
      have v2 : (a < (n.toNat : Int)) = True := eq_true (by omega)
      have v3 : (a.toNat < n.toNat) = True := eq_true (by omega)
      have ga := goneS (isM_some (m := m) a0 (by omega))
      have gp := goneS (show s.par[a.toNat]? = some (nth s.par a) from nth_some ⟨a0, by omega⟩)
      cases hm : isM m a with
      | false =>
        rw [hm] at ga
        have fp := wk.pos h
        have wg := wk.go h hm
        simp (maxSteps := 9999999) -implicitDefEqProofs only [go_sem, mwp_draw, ml, w2, v1, v2, v3, ↓ga, ↓gp]
        repeat (refine ⟨by first | omega | decide | exact fits64 (by omega) (by omega) | kernel_rfl | (intros; omega), ?_⟩)
        exact kN'' _ (f - 1, m.set a.toNat true, nth s.par a, c ++ [nth s.par a]) (by rw [List.length_append]; kernel_rfl) wg (by simp only; omega)
      | true =>
        rw [hm] at ga
        have e := wk.stop h hm
        subst e
        simp (maxSteps := 9999999) -implicitDefEqProofs only [go_sem, mwp_draw, ml, w2, v1, v2, v3, ↓ga, ↓gp]
        refine kE'' _ _ ?_
        clear kN'' kE'' kR''
        have t1 : c.take c.length = c := List.take_length
        have t2 : q.2.take P.length = q.2 := List.take_of_length_le (by omega)
        simp (maxSteps := 9999999) -implicitDefEqProofs only [go_sem, mwp_draw, l2, t1, t2]
        repeat (refine ⟨by first | omega | decide | exact fits64 (by omega) (by omega) | kernel_rfl | (intros; omega), ?_⟩)
        exact kN' _ (k + 1) (by rw [nx, nl]; kernel_rfl) (by omega) (by omega)
    · obtain rfl : k = bk.length := by omega
      have k1 : ((bk.length : Int) < bk.length) = False := eq_false (by omega)
      rw [List.take_length, ← bn]
      simp (maxSteps := 9999999) -implicitDefEqProofs only [go_sem, mwp_draw, k1]
      refine kE' _ _ ?_
      clear kN' kE' kR'
      simp (maxSteps := 9999999) -implicitDefEqProofs only [go_sem, mwp_draw]
      repeat (refine ⟨by first | omega | decide | exact fits64 (by omega) (by omega) | kernel_rfl | (intros; omega), ?_⟩)
      exact kN _ (i + 1) (by kernel_rfl) (by omega) (by omega)
  · obtain rfl : i = n.toNat := by omega
    have c1 : ((n.toNat : Int) < (n.toNat : Int)) = False := eq_false (by omega)
    simp (maxSteps := 9999999) -implicitDefEqProofs only [go_sem, mwp_draw, c1]
    refine kE _ _ ?_
    clear kN kE kR
    have t1 : (chZ n s (B n.toNat)).2.take (B n.toNat).length = (chZ n s (B n.toNat)).2 := List.take_of_length_le (by rw [chZ_len.2]; omega)
    have t2 : (chZ n s (B n.toNat)).2.length = (B n.toNat).length := chZ_len.2
    simp (maxSteps := 9999999) -implicitDefEqProofs only [go_sem, mwp_draw, t1, t2, ol]
    repeat (refine ⟨by first | omega | decide | exact fits64 (by omega) (by omega) | kernel_rfl | (intros; omega), ?_⟩)
    first | done | rfl
theorem ChainsOfS_is (t : Bool) (n : Int) (es : List E) (hl : es.length ≤ 1048576) : Is prog fid_spec_ChainsOf [Gr t n es] (.ow true 1 (encN (chV n es))) := by
  refine MCall.run mixed get_spec_ChainsOf ok_spec_ChainsOf (Nat.le_of_ble_eq_true rfl) (by decide) ?_
  unfold mc_spec_ChainsOf
  simp (maxSteps := 9999999) -implicitDefEqProofs only [go_sem, mwp_draw]
  refine callK_is (GraphValidS_is _ n es hl) ?_
  cases hg : gvB n es with
  | false =>
    simp (maxSteps := 9999999) -implicitDefEqProofs only [go_sem, mwp_draw]
    simp [chV, hg, encN]
  | true =>
    have ev : chV n es = chainsL n es (srch n es).1 := by unfold chV; rw [if_pos hg]
    rw [ev]
    simp (maxSteps := 9999999) -implicitDefEqProofs only [go_sem, mwp_draw]
    refine callK_is (l9Chains_is _ n es (gvB_iff.1 hg)) ?_
    simp (maxSteps := 9999999) -implicitDefEqProofs only [go_sem, mwp_draw]
theorem chV_form {n : Int} {es : List E} {c : List Int} (hc : c ∈ chV n es) : GV n es ∧ ChF n es c := by
  unfold chV at hc
  by_cases hg : gvB n es = true
  · rw [if_pos hg] at hc
    have hv := gvB_iff.1 hg
    have hn1 := hv.1
    exact ⟨hv, (srch_nf hv.2.2.2.1 (by omega : 0 ≤ n)).chain_form hv.2.2.2.1 hc⟩
  · rw [if_neg hg] at hc; simp at hc
theorem chV_len {n : Int} {es : List E} : (chV n es).length ≤ 256 := by
  unfold chV
  by_cases hg : gvB n es = true
  · rw [if_pos hg]
    have hv := gvB_iff.1 hg
    have hn1 := hv.1
    have h := srch_nf hv.2.2.2.1 (by omega : 0 ≤ n)
    rw [(h.chains hv.2.2.2.1).1]
    exact back_len hv h
  · rw [if_neg hg]; simp
theorem chV_each {n : Int} {es : List E} {c : List Int} (hc : c ∈ chV n es) : c.length ≤ 1000 := by
  obtain ⟨hv, f⟩ := chV_form hc
  have := f.le
  have hn := hv.2.1
  omega
theorem chV_no {n : Int} {es : List E} (hg : gvB n es = false) : chV n es = [] := by simp [chV, hg]
end Go.Fw
