/-
  Cuts: how many edges go between some nodes and the others.
-/
import Derived.Test.YtdfbdbbjnihmaaaCtJ
import Derived.Test.YtdfbdbbjnihmaaaCtGv
import Derived.Test.YtdfbdbbjnihmaaaCtH
namespace Go.Fw
set_option linter.unusedSimpArgs false
set_option linter.unusedVariables false
set_option maxRecDepth 100000
set_option maxHeartbeats 4000000
open Go.Proofs.Try (prog)
open Go.Pl

theorem l6In_is (t : Bool) (l : List Int) (n : Int) (hl : l.length ≤ 2000000) : Is prog fid_spec_l6In [.s t 1 (encI l), .i .i64 n] (.b (decide (n ∈ l))) := by
  refine MCall.run mixed get_spec_l6In ok_spec_l6In (Nat.le_of_ble_eq_true rfl) (by decide) ?_
  unfold mc_spec_l6In
  simp (config := { maxSteps := 10000000, implicitDefEqProofs := false }) only [go_sem, ↓reduceIte, Nat.reduceAdd, Nat.reduceMul, Nat.reduceEqDiff, Nat.reduceSub, Nat.reduceLT, reduceCtorEq, Nat.reduceLeDiff, Nat.reduceBEq, mwp_draw]
  refine mwp_loopk (X := Nat) (fun i => ⟨[(0, .s t 1 (encI l)), (1, .i .i64 n), (5, .i .i64 i)], [], 0⟩) (fun i => i ≤ l.length ∧ n ∉ l.take i) (fun i => l.length - i) 0 rfl (by simp) ?_
  rintro i ⟨h1, h2⟩ K kN kE kR
  simp (config := { maxSteps := 10000000, implicitDefEqProofs := false }) only [go_sem, ↓reduceIte, Nat.reduceAdd, Nat.reduceMul, Nat.reduceEqDiff, Nat.reduceSub, Nat.reduceLT, reduceCtorEq, Nat.reduceLeDiff, Nat.reduceBEq, mwp_draw]
  refine ⟨fun h3 => ⟨by omega, h3, fun x hx => ⟨fun h4 => kR _ ?_, fun h4 => ⟨fits64 (by omega) (by omega), kN _ (i + 1) (by rfl) ⟨by omega, in_step h2 hx h4⟩ (by omega)⟩⟩⟩, fun h3 => kE _ _ ?_⟩
  · simp (config := { maxSteps := 10000000, implicitDefEqProofs := false }) only [go_sem, ↓reduceIte, Nat.reduceAdd, Nat.reduceMul, Nat.reduceEqDiff, Nat.reduceSub, Nat.reduceLT, reduceCtorEq, Nat.reduceLeDiff, Nat.reduceBEq, mwp_draw]
    exact mvb (decide_eq_true (h4 ▸ List.mem_of_getElem? hx)).symm
  · simp (config := { maxSteps := 10000000, implicitDefEqProofs := false }) only [go_sem, ↓reduceIte, Nat.reduceAdd, Nat.reduceMul, Nat.reduceEqDiff, Nat.reduceSub, Nat.reduceLT, reduceCtorEq, Nat.reduceLeDiff, Nat.reduceBEq, mwp_draw]
    obtain rfl : i = l.length := by omega
    rw [List.take_length] at h2
    exact mvb (decide_eq_false h2).symm
/-- A side of a cut; the edges that go over. -/
def sdP (n : Int) (l : List Int) : Prop := (∀ x ∈ l, 0 ≤ x ∧ x < n) ∧ l.Nodup
noncomputable def sdB (n : Int) (es : List E) (l : List Int) : Bool := gvB n es && @decide (sdP n l) (Classical.propDecidable _)
theorem sdB_tt {n : Int} {es : List E} {l : List Int} (h0 : gvB n es = true) (h : sdP n l) : sdB n es l = true := by unfold sdB; simp [h, h0]
theorem sdB_ff {n : Int} {es : List E} {l : List Int} (h : ¬ sdP n l) : sdB n es l = false := by unfold sdB; simp [h]
def ovP (l : List Int) (e : E) : Bool := decide (e.1 ∈ l) != decide (e.2 ∈ l)
noncomputable def cszV (n : Int) (es : List E) (l : List Int) : Int := if sdB n es l then ((es.filter (ovP l)).length : Int) else 0
theorem CutSizeS_is (t t' : Bool) (n : Int) (es : List E) (l : List Int) (hl : es.length ≤ 1048576) (hl' : l.length ≤ 1048576) :
    Is prog fid_spec_CutSize [Gr t n es, .s t' 1 (encI l)] (.tup [.i .i64 (cszV n es l), .b (sdB n es l)]) := by
  refine MCall.run mixed get_spec_CutSize ok_spec_CutSize (Nat.le_of_ble_eq_true rfl) (by decide) ?_
  unfold mc_spec_CutSize
  simp (config := { maxSteps := 10000000, implicitDefEqProofs := false }) only [go_sem, ↓reduceIte, Nat.reduceAdd, Nat.reduceMul, Nat.reduceEqDiff, Nat.reduceSub, Nat.reduceLT, reduceCtorEq, Nat.reduceLeDiff, Nat.reduceBEq, mwp_draw]
  refine callK_is (GraphValidS_is _ n es hl) ?_
  cases h : gvB n es
  · simp (config := { maxSteps := 10000000, implicitDefEqProofs := false }) only [go_sem, ↓reduceIte, Nat.reduceAdd, Nat.reduceMul, Nat.reduceEqDiff, Nat.reduceSub, Nat.reduceLT, reduceCtorEq, Nat.reduceLeDiff, Nat.reduceBEq, mwp_draw]
    simp [cszV, sdB, h]
  · simp (config := { maxSteps := 10000000, implicitDefEqProofs := false }) only [go_sem, ↓reduceIte, Nat.reduceAdd, Nat.reduceMul, Nat.reduceEqDiff, Nat.reduceSub, Nat.reduceLT, reduceCtorEq, Nat.reduceLeDiff, Nat.reduceBEq, mwp_draw]
    refine mwp_loopk (X := Nat) (fun i => ⟨[(1, .s t' 1 (encI l)), (2, .pr 0 0 0), (6, .i .i64 i)], [(0, .box [.i .i64 n, .s t 2 (encE es)])], 1⟩)
      (fun i => i ≤ l.length ∧ (∀ x ∈ l.take i, 0 ≤ x ∧ x < n) ∧ (l.take i).Nodup) (fun i => l.length - i) 0 (by rfl) (by simp) ?_
    rintro i ⟨h1, h2, h3⟩ K kN kE kR
    simp (config := { maxSteps := 10000000, implicitDefEqProofs := false }) only [go_sem, ↓reduceIte, Nat.reduceAdd, Nat.reduceMul, Nat.reduceEqDiff, Nat.reduceSub, Nat.reduceLT, reduceCtorEq, Nat.reduceLeDiff, Nat.reduceBEq]
    refine ⟨fun c1 => ?_, fun c1 => kE _ _ ?_⟩
    · obtain ⟨x, hx⟩ : ∃ x, l[i]? = some x := ⟨l[i], List.getElem?_eq_getElem (by omega)⟩
      have gx : ∀ K : List D → Prop, getK (encI l) ((i : Int)).toNat K = K [.i .i64 x] := fun K => by
        rw [Int.toNat_natCast, getK_encI, hx]; simp
      have ix : (0 ≤ (i : Int)) = True := eq_true (by omega)
      have iy : ((i : Int) < l.length) = True := eq_true c1
      have iz : ((i : Int) ≤ l.length) = True := eq_true (by omega)
      have bad : sdB n es l = false → ∀ hp nx, K .ret ⟨[(4, .i .i64 0), (5, .b false)], hp, nx⟩ := fun h hp nx => kR _ (by
        simp (config := { maxSteps := 10000000, implicitDefEqProofs := false }) only [go_sem, ↓reduceIte, Nat.reduceAdd, Nat.reduceMul, Nat.reduceEqDiff, Nat.reduceSub, Nat.reduceLT, reduceCtorEq, Nat.reduceLeDiff, Nat.reduceBEq, mwp_draw]
        simp [cszV, h])
      have hxm := List.mem_of_getElem? hx
      by_cases a1 : x < 0
      · simp (config := { maxSteps := 10000000, implicitDefEqProofs := false }) only [go_sem, ↓reduceIte, Nat.reduceAdd, Nat.reduceMul, Nat.reduceEqDiff, Nat.reduceSub, Nat.reduceLT, reduceCtorEq, Nat.reduceLeDiff, Nat.reduceBEq, mwp_draw, ↓gx, a1, ix, iy, true_and]
        exact ⟨by kernel_rfl, bad (sdB_ff fun c => by have := c.1 x hxm; omega) _ _⟩
      by_cases a2 : n ≤ x
      · simp (config := { maxSteps := 10000000, implicitDefEqProofs := false }) only [go_sem, ↓reduceIte, Nat.reduceAdd, Nat.reduceMul, Nat.reduceEqDiff, Nat.reduceSub, Nat.reduceLT, reduceCtorEq, Nat.reduceLeDiff, Nat.reduceBEq, mwp_draw, ↓gx, a1, a2, ix, iy, true_and]
        exact ⟨by kernel_rfl, bad (sdB_ff fun c => by have := c.1 x hxm; omega) _ _⟩
      simp (config := { maxSteps := 10000000, implicitDefEqProofs := false }) only [go_sem, ↓reduceIte, Nat.reduceAdd, Nat.reduceMul, Nat.reduceEqDiff, Nat.reduceSub, Nat.reduceLT, reduceCtorEq, Nat.reduceLeDiff, Nat.reduceBEq, mwp_draw, ↓gx, a1, a2, ix, iy, iz, true_and]
      refine ⟨by omega, by omega, callK_is (l6In_is _ (l.take i) x (by simp; omega)) ?_⟩
      have e1 : l.take (i + 1) = l.take i ++ [x] := by rw [List.take_add_one, hx]; rfl
      by_cases a3 : x ∈ l.take i
      · simp (config := { maxSteps := 10000000, implicitDefEqProofs := false }) only [go_sem, ↓reduceIte, Nat.reduceAdd, Nat.reduceMul, Nat.reduceEqDiff, Nat.reduceSub, Nat.reduceLT, reduceCtorEq, Nat.reduceLeDiff, Nat.reduceBEq, mwp_draw, ↓gx, a1, a2, a3, ix, iy, iz, true_and]
        refine ⟨by kernel_rfl, bad (sdB_ff fun c => ?_) _ _⟩
        have h5 : (l.take (i + 1)).Nodup := c.2.sublist (List.take_sublist _ _)
        rw [e1, List.nodup_append] at h5
        exact h5.2.2 x a3 x (by simp) rfl
      · simp (config := { maxSteps := 10000000, implicitDefEqProofs := false }) only [go_sem, ↓reduceIte, Nat.reduceAdd, Nat.reduceMul, Nat.reduceEqDiff, Nat.reduceSub, Nat.reduceLT, reduceCtorEq, Nat.reduceLeDiff, Nat.reduceBEq, mwp_draw, ↓gx, a1, a2, a3, ix, iy, iz, true_and]
        refine ⟨by kernel_rfl, fits64 (by omega) (by omega), kN _ (i + 1) (by rfl) ⟨by omega, fun z hz => ?_, ?_⟩ (by omega)⟩
        · rw [e1] at hz
          rcases List.mem_append.1 hz with hz | hz
          · exact h2 z hz
          · simp at hz; subst hz; omega
        · rw [e1, List.nodup_append]
          exact ⟨h3, by simp, fun a ha b hb => by simp at hb; subst hb; exact fun q => a3 (q ▸ ha)⟩
    · obtain rfl : i = l.length := by omega
      rw [List.take_length] at h2 h3
      have hs := sdB_tt h ⟨h2, h3⟩
      simp (config := { maxSteps := 10000000, implicitDefEqProofs := false }) only [go_sem, ↓reduceIte, Nat.reduceAdd, Nat.reduceMul, Nat.reduceEqDiff, Nat.reduceSub, Nat.reduceLT, reduceCtorEq, Nat.reduceLeDiff, Nat.reduceBEq, mwp_draw]
      refine mwp_loopk (X := Nat) (fun i => ⟨[(1, .s t' 1 (encI l)), (2, .pr 0 0 0), (7, .i .i64 ((es.take i).filter (ovP l)).length), (8, .i .i64 i)], [(0, .box [.i .i64 n, .s t 2 (encE es)])], 1⟩)
        (fun i => i ≤ es.length) (fun i => es.length - i) 0 (by rfl) (by simp) ?_
      rintro i h1 K kN kE kR
      have hb : ((es.take i).filter (ovP l)).length ≤ es.length := Nat.le_trans (List.length_filter_le _ _) (by simp; omega)
      simp (config := { maxSteps := 10000000, implicitDefEqProofs := false }) only [go_sem, ↓reduceIte, Nat.reduceAdd, Nat.reduceMul, Nat.reduceEqDiff, Nat.reduceSub, Nat.reduceLT, reduceCtorEq, Nat.reduceLeDiff, Nat.reduceBEq]
      refine ⟨fun c1 => ?_, fun c1 => kE _ _ ?_⟩
      · obtain ⟨e, he⟩ : ∃ e, es[i]? = some e := ⟨es[i], List.getElem?_eq_getElem (by omega)⟩
        have gx : ∀ K : List D → Prop, getK (encE es) ((i : Int)).toNat K = K [.i .i64 e.1, .i .i64 e.2] := fun K => by
          rw [Int.toNat_natCast, getK_encE, he]; simp
        have ix : (0 ≤ (i : Int)) = True := eq_true (by omega)
        have iy : ((i : Int) < es.length) = True := eq_true c1
        simp (config := { maxSteps := 10000000, implicitDefEqProofs := false }) only [go_sem, ↓reduceIte, Nat.reduceAdd, Nat.reduceMul, Nat.reduceEqDiff, Nat.reduceSub, Nat.reduceLT, reduceCtorEq, Nat.reduceLeDiff, Nat.reduceBEq, mwp_draw, ↓gx, ix, iy, true_and]
        refine callK_is (l6In_is _ l e.1 (by omega)) ?_
        simp (config := { maxSteps := 10000000, implicitDefEqProofs := false }) only [go_sem, ↓reduceIte, Nat.reduceAdd, Nat.reduceMul, Nat.reduceEqDiff, Nat.reduceSub, Nat.reduceLT, reduceCtorEq, Nat.reduceLeDiff, Nat.reduceBEq, mwp_draw, ↓gx, ix, iy, true_and]
        refine callK_is (l6In_is _ l e.2 (by omega)) ?_
        have st := filter_snoc (p := ovP l) he
        have goal : ∀ b : Bool, ovP l e = b → ((if b then ((es.take i).filter (ovP l)).length + 1 else ((es.take i).filter (ovP l)).length) = ((es.take (i + 1)).filter (ovP l)).length) := fun b hb => by
          rw [st, hb]; cases b <;> simp
        have no : ovP l e = false → ∀ s', norm [1, 2, 7, 8] s' = ⟨[(1, .s t' 1 (encI l)), (2, .pr 0 0 0), (7, .i .i64 ((es.take i).filter (ovP l)).length), (8, .i .i64 ((i + 1 : Nat) : Int))], [(0, .box [.i .i64 n, .s t 2 (encE es)])], 1⟩ → K .normal s' := fun q s' hs' =>
          kN s' (i + 1) (by rw [hs', ← goal false q]; rfl) (by omega) (by omega)
        have yes : ovP l e = true → ∀ s', norm [1, 2, 7, 8] s' = ⟨[(1, .s t' 1 (encI l)), (2, .pr 0 0 0), (7, .i .i64 (((es.take i).filter (ovP l)).length + 1 : Int)), (8, .i .i64 ((i + 1 : Nat) : Int))], [(0, .box [.i .i64 n, .s t 2 (encE es)])], 1⟩ → K .normal s' := fun q s' hs' =>
          kN s' (i + 1) (by rw [hs', ← goal true q]; rfl) (by omega) (by omega)
        have bb1 : (true == false) = false := rfl
        have bb2 : (false == true) = false := rfl
        by_cases m1 : e.1 ∈ l
        · by_cases m2 : e.2 ∈ l
          · simp (config := { maxSteps := 10000000, implicitDefEqProofs := false }) only [go_sem, ↓reduceIte, Nat.reduceAdd, Nat.reduceMul, Nat.reduceEqDiff, Nat.reduceSub, Nat.reduceLT, reduceCtorEq, Nat.reduceLeDiff, Nat.reduceBEq, mwp_draw, ↓gx, ix, iy, true_and, m1, m2, bne_self_eq_false]
            exact ⟨by kernel_rfl, fits64 (by omega) (by omega), no (by simp [ovP, m1, m2]) _ (by rfl)⟩
          · simp (config := { maxSteps := 10000000, implicitDefEqProofs := false }) only [go_sem, ↓reduceIte, Nat.reduceAdd, Nat.reduceMul, Nat.reduceEqDiff, Nat.reduceSub, Nat.reduceLT, reduceCtorEq, Nat.reduceLeDiff, Nat.reduceBEq, mwp_draw, ↓gx, ix, iy, true_and, m1, m2, bb1, bb2, Bool.not_false]
            exact ⟨by kernel_rfl, fits64 (by omega) (by omega), fits64 (by omega) (by omega), yes (by simp [ovP, m1, m2]) _ (by rfl)⟩
        · by_cases m2 : e.2 ∈ l
          · simp (config := { maxSteps := 10000000, implicitDefEqProofs := false }) only [go_sem, ↓reduceIte, Nat.reduceAdd, Nat.reduceMul, Nat.reduceEqDiff, Nat.reduceSub, Nat.reduceLT, reduceCtorEq, Nat.reduceLeDiff, Nat.reduceBEq, mwp_draw, ↓gx, ix, iy, true_and, m1, m2, bb1, bb2, Bool.not_false]
            exact ⟨by kernel_rfl, fits64 (by omega) (by omega), fits64 (by omega) (by omega), yes (by simp [ovP, m1, m2]) _ (by rfl)⟩
          · simp (config := { maxSteps := 10000000, implicitDefEqProofs := false }) only [go_sem, ↓reduceIte, Nat.reduceAdd, Nat.reduceMul, Nat.reduceEqDiff, Nat.reduceSub, Nat.reduceLT, reduceCtorEq, Nat.reduceLeDiff, Nat.reduceBEq, mwp_draw, ↓gx, ix, iy, true_and, m1, m2, bne_self_eq_false]
            exact ⟨by kernel_rfl, fits64 (by omega) (by omega), no (by simp [ovP, m1, m2]) _ (by rfl)⟩
      · simp (config := { maxSteps := 10000000, implicitDefEqProofs := false }) only [go_sem, ↓reduceIte, Nat.reduceAdd, Nat.reduceMul, Nat.reduceEqDiff, Nat.reduceSub, Nat.reduceLT, reduceCtorEq, Nat.reduceLeDiff, Nat.reduceBEq, mwp_draw]
        obtain rfl : i = es.length := by omega
        rw [List.take_length]
        simp [cszV, hs]
/-- The nodes of a side, as flags. -/
def mkT (m : Nat) (l : List Int) : List Bool := (List.range m).map fun (j : Nat) => decide ((j : Int) ∈ l)
theorem mkT_length (m : Nat) (l : List Int) : (mkT m l).length = m := by simp [mkT]
theorem mkT_get {m : Nat} {l : List Int} {x : Int} (hx : 0 ≤ x ∧ x < m) : (mkT m l)[x.toNat]? = some (decide (x ∈ l)) := by
  have h : x.toNat < m := by omega
  simp only [mkT, List.getElem?_map, List.getElem?_range h, Option.map_some]
  rw [show ((x.toNat : Nat) : Int) = x by omega]
theorem mkT_nil (m : Nat) : List.replicate m false = mkT m [] := by
  apply List.ext_getElem?
  intro j
  by_cases h : j < m
  · simp [mkT, h]
  · simp [mkT, h]
theorem mkT_set {m : Nat} {l : List Int} {x : Int} (hx : 0 ≤ x ∧ x < m) : (mkT m l).set x.toNat true = mkT m (l ++ [x]) := by
  apply List.ext_getElem?
  intro j
  by_cases h : j < m
  · by_cases hj : x.toNat = j
    · subst hj
      rw [List.getElem?_set_self (by rw [mkT_length]; omega), mkT_get hx]
      simp
    · rw [List.getElem?_set_ne hj]
      have : (j : Int) ≠ x := by omega
      simp [mkT, h, this]
  · rw [List.getElem?_eq_none (by simp [mkT_length]; omega), List.getElem?_eq_none (by simp [mkT_length]; omega)]
theorem CutSize1_is (t : Bool) (m : Nat) (l : List Int) (e : E) (h1 : 0 ≤ e.1 ∧ e.1 < m) (h2 : 0 ≤ e.2 ∧ e.2 < m) : Is prog fid_impl_CutSize_1 [Ed1 e, .pd t [.a 1 (encT (mkT m l))] 0] (.b (ovP l e)) := by
  refine MCall.run mixed get_impl_CutSize_1 ok_impl_CutSize_1 (Nat.le_of_ble_eq_true rfl) (by decide) ?_
  unfold mc_impl_CutSize_1
  have hl := mkT_length m l
  simp (config := { maxSteps := 10000000, implicitDefEqProofs := false }) only [go_sem, ↓reduceIte, Nat.reduceAdd, Nat.reduceMul, Nat.reduceEqDiff, Nat.reduceSub, Nat.reduceLT, reduceCtorEq, Nat.reduceLeDiff, Nat.reduceBEq, mwp_draw]
  refine ⟨by omega, by omega, fun x hx => ⟨by omega, by omega, fun y hy => ?_⟩⟩
  rw [mkT_get h1] at hx
  rw [mkT_get h2] at hy
  cases hx
  cases hy
  first | exact ⟨by kernel_rfl, mvb rfl⟩ | exact ⟨by kernel_rfl, rfl⟩ | (show _ = true; kernel_rfl)
theorem CutSize_is (t t' : Bool) (n : Int) (es : List E) (l : List Int) (hl : es.length ≤ 1048576) (hl' : l.length ≤ 1048576) :
    Is prog fid_impl_CutSize [Gr t n es, .s t' 1 (encI l)] (.tup [.i .i64 (cszV n es l), .b (sdB n es l)]) := by
  refine MCall.run mixed get_impl_CutSize ok_impl_CutSize (Nat.le_of_ble_eq_true rfl) (by decide) ?_
  unfold mc_impl_CutSize
  simp (config := { maxSteps := 10000000, implicitDefEqProofs := false }) only [go_sem, ↓reduceIte, Nat.reduceAdd, Nat.reduceMul, Nat.reduceEqDiff, Nat.reduceSub, Nat.reduceLT, reduceCtorEq, Nat.reduceLeDiff, Nat.reduceBEq, mwp_draw]
  refine callK_is (GraphValid_is _ n es hl) ?_
  cases h : gvB n es
  · simp (config := { maxSteps := 10000000, implicitDefEqProofs := false }) only [go_sem, ↓reduceIte, Nat.reduceAdd, Nat.reduceMul, Nat.reduceEqDiff, Nat.reduceSub, Nat.reduceLT, reduceCtorEq, Nat.reduceLeDiff, Nat.reduceBEq, mwp_draw]
    simp [cszV, sdB, h]
  · have hg := gvB_iff.1 h
    have hn1 := hg.1
    have hn2 := hg.2.1
    have hml := mkT_length n.toNat
    simp (config := { maxSteps := 10000000, implicitDefEqProofs := false }) only [go_sem, ↓reduceIte, Nat.reduceAdd, Nat.reduceMul, Nat.reduceEqDiff, Nat.reduceSub, Nat.reduceLT, reduceCtorEq, Nat.reduceLeDiff, Nat.reduceBEq, mwp_draw]
    refine ⟨by omega, by omega, ?_⟩
    refine mwp_loopk (X := Nat) (fun i => ⟨[(2, .pr 0 0 0), (6, .pr 1 0 0), (15, .s t' 1 (encI l)), (16, .i .i64 l.length), (17, .i .i64 i)], [(0, .box [.i .i64 n, .s t 2 (encE es)]), (1, .box [.sr 2 0 n.toNat]), (2, .arr true 1 (encT (mkT n.toNat (l.take i))))], 3⟩)
      (fun i => i ≤ l.length ∧ (∀ x ∈ l.take i, 0 ≤ x ∧ x < n) ∧ (l.take i).Nodup) (fun i => l.length - i) 0 (by rw [mkT_nil]; rfl) (by simp) ?_
    rintro i ⟨h1, h2, h3⟩ K kN kE kR
    simp (config := { maxSteps := 10000000, implicitDefEqProofs := false }) only [go_sem, ↓reduceIte, Nat.reduceAdd, Nat.reduceMul, Nat.reduceEqDiff, Nat.reduceSub, Nat.reduceLT, reduceCtorEq, Nat.reduceLeDiff, Nat.reduceBEq, mwp_draw]
    refine ⟨fun c1 => ?_, fun c1 => kE _ _ ?_⟩
    · refine ⟨by omega, c1, fun x hx => ?_⟩
      have hxm := List.mem_of_getElem? hx
      have bad : sdB n es l = false → ∀ hp nx, K .ret ⟨[(4, .i .i64 0), (5, .b false)], hp, nx⟩ := fun h hp nx => kR _ (by
        simp (config := { maxSteps := 10000000, implicitDefEqProofs := false }) only [go_sem, ↓reduceIte, Nat.reduceAdd, Nat.reduceMul, Nat.reduceEqDiff, Nat.reduceSub, Nat.reduceLT, reduceCtorEq, Nat.reduceLeDiff, Nat.reduceBEq, mwp_draw]
        simp [cszV, h])
      have e1 : l.take (i + 1) = l.take i ++ [x] := by rw [List.take_add_one, hx]; rfl
      refine ⟨fun a1 => ⟨fun a2 => ⟨by omega, by omega, by rw [hml]; omega, fun b hb => ?_⟩, fun a2 => bad (sdB_ff fun c => by have := c.1 x hxm; omega) _ _⟩, fun a1 => bad (sdB_ff fun c => by have := c.1 x hxm; omega) _ _⟩
      rw [mkT_get (by omega)] at hb
      by_cases a3 : x ∈ l.take i
      · obtain rfl : b = true := by simpa [a3] using hb.symm
        simp (config := { maxSteps := 10000000, implicitDefEqProofs := false }) only [go_sem, ↓reduceIte, Nat.reduceAdd, Nat.reduceMul, Nat.reduceEqDiff, Nat.reduceSub, Nat.reduceLT, reduceCtorEq, Nat.reduceLeDiff, Nat.reduceBEq, mwp_draw]
        refine bad (sdB_ff fun c => ?_) _ _
        have h5 : (l.take (i + 1)).Nodup := c.2.sublist (List.take_sublist _ _)
        rw [e1, List.nodup_append] at h5
        exact h5.2.2 x a3 x (by simp) rfl
      · obtain rfl : b = false := by simpa [a3] using hb.symm
        have st : (mkT n.toNat (l.take i)).set x.toNat true = mkT n.toNat (l.take (i + 1)) := by rw [e1]; exact mkT_set (by omega)
        simp (config := { maxSteps := 10000000, implicitDefEqProofs := false }) only [go_sem, ↓reduceIte, Nat.reduceAdd, Nat.reduceMul, Nat.reduceEqDiff, Nat.reduceSub, Nat.reduceLT, reduceCtorEq, Nat.reduceLeDiff, Nat.reduceBEq, mwp_draw, st]
        exact ⟨by omega, by omega, by rw [hml]; omega, fun _ _ => ⟨fits64 (by omega) (by omega), kN _ (i + 1) (by rfl) ⟨by omega, fun z hz => by
          rw [e1] at hz
          rcases List.mem_append.1 hz with hz | hz
          · exact h2 z hz
          · simp at hz; subst hz; omega, by
          rw [e1, List.nodup_append]
          exact ⟨h3, by simp, fun a ha b hb => by simp at hb; subst hb; exact fun q => a3 (q ▸ ha)⟩⟩ (by omega)⟩⟩
    · obtain rfl : i = l.length := by omega
      rw [List.take_length] at h2 h3
      have hs := sdB_tt h ⟨h2, h3⟩
      simp (config := { maxSteps := 10000000, implicitDefEqProofs := false }) only [go_sem, ↓reduceIte, Nat.reduceAdd, Nat.reduceMul, Nat.reduceEqDiff, Nat.reduceSub, Nat.reduceLT, reduceCtorEq, Nat.reduceLeDiff, Nat.reduceBEq, mwp_draw]
      refine ⟨tdm es, tst (ovP l), fnOk_tst (cs := [.pd false [.a 1 (encT (mkT n.toNat l))] 0]) rfl ?_ ⟨_, get_impl_CutSize_1, by kernel_rfl, by kernel_rfl⟩ (fun e he => CutSize1_is _ n.toNat l e ?_ ?_), ?_⟩
      · have tk : (mkT n.toNat l).take n.toNat = mkT n.toNat l := List.take_of_length_le (by rw [hml]; omega)
        simp [mapO, closeM, closeC, closeD, MS.obj, look, encT_length, hml, encT_take, tk]
      · have := hg.2.2.2.1 e he; unfold EIn at this; omega
      · have := hg.2.2.2.1 e he; unfold EIn at this; omega
      refine callK_is (edgesBy_is _ n es _ _ _ (tests_tst es _) hl) ?_
      simp (config := { maxSteps := 10000000, implicitDefEqProofs := false }) only [go_sem, ↓reduceIte, Nat.reduceAdd, Nat.reduceMul, Nat.reduceEqDiff, Nat.reduceSub, Nat.reduceLT, reduceCtorEq, Nat.reduceLeDiff, Nat.reduceBEq, mwp_draw]
      simp [cszV, hs]
end Go.Fw
