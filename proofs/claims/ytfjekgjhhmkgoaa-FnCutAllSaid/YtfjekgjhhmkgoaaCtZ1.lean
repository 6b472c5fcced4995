/-
  Levels: an edge is put in.
-/
import Derived.Test.YtfjekgjhhmkgoaaCtY
import Derived.Test.YtfjekgjhhmkgoaaCtX
namespace Go.Fw
set_option linter.unusedSimpArgs false
set_option linter.unusedVariables false
set_option maxRecDepth 100000
set_option maxHeartbeats 4000000
open Go.Proofs.Try (prog)
open Go.Pl

theorem idx_lt {l : List E} {e : E} : (idxE l e < 0) = ¬ e ∈ l := by
  rw [← idxE_ge (l := l) (e := e)]; exact propext (by omega)
theorem idx_hi {l : List E} {e : E} (h : 0 ≤ idxE l e) : idxE l e < l.length := by
  have : idxE l e ≠ -1 := by omega
  obtain ⟨i, h1, h2, _⟩ := idxP_some this
  have h1' : idxE l e = i := h1
  omega
def atI (es : List E) (ls : List Int) (x : E) : Int := if idxE es x < 0 then 0 else ls[(idxE es x).toNat]?.getD 0
def atT (es : List E) (fs : List Bool) (b : Bool) (x : E) : Bool := if idxE es x < 0 then b else fs[(idxE es x).toNat]?.getD false
theorem map_next {α β : Type} {f : α → β} {l : List α} {i : Nat} {x : α} (hx : l[i]? = some x) : (l.take (i + 1)).map f = (l.take i).map f ++ [f x] := by rw [take_snoc hx]; simp
theorem l7Put_is (t1 t2 t3 : Bool) (n : Int) (es : List E) (ls : List Int) (fs : List Bool) (e : E) (b : Bool) (hl : es.length ≤ 1048576) (h2 : ls.length = es.length) (h3 : fs.length = es.length) :
    Is prog fid_spec_l7Put [Lv t1 t2 t3 n es ls fs, Ed1 e, .b b] (.agg [.i .i64 n, .ow true 2 (encE (putS es e)), .ow true 1 (encI ((putS es e).map (atI es ls))), .ow true 1 (encT ((putS es e).map (atT es fs b)))]) := by
  refine MCall.run mixed get_spec_l7Put ok_spec_l7Put (Nat.le_of_ble_eq_true rfl) (by decide) ?_
  unfold mc_spec_l7Put
  have hne := putS_length es e
  simp (config := { maxSteps := 10000000, implicitDefEqProofs := false }) only [go_sem, ↓reduceIte, Nat.reduceAdd, Nat.reduceMul, Nat.reduceEqDiff, Nat.reduceSub, Nat.reduceLT, reduceCtorEq, Nat.reduceLeDiff, Nat.reduceBEq, mwp_draw]
  refine callK_is (l1Put_is _ es e (by omega)) ?_
  generalize putS es e = ps at hne
  simp (config := { maxSteps := 10000000, implicitDefEqProofs := false }) only [go_sem, ↓reduceIte, Nat.reduceAdd, Nat.reduceMul, Nat.reduceEqDiff, Nat.reduceSub, Nat.reduceLT, reduceCtorEq, Nat.reduceLeDiff, Nat.reduceBEq, mwp_draw]
  repeat (refine ⟨by first | omega | decide | exact fits64 (by omega) (by omega) | kernel_rfl | (intros; omega), ?_⟩)
  refine mwp_loopk (X := Nat × List Int × List Bool) (fun x => ⟨[(2, .b b), (3, .pr 0 0 0), (6, .pr 1 0 0), (7, .pr 2 0 0), (8, .i .i64 x.1)],
      match x.2.1, x.2.2 with
      | _ :: _, _ :: _ => [(0, .box [.i .i64 n, .s t1 2 (encE es), .s t2 1 (encI ls), .s t3 1 (encT fs)]), (1, .box [.i .i64 0, .nl 2, .nl 1, .nl 1]), (2, .box [.i .i64 n, .sr 3 0 ps.length, .sr 4 0 x.2.1.length, .sr 5 0 x.2.2.length]), (3, .arr true 2 (encE ps)), (4, .arr true 1 (encI x.2.1)), (5, .arr true 1 (encT x.2.2))]
      | _, _ => [(0, .box [.i .i64 n, .s t1 2 (encE es), .s t2 1 (encI ls), .s t3 1 (encT fs)]), (1, .box [.i .i64 0, .nl 2, .nl 1, .nl 1]), (2, .box [.i .i64 n, .sr 3 0 ps.length, .nl 1, .nl 1]), (3, .arr true 2 (encE ps))],
      match x.2.1, x.2.2 with | _ :: _, _ :: _ => 6 | _, _ => 4⟩)
    (fun x => x.1 ≤ ps.length ∧ x.2.1 = (ps.take x.1).map (atI es ls) ∧ x.2.2 = (ps.take x.1).map (atT es fs b)) (fun x => ps.length - x.1) (0, [], []) (by rfl) (by simp) ?_
  rintro ⟨i, ql, qt⟩ ⟨g1, g2, g3⟩ K kN kE kR
  simp only at g1 g2 g3
  have gl2 : ql.length = i := by rw [g2]; simp; omega
  have gl3 : qt.length = i := by rw [g3]; simp; omega
  have hi : ∀ {y : Int}, (i : Int) < ps.length → True := fun _ => trivial
  cases ql with
  | nil =>
    obtain rfl : qt = [] := List.eq_nil_of_length_eq_zero (by simp at gl2; omega)
    have nI := fun (x : E) (hx : ps[i]? = some x) => map_next (f := atI es ls) hx
    have nT := fun (x : E) (hx : ps[i]? = some x) => map_next (f := atT es fs b) hx
    rw [← g2] at nI
    rw [← g3] at nT
    simp (config := { maxSteps := 10000000, implicitDefEqProofs := false }) only [go_sem, ↓reduceIte, Nat.reduceAdd, Nat.reduceMul, Nat.reduceEqDiff, Nat.reduceSub, Nat.reduceLT, reduceCtorEq, Nat.reduceLeDiff, Nat.reduceBEq]
    refine ⟨fun c => ?_, fun c => kE _ _ ?_⟩
    · obtain ⟨x, hx⟩ : ∃ x, ps[i]? = some x := ⟨ps[i], List.getElem?_eq_getElem (by omega)⟩
      have nI' := nI x hx
      have nT' := nT x hx
      simp (config := { maxSteps := 10000000, implicitDefEqProofs := false }) only [go_sem, ↓reduceIte, Nat.reduceAdd, Nat.reduceMul, Nat.reduceEqDiff, Nat.reduceSub, Nat.reduceLT, reduceCtorEq, Nat.reduceLeDiff, Nat.reduceBEq, mwp_draw]
      repeat (refine ⟨by first | omega | decide | exact fits64 (by omega) (by omega) | kernel_rfl | (intros; omega), ?_⟩)
      intro y hy
      obtain rfl : x = y := by rw [hx] at hy; exact Option.some.inj hy
      refine callK_is (l1Find_is _ es x (by omega)) ?_
      by_cases d : idxE es x < 0
      · have v1 : atI es ls x = 0 := by simp [atI, d]
        have v2 : atT es fs b x = b := by simp [atT, d]
        rw [v1] at nI'
        rw [v2] at nT'
        simp (config := { maxSteps := 10000000, implicitDefEqProofs := false }) only [go_sem, ↓reduceIte, Nat.reduceAdd, Nat.reduceMul, Nat.reduceEqDiff, Nat.reduceSub, Nat.reduceLT, reduceCtorEq, Nat.reduceLeDiff, Nat.reduceBEq, mwp_draw, d]
        repeat (refine ⟨by first | omega | decide | exact fits64 (by omega) (by omega) | kernel_rfl | (intros; omega), ?_⟩)
        exact kN _ (i + 1, [0], [b]) (by simp; rfl) ⟨by simp only; omega, by simp only; rw [nI']; simp, by simp only; rw [nT']; simp⟩ (by simp only; omega)
      · have dh := idx_hi (l := es) (e := x) (by omega)
        obtain ⟨v, hv⟩ : ∃ v, ls[(idxE es x).toNat]? = some v := ⟨ls[(idxE es x).toNat], List.getElem?_eq_getElem (by omega)⟩
        obtain ⟨w, hw⟩ : ∃ w, fs[(idxE es x).toNat]? = some w := ⟨fs[(idxE es x).toNat], List.getElem?_eq_getElem (by omega)⟩
        have v1 : atI es ls x = v := by simp [atI, d, hv]
        have v2 : atT es fs b x = w := by simp [atT, d, hw]
        rw [v1] at nI'
        rw [v2] at nT'
        simp (config := { maxSteps := 10000000, implicitDefEqProofs := false }) only [go_sem, ↓reduceIte, Nat.reduceAdd, Nat.reduceMul, Nat.reduceEqDiff, Nat.reduceSub, Nat.reduceLT, reduceCtorEq, Nat.reduceLeDiff, Nat.reduceBEq, mwp_draw, d]
        repeat (refine ⟨by first | omega | decide | exact fits64 (by omega) (by omega) | kernel_rfl | (intros; omega), ?_⟩)
        intro v' hv'
        obtain rfl : v = v' := by rw [hv] at hv'; exact Option.some.inj hv'
        repeat (refine ⟨by first | omega | decide | exact fits64 (by omega) (by omega) | kernel_rfl | (intros; omega), ?_⟩)
        intro w' hw'
        obtain rfl : w = w' := by rw [hw] at hw'; exact Option.some.inj hw'
        repeat (refine ⟨by first | omega | decide | exact fits64 (by omega) (by omega) | kernel_rfl | (intros; omega), ?_⟩)
        exact kN _ (i + 1, [v], [w]) (by simp; rfl) ⟨by simp only; omega, by simp only; rw [nI']; simp, by simp only; rw [nT']; simp⟩ (by simp only; omega)
    · have hi2 : i = ps.length := by omega
      rw [hi2, List.take_length] at g2 g3
      simp (config := { maxSteps := 10000000, implicitDefEqProofs := false }) only [go_sem, ↓reduceIte, Nat.reduceAdd, Nat.reduceMul, Nat.reduceEqDiff, Nat.reduceSub, Nat.reduceLT, reduceCtorEq, Nat.reduceLeDiff, Nat.reduceBEq, mwp_draw]
      rw [← g2, ← g3]
      try simp [encI, encT]
  | cons l0 lr =>
    obtain ⟨f0, fr, rfl⟩ : ∃ f0 fr, qt = f0 :: fr := by
      cases qt with
      | nil => simp at gl2 gl3; omega
      | cons f0 fr => exact ⟨f0, fr, rfl⟩
    have gl2' : lr.length + 1 = i := by simpa using gl2
    have gl3' : fr.length + 1 = i := by simpa using gl3
    have nI := fun (x : E) (hx : ps[i]? = some x) => map_next (f := atI es ls) hx
    have nT := fun (x : E) (hx : ps[i]? = some x) => map_next (f := atT es fs b) hx
    rw [← g2] at nI
    rw [← g3] at nT
    simp (config := { maxSteps := 10000000, implicitDefEqProofs := false }) only [go_sem, ↓reduceIte, Nat.reduceAdd, Nat.reduceMul, Nat.reduceEqDiff, Nat.reduceSub, Nat.reduceLT, reduceCtorEq, Nat.reduceLeDiff, Nat.reduceBEq]
    refine ⟨fun c => ?_, fun c => kE _ _ ?_⟩
    · obtain ⟨x, hx⟩ : ∃ x, ps[i]? = some x := ⟨ps[i], List.getElem?_eq_getElem (by omega)⟩
      have nI' := nI x hx
      have nT' := nT x hx
      simp (config := { maxSteps := 10000000, implicitDefEqProofs := false }) only [go_sem, ↓reduceIte, Nat.reduceAdd, Nat.reduceMul, Nat.reduceEqDiff, Nat.reduceSub, Nat.reduceLT, reduceCtorEq, Nat.reduceLeDiff, Nat.reduceBEq, mwp_draw]
      repeat (refine ⟨by first | omega | decide | exact fits64 (by omega) (by omega) | kernel_rfl | (intros; omega), ?_⟩)
      intro y hy
      obtain rfl : x = y := by rw [hx] at hy; exact Option.some.inj hy
      refine callK_is (l1Find_is _ es x (by omega)) ?_
      by_cases d : idxE es x < 0
      · have v1 : atI es ls x = 0 := by simp [atI, d]
        have v2 : atT es fs b x = b := by simp [atT, d]
        rw [v1] at nI'
        rw [v2] at nT'
        simp (config := { maxSteps := 10000000, implicitDefEqProofs := false }) only [go_sem, ↓reduceIte, Nat.reduceAdd, Nat.reduceMul, Nat.reduceEqDiff, Nat.reduceSub, Nat.reduceLT, reduceCtorEq, Nat.reduceLeDiff, Nat.reduceBEq, mwp_draw, d]
        repeat (refine ⟨by first | omega | decide | exact fits64 (by omega) (by omega) | kernel_rfl | (intros; omega), ?_⟩)
        exact kN _ (i + 1, (l0 :: (lr ++ [0])), (f0 :: (fr ++ [b]))) (by simp; rfl) ⟨by simp only; omega, by simp only; rw [nI']; simp, by simp only; rw [nT']; simp⟩ (by simp only; omega)
      · have dh := idx_hi (l := es) (e := x) (by omega)
        obtain ⟨v, hv⟩ : ∃ v, ls[(idxE es x).toNat]? = some v := ⟨ls[(idxE es x).toNat], List.getElem?_eq_getElem (by omega)⟩
        obtain ⟨w, hw⟩ : ∃ w, fs[(idxE es x).toNat]? = some w := ⟨fs[(idxE es x).toNat], List.getElem?_eq_getElem (by omega)⟩
        have v1 : atI es ls x = v := by simp [atI, d, hv]
        have v2 : atT es fs b x = w := by simp [atT, d, hw]
        rw [v1] at nI'
        rw [v2] at nT'
        simp (config := { maxSteps := 10000000, implicitDefEqProofs := false }) only [go_sem, ↓reduceIte, Nat.reduceAdd, Nat.reduceMul, Nat.reduceEqDiff, Nat.reduceSub, Nat.reduceLT, reduceCtorEq, Nat.reduceLeDiff, Nat.reduceBEq, mwp_draw, d]
        repeat (refine ⟨by first | omega | decide | exact fits64 (by omega) (by omega) | kernel_rfl | (intros; omega), ?_⟩)
        intro v' hv'
        obtain rfl : v = v' := by rw [hv] at hv'; exact Option.some.inj hv'
        repeat (refine ⟨by first | omega | decide | exact fits64 (by omega) (by omega) | kernel_rfl | (intros; omega), ?_⟩)
        intro w' hw'
        obtain rfl : w = w' := by rw [hw] at hw'; exact Option.some.inj hw'
        repeat (refine ⟨by first | omega | decide | exact fits64 (by omega) (by omega) | kernel_rfl | (intros; omega), ?_⟩)
        exact kN _ (i + 1, (l0 :: (lr ++ [v])), (f0 :: (fr ++ [w]))) (by simp; rfl) ⟨by simp only; omega, by simp only; rw [nI']; simp, by simp only; rw [nT']; simp⟩ (by simp only; omega)
    · have hi2 : i = ps.length := by omega
      rw [hi2, List.take_length] at g2 g3
      simp (config := { maxSteps := 10000000, implicitDefEqProofs := false }) only [go_sem, ↓reduceIte, Nat.reduceAdd, Nat.reduceMul, Nat.reduceEqDiff, Nat.reduceSub, Nat.reduceLT, reduceCtorEq, Nat.reduceLeDiff, Nat.reduceBEq, mwp_draw]
      rw [← g2, ← g3]
      try simp
end Go.Fw
