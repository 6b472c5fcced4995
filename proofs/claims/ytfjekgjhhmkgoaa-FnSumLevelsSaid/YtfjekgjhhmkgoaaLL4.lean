/-
  The law on sums of levels: levels are bounded.
-/
import Derived.Test.YtfjekgjhhmkgoaaCtLd
import Derived.Test.YtfjekgjhhmkgoaaCtLk
import Derived.Test.YtfjekgjhhmkgoaaCtRow
namespace Go.Fw
set_option linter.unusedSimpArgs false
set_option linter.unusedVariables false
set_option maxRecDepth 100000
set_option maxHeartbeats 4000000
open Go.Proofs.Try (prog)
open Go.Pl

theorem rch_nil {x y : Int} (h : Rch [] x y) : x = y := by
  induction h with
  | refl => rfl
  | step _ a _ => rcases a with a | a <;> simp at a
/-- A level has so many nodes at least. -/
theorem lok_two {n : Int} {T : List Lv1} (h : LOK n T) {d : Ed} {l : Int} {t : Bool} (hx : (d, l, t) ∈ T) : 2 ≤ n.toNat / 2 ^ l.toNat := by
  have hl := h.lev _ hx
  simp only at hl
  have he := h.ein d (List.mem_map.2 ⟨_, hx, rfl⟩)
  have he' := he
  unfold EIn at he'
  have hU : ∀ e ∈ up T l.toNat false, EIn n e := fun e he => h.ein e (up_fst he)
  have hm : d ∈ up T l.toNat false := mem_up.2 ⟨l, t, hx, by omega, fun q => by cases q⟩
  have c := cnt_two (n := n) (es := []) (by simp) hU (x := d.1) (y := d.2) (by omega) (by omega) (fun r => by have := rch_nil r; omega) (.one (.inl hm)) (fun a b r => by rw [rch_nil r]; exact .refl)
  have p1 := cnt_pos (n := n) (es := []) (x := d.1) (by omega)
  have p2 := cnt_pos (n := n) (es := []) (x := d.2) (by omega)
  have := h.siz l.toNat (by omega) d.1 (by omega) (by omega) (by omega)
  omega
theorem FnSumLevels_is (t : Bool) (b : List Int) (hb : Byt b) : Is prog fid_laws_FnSumLevels [.s t 1 (encB b)] (.b true) := by
  refine MCall.run mixed get_laws_FnSumLevels ok_laws_FnSumLevels (Nat.le_of_ble_eq_true rfl) (by decide) ?_
  unfold mc_laws_FnSumLevels
  by_cases hl : 1048576 < b.length
  · have c0 : ((1048576 : Int) < b.length) = True := eq_true (by omega)
    simp (config := { maxSteps := 10000000, implicitDefEqProofs := false }) only [go_sem, ↓reduceIte, Nat.reduceAdd, Nat.reduceMul, Nat.reduceEqDiff, Nat.reduceSub, Nat.reduceLT, reduceCtorEq, Nat.reduceLeDiff, Nat.reduceBEq, mwp_draw, c0]
  have c0 : ((1048576 : Int) < b.length) = False := eq_false (by omega)
  simp (config := { maxSteps := 10000000, implicitDefEqProofs := false }) only [go_sem, ↓reduceIte, Nat.reduceAdd, Nat.reduceMul, Nat.reduceEqDiff, Nat.reduceSub, Nat.reduceLT, reduceCtorEq, Nat.reduceLeDiff, Nat.reduceBEq, mwp_draw, c0]
  refine callK_any (DrawSumLevels_is _ b hb) ?_
  rintro o r ⟨rfl, n, es, ls, fs, rfl, v1, v2, v3, v4, v5⟩
  simp (config := { maxSteps := 10000000, implicitDefEqProofs := false }) only [go_sem, ↓reduceIte, Nat.reduceAdd, Nat.reduceMul, Nat.reduceEqDiff, Nat.reduceSub, Nat.reduceLT, reduceCtorEq, Nat.reduceLeDiff, Nat.reduceBEq, mwp_draw]
  refine callK_is (SumLevels_is _ _ _ n es ls fs (by omega) (by omega) (by omega)) ?_
  simp (config := { maxSteps := 10000000, implicitDefEqProofs := false }) only [go_sem, ↓reduceIte, Nat.reduceAdd, Nat.reduceMul, Nat.reduceEqDiff, Nat.reduceSub, Nat.reduceLT, reduceCtorEq, Nat.reduceLeDiff, Nat.reduceBEq, mwp_draw]
  refine callK_is (SumLevelsS_is _ _ _ n es ls fs (by omega) (by omega) (by omega)) ?_
  have hs : smV n es ls fs = if lvB n es ls fs then sumI ls else 0 := rfl
  generalize smV n es ls fs = sm at hs ⊢
  simp (config := { maxSteps := 10000000, implicitDefEqProofs := false }) only [go_sem, ↓reduceIte, Nat.reduceAdd, Nat.reduceMul, Nat.reduceEqDiff, Nat.reduceSub, Nat.reduceLT, reduceCtorEq, Nat.reduceLeDiff, Nat.reduceBEq, mwp_draw]
  cases h : lvB n es ls fs with
  | false =>
    simp (config := { maxSteps := 10000000, implicitDefEqProofs := false }) only [go_sem, ↓reduceIte, Nat.reduceAdd, Nat.reduceMul, Nat.reduceEqDiff, Nat.reduceSub, Nat.reduceLT, reduceCtorEq, Nat.reduceLeDiff, Nat.reduceBEq, mwp_draw, beq_true, beq_false, bne_self_eq_false]
    refine callK_is (LevelsValid_is _ _ _ n es ls fs (by omega) (by omega) (by omega)) ?_
    rw [h]
    simp (config := { maxSteps := 10000000, implicitDefEqProofs := false }) only [go_sem, ↓reduceIte, Nat.reduceAdd, Nat.reduceMul, Nat.reduceEqDiff, Nat.reduceSub, Nat.reduceLT, reduceCtorEq, Nat.reduceLeDiff, Nat.reduceBEq, mwp_draw, beq_true, beq_false]
    refine callK_is (LevelsValidS_is _ _ _ n es ls fs (by omega) (by omega) (by omega)) ?_
    rw [h]
    simp (config := { maxSteps := 10000000, implicitDefEqProofs := false }) only [go_sem, ↓reduceIte, Nat.reduceAdd, Nat.reduceMul, Nat.reduceEqDiff, Nat.reduceSub, Nat.reduceLT, reduceCtorEq, Nat.reduceLeDiff, Nat.reduceBEq, mwp_draw, beq_true, beq_false]
    refine callK_is (LevelsValid_is _ _ _ n es ls fs (by omega) (by omega) (by omega)) ?_
    rw [h]
    simp (config := { maxSteps := 10000000, implicitDefEqProofs := false }) only [go_sem, ↓reduceIte, Nat.reduceAdd, Nat.reduceMul, Nat.reduceEqDiff, Nat.reduceSub, Nat.reduceLT, reduceCtorEq, Nat.reduceLeDiff, Nat.reduceBEq, mwp_draw, beq_true, beq_false]
    refine callK_is (LevelsValidS_is _ _ _ n es ls fs (by omega) (by omega) (by omega)) ?_
    rw [h]
    simp (config := { maxSteps := 10000000, implicitDefEqProofs := false }) only [go_sem, ↓reduceIte, Nat.reduceAdd, Nat.reduceMul, Nat.reduceEqDiff, Nat.reduceSub, Nat.reduceLT, reduceCtorEq, Nat.reduceLeDiff, Nat.reduceBEq, mwp_draw, beq_true, beq_false]
  | true =>
    rw [h, if_pos rfl] at hs
    obtain ⟨h1, h2, h3, h4⟩ := lvB_get h
    have lk := lok_zip h
    have two : ∀ (i : Nat) (l : Int), ls[i]? = some l → 2 ≤ hlf n l.toNat := fun i l hi => by
      have hil := (List.getElem?_eq_some_iff.1 hi).1
      have hx : (zipT es ls fs)[i]? = some (es[i]'(by omega), l, fs[i]'(by omega)) := by
        unfold zipT
        rw [List.getElem?_zip_eq_some, List.getElem?_zip_eq_some]; exact ⟨List.getElem?_eq_getElem (by omega), hi, List.getElem?_eq_getElem (by omega)⟩
      have := lok_two lk (List.mem_of_getElem? hx)
      rw [hlf_eq (by omega)]; omega
    have hsr := sumI_rng (l := ls) h4
    simp (config := { maxSteps := 10000000, implicitDefEqProofs := false }) only [go_sem, ↓reduceIte, Nat.reduceAdd, Nat.reduceMul, Nat.reduceEqDiff, Nat.reduceSub, Nat.reduceLT, reduceCtorEq, Nat.reduceLeDiff, Nat.reduceBEq, mwp_draw, beq_true, beq_false]
    refine callK_is (LevelsValid_is _ _ _ n es ls fs (by omega) (by omega) (by omega)) ?_
    rw [h]
    simp (config := { maxSteps := 10000000, implicitDefEqProofs := false }) only [go_sem, ↓reduceIte, Nat.reduceAdd, Nat.reduceMul, Nat.reduceEqDiff, Nat.reduceSub, Nat.reduceLT, reduceCtorEq, Nat.reduceLeDiff, Nat.reduceBEq, mwp_draw, beq_true, beq_false]
    refine callK_is (LevelsValidS_is _ _ _ n es ls fs (by omega) (by omega) (by omega)) ?_
    rw [h]
    simp (config := { maxSteps := 10000000, implicitDefEqProofs := false }) only [go_sem, ↓reduceIte, Nat.reduceAdd, Nat.reduceMul, Nat.reduceEqDiff, Nat.reduceSub, Nat.reduceLT, reduceCtorEq, Nat.reduceLeDiff, Nat.reduceBEq, mwp_draw, beq_true, beq_false]
    refine mwp_loopk (X := Nat) (fun i => ⟨[(3, .pr 0 0 0), (4, .i .i64 sm), (8, .i .i64 i)], [(0, .box [.i .i64 n, .sr 1 0 es.length, .sr 2 0 ls.length, .sr 3 0 fs.length]), (1, .arr true 2 (encE es)), (2, .arr true 1 (encI ls)), (3, .arr true 1 (encT fs))], 4⟩)
      (fun i => i ≤ ls.length) (fun i => ls.length - i) 0 (by kernel_rfl) (Nat.zero_le _) ?_
    rintro i g1 K kN kE kR
    by_cases hi : i < ls.length
    · obtain ⟨l, hx⟩ : ∃ l, ls[i]? = some l := ⟨_, List.getElem?_eq_getElem hi⟩
      have gl := goneT hx
      have hl4 := h4 l (List.mem_of_getElem? hx)
      have c1 : ((i : Int) < ls.length) = True := eq_true (by omega)
      have c2 : (i < ls.length) = True := eq_true hi
      simp (config := { maxSteps := 10000000, implicitDefEqProofs := false }) only [go_sem, ↓reduceIte, Nat.reduceAdd, Nat.reduceMul, Nat.reduceEqDiff, Nat.reduceSub, Nat.reduceLT, reduceCtorEq, Nat.reduceLeDiff, Nat.reduceBEq, mwp_draw, c1]
      refine mwp_loopk (X := Nat) (fun k => ⟨[(3, .pr 0 0 0), (4, .i .i64 sm), (8, .i .i64 i), (9, .i .i64 (hlf n k)), (10, .i .i64 k)], [(0, .box [.i .i64 n, .sr 1 0 es.length, .sr 2 0 ls.length, .sr 3 0 fs.length]), (1, .arr true 2 (encE es)), (2, .arr true 1 (encI ls)), (3, .arr true 1 (encT fs))], 4⟩)
        (fun k => (k : Int) ≤ l) (fun k => l.toNat - k) 0 (by kernel_rfl) (by omega) ?_
      rintro k g2 K' kN' kE' kR'
      have hr := hlf_rng (n := n) (by omega) k
      by_cases hk : (k : Int) < l
      · have c3 : ((k : Int) < l) = True := eq_true hk
        simp (config := { maxSteps := 10000000, implicitDefEqProofs := false }) only [go_sem, ↓reduceIte, Nat.reduceAdd, Nat.reduceMul, Nat.reduceEqDiff, Nat.reduceSub, Nat.reduceLT, reduceCtorEq, Nat.reduceLeDiff, Nat.reduceBEq, mwp_draw, c1, c2, c3, ↓gl]
        repeat (refine ⟨by first | omega | decide | exact fits64 (by omega) (by omega) | kernel_rfl | (intros; omega), ?_⟩)
        have hs2 := hlf_rng (n := n) (by omega) (k + 1)
        simp only [hlf] at hs2
        first
          | exact kN' _ (k + 1) (by kernel_rfl) (by omega) (by omega)
          | exact ⟨by decide, fits64 (by omega) (by omega), fits64 (by omega) (by omega), kN' _ (k + 1) (by kernel_rfl) (by omega) (by omega)⟩
          | exact ⟨fits64 (by omega) (by omega), fits64 (by omega) (by omega), kN' _ (k + 1) (by kernel_rfl) (by omega) (by omega)⟩
      · have c3 : ((k : Int) < l) = False := eq_false hk
        simp (config := { maxSteps := 10000000, implicitDefEqProofs := false }) only [go_sem, ↓reduceIte, Nat.reduceAdd, Nat.reduceMul, Nat.reduceEqDiff, Nat.reduceSub, Nat.reduceLT, reduceCtorEq, Nat.reduceLeDiff, Nat.reduceBEq, mwp_draw, c1, c2, c3, ↓gl]
        repeat (refine ⟨by first | omega | decide | exact fits64 (by omega) (by omega) | kernel_rfl | (intros; omega), ?_⟩)
        refine kE' _ _ ?_
        clear kN' kE' kR'
        have ek : k = l.toNat := by omega
        have c4 : (hlf n k < 2) = False := eq_false (by rw [ek]; have := two i l hx; omega)
        simp (config := { maxSteps := 10000000, implicitDefEqProofs := false }) only [go_sem, ↓reduceIte, Nat.reduceAdd, Nat.reduceMul, Nat.reduceEqDiff, Nat.reduceSub, Nat.reduceLT, reduceCtorEq, Nat.reduceLeDiff, Nat.reduceBEq, mwp_draw, c4]
        repeat (refine ⟨by first | omega | decide | exact fits64 (by omega) (by omega) | kernel_rfl | (intros; omega), ?_⟩)
        exact kN _ (i + 1) (by kernel_rfl) (by omega) (by omega)
    · have c1 : ((i : Int) < ls.length) = False := eq_false (by omega)
      simp (config := { maxSteps := 10000000, implicitDefEqProofs := false }) only [go_sem, ↓reduceIte, Nat.reduceAdd, Nat.reduceMul, Nat.reduceEqDiff, Nat.reduceSub, Nat.reduceLT, reduceCtorEq, Nat.reduceLeDiff, Nat.reduceBEq, mwp_draw, c1]
      refine kE _ _ ?_
      clear kN kE kR
      have d1 : (0 ≤ sm) = True := eq_true (by omega)
      simp (config := { maxSteps := 10000000, implicitDefEqProofs := false }) only [go_sem, ↓reduceIte, Nat.reduceAdd, Nat.reduceMul, Nat.reduceEqDiff, Nat.reduceSub, Nat.reduceLT, reduceCtorEq, Nat.reduceLeDiff, Nat.reduceBEq, mwp_draw, d1]
      refine ⟨fits64 (by omega) (by omega), ?_⟩
      refine mvb ?_
      rw [decide_eq_true_eq]; omega
theorem FnSumLevels_row (m : List (List D)) (h : ∀ r ∈ m, rowOK [.i .u8] r) (_ : m.length ≤ maxLen) : Is prog fid_laws_FnSumLevels [.s false 1 m] (.b true) := by
  obtain ⟨b, rfl, hb⟩ := rows_bytes h
  exact FnSumLevels_is false b hb
end Go.Fw
