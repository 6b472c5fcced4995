/-
  Graphs with levels: how they are drawn.
-/
import Derived.Test.YtfjekgjhhmkgoaaCtZ8
import Derived.Test.YtfjekgjhhmkgoaaCtZ2
namespace Go.Fw
set_option linter.unusedSimpArgs false
set_option linter.unusedVariables false
set_option maxRecDepth 100000
set_option maxHeartbeats 16000000
open Go.Proofs.Try (prog)
open Go.Pl

/-- A graph with levels that is drawn; k: the length of its lists at most. -/
def LvD (k : Nat) (n : Int) (es : List E) (ls : List Int) (fs : List Bool) : Prop := 1 ≤ n ∧ n ≤ 16 ∧ es.length ≤ k ∧ ls.length ≤ k ∧ fs.length ≤ k
def LvW (k : Nat) (n : Int) (es : List E) (ls : List Int) (fs : List Bool) : Prop := LvD k n es ls fs ∧ ls.length = es.length ∧ fs.length = es.length
abbrev LvO (n : Int) (es : List E) (ls : List Int) (fs : List Bool) : MV := .agg [.i .i64 n, .ow true 2 (encE es), .ow true 1 (encI ls), .ow true 1 (encT fs)]
theorem l7Of_is (t : Bool) (n : Int) (es : List E) (hn : 1 ≤ n ∧ n ≤ 16) (hl : es.length ≤ 60) (hE : ∀ e ∈ es, EIn n e) :
    MCall prog fid_spec_l7Of [Gr t n es] (fun o r => o = [.u] ∧ ∃ es' ls fs, r = LvO n es' ls fs ∧ LvW 60 n es' ls fs) := by
  refine MCall.run mixed get_spec_l7Of ok_spec_l7Of (Nat.le_of_ble_eq_true rfl) (by decide) ?_
  unfold mc_spec_l7Of
  simp (config := { maxSteps := 10000000, implicitDefEqProofs := false }) only [go_sem, ↓reduceIte, Nat.reduceAdd, Nat.reduceMul, Nat.reduceEqDiff, Nat.reduceSub, Nat.reduceLT, reduceCtorEq, Nat.reduceLeDiff, Nat.reduceBEq, mwp_draw]
  refine mwp_loopk (X := Nat × List E × List Int × List Bool) (fun x => ⟨[(1, .pr 0 0 0), (2, .pr 1 0 0), (3, .pr 2 0 0), (4, .i .i64 (x.1 : Int))],
      match x.2.1 with
      | [] => [(0, .box [.i .i64 n, .s t 2 (encE es)]), (1, .box [.i .i64 0, .nl 2, .nl 1, .nl 1]), (2, .box [.i .i64 n, .nl 2, .nl 1, .nl 1])]
      | _ :: _ => [(0, .box [.i .i64 n, .s t 2 (encE es)]), (1, .box [.i .i64 0, .nl 2, .nl 1, .nl 1]), (2, .box [.i .i64 n, .sr 3 0 x.2.1.length, .sr 4 0 x.2.2.1.length, .sr 5 0 x.2.2.2.length]),
          (3, .arr true 2 (encE x.2.1)), (4, .arr true 1 (encI x.2.2.1)), (5, .arr true 1 (encT x.2.2.2))],
      match x.2.1 with | [] => 3 | _ :: _ => 6⟩)
    (fun x => x.1 ≤ es.length ∧ x.2.1.length = x.1 ∧ x.2.2.1.length = x.1 ∧ x.2.2.2.length = x.1 ∧ ∀ e ∈ x.2.1, EIn n e) (fun x => es.length - x.1) (0, [], [], []) (by rfl) (by simp) ?_
  rintro ⟨i, ps, ls, fs⟩ ⟨g1, g2, g3, g4, g5⟩ K kN kE kR
  simp only at g1 g2 g3 g4 g5
  have hg : GE n ps := ⟨by omega, by omega, by omega, g5⟩
  by_cases hi : i < es.length
  · obtain ⟨d, hd⟩ : ∃ d, es[i]? = some d := ⟨_, List.getElem?_eq_getElem hi⟩
    have gd := goneT hd
    have dE := hE d (List.mem_of_getElem? hd)
    have dE' := dE
    unfold EIn at dE'
    have c1 : ((i : Int) < es.length) = True := eq_true (by omega)
    have c2 : (i < es.length) = True := eq_true (by omega)
    obtain ⟨d0, r0, hp⟩ := putS_ne ps d
    have hlen := putS_len ps d
    have hE2 : ∀ x ∈ d0 :: r0, EIn n x := fun x hx => by rw [← hp] at hx; exact putS_ein dE g5 x hx
    cases ps with
    | nil =>
      obtain rfl : ls = [] := List.length_eq_zero_iff.1 (by simp at g2; omega)
      obtain rfl : fs = [] := List.length_eq_zero_iff.1 (by simp at g2; omega)
      simp (config := { maxSteps := 10000000, implicitDefEqProofs := false }) only [go_sem, ↓reduceIte, Nat.reduceAdd, Nat.reduceMul, Nat.reduceEqDiff, Nat.reduceSub, Nat.reduceLT, reduceCtorEq, Nat.reduceLeDiff, Nat.reduceBEq, mwp_draw, c1, c2, ↓gd]
      repeat (refine ⟨by first | omega | decide | exact fits64 (by omega) (by omega) | kernel_rfl | (intros; omega), ?_⟩)
      refine callK_is (l2Joined_is _ n ([] : List E) d.1 d.2 hg (by omega) (by omega)) ?_
      simp (config := { maxSteps := 10000000, implicitDefEqProofs := false }) only [go_sem, ↓reduceIte, Nat.reduceAdd, Nat.reduceMul, Nat.reduceEqDiff, Nat.reduceSub, Nat.reduceLT, reduceCtorEq, Nat.reduceLeDiff, Nat.reduceBEq, mwp_draw, c1, c2, ↓gd]
      repeat (refine ⟨by first | omega | decide | exact fits64 (by omega) (by omega) | kernel_rfl | (intros; omega), ?_⟩)
      refine callK_is (l7Put_is _ _ _ n ([] : List E) ([] : List Int) ([] : List Bool) d _ (by simp) rfl rfl) ?_
      rw [hp] at hlen ⊢
      simp (config := { maxSteps := 10000000, implicitDefEqProofs := false }) only [go_sem, ↓reduceIte, Nat.reduceAdd, Nat.reduceMul, Nat.reduceEqDiff, Nat.reduceSub, Nat.reduceLT, reduceCtorEq, Nat.reduceLeDiff, Nat.reduceBEq, mwp_draw]
      repeat (refine ⟨by first | omega | decide | exact fits64 (by omega) (by omega) | kernel_rfl | (intros; omega), ?_⟩)
      exact kN _ (i + 1, d0 :: r0, (d0 :: r0).map (atI ([] : List E) ([] : List Int)), (d0 :: r0).map (atT ([] : List E) ([] : List Bool) (!jn n ([] : List E) d.1 d.2))) (by kernel_rfl) ⟨by simp only; omega, by simp only [List.length_nil] at g2; simp only [hlen, List.length_nil]; omega, by simp only [List.length_nil] at g2; simp only [List.length_map, hlen, List.length_nil]; omega, by simp only [List.length_nil] at g2; simp only [List.length_map, hlen, List.length_nil]; omega, hE2⟩ (by simp only; omega)
    | cons p0 pr =>
      simp (config := { maxSteps := 10000000, implicitDefEqProofs := false }) only [go_sem, ↓reduceIte, Nat.reduceAdd, Nat.reduceMul, Nat.reduceEqDiff, Nat.reduceSub, Nat.reduceLT, reduceCtorEq, Nat.reduceLeDiff, Nat.reduceBEq, mwp_draw, c1, c2, ↓gd]
      repeat (refine ⟨by first | omega | decide | exact fits64 (by omega) (by omega) | kernel_rfl | (intros; omega), ?_⟩)
      refine callK_is (l2Joined_is _ n (p0 :: pr) d.1 d.2 hg (by omega) (by omega)) ?_
      simp (config := { maxSteps := 10000000, implicitDefEqProofs := false }) only [go_sem, ↓reduceIte, Nat.reduceAdd, Nat.reduceMul, Nat.reduceEqDiff, Nat.reduceSub, Nat.reduceLT, reduceCtorEq, Nat.reduceLeDiff, Nat.reduceBEq, mwp_draw, c1, c2, ↓gd]
      repeat (refine ⟨by first | omega | decide | exact fits64 (by omega) (by omega) | kernel_rfl | (intros; omega), ?_⟩)
      refine callK_is (l7Put_is _ _ _ n (p0 :: pr) ls fs d _ (by omega) (by omega) (by omega)) ?_
      rw [hp] at hlen ⊢
      simp (config := { maxSteps := 10000000, implicitDefEqProofs := false }) only [go_sem, ↓reduceIte, Nat.reduceAdd, Nat.reduceMul, Nat.reduceEqDiff, Nat.reduceSub, Nat.reduceLT, reduceCtorEq, Nat.reduceLeDiff, Nat.reduceBEq, mwp_draw]
      repeat (refine ⟨by first | omega | decide | exact fits64 (by omega) (by omega) | kernel_rfl | (intros; omega), ?_⟩)
      exact kN _ (i + 1, d0 :: r0, (d0 :: r0).map (atI (p0 :: pr) ls), (d0 :: r0).map (atT (p0 :: pr) fs (!jn n (p0 :: pr) d.1 d.2))) (by kernel_rfl) ⟨by simp only; omega, by simp only [hlen]; omega, by simp only [List.length_map, hlen]; omega, by simp only [List.length_map, hlen]; omega, hE2⟩ (by simp only; omega)
  · have c1 : ((i : Int) < es.length) = False := eq_false (by omega)
    cases ps with
    | nil =>
      simp (config := { maxSteps := 10000000, implicitDefEqProofs := false }) only [go_sem, ↓reduceIte, Nat.reduceAdd, Nat.reduceMul, Nat.reduceEqDiff, Nat.reduceSub, Nat.reduceLT, reduceCtorEq, Nat.reduceLeDiff, Nat.reduceBEq, mwp_draw, c1]
      refine kE _ _ ?_
      clear kN kE kR
      simp (config := { maxSteps := 10000000, implicitDefEqProofs := false }) only [go_sem, ↓reduceIte, Nat.reduceAdd, Nat.reduceMul, Nat.reduceEqDiff, Nat.reduceSub, Nat.reduceLT, reduceCtorEq, Nat.reduceLeDiff, Nat.reduceBEq, mwp_draw]
      exact ⟨[], [], [], rfl, by unfold LvW LvD; simp; omega⟩
    | cons p0 pr =>
      simp (config := { maxSteps := 10000000, implicitDefEqProofs := false }) only [go_sem, ↓reduceIte, Nat.reduceAdd, Nat.reduceMul, Nat.reduceEqDiff, Nat.reduceSub, Nat.reduceLT, reduceCtorEq, Nat.reduceLeDiff, Nat.reduceBEq, mwp_draw, c1]
      refine kE _ _ ?_
      clear kN kE kR
      simp (config := { maxSteps := 10000000, implicitDefEqProofs := false }) only [go_sem, ↓reduceIte, Nat.reduceAdd, Nat.reduceMul, Nat.reduceEqDiff, Nat.reduceSub, Nat.reduceLT, reduceCtorEq, Nat.reduceLeDiff, Nat.reduceBEq, mwp_draw]
      exact ⟨p0 :: pr, ls, fs, rfl, by unfold LvW LvD; exact ⟨⟨by omega, by omega, by omega, by omega, by omega⟩, by omega, by omega⟩⟩

theorem cl_len2 {n : Int} {es : List E} {ls : List Int} {fs : List Bool} {e : E} (h : clB n es ls fs e = true) : LvW 60 (clN n es ls fs e) (tE (clR n es ls fs e).1) (tL (clR n es ls fs e).1) (tF (clR n es ls fs e).1) := by
  have hb := h
  simp only [clB, Bool.and_eq_true, decide_eq_true_eq] at h
  obtain ⟨h1, h2, h3, h4⟩ := lvB_get h.1
  have z := cl_get h.1 h.2
  have l : (clT es ls fs e).length ≤ 40 := by
    have e1 := tE_length (T := clT es ls fs e)
    have := List.length_eraseIdx_le es (clAt es e)
    have := h1.2.2.1
    rw [z.t0] at e1; omega
  have a : (clR n es ls fs e).1.length ≤ 40 := by
    unfold clR clD
    rw [if_pos hb]
    split
    · rw [dwn_len]; exact l
    · exact l
  unfold LvW LvD
  rw [tE_length, tL_length, tF_length]
  have hn : clN n es ls fs e = n := by unfold clN; rw [if_pos hb]
  rw [hn]
  exact ⟨⟨h1.1, h1.2.1, by omega, by omega, by omega⟩, rfl, rfl⟩
theorem pv_len2 {n : Int} {es : List E} {ls : List Int} {fs : List Bool} {e : E} (h : pvB n es ls fs e = true) : LvW 60 (pvN n es ls fs e) (pvE n es ls fs e) (pvL n es ls fs e) (pvT n es ls fs e) := by
  have hn : pvN n es ls fs e = n := by unfold pvN; rw [if_pos h]
  have hE : pvE n es ls fs e = putE es e := by unfold pvE; rw [if_pos h]
  have hL : pvL n es ls fs e = insL ls (posE es e) 0 := by unfold pvL; rw [if_pos h]
  have hT : pvT n es ls fs e = insL fs (posE es e) (!jn n es e.1 e.2) := by unfold pvT; rw [if_pos h]
  simp only [pvB, Bool.and_eq_true] at h
  obtain ⟨h1, h2, h3, h4⟩ := lvB_get h.1
  have hp := posE_le es e
  have hlen := putE_length es e
  have := h1.2.2.1
  unfold LvW LvD
  rw [hn, hE, hL, hT, insL_length (by omega), insL_length (by omega)]
  exact ⟨⟨h1.1, h1.2.1, by omega, by omega, by omega⟩, by omega, by omega⟩
theorem l7Draw_is (t : Bool) (b : List Int) (hb : Byt b) : MCall prog fid_spec_l7Draw [.s t 1 (encB b)] (fun o r => o = [.u] ∧ ∃ n es ls fs, r = LvO n es ls fs ∧ LvD 60 n es ls fs) := by
  refine MCall.run mixed get_spec_l7Draw ok_spec_l7Draw (Nat.le_of_ble_eq_true rfl) (by decide) ?_
  unfold mc_spec_l7Draw
  have hb' := byt_take2 hb 2000
  have hc' : (b.take 2000).length ≤ 2000 := by simp; omega
  simp (config := { maxSteps := 10000000, implicitDefEqProofs := false }) only [go_sem, ↓reduceIte, Nat.reduceAdd, Nat.reduceMul, Nat.reduceEqDiff, Nat.reduceSub, Nat.reduceLT, reduceCtorEq, Nat.reduceLeDiff, Nat.reduceBEq, mwp_draw]
  refine callK_is (l14Open_is b) ?_
  simp (config := { maxSteps := 10000000, implicitDefEqProofs := false }) only [go_sem, ↓reduceIte, Nat.reduceAdd, Nat.reduceMul, Nat.reduceEqDiff, Nat.reduceSub, Nat.reduceLT, reduceCtorEq, Nat.reduceLeDiff, Nat.reduceBEq, mwp_draw]
  generalize b.take 2000 = c at hb' hc'
  refine callK_any (l1DrawE_is c 0 hb' hc' (by omega)) ?_
  rintro o r ⟨p0, n0, es0, rfl, rfl, w1, w2, w3, w4, w5, w6⟩
  simp (config := { maxSteps := 10000000, implicitDefEqProofs := false }) only [go_sem, ↓reduceIte, Nat.reduceAdd, Nat.reduceMul, Nat.reduceEqDiff, Nat.reduceSub, Nat.reduceLT, reduceCtorEq, Nat.reduceLeDiff, Nat.reduceBEq, mwp_draw]
  refine callK_any (l7Of_is _ n0 es0 ⟨w3, w4⟩ w5 w6) ?_
  rintro o r ⟨rfl, es1, ls1, fs1, rfl, hv1⟩
  simp (config := { maxSteps := 10000000, implicitDefEqProofs := false }) only [go_sem, ↓reduceIte, Nat.reduceAdd, Nat.reduceMul, Nat.reduceEqDiff, Nat.reduceSub, Nat.reduceLT, reduceCtorEq, Nat.reduceLeDiff, Nat.reduceBEq, mwp_draw]
  refine mwp_cut (X := Int × Int × List E × List Int × List Bool) (fun x => ⟨[(2, .pr 0 0 0), (3, .pr 1 0 0), (4, .pr 2 0 0)],
      [(0, .box [.i .i64 0, .nl 2, .nl 1, .nl 1]), (1, .box [.s false 1 (encB c), .i .i64 x.1]), (2, .box [.i .i64 x.2.1, .sr 3 0 x.2.2.1.length, .sr 4 0 x.2.2.2.1.length, .sr 5 0 x.2.2.2.2.length]),
          (3, .arr true 2 (encE x.2.2.1)), (4, .arr true 1 (encI x.2.2.2.1)), (5, .arr true 1 (encT x.2.2.2.2))], 6⟩)
    (fun x => (0 ≤ x.1 ∧ x.1 ≤ 300) ∧ LvW 60 x.2.1 x.2.2.1 x.2.2.2.1 x.2.2.2.2) ?_ ?_
  · simp (config := { maxSteps := 10000000, implicitDefEqProofs := false }) only [go_sem, ↓reduceIte, Nat.reduceAdd, Nat.reduceMul, Nat.reduceEqDiff, Nat.reduceSub, Nat.reduceLT, reduceCtorEq, Nat.reduceLeDiff, Nat.reduceBEq, mwp_draw]
    refine callK_det (pick_is c p0 5 hb' hc' (by omega) (by omega)) ?_
    have r5 := pick_rng (b := c) (p := p0) 5 hb' hc' (by omega)
    generalize pickM c p0 5 = i0 at r5 ⊢
    simp (config := { maxSteps := 10000000, implicitDefEqProofs := false }) only [go_sem, ↓reduceIte, Nat.reduceAdd, Nat.reduceMul, Nat.reduceEqDiff, Nat.reduceSub, Nat.reduceLT, reduceCtorEq, Nat.reduceLeDiff, Nat.reduceBEq, mwp_draw]
    refine mwp_loopk (X := Int × Int × Int × List E × List Int × List Bool) (fun x => ⟨[(2, .pr 0 0 0), (3, .pr 1 0 0), (4, .pr 2 0 0), (5, .i .i64 x.1)],
      [(0, .box [.i .i64 0, .nl 2, .nl 1, .nl 1]), (1, .box [.s false 1 (encB c), .i .i64 x.2.1]), (2, .box [.i .i64 x.2.2.1, .sr 3 0 x.2.2.2.1.length, .sr 4 0 x.2.2.2.2.1.length, .sr 5 0 x.2.2.2.2.2.length]),
          (3, .arr true 2 (encE x.2.2.2.1)), (4, .arr true 1 (encI x.2.2.2.2.1)), (5, .arr true 1 (encT x.2.2.2.2.2))], 6⟩)
      (fun x => 0 ≤ x.1 ∧ x.1 ≤ 4 ∧ (0 ≤ x.2.1 ∧ x.2.1 + 10 * x.1 ≤ 280) ∧ LvW 60 x.2.2.1 x.2.2.2.1 x.2.2.2.2.1 x.2.2.2.2.2) (fun x => x.1.toNat) (i0, p0 + 1, n0, es1, ls1, fs1) (by rfl) ⟨by simp only; omega, by simp only; omega, by simp only; omega, hv1⟩ ?_
    rintro ⟨i, p, n, es, ls, fs⟩ ⟨g1, g2, g3, g4⟩ K kN kE kR
    simp only at g1 g2 g3 g4
    have g4' := g4
    obtain ⟨⟨v1, v2, v3, v4, v5⟩, v6, v7⟩ := g4'
    by_cases hi : 0 < i
    · have c1 : (0 < i) = True := eq_true hi
      by_cases hes : 0 < es.length
      · have c2 : ((0 : Int) < es.length) = True := eq_true (by omega)
        simp (config := { maxSteps := 10000000, implicitDefEqProofs := false }) only [go_sem, ↓reduceIte, Nat.reduceAdd, Nat.reduceMul, Nat.reduceEqDiff, Nat.reduceSub, Nat.reduceLT, reduceCtorEq, Nat.reduceLeDiff, Nat.reduceBEq, mwp_draw, c1, c2]
        refine callK_det (pick_is c p es.length hb' hc' (by omega) (by omega)) ?_
        have rk := pick_rng (b := c) (p := p) es.length hb' hc' (by omega)
        generalize pickM c p es.length = k at rk ⊢
        have rk2 := rk.2 (by omega)
        obtain ⟨d, hd⟩ : ∃ d, es[k.toNat]? = some d := ⟨_, List.getElem?_eq_getElem (by omega)⟩
        have gd := goneT hd
        have k1 : (0 ≤ k) = True := eq_true (by omega)
        have k2 : (k < es.length) = True := eq_true (by omega)
        have k3 : (k.toNat < es.length) = True := eq_true (by omega)
        simp (config := { maxSteps := 10000000, implicitDefEqProofs := false }) only [go_sem, ↓reduceIte, Nat.reduceAdd, Nat.reduceMul, Nat.reduceEqDiff, Nat.reduceSub, Nat.reduceLT, reduceCtorEq, Nat.reduceLeDiff, Nat.reduceBEq, mwp_draw, k1, k2, k3, ↓gd]
        refine callK_is (CutLevelS_is _ _ _ n es ls fs d (by omega) (by omega) (by omega)) ?_
        unfold ClV
        have hq : LvW 60 (clN n es ls fs d) (tE (clR n es ls fs d).1) (tL (clR n es ls fs d).1) (tF (clR n es ls fs d).1) ∨ clB n es ls fs d = false := by
          cases q : clB n es ls fs d
          · exact .inr rfl
          · exact .inl (cl_len2 q)
        generalize clB n es ls fs d = ok at hq ⊢
        generalize clN n es ls fs d = n2 at hq ⊢
        generalize clS n es ls fs d = sm at hq ⊢
        generalize clR n es ls fs d = R at hq ⊢
        simp (config := { maxSteps := 10000000, implicitDefEqProofs := false }) only [go_sem, ↓reduceIte, Nat.reduceAdd, Nat.reduceMul, Nat.reduceEqDiff, Nat.reduceSub, Nat.reduceLT, reduceCtorEq, Nat.reduceLeDiff, Nat.reduceBEq, mwp_draw]
        repeat (refine ⟨by first | omega | decide | exact fits64 (by omega) (by omega) | kernel_rfl | (intros; omega), ?_⟩)
        refine mwp_cut (X := Int × List E × List Int × List Bool) (fun x => ⟨[(2, .pr 0 0 0), (3, .pr 1 0 0), (4, .pr 2 0 0), (5, .i .i64 i)],
            [(0, .box [.i .i64 0, .nl 2, .nl 1, .nl 1]), (1, .box [.s false 1 (encB c), .i .i64 (p + 1)]), (2, .box [.i .i64 x.1, .sr 3 0 x.2.1.length, .sr 4 0 x.2.2.1.length, .sr 5 0 x.2.2.2.length]),
              (3, .arr true 2 (encE x.2.1)), (4, .arr true 1 (encI x.2.2.1)), (5, .arr true 1 (encT x.2.2.2))], 6⟩)
          (fun x => LvW 60 x.1 x.2.1 x.2.2.1 x.2.2.2) ?_ ?_
        · cases ok with
          | true =>
            simp (config := { maxSteps := 10000000, implicitDefEqProofs := false }) only [go_sem, ↓reduceIte, Nat.reduceAdd, Nat.reduceMul, Nat.reduceEqDiff, Nat.reduceSub, Nat.reduceLT, reduceCtorEq, Nat.reduceLeDiff, Nat.reduceBEq, mwp_draw]
            exact ⟨(n2, tE R.1, tL R.1, tF R.1), by kernel_rfl, by rcases hq with q | q; exact q; cases q⟩
          | false =>
            simp (config := { maxSteps := 10000000, implicitDefEqProofs := false }) only [go_sem, ↓reduceIte, Nat.reduceAdd, Nat.reduceMul, Nat.reduceEqDiff, Nat.reduceSub, Nat.reduceLT, reduceCtorEq, Nat.reduceLeDiff, Nat.reduceBEq, mwp_draw]
            exact ⟨(n, es, ls, fs), by kernel_rfl, g4⟩
        clear hq gd hd k1 k2 k3 v1 v2 v3 v4 v5 v6 v7 g4
        rintro ⟨m, ps, qs, rs⟩ hv
        simp only at hv ⊢
        have hv' := hv
        obtain ⟨⟨v1, v2, v3, v4, v5⟩, v6, v7⟩ := hv'
        simp (config := { maxSteps := 10000000, implicitDefEqProofs := false }) only [go_sem, ↓reduceIte, Nat.reduceAdd, Nat.reduceMul, Nat.reduceEqDiff, Nat.reduceSub, Nat.reduceLT, reduceCtorEq, Nat.reduceLeDiff, Nat.reduceBEq, mwp_draw]
        refine callK_det (pick_is c (p + 1) m hb' hc' (by omega) (by omega)) ?_
        have rx := pick_rng (b := c) (p := p + 1) m hb' hc' (by omega)
        generalize pickM c (p + 1) m = x at rx ⊢
        simp (config := { maxSteps := 10000000, implicitDefEqProofs := false }) only [go_sem, ↓reduceIte, Nat.reduceAdd, Nat.reduceMul, Nat.reduceEqDiff, Nat.reduceSub, Nat.reduceLT, reduceCtorEq, Nat.reduceLeDiff, Nat.reduceBEq, mwp_draw]
        refine callK_det (pick_is c (p + 1 + 1) m hb' hc' (by omega) (by omega)) ?_
        have ry := pick_rng (b := c) (p := p + 1 + 1) m hb' hc' (by omega)
        generalize pickM c (p + 1 + 1) m = y at ry ⊢
        have go : ∀ (p' : Int) (n' : Int) (es' : List E) (ls' : List Int) (fs' : List Bool), p ≤ p' → p' ≤ p + 8 → LvW 60 n' es' ls' fs' → (0 ≤ i - 1 ∧ i - 1 ≤ 4 ∧ (0 ≤ p' ∧ p' + 10 * (i - 1) ≤ 280) ∧ LvW 60 n' es' ls' fs') := fun p' n' es' ls' fs' a b h => ⟨by omega, by omega, by omega, h⟩
        by_cases xy : x = y
        · have d1 : (x = y) = True := eq_true xy
          simp (config := { maxSteps := 10000000, implicitDefEqProofs := false }) only [go_sem, ↓reduceIte, Nat.reduceAdd, Nat.reduceMul, Nat.reduceEqDiff, Nat.reduceSub, Nat.reduceLT, reduceCtorEq, Nat.reduceLeDiff, Nat.reduceBEq, mwp_draw, d1]
          repeat (refine ⟨by first | omega | decide | exact fits64 (by omega) (by omega) | kernel_rfl | (intros; omega), ?_⟩)
          exact kN _ (i - 1, p + 1 + 1 + 1, m, ps, qs, rs) (by kernel_rfl) (go (p + 1 + 1 + 1) _ _ _ _ (by omega) (by omega) hv) (by simp only; omega)
        · have d1 : (x = y) = False := eq_false xy
          simp (config := { maxSteps := 10000000, implicitDefEqProofs := false }) only [go_sem, ↓reduceIte, Nat.reduceAdd, Nat.reduceMul, Nat.reduceEqDiff, Nat.reduceSub, Nat.reduceLT, reduceCtorEq, Nat.reduceLeDiff, Nat.reduceBEq, mwp_draw, d1]
          refine callK_det (pick_is c (p + 1 + 1 + 1) 2 hb' hc' (by omega) (by omega)) ?_
          generalize pickM c (p + 1 + 1 + 1) 2 = z
          by_cases zz : z = 0
          · have d2 : (z = 0) = True := eq_true zz
            simp (config := { maxSteps := 10000000, implicitDefEqProofs := false }) only [go_sem, ↓reduceIte, Nat.reduceAdd, Nat.reduceMul, Nat.reduceEqDiff, Nat.reduceSub, Nat.reduceLT, reduceCtorEq, Nat.reduceLeDiff, Nat.reduceBEq, mwp_draw, d1, d2]
            refine callK_is (l1Edge_is x y) ?_
            simp (config := { maxSteps := 10000000, implicitDefEqProofs := false }) only [go_sem, ↓reduceIte, Nat.reduceAdd, Nat.reduceMul, Nat.reduceEqDiff, Nat.reduceSub, Nat.reduceLT, reduceCtorEq, Nat.reduceLeDiff, Nat.reduceBEq, mwp_draw]
            refine callK_is (PutLevelS_is _ _ _ m ps qs rs (edgN x y) (by omega) (by omega) (by omega)) ?_
            unfold PvR
            have hq : LvW 60 (pvN m ps qs rs (edgN x y)) (pvE m ps qs rs (edgN x y)) (pvL m ps qs rs (edgN x y)) (pvT m ps qs rs (edgN x y)) ∨ pvB m ps qs rs (edgN x y) = false := by
              cases q : pvB m ps qs rs (edgN x y)
              · exact .inr rfl
              · exact .inl (pv_len2 q)
            generalize pvB m ps qs rs (edgN x y) = ok2 at hq ⊢
            generalize pvN m ps qs rs (edgN x y) = n3 at hq ⊢
            generalize pvE m ps qs rs (edgN x y) = e3 at hq ⊢
            generalize pvL m ps qs rs (edgN x y) = l3 at hq ⊢
            generalize pvT m ps qs rs (edgN x y) = t3 at hq ⊢
            cases ok2 with
            | true =>
              simp (config := { maxSteps := 10000000, implicitDefEqProofs := false }) only [go_sem, ↓reduceIte, Nat.reduceAdd, Nat.reduceMul, Nat.reduceEqDiff, Nat.reduceSub, Nat.reduceLT, reduceCtorEq, Nat.reduceLeDiff, Nat.reduceBEq, mwp_draw]
              repeat (refine ⟨by first | omega | decide | exact fits64 (by omega) (by omega) | kernel_rfl | (intros; omega), ?_⟩)
              exact kN _ (i - 1, p + 1 + 1 + 1 + 1, n3, e3, l3, t3) (by kernel_rfl) (go (p + 1 + 1 + 1 + 1) _ _ _ _ (by omega) (by omega) (by rcases hq with q | q; exact q; cases q)) (by simp only; omega)
            | false =>
              simp (config := { maxSteps := 10000000, implicitDefEqProofs := false }) only [go_sem, ↓reduceIte, Nat.reduceAdd, Nat.reduceMul, Nat.reduceEqDiff, Nat.reduceSub, Nat.reduceLT, reduceCtorEq, Nat.reduceLeDiff, Nat.reduceBEq, mwp_draw]
              repeat (refine ⟨by first | omega | decide | exact fits64 (by omega) (by omega) | kernel_rfl | (intros; omega), ?_⟩)
              exact kN _ (i - 1, p + 1 + 1 + 1 + 1, m, ps, qs, rs) (by kernel_rfl) (go (p + 1 + 1 + 1 + 1) _ _ _ _ (by omega) (by omega) hv) (by simp only; omega)
          · have d2 : (z = 0) = False := eq_false zz
            simp (config := { maxSteps := 10000000, implicitDefEqProofs := false }) only [go_sem, ↓reduceIte, Nat.reduceAdd, Nat.reduceMul, Nat.reduceEqDiff, Nat.reduceSub, Nat.reduceLT, reduceCtorEq, Nat.reduceLeDiff, Nat.reduceBEq, mwp_draw, d1, d2]
            repeat (refine ⟨by first | omega | decide | exact fits64 (by omega) (by omega) | kernel_rfl | (intros; omega), ?_⟩)
            exact kN _ (i - 1, p + 1 + 1 + 1 + 1, m, ps, qs, rs) (by kernel_rfl) (go (p + 1 + 1 + 1 + 1) _ _ _ _ (by omega) (by omega) hv) (by simp only; omega)
      · have c2 : ((0 : Int) < es.length) = False := eq_false (by omega)
        simp (config := { maxSteps := 10000000, implicitDefEqProofs := false }) only [go_sem, ↓reduceIte, Nat.reduceAdd, Nat.reduceMul, Nat.reduceEqDiff, Nat.reduceSub, Nat.reduceLT, reduceCtorEq, Nat.reduceLeDiff, Nat.reduceBEq, mwp_draw, c1, c2]
        refine kE _ _ ?_
        clear kN kE kR
        simp (config := { maxSteps := 10000000, implicitDefEqProofs := false }) only [go_sem, ↓reduceIte, Nat.reduceAdd, Nat.reduceMul, Nat.reduceEqDiff, Nat.reduceSub, Nat.reduceLT, reduceCtorEq, Nat.reduceLeDiff, Nat.reduceBEq, mwp_draw]
        exact ⟨(p, n, es, ls, fs), by kernel_rfl, ⟨by simp only; omega, by simp only; omega⟩, g4⟩
    · have c1 : (0 < i) = False := eq_false hi
      simp (config := { maxSteps := 10000000, implicitDefEqProofs := false }) only [go_sem, ↓reduceIte, Nat.reduceAdd, Nat.reduceMul, Nat.reduceEqDiff, Nat.reduceSub, Nat.reduceLT, reduceCtorEq, Nat.reduceLeDiff, Nat.reduceBEq, mwp_draw, c1]
      refine kE _ _ ?_
      clear kN kE kR
      simp (config := { maxSteps := 10000000, implicitDefEqProofs := false }) only [go_sem, ↓reduceIte, Nat.reduceAdd, Nat.reduceMul, Nat.reduceEqDiff, Nat.reduceSub, Nat.reduceLT, reduceCtorEq, Nat.reduceLeDiff, Nat.reduceBEq, mwp_draw]
      exact ⟨(p, n, es, ls, fs), by kernel_rfl, ⟨by simp only; omega, by simp only; omega⟩, g4⟩
  · rintro ⟨p, n, es, ls, fs⟩ ⟨g1, g2⟩
    simp only at g1 g2 ⊢
    have g2' := g2
    obtain ⟨⟨v1, v2, v3, v4, v5⟩, v6, v7⟩ := g2'
    by_cases hls : ls.length = 0
    · have c1 : ((ls.length : Int) = 0) = True := eq_true (by omega)
      simp (config := { maxSteps := 10000000, implicitDefEqProofs := false }) only [go_sem, ↓reduceIte, Nat.reduceAdd, Nat.reduceMul, Nat.reduceEqDiff, Nat.reduceSub, Nat.reduceLT, reduceCtorEq, Nat.reduceLeDiff, Nat.reduceBEq, mwp_draw, c1]
      exact ⟨n, es, ls, fs, rfl, g2.1⟩
    · have c1 : ((ls.length : Int) = 0) = False := eq_false (by omega)
      simp (config := { maxSteps := 10000000, implicitDefEqProofs := false }) only [go_sem, ↓reduceIte, Nat.reduceAdd, Nat.reduceMul, Nat.reduceEqDiff, Nat.reduceSub, Nat.reduceLT, reduceCtorEq, Nat.reduceLeDiff, Nat.reduceBEq, mwp_draw, c1]
      refine callK_det (pick_is c p 24 hb' hc' (by omega) (by omega)) ?_
      generalize pickM c p 24 = w
      by_cases w0 : w = 0
      · have d0 : (w = 0) = True := eq_true w0
        simp (config := { maxSteps := 10000000, implicitDefEqProofs := false }) only [go_sem, ↓reduceIte, Nat.reduceAdd, Nat.reduceMul, Nat.reduceEqDiff, Nat.reduceSub, Nat.reduceLT, reduceCtorEq, Nat.reduceLeDiff, Nat.reduceBEq, mwp_draw, d0]
        refine callK_det (pick_is c (p + 1) ls.length hb' hc' (by omega) (by omega)) ?_
        have rk := pick_rng (b := c) (p := p + 1) ls.length hb' hc' (by omega)
        generalize pickM c (p + 1) ls.length = k at rk ⊢
        have rk2 := rk.2 (by omega)
        simp (config := { maxSteps := 10000000, implicitDefEqProofs := false }) only [go_sem, ↓reduceIte, Nat.reduceAdd, Nat.reduceMul, Nat.reduceEqDiff, Nat.reduceSub, Nat.reduceLT, reduceCtorEq, Nat.reduceLeDiff, Nat.reduceBEq, mwp_draw]
        refine callK_det (num_is _ c (p + 1 + 1) [5, -1, 4, 1] hb' hc' (by omega) (by decide)) ?_
        generalize numM c (p + 1 + 1) [5, -1, 4, 1] = z
        simp (config := { maxSteps := 10000000, implicitDefEqProofs := false }) only [go_sem, ↓reduceIte, Nat.reduceAdd, Nat.reduceMul, Nat.reduceEqDiff, Nat.reduceSub, Nat.reduceLT, reduceCtorEq, Nat.reduceLeDiff, Nat.reduceBEq, mwp_draw]
        refine ⟨by omega, by omega, by omega, fun x hx => ⟨by kernel_rfl, n, es, ls.set k.toNat z, fs, rfl, v1, v2, v3, by rw [List.length_set]; exact v4, v5⟩⟩
      · have d0 : (w = 0) = False := eq_false w0
        by_cases w1 : w = 1
        · have d1 : (w = 1) = True := eq_true w1
          simp (config := { maxSteps := 10000000, implicitDefEqProofs := false }) only [go_sem, ↓reduceIte, Nat.reduceAdd, Nat.reduceMul, Nat.reduceEqDiff, Nat.reduceSub, Nat.reduceLT, reduceCtorEq, Nat.reduceLeDiff, Nat.reduceBEq, mwp_draw, d0, d1]
          refine callK_det (pick_is c (p + 1) fs.length hb' hc' (by omega) (by omega)) ?_
          have rk := pick_rng (b := c) (p := p + 1) fs.length hb' hc' (by omega)
          generalize pickM c (p + 1) fs.length = k at rk ⊢
          have rk2 := rk.2 (by omega)
          simp (config := { maxSteps := 10000000, implicitDefEqProofs := false }) only [go_sem, ↓reduceIte, Nat.reduceAdd, Nat.reduceMul, Nat.reduceEqDiff, Nat.reduceSub, Nat.reduceLT, reduceCtorEq, Nat.reduceLeDiff, Nat.reduceBEq, mwp_draw]
          refine callK_det (pick_is c (p + 1 + 1) 2 hb' hc' (by omega) (by omega)) ?_
          generalize pickM c (p + 1 + 1) 2 = z
          simp (config := { maxSteps := 10000000, implicitDefEqProofs := false }) only [go_sem, ↓reduceIte, Nat.reduceAdd, Nat.reduceMul, Nat.reduceEqDiff, Nat.reduceSub, Nat.reduceLT, reduceCtorEq, Nat.reduceLeDiff, Nat.reduceBEq, mwp_draw]
          refine ⟨by omega, by omega, by omega, fun x hx => ⟨by kernel_rfl, n, es, ls, fs.set k.toNat (decide (z = 0)), rfl, v1, v2, v3, v4, by rw [List.length_set]; exact v5⟩⟩
        · have d1 : (w = 1) = False := eq_false w1
          by_cases w2 : w = 2
          · have d2 : (w = 2) = True := eq_true w2
            simp (config := { maxSteps := 10000000, implicitDefEqProofs := false }) only [go_sem, ↓reduceIte, Nat.reduceAdd, Nat.reduceMul, Nat.reduceEqDiff, Nat.reduceSub, Nat.reduceLT, reduceCtorEq, Nat.reduceLeDiff, Nat.reduceBEq, mwp_draw, d0, d1, d2]
            refine ⟨fits64 (by omega) (by omega), by omega, by omega, by omega, by omega, n, es, ls.take ((ls.length : Int) - 1).toNat, fs, rfl, v1, v2, v3, by simp; omega, v5⟩
          · have d2 : (w = 2) = False := eq_false w2
            simp (config := { maxSteps := 10000000, implicitDefEqProofs := false }) only [go_sem, ↓reduceIte, Nat.reduceAdd, Nat.reduceMul, Nat.reduceEqDiff, Nat.reduceSub, Nat.reduceLT, reduceCtorEq, Nat.reduceLeDiff, Nat.reduceBEq, mwp_draw, d0, d1, d2]
            exact ⟨n, es, ls, fs, rfl, g2.1⟩
end Go.Fw
