/-
  The law on forests of levels: levels are nested.
-/
import Derived.Test.YtfjekgjhhmkgoaaCtLd
import Derived.Test.YtfjekgjhhmkgoaaCtLk
import Derived.Test.YtfjekgjhhmkgoaaCtDy
import Derived.Test.YtfjekgjhhmkgoaaCtRow
namespace Go.Fw
set_option linter.unusedSimpArgs false
set_option linter.unusedVariables false
set_option maxRecDepth 100000
set_option maxHeartbeats 4000000
open Go.Proofs.Try (prog)
open Go.Pl

theorem pcL_pc {n : Int} {es : List E} (l : List Int) (hl : l = labL n es) : ∀ k : Nat, k ≤ l.length → pcL l k = (((List.range k).countP fun i : Nat => decide (nth (labL n es) i = i) : Nat) : Int)
  | 0, _ => by simp [pcL]
  | k + 1, hk => by
    have ih := pcL_pc l hl k (by omega)
    have e : l[k]? = some (nth (labL n es) (k : Int)) := by
      have := nth_some (l := labL n es) (x := (k : Int)) ⟨by omega, by rw [← hl]; omega⟩
      rw [← hl] at this ⊢; simpa using this
    rw [pcL, ih, List.range_succ, List.countP_append, e]
    by_cases q : nth (labL n es) (k : Int) = k
    · simp [q]
    · simp [q]
theorem pcB_pc {n : Int} {es : List E} (h : gvB n es = true) : pcB n es = (pc n es : Int) := by
  have e : labV n es = labL n es := by unfold labV; rw [if_pos h]
  unfold pcB pc
  rw [e, pcL_pc (labL n es) rfl _ (Nat.le_refl _), labL_length]
theorem lf_all {n : Int} {es : List E} {ls : List Int} {fs : List Bool} (h : lvB n es ls fs = true) : ((upL es ls fs 0 true).length : Int) = n - pcB n es := by
  obtain ⟨h1, h2, h3, h4⟩ := lvB_get h
  have lk := lok_zip h
  have e := upL_up (zipT es ls fs) 0 true
  rw [tE_zip h2 h3, tL_zip h2 h3, tF_zip h2 h3] at e
  have z0 : (zipT es ls fs).map (·.1) = es := tE_zip h2 h3
  have hn : 0 ≤ n := by have := h1.1; omega
  rw [e, pcB_pc (gvB_iff.2 h1)]
  have a := lk.acy 0 (by omega)
  unfold Acy at a
  have hE : ∀ d ∈ up (zipT es ls fs) 0 true, EIn n d := fun d hd => lk.ein d (up_fst hd)
  have c : pc n (up (zipT es ls fs) 0 true) = pc n es := by
    refine pc_congr hn hE h1.2.2.2.1 fun x y => ⟨fun r => r.mono fun d hd => by rw [← z0]; exact up_fst hd, fun r => lk.con 0 (by omega) x y (r.mono fun d hd => ?_)⟩
    rw [← z0] at hd
    obtain ⟨x, hx, rfl⟩ := List.mem_map.1 hd
    exact mem_up.2 ⟨x.2.1, x.2.2, hx, (lk.lev x hx).1, fun q => by cases q⟩
  have a' : (up (zipT es ls fs) (((0 : Nat) : Int)) true).length + pc n (up (zipT es ls fs) ((0 : Nat) : Int) true) = n.toNat := a
  have z : ((0 : Nat) : Int) = 0 := rfl
  rw [z, c] at a'
  omega
theorem lf_nest {n : Int} {es : List E} {ls : List Int} {fs : List Bool} {k : Int} (h : lvB n es ls fs = true) (hk : 0 ≤ k) {d : E} (hd : d ∈ upL es ls fs k true) : d ∈ upL es ls fs 0 true := by
  obtain ⟨h1, h2, h3, h4⟩ := lvB_get h
  have e := fun k => upL_up (zipT es ls fs) k true
  rw [tE_zip h2 h3, tL_zip h2 h3, tF_zip h2 h3] at e
  rw [e] at hd ⊢
  exact up_le hk hd
theorem FnLevelForest_is (t : Bool) (b : List Int) (hb : Byt b) : Is prog fid_laws_FnLevelForest [.s t 1 (encB b)] (.b true) := by
  refine MCall.run mixed get_laws_FnLevelForest ok_laws_FnLevelForest (Nat.le_of_ble_eq_true rfl) (by decide) ?_
  unfold mc_laws_FnLevelForest
  by_cases hl : 1048576 < b.length
  · have c0 : ((1048576 : Int) < b.length) = True := eq_true (by omega)
    simp (config := { maxSteps := 10000000, implicitDefEqProofs := false }) only [go_sem, ↓reduceIte, Nat.reduceAdd, Nat.reduceMul, Nat.reduceEqDiff, Nat.reduceSub, Nat.reduceLT, reduceCtorEq, Nat.reduceLeDiff, Nat.reduceBEq, mwp_draw, c0]
  have c0 : ((1048576 : Int) < b.length) = False := eq_false (by omega)
  simp (config := { maxSteps := 10000000, implicitDefEqProofs := false }) only [go_sem, ↓reduceIte, Nat.reduceAdd, Nat.reduceMul, Nat.reduceEqDiff, Nat.reduceSub, Nat.reduceLT, reduceCtorEq, Nat.reduceLeDiff, Nat.reduceBEq, mwp_draw, c0]
  refine callK_any (DrawLevelForest_is _ b hb) ?_
  rintro o r ⟨rfl, n, es, ls, fs, k, rfl, v1, v2, v3, v4, v5⟩
  simp (config := { maxSteps := 10000000, implicitDefEqProofs := false }) only [go_sem, ↓reduceIte, Nat.reduceAdd, Nat.reduceMul, Nat.reduceEqDiff, Nat.reduceSub, Nat.reduceLT, reduceCtorEq, Nat.reduceLeDiff, Nat.reduceBEq, mwp_draw]
  refine callK_is (LevelForest_is _ _ _ n es ls fs k (by omega) (by omega) (by omega)) ?_
  simp (config := { maxSteps := 10000000, implicitDefEqProofs := false }) only [go_sem, ↓reduceIte, Nat.reduceAdd, Nat.reduceMul, Nat.reduceEqDiff, Nat.reduceSub, Nat.reduceLT, reduceCtorEq, Nat.reduceLeDiff, Nat.reduceBEq, mwp_draw]
  refine callK_is (LevelForestS_is _ _ _ n es ls fs k (by omega) (by omega) (by omega)) ?_
  have fl := lfE_len (n := n) (es := es) (ls := ls) (fs := fs) (k := k)
  simp (config := { maxSteps := 10000000, implicitDefEqProofs := false }) only [go_sem, ↓reduceIte, Nat.reduceAdd, Nat.reduceMul, Nat.reduceEqDiff, Nat.reduceSub, Nat.reduceLT, reduceCtorEq, Nat.reduceLeDiff, Nat.reduceBEq, mwp_draw]
  refine callK_is (dyEdges_is _ _ _ _ (by omega)) ?_
  cases h : lfB n es ls fs k with
  | false =>
    simp (config := { maxSteps := 10000000, implicitDefEqProofs := false }) only [go_sem, ↓reduceIte, Nat.reduceAdd, Nat.reduceMul, Nat.reduceEqDiff, Nat.reduceSub, Nat.reduceLT, reduceCtorEq, Nat.reduceLeDiff, Nat.reduceBEq, mwp_draw, beq_true, beq_false]
    refine callK_is (dyEdges_is _ _ _ _ (by omega)) ?_
    simp (config := { maxSteps := 10000000, implicitDefEqProofs := false }) only [go_sem, ↓reduceIte, Nat.reduceAdd, Nat.reduceMul, Nat.reduceEqDiff, Nat.reduceSub, Nat.reduceLT, reduceCtorEq, Nat.reduceLeDiff, Nat.reduceBEq, mwp_draw, beq_true, beq_false]
  | true =>
    have h' := h
    simp only [lfB, Bool.and_eq_true, lvK, decide_eq_true_eq] at h'
    obtain ⟨hlv, hk0, hk4⟩ := h'
    obtain ⟨h1, h2, h3, h4⟩ := lvB_get hlv
    have hE : lfE n es ls fs k = upL es ls fs k true := by unfold lfE; rw [if_pos h]
    have h0 : lfB n es ls fs 0 = true := by simp [lfB, hlv, lvK]
    have hE0 : lfE n es ls fs 0 = upL es ls fs 0 true := by unfold lfE; rw [if_pos h0]
    have hall := lf_all hlv
    have hnest := fun d (hd : d ∈ upL es ls fs k true) => lf_nest hlv hk0 hd
    have fl0 := lfE_len (n := n) (es := es) (ls := ls) (fs := fs) (k := 0)
    rw [hE] at fl ⊢
    rw [hE0] at fl0
    simp (config := { maxSteps := 10000000, implicitDefEqProofs := false }) only [go_sem, ↓reduceIte, Nat.reduceAdd, Nat.reduceMul, Nat.reduceEqDiff, Nat.reduceSub, Nat.reduceLT, reduceCtorEq, Nat.reduceLeDiff, Nat.reduceBEq, mwp_draw, beq_true, beq_false]
    refine callK_is (LevelForest_is _ _ _ n es ls fs 0 (by omega) (by omega) (by omega)) ?_
    rw [hE0, h0]
    generalize upL es ls fs k true = list at *
    generalize upL es ls fs 0 true = all at *
    simp (config := { maxSteps := 10000000, implicitDefEqProofs := false }) only [go_sem, ↓reduceIte, Nat.reduceAdd, Nat.reduceMul, Nat.reduceEqDiff, Nat.reduceSub, Nat.reduceLT, reduceCtorEq, Nat.reduceLeDiff, Nat.reduceBEq, mwp_draw]
    refine mwp_loopk (X := Nat) (fun i => ⟨[(3, .pr 0 0 0), (5, .sr 1 0 list.length), (9, .sr 2 0 all.length), (10, .b true), (11, .i .i64 i)],
        [(0, .box [.i .i64 n, .sr 3 0 es.length, .sr 4 0 ls.length, .sr 5 0 fs.length]), (1, .arr true 2 (encE list)), (2, .arr true 2 (encE all)), (3, .arr true 2 (encE es)), (4, .arr true 1 (encI ls)), (5, .arr true 1 (encT fs))], 6⟩)
      (fun i => i ≤ list.length) (fun i => list.length - i) 0 (by kernel_rfl) (Nat.zero_le _) ?_
    rintro i g1 K kN kE kR
    by_cases hi : i < list.length
    · obtain ⟨d, hd⟩ : ∃ d, list[i]? = some d := ⟨_, List.getElem?_eq_getElem hi⟩
      have gd := goneD hd
      have c1 : ((i : Int) < list.length) = True := eq_true (by omega)
      have c2 : (i < list.length) = True := eq_true hi
      simp (config := { maxSteps := 10000000, implicitDefEqProofs := false }) only [go_sem, ↓reduceIte, Nat.reduceAdd, Nat.reduceMul, Nat.reduceEqDiff, Nat.reduceSub, Nat.reduceLT, reduceCtorEq, Nat.reduceLeDiff, Nat.reduceBEq, mwp_draw, c1, c2, ↓gd]
      repeat (refine ⟨by first | omega | decide | exact fits64 (by omega) (by omega) | kernel_rfl | (intros; omega), ?_⟩)
      refine callK_is (dyHas_is _ all d (by omega)) ?_
      have c3 : (d ∈ all) = True := eq_true (hnest d (List.mem_of_getElem? hd))
      simp (config := { maxSteps := 10000000, implicitDefEqProofs := false }) only [go_sem, ↓reduceIte, Nat.reduceAdd, Nat.reduceMul, Nat.reduceEqDiff, Nat.reduceSub, Nat.reduceLT, reduceCtorEq, Nat.reduceLeDiff, Nat.reduceBEq, mwp_draw, c3]
      repeat (refine ⟨by first | omega | decide | exact fits64 (by omega) (by omega) | kernel_rfl | (intros; omega), ?_⟩)
      exact kN _ (i + 1) (by kernel_rfl) (by omega) (by omega)
    · have c1 : ((i : Int) < list.length) = False := eq_false (by omega)
      simp (config := { maxSteps := 10000000, implicitDefEqProofs := false }) only [go_sem, ↓reduceIte, Nat.reduceAdd, Nat.reduceMul, Nat.reduceEqDiff, Nat.reduceSub, Nat.reduceLT, reduceCtorEq, Nat.reduceLeDiff, Nat.reduceBEq, mwp_draw, c1]
      refine kE _ _ ?_
      clear kN kE kR
      simp (config := { maxSteps := 10000000, implicitDefEqProofs := false }) only [go_sem, ↓reduceIte, Nat.reduceAdd, Nat.reduceMul, Nat.reduceEqDiff, Nat.reduceSub, Nat.reduceLT, reduceCtorEq, Nat.reduceLeDiff, Nat.reduceBEq, mwp_draw]
      refine callK_is (PartCount_is _ n es (by omega)) ?_
      have hr : 0 ≤ pcB n es ∧ pcB n es ≤ 16 := by have := pcB_pc (gvB_iff.2 h1); omega
      simp (config := { maxSteps := 10000000, implicitDefEqProofs := false }) only [go_sem, ↓reduceIte, Nat.reduceAdd, Nat.reduceMul, Nat.reduceEqDiff, Nat.reduceSub, Nat.reduceLT, reduceCtorEq, Nat.reduceLeDiff, Nat.reduceBEq, mwp_draw]
      refine ⟨fits64 (by omega) (by omega), ?_⟩
      have c3 : ((all.length : Int) = n - pcB n es) = True := eq_true hall
      first
        | (simp only [c3, decide_true]; first | done | exact ⟨by kernel_rfl, rfl⟩ | (show _ = true; kernel_rfl))
        | (refine ⟨by kernel_rfl, mvb ?_⟩; rw [decide_eq_true_eq]; exact hall)
theorem FnLevelForest_row (m : List (List D)) (h : ∀ r ∈ m, rowOK [.i .u8] r) (_ : m.length ≤ maxLen) : Is prog fid_laws_FnLevelForest [.s false 1 m] (.b true) := by
  obtain ⟨b, rfl, hb⟩ := rows_bytes h
  exact FnLevelForest_is _ b hb
end Go.Fw
