/-
  The law on all edges cut one after another: each is raised a few times.
-/
import Derived.Test.YtfjekgjhhmkgoaaCtLd
import Derived.Test.YtfjekgjhhmkgoaaCtLk
import Derived.Test.YtfjekgjhhmkgoaaCtDy
import Derived.Test.YtfjekgjhhmkgoaaCtRow
namespace Go.Fw
set_option linter.unusedSimpArgs false
set_option linter.unusedVariables false
set_option maxRecDepth 100000
set_option maxHeartbeats 4000000
open Go.Proofs.Try (prog)
open Go.Pl

theorem pcL_pcA {n : Int} {es : List E} (l : List Int) (hl : l = labL n es) : ∀ k : Nat, k ≤ l.length → pcL l k = (((List.range k).countP fun i : Nat => decide (nth (labL n es) i = i) : Nat) : Int)
  | 0, _ => by simp [pcL]
  | k + 1, hk => by
    have ih := pcL_pcA l hl k (by omega)
    have e : l[k]? = some (nth (labL n es) (k : Int)) := by
      have := nth_some (l := labL n es) (x := (k : Int)) ⟨by omega, by rw [← hl]; omega⟩
      rw [← hl] at this ⊢; simpa using this
    rw [pcL, ih, List.range_succ, List.countP_append, e]
    by_cases q : nth (labL n es) (k : Int) = k
    · simp [q]
    · simp [q]
theorem pcB_nil {n : Int} (h : gvB n [] = true) : pcB n [] = n := by
  have e : labV n [] = labL n [] := by unfold labV; rw [if_pos h]
  have hn := (gvB_iff.1 h).1
  unfold pcB
  rw [e, pcL_pcA (labL n []) rfl _ (Nat.le_refl _), labL_length]
  have := pc_nil (n := n)
  unfold pc at this
  rw [this]; omega
theorem sumI_zipA {es : List E} {ls : List Int} {fs : List Bool} (h2 : ls.length = es.length) (h3 : fs.length = es.length) : sumI ls = sumL (zipT es ls fs) := by
  rw [← sumI_eq, tL_zip h2 h3]
theorem cl_dis {n : Int} {es : List E} {ls : List Int} {fs : List Bool} {e : E} (ok : clB n es ls fs e = true) :
    ∃ (es2 : List E) (ls2 : List Int) (fs2 : List Bool), (clR n es ls fs e).1 = zipT es2 ls2 fs2 ∧ tE (clR n es ls fs e).1 = es2 ∧ tL (clR n es ls fs e).1 = ls2 ∧ tF (clR n es ls fs e).1 = fs2 ∧ clN n es ls fs e = n ∧ lvB n es2 ls2 fs2 = true ∧
      es2.length + 1 = es.length ∧ 0 ≤ clS n es ls fs e ∧ clS n es ls fs e + 4 * (es2.length : Int) - sumI ls2 ≤ 4 * (es.length : Int) - sumI ls := by
  obtain ⟨lk, p2, p3, p4, a, v, tt, a1, a2, a3, a4, s1, s2, s3, s4, s5, s6⟩ := cl_ok ok
  have o := ok
  simp only [clB, Bool.and_eq_true, decide_eq_true_eq] at o
  obtain ⟨h1, h2, h3, h4⟩ := lvB_get o.1
  have hv : lvB n (tE (clR n es ls fs e).1) (tL (clR n es ls fs e).1) (tF (clR n es ls fs e).1) = true := (lok_iff p3).2 lk
  have z : ∀ T : List Lv1, zipT (tE T) (tL T) (tF T) = T := fun T => by
    induction T with
    | nil => rfl
    | cons x T ih =>
      unfold zipT tE tL tF at ih ⊢
      simp only [List.map_cons, List.zip_cons_cons, ih]
  refine ⟨_, _, _, (z _).symm, rfl, rfl, rfl, p4, hv, by rw [tE_length]; exact s4, s6, ?_⟩
  rw [tE_length, sumI_eq, sumI_zipA h2 h3]
  omega
theorem FnCutAll_is (t : Bool) (b : List Int) (hb : Byt b) : Is prog fid_laws_FnCutAll [.s t 1 (encB b)] (.b true) := by
  refine MCall.run mixed get_laws_FnCutAll ok_laws_FnCutAll (Nat.le_of_ble_eq_true rfl) (by decide) ?_
  unfold mc_laws_FnCutAll
  by_cases hl : 1048576 < b.length
  · have c0 : ((1048576 : Int) < b.length) = True := eq_true (by omega)
    simp (config := { maxSteps := 10000000, implicitDefEqProofs := false }) only [go_sem, ↓reduceIte, Nat.reduceAdd, Nat.reduceMul, Nat.reduceEqDiff, Nat.reduceSub, Nat.reduceLT, reduceCtorEq, Nat.reduceLeDiff, Nat.reduceBEq, mwp_draw, c0]
  have c0 : ((1048576 : Int) < b.length) = False := eq_false (by omega)
  simp (config := { maxSteps := 10000000, implicitDefEqProofs := false }) only [go_sem, ↓reduceIte, Nat.reduceAdd, Nat.reduceMul, Nat.reduceEqDiff, Nat.reduceSub, Nat.reduceLT, reduceCtorEq, Nat.reduceLeDiff, Nat.reduceBEq, mwp_draw, c0]
  refine callK_any (DrawCutLevel_is _ b hb) ?_
  rintro o r ⟨rfl, n, es, ls, fs, e, rfl, v1, v2, v3, v4, v5⟩
  simp (config := { maxSteps := 10000000, implicitDefEqProofs := false }) only [go_sem, ↓reduceIte, Nat.reduceAdd, Nat.reduceMul, Nat.reduceEqDiff, Nat.reduceSub, Nat.reduceLT, reduceCtorEq, Nat.reduceLeDiff, Nat.reduceBEq, mwp_draw]
  refine callK_is (CutLevel_is _ _ _ n es ls fs e (by omega) (by omega) (by omega)) ?_
  unfold ClV
  simp (config := { maxSteps := 10000000, implicitDefEqProofs := false }) only [go_sem, ↓reduceIte, Nat.reduceAdd, Nat.reduceMul, Nat.reduceEqDiff, Nat.reduceSub, Nat.reduceLT, reduceCtorEq, Nat.reduceLeDiff, Nat.reduceBEq, mwp_draw]
  refine callK_is (CutLevelS_is _ _ _ n es ls fs e (by omega) (by omega) (by omega)) ?_
  unfold ClV
  have hp := fun h => cl_dis (n := n) (es := es) (ls := ls) (fs := fs) (e := e) h
  have hlen : (clR n es ls fs e).1.length ≤ 60 := by
    cases q : clB n es ls fs e
    · simp [clR, q]
    · obtain ⟨es2, ls2, fs2, _, h, _, _, _, _, h2, _⟩ := hp q
      rw [← tE_length, h]; omega
  have hcb : clB n es ls fs e = true → lvB n es ls fs = true ∧ e ∈ es := fun h => by simp only [clB, Bool.and_eq_true, decide_eq_true_eq] at h; exact h
  generalize clN n es ls fs e = n2 at *
  generalize clR n es ls fs e = R at *
  generalize clS n es ls fs e = sm at *
  generalize clB n es ls fs e = ok at *
  have r1 := tE_length (T := R.1)
  have r2 := tL_length (T := R.1)
  have r3 := tF_length (T := R.1)
  obtain ⟨R1, fd⟩ := R
  simp only at *
  simp (config := { maxSteps := 10000000, implicitDefEqProofs := false }) only [go_sem, ↓reduceIte, Nat.reduceAdd, Nat.reduceMul, Nat.reduceEqDiff, Nat.reduceSub, Nat.reduceLT, reduceCtorEq, Nat.reduceLeDiff, Nat.reduceBEq, mwp_draw]
  refine callK_is (dyLeveled_is _ _ _ _ _ _ n2 n2 _ _ _ _ _ _ (by omega) (by omega) (by omega)) ?_
  simp only [decide_true, Bool.and_self]
  have ff : (fd == fd) = true := by simp
  cases ok with
  | false =>
    simp (config := { maxSteps := 10000000, implicitDefEqProofs := false }) only [go_sem, ↓reduceIte, Nat.reduceAdd, Nat.reduceMul, Nat.reduceEqDiff, Nat.reduceSub, Nat.reduceLT, reduceCtorEq, Nat.reduceLeDiff, Nat.reduceBEq, mwp_draw, beq_true, beq_false, ff]
    refine callK_is (dyLeveled_is _ _ _ _ _ _ n2 n2 _ _ _ _ _ _ (by omega) (by omega) (by omega)) ?_
    simp only [decide_true, Bool.and_self]
    simp (config := { maxSteps := 10000000, implicitDefEqProofs := false }) only [go_sem, ↓reduceIte, Nat.reduceAdd, Nat.reduceMul, Nat.reduceEqDiff, Nat.reduceSub, Nat.reduceLT, reduceCtorEq, Nat.reduceLeDiff, Nat.reduceBEq, mwp_draw, beq_true, beq_false, ff]
  | true =>
    obtain ⟨es2, ls2, fs2, q0, q1, q2, q3, rfl, q5, q6, q7, q8⟩ := hp rfl
    obtain ⟨o1, o2⟩ := hcb rfl
    obtain ⟨h1, h2, h3, h4⟩ := lvB_get o1
    have sr := sumI_rng (l := ls) h4
    rw [q1, q2, q3] at *
    simp (config := { maxSteps := 10000000, implicitDefEqProofs := false }) only [go_sem, ↓reduceIte, Nat.reduceAdd, Nat.reduceMul, Nat.reduceEqDiff, Nat.reduceSub, Nat.reduceLT, reduceCtorEq, Nat.reduceLeDiff, Nat.reduceBEq, mwp_draw, beq_true, beq_false, ff]
    refine mwp_loopk (X := List E × List Int × List Bool × Int) (fun x => ⟨[(3, .pr 0 0 0), (5, .pr 1 0 0), (13, .i .i64 x.2.2.2)],
        [(0, .box [.i .i64 n2, .sr 2 0 es.length, .sr 3 0 ls.length, .sr 4 0 fs.length]), (1, .box [.i .i64 n2, .sr 5 0 x.1.length, .sr 6 0 x.2.1.length, .sr 7 0 x.2.2.1.length]),
          (2, .arr true 2 (encE es)), (3, .arr true 1 (encI ls)), (4, .arr true 1 (encT fs)), (5, .arr true 2 (encE x.1)), (6, .arr true 1 (encI x.2.1)), (7, .arr true 1 (encT x.2.2.1))], 8⟩)
      (fun x => lvB n2 x.1 x.2.1 x.2.2.1 = true ∧ 0 ≤ x.2.2.2 ∧ x.2.2.2 + 4 * (x.1.length : Int) - sumI x.2.1 ≤ 4 * (es.length : Int)) (fun x => x.1.length) (es2, ls2, fs2, sm) (by kernel_rfl) ⟨q5, q7, by simp only; omega⟩ ?_
    rintro ⟨ps, qs, rs, sum⟩ ⟨g1, g2, g3⟩ K kN kE kR
    simp only at g1 g2 g3
    obtain ⟨u1, u2, u3, u4⟩ := lvB_get g1
    have su := sumI_rng (l := qs) u4
    have ul := u1.2.2.1
    by_cases hi : 0 < ps.length
    · have c1 : ((0 : Int) < ps.length) = True := eq_true (by omega)
      have e0 : (ps.length : Int).tdiv 2 = ((ps.length / 2 : Nat) : Int) := by
        rw [Int.tdiv_eq_ediv_of_nonneg (by omega)]; omega
      obtain ⟨d, hd⟩ : ∃ d, ps[ps.length / 2]? = some d := ⟨_, List.getElem?_eq_getElem (by omega)⟩
      have gd := goneD hd
      have c2 : (((ps.length / 2 : Nat) : Int) < ps.length) = True := eq_true (by omega)
      have c3 : (ps.length / 2 < ps.length) = True := eq_true (by omega)
      simp (config := { maxSteps := 10000000, implicitDefEqProofs := false }) only [go_sem, ↓reduceIte, Nat.reduceAdd, Nat.reduceMul, Nat.reduceEqDiff, Nat.reduceSub, Nat.reduceLT, reduceCtorEq, Nat.reduceLeDiff, Nat.reduceBEq, mwp_draw, c1, e0, c2, c3, ↓gd]
      repeat (refine ⟨by first | omega | decide | exact fits64 (by omega) (by omega) | kernel_rfl | (intros; omega), ?_⟩)
      refine callK_is (CutLevel_is _ _ _ n2 ps qs rs d (by omega) (by omega) (by omega)) ?_
      unfold ClV
      have hb2 : clB n2 ps qs rs d = true := by simp [clB, g1, List.mem_of_getElem? hd]
      obtain ⟨ps2, qs2, rs2, w0, w1, w2, w3, w4, w5, w6, w7, w8⟩ := cl_dis hb2
      rw [hb2, w1, w2, w3, w4]
      have su2 := sumI_rng (l := qs2) (lvB_get w5).2.2.2
      have sl2 := (lvB_get w5).2.1
      generalize clS n2 ps qs rs d = more at *
      generalize (clR n2 ps qs rs d).2 = junk
      simp (config := { maxSteps := 10000000, implicitDefEqProofs := false }) only [go_sem, ↓reduceIte, Nat.reduceAdd, Nat.reduceMul, Nat.reduceEqDiff, Nat.reduceSub, Nat.reduceLT, reduceCtorEq, Nat.reduceLeDiff, Nat.reduceBEq, mwp_draw]
      repeat (refine ⟨by first | omega | decide | exact fits64 (by omega) (by omega) | kernel_rfl | (intros; omega), ?_⟩)
      exact kN _ (ps2, qs2, rs2, sum + more) (by kernel_rfl) ⟨w5, by simp only; omega, by simp only; omega⟩ (by simp only; omega)
    · have c1 : ((0 : Int) < ps.length) = False := eq_false (by omega)
      have ep : ps = [] := List.length_eq_zero_iff.1 (by omega)
      simp (config := { maxSteps := 10000000, implicitDefEqProofs := false }) only [go_sem, ↓reduceIte, Nat.reduceAdd, Nat.reduceMul, Nat.reduceEqDiff, Nat.reduceSub, Nat.reduceLT, reduceCtorEq, Nat.reduceLeDiff, Nat.reduceBEq, mwp_draw, c1]
      refine kE _ _ ?_
      clear kN kE kR
      simp (config := { maxSteps := 10000000, implicitDefEqProofs := false }) only [go_sem, ↓reduceIte, Nat.reduceAdd, Nat.reduceMul, Nat.reduceEqDiff, Nat.reduceSub, Nat.reduceLT, reduceCtorEq, Nat.reduceLeDiff, Nat.reduceBEq, mwp_draw]
      refine callK_is (LevelsValid_is _ _ _ n2 ps qs rs (by omega) (by omega) (by omega)) ?_
      rw [g1]
      simp (config := { maxSteps := 10000000, implicitDefEqProofs := false }) only [go_sem, ↓reduceIte, Nat.reduceAdd, Nat.reduceMul, Nat.reduceEqDiff, Nat.reduceSub, Nat.reduceLT, reduceCtorEq, Nat.reduceLeDiff, Nat.reduceBEq, mwp_draw]
      refine callK_is (PartCount_is _ n2 ps (by omega)) ?_
      have hpn : pcB n2 ps = n2 := by rw [ep]; exact pcB_nil (gvB_iff.2 (by rw [← ep]; exact u1))
      have hql : qs = [] := List.length_eq_zero_iff.1 (by omega)
      have hs0 : sumI qs = 0 := by rw [hql]; rfl
      rw [hpn]
      have c4 : (sum ≤ 4 * (ls.length : Int)) = True := eq_true (by omega)
      simp (config := { maxSteps := 10000000, implicitDefEqProofs := false }) only [go_sem, ↓reduceIte, Nat.reduceAdd, Nat.reduceMul, Nat.reduceEqDiff, Nat.reduceSub, Nat.reduceLT, reduceCtorEq, Nat.reduceLeDiff, Nat.reduceBEq, mwp_draw, c4]
      repeat (refine ⟨by first | omega | decide | exact fits64 (by omega) (by omega) | kernel_rfl | (intros; omega), ?_⟩)
      first | done | exact ⟨by kernel_rfl, rfl⟩ | (show _ = true; kernel_rfl) | rfl
theorem FnCutAll_row (m : List (List D)) (h : ∀ r ∈ m, rowOK [.i .u8] r) (_ : m.length ≤ maxLen) : Is prog fid_laws_FnCutAll [.s false 1 m] (.b true) := by
  obtain ⟨b, rfl, hb⟩ := rows_bytes h
  exact FnCutAll_is _ b hb
end Go.Fw
