/-
  Graphs with levels: the reference's search on one level.
-/
import Derived.Test.YtfjekgjhhmkgoaaCtZ4
namespace Go.Fw
set_option linter.unusedSimpArgs false
set_option linter.unusedVariables false
set_option maxRecDepth 100000
set_option maxHeartbeats 16000000
open Go.Proofs.Try (prog)
open Go.Pl

theorem scn_congr {k : Int} {S S' : Int → Bool} : ∀ {T : List Lv1}, (∀ x ∈ T, S x.1.1 = S' x.1.1 ∧ S x.1.2 = S' x.1.2) → scn k S T = scn k S' T
  | [], _ => rfl
  | x :: T, h => by
    have hx := h x (by simp)
    have ih := scn_congr (k := k) (T := T) fun y hy => h y (List.mem_cons_of_mem _ hy)
    rw [scn, scn, ih]
    have e1 : isR k S x = isR k S' x := by unfold isR; rw [hx.1, hx.2]
    have e2 : r2 k S x = r2 k S' x := by unfold r2 r2P; rw [hx.1, hx.2]
    rw [e1, e2]
/-- What the search on a level comes to, with the side as a list. -/
theorem repl_side {n : Int} {T : List Lv1} {e : E} {k : Int} (hg : GE n (tE T)) : repl n e k T = scn k (fun x => decide (x ∈ sidL n (up T k true) e.1 e.2)) (T.map (r1 k fun x => decide (x ∈ sidL n (up T k true) e.1 e.2))) ∧
    ∀ x ∈ T, x.2.1 = k → x.2.2 = true → (x.1.1 ∈ sidL n (up T k true) e.1 e.2 ↔ x.1.2 ∈ sidL n (up T k true) e.1 e.2) := by
  have hn := hg.1
  have hE : ∀ d ∈ up T k true, EIn n d := fun d hd => hg.2.2.2 d (up_fst hd)
  have rng : ∀ x ∈ T, (0 ≤ x.1.1 ∧ x.1.1 < n) ∧ 0 ≤ x.1.2 ∧ x.1.2 < n := fun x hx => by
    have := hg.2.2.2 x.1 (List.mem_map.2 ⟨x, hx, rfl⟩)
    unfold EIn at this; omega
  have same : ∀ y, 0 ≤ y ∧ y < n → decide (y ∈ sidL n (up T k true) e.1 e.2) = sidP n (up T k true) e y := fun y hy => by
    rw [Bool.eq_iff_iff, decide_eq_true_eq]; exact mem_sidL hn hy
  have both : ∀ x ∈ T, decide (x.1.1 ∈ sidL n (up T k true) e.1 e.2) = sidP n (up T k true) e x.1.1 ∧ decide (x.1.2 ∈ sidL n (up T k true) e.1 e.2) = sidP n (up T k true) e x.1.2 := fun x hx => ⟨same _ (rng x hx).1, same _ (rng x hx).2⟩
  refine ⟨?_, fun x hx hk ht => ?_⟩
  · unfold repl
    have e1 : T.map (r1 k (sidP n (up T k true) e)) = T.map (r1 k fun x => decide (x ∈ sidL n (up T k true) e.1 e.2)) := List.map_congr_left fun x hx => by
      have := both x hx
      have e : r1P k (fun x => decide (x ∈ sidL n (up T k true) e.1 e.2)) x = r1P k (sidP n (up T k true) e) x := by
        unfold r1P; simp only; rw [this.1, this.2]
      unfold r1; rw [e]
    rw [e1]
    refine (scn_congr fun x hx => ?_).symm
    obtain ⟨y, hy, rfl⟩ := List.mem_map.1 hx
    rw [r1_e]; exact both y hy
  · rw [mem_sidL hn (rng x hx).1, mem_sidL hn (rng x hx).2]
    unfold sidP
    have a : x.1 ∈ up T k true := mem_up.2 ⟨x.2.1, x.2.2, hx, by omega, fun _ => ht⟩
    have il := labL_is (n := n) (es := up T k true) hn hE
    have := (il.same (x := x.1.1) (y := x.1.2) (by have := (rng x hx).1; omega) (by have := (rng x hx).2; omega)).2 (.one (.inl a))
    rw [this]

theorem l7Level_is (t1 t2 t3 : Bool) (n : Int) (T : List Lv1) (e : E) (k : Int) (hv : GV n (tE T)) (he : EIn n e) (hl : T.length ≤ 40) (hk : 0 ≤ k ∧ k ≤ 4) (hlv : ∀ x ∈ T, 0 ≤ x.2.1 ∧ x.2.1 ≤ 1000) :
    Is prog fid_spec_l7Level [Lv t1 t2 t3 n (tE T) (tL T) (tF T), .i .i64 e.1, .i .i64 e.2, .i .i64 k]
      (.tup [.agg [.i .i64 n, .ow true 2 (encE (tE T)), .ow true 1 (encI (tL (repl n e k T).1)), .ow true 1 (encT (tF (repl n e k T).1))], .i .i64 (sumL (repl n e k T).1 - sumL T), .b (repl n e k T).2]) := by
  have hg := GE_of hv
  have h1 := tE_length (T := T)
  have h2 := tL_length (T := T)
  have h3 := tF_length (T := T)
  refine MCall.run mixed get_spec_l7Level ok_spec_l7Level (Nat.le_of_ble_eq_true rfl) (by decide) ?_
  unfold mc_spec_l7Level
  have he' := he
  unfold EIn at he'
  have hn16 := hg.2.1
  have hU := upL_up T k true
  have hvU : GV n (upL (tE T) (tL T) (tF T) k true) := by
    rw [hU]
    have : (up T k true).Sublist (tE T) := by unfold up tE; exact List.filter_sublist.map _
    exact ⟨hv.1, hv.2.1, Nat.le_trans this.length_le hv.2.2.1, fun d hd => hv.2.2.2.1 d (this.subset hd), hv.2.2.2.2.sublist this⟩
  obtain ⟨hR, hT⟩ := repl_side (T := T) (e := e) (k := k) hg
  have hsl := sidL_len (n := n) (es := up T k true) (x := e.1) (y := e.2) ⟨by omega, hn16⟩
  simp (config := { maxSteps := 10000000, implicitDefEqProofs := false }) only [go_sem, ↓reduceIte, Nat.reduceAdd, Nat.reduceMul, Nat.reduceEqDiff, Nat.reduceSub, Nat.reduceLT, reduceCtorEq, Nat.reduceLeDiff, Nat.reduceBEq, mwp_draw]
  refine callK_is (l7At_is _ _ _ n (tE T) (tL T) (tF T) k true (by omega) (by omega) (by omega)) ?_
  simp (config := { maxSteps := 10000000, implicitDefEqProofs := false }) only [go_sem, ↓reduceIte, Nat.reduceAdd, Nat.reduceMul, Nat.reduceEqDiff, Nat.reduceSub, Nat.reduceLT, reduceCtorEq, Nat.reduceLeDiff, Nat.reduceBEq, mwp_draw]
  refine callK_is (l7Side_is _ n (upL (tE T) (tL T) (tF T) k true) e.1 e.2 hvU (by omega) (by omega)) ?_
  rw [hU]
  obtain ⟨sd, hsd⟩ : ∃ sd, sd = sidL n (up T k true) e.1 e.2 := ⟨_, rfl⟩
  rw [← hsd] at hR hT hsl ⊢
  obtain ⟨S, hS⟩ : ∃ S : Int → Bool, S = fun x => decide (x ∈ sd) := ⟨_, rfl⟩
  rw [← hS] at hR
  obtain ⟨f1, hf1⟩ : ∃ f1, f1 = r1 k S := ⟨_, rfl⟩
  obtain ⟨f2, hf2⟩ : ∃ f2, f2 = r2 k S := ⟨_, rfl⟩
  rw [← hf1] at hR
  rw [hR]
  simp (config := { maxSteps := 10000000, implicitDefEqProofs := false }) only [go_sem, ↓reduceIte, Nat.reduceAdd, Nat.reduceMul, Nat.reduceEqDiff, Nat.reduceSub, Nat.reduceLT, reduceCtorEq, Nat.reduceLeDiff, Nat.reduceBEq, mwp_draw]
  refine callK_is (l7Copy_is _ _ _ n (tE T) (tL T) (tF T) (by omega) (by omega) (by omega)) ?_
  simp (config := { maxSteps := 10000000, implicitDefEqProofs := false }) only [go_sem, ↓reduceIte, Nat.reduceAdd, Nat.reduceMul, Nat.reduceEqDiff, Nat.reduceSub, Nat.reduceLT, reduceCtorEq, Nat.reduceLeDiff, Nat.reduceBEq, mwp_draw]
  refine mwp_cut (X := Unit) (fun _ => ⟨[(3, .i .i64 k), (8, .pr 0 0 0), (11, .sr 1 0 sd.length), (12, .pr 2 0 0), (13, .i .i64 (sumL (T.map f1) - sumL T))],
          [(0, .box [.i .i64 0, .nl 2, .nl 1, .nl 1]), (1, .arr true 1 (encI sd)), (2, .box [.i .i64 n, .sr 3 0 (tE T).length, .sr 4 0 (tL T).length, .sr 5 0 (tF T).length]), (3, .arr true 2 (encE (tE T))), (4, .arr true 1 (encI (tL (T.map f1)))), (5, .arr true 1 (encT (tF T)))], 6⟩)
        (fun _ => True) ?_ ?_
  · simp (config := { maxSteps := 10000000, implicitDefEqProofs := false }) only [go_sem, ↓reduceIte, Nat.reduceAdd, Nat.reduceMul, Nat.reduceEqDiff, Nat.reduceSub, Nat.reduceLT, reduceCtorEq, Nat.reduceLeDiff, Nat.reduceBEq, mwp_draw]
    refine mwp_loopk (X := Nat) (fun i => ⟨[(3, .i .i64 k), (8, .pr 0 0 0), (11, .sr 1 0 sd.length), (12, .pr 2 0 0), (13, .i .i64 (sumL (chg f1 T i) - sumL T)), (14, .i .i64 i)],
          [(0, .box [.i .i64 0, .nl 2, .nl 1, .nl 1]), (1, .arr true 1 (encI sd)), (2, .box [.i .i64 n, .sr 3 0 (tE T).length, .sr 4 0 (tL T).length, .sr 5 0 (tF T).length]), (3, .arr true 2 (encE (tE T))), (4, .arr true 1 (encI (tL (chg f1 T i)))), (5, .arr true 1 (encT (tF T)))], 6⟩)
        (fun i => i ≤ T.length) (fun i => T.length - i) 0 (by rw [chg_zero, Int.sub_self]; kernel_rfl) (Nat.zero_le _) ?_
    rintro i h1 K kN kE kR
    by_cases hi : i < T.length
    · obtain ⟨d, l, f, hx⟩ : ∃ d l f, T[i]? = some (d, l, f) := ⟨_, _, _, List.getElem?_eq_getElem hi⟩
      have gd := goneT (tE_get hx)
      have gl := goneT (tL_get (chg_get (f := f1) hx))
      have gf := goneT (tF_get hx)
      have hlv' := hlv _ (List.mem_of_getElem? hx)
      have hq := chg_sum (k := k) (S := S) h1
      rw [← hf1] at hq
      have hlc := chg_length (f := f1) (T := T) (i := i)
      have hlc2 := tL_length (T := chg f1 T i)
      have c1 : ((i : Int) < (tE T).length) = True := eq_true (by omega)
      have c2 : (i < (tE T).length) = True := eq_true (by omega)
      have c5 : ((i : Int) < (tF T).length) = True := eq_true (by omega)
      have c6 : (i < (tF T).length) = True := eq_true (by omega)
      have c7 : ((i : Int) < (tL T).length) = True := eq_true (by omega)
      have c8 : (i < (tL T).length) = True := eq_true (by omega)
      have c9 : (i < (tL (chg f1 T i)).length) = True := eq_true (by omega)
      cases f with
      | false =>
        have hs := chg_same (f := f1) hx (by rw [hf1]; rfl)
        simp (config := { maxSteps := 10000000, implicitDefEqProofs := false }) only [go_sem, ↓reduceIte, Nat.reduceAdd, Nat.reduceMul, Nat.reduceEqDiff, Nat.reduceSub, Nat.reduceLT, reduceCtorEq, Nat.reduceLeDiff, Nat.reduceBEq, mwp_draw, c1, c2, c5, c6, c7, c8, c9, ↓gd, ↓gl, ↓gf]
        repeat (refine ⟨by first | omega | decide | exact fits64 (by omega) (by omega) | kernel_rfl | (intros; omega), ?_⟩)
        exact kN _ (i + 1) (by rw [hs]; kernel_rfl) (by omega) (by omega)
      | true =>
        by_cases q1 : l = k
        · have d1 : (l = k) = True := eq_true q1
          have ht := hT _ (List.mem_of_getElem? hx) q1 rfl
          simp only at ht
          by_cases q2 : d.1 ∈ sd
          · have d2 : (d.1 ∈ sd) = True := eq_true q2
            have e1 : f1 (d, l, true) = (d, l + 1, true) := by rw [hf1, hS]; simp [r1, r1P, q1, q2, ht.1 q2]
            have hs := chg_next (f := f1) hx
            rw [e1] at hs
            have hv := sum_set (y := (d, l + 1, true)) (chg_get (f := f1) hx)
            rw [← hs] at hv
            have hw : sumL (chg f1 T (i + 1)) - sumL T = sumL (chg f1 T i) - sumL T + 1 := by simp only at hv; omega
            have hL : tL (chg f1 T (i + 1)) = (tL (chg f1 T i)).set i (k + 1) := by rw [hs, tL_set, q1]
            simp (config := { maxSteps := 10000000, implicitDefEqProofs := false }) only [go_sem, ↓reduceIte, Nat.reduceAdd, Nat.reduceMul, Nat.reduceEqDiff, Nat.reduceSub, Nat.reduceLT, reduceCtorEq, Nat.reduceLeDiff, Nat.reduceBEq, mwp_draw, c1, c2, c5, c6, c7, c8, c9, ↓gd, ↓gl, ↓gf, d1, d2]
            repeat (refine ⟨by first | omega | decide | exact fits64 (by omega) (by omega) | kernel_rfl | (intros; omega), ?_⟩)
            refine callK_is (l6InZ_is _ sd _ (by omega)) ?_
            simp (config := { maxSteps := 10000000, implicitDefEqProofs := false }) only [go_sem, ↓reduceIte, Nat.reduceAdd, Nat.reduceMul, Nat.reduceEqDiff, Nat.reduceSub, Nat.reduceLT, reduceCtorEq, Nat.reduceLeDiff, Nat.reduceBEq, mwp_draw, c1, c2, c5, c6, c7, c8, c9, ↓gd, ↓gl, ↓gf, d1, d2]
            repeat (refine ⟨by first | omega | decide | exact fits64 (by omega) (by omega) | kernel_rfl | (intros; omega), ?_⟩)
            exact kN _ (i + 1) (by rw [hw, hL]; kernel_rfl) (by omega) (by omega)
          · have hs := chg_same (f := f1) hx (by rw [hf1, hS]; simp [r1, r1P, q2])
            have d2 : (d.1 ∈ sd) = False := eq_false q2
            simp (config := { maxSteps := 10000000, implicitDefEqProofs := false }) only [go_sem, ↓reduceIte, Nat.reduceAdd, Nat.reduceMul, Nat.reduceEqDiff, Nat.reduceSub, Nat.reduceLT, reduceCtorEq, Nat.reduceLeDiff, Nat.reduceBEq, mwp_draw, c1, c2, c5, c6, c7, c8, c9, ↓gd, ↓gl, ↓gf, d1, d2]
            repeat (refine ⟨by first | omega | decide | exact fits64 (by omega) (by omega) | kernel_rfl | (intros; omega), ?_⟩)
            refine callK_is (l6InZ_is _ sd _ (by omega)) ?_
            simp (config := { maxSteps := 10000000, implicitDefEqProofs := false }) only [go_sem, ↓reduceIte, Nat.reduceAdd, Nat.reduceMul, Nat.reduceEqDiff, Nat.reduceSub, Nat.reduceLT, reduceCtorEq, Nat.reduceLeDiff, Nat.reduceBEq, mwp_draw, c1, c2, c5, c6, c7, c8, c9, ↓gd, ↓gl, ↓gf, d1, d2]
            repeat (refine ⟨by first | omega | decide | exact fits64 (by omega) (by omega) | kernel_rfl | (intros; omega), ?_⟩)
            exact kN _ (i + 1) (by rw [hs]; kernel_rfl) (by omega) (by omega)
        · have hs := chg_same (f := f1) hx (by rw [hf1]; simp [r1, r1P, q1])
          have d1 : (l = k) = False := eq_false q1
          simp (config := { maxSteps := 10000000, implicitDefEqProofs := false }) only [go_sem, ↓reduceIte, Nat.reduceAdd, Nat.reduceMul, Nat.reduceEqDiff, Nat.reduceSub, Nat.reduceLT, reduceCtorEq, Nat.reduceLeDiff, Nat.reduceBEq, mwp_draw, c1, c2, c5, c6, c7, c8, c9, ↓gd, ↓gl, ↓gf, d1]
          repeat (refine ⟨by first | omega | decide | exact fits64 (by omega) (by omega) | kernel_rfl | (intros; omega), ?_⟩)
          exact kN _ (i + 1) (by rw [hs]; kernel_rfl) (by omega) (by omega)
    · obtain rfl : i = T.length := by omega
      have c7 : ((T.length : Int) < (tL T).length) = False := eq_false (by omega)
      rw [chg_all]
      simp (config := { maxSteps := 10000000, implicitDefEqProofs := false }) only [go_sem, ↓reduceIte, Nat.reduceAdd, Nat.reduceMul, Nat.reduceEqDiff, Nat.reduceSub, Nat.reduceLT, reduceCtorEq, Nat.reduceLeDiff, Nat.reduceBEq, mwp_draw, c7]
      refine kE _ _ ?_
      clear kN kE kR
      simp (config := { maxSteps := 10000000, implicitDefEqProofs := false }) only [go_sem, ↓reduceIte, Nat.reduceAdd, Nat.reduceMul, Nat.reduceEqDiff, Nat.reduceSub, Nat.reduceLT, reduceCtorEq, Nat.reduceLeDiff, Nat.reduceBEq, mwp_draw]
      exact ⟨(), trivial⟩
  rintro ⟨⟩ -
  obtain ⟨T1, hT1⟩ : ∃ T1, T1 = T.map f1 := ⟨_, rfl⟩
  have tE1 : tE T1 = tE T := by rw [hT1, hf1]; exact tE_map r1_e
  have tF1 : tF T1 = tF T := by rw [hT1, hf1]; exact tF_map r1_t
  have len1 : T1.length = T.length := by rw [hT1, List.length_map]
  have lv1 : ∀ x ∈ T1, 0 ≤ x.2.1 ∧ x.2.1 ≤ 1001 := fun x hx => by
    rw [hT1] at hx
    obtain ⟨y, hy, rfl⟩ := List.mem_map.1 hx
    have a := hlv y hy
    have b := r1_lev (k := k) (S := S) (x := y)
    rw [← hf1] at b
    omega
  have sum1 : 0 ≤ sumL T1 - sumL T ∧ sumL T1 - sumL T ≤ 40 := by
    have := map_r1_sum (k := k) (S := S) (T := T)
    rw [← hf1, ← hT1] at this; omega
  rw [← hT1]
  simp (config := { maxSteps := 10000000, implicitDefEqProofs := false }) only [go_sem, ↓reduceIte, Nat.reduceAdd, Nat.reduceMul, Nat.reduceEqDiff, Nat.reduceSub, Nat.reduceLT, reduceCtorEq, Nat.reduceLeDiff, Nat.reduceBEq, mwp_draw]
  refine mwp_loopk (X := Nat) (fun j => ⟨[(3, .i .i64 k), (8, .pr 0 0 0), (11, .sr 1 0 sd.length), (12, .pr 2 0 0), (13, .i .i64 (sumL (chg f2 T1 j) - sumL T)), (16, .i .i64 j)],
          [(0, .box [.i .i64 0, .nl 2, .nl 1, .nl 1]), (1, .arr true 1 (encI sd)), (2, .box [.i .i64 n, .sr 3 0 (tE T).length, .sr 4 0 (tL T).length, .sr 5 0 (tF T).length]), (3, .arr true 2 (encE (tE T))), (4, .arr true 1 (encI (tL (chg f2 T1 j)))), (5, .arr true 1 (encT (tF T)))], 6⟩)
        (fun j => j ≤ T1.length ∧ ∀ y ∈ T1.take j, isR k S y = false) (fun j => T1.length - j) 0 (by rw [chg_zero]; kernel_rfl) ⟨Nat.zero_le _, by simp⟩ ?_
  rintro i ⟨h1, h0⟩ K kN kE kR
  by_cases hi : i < T1.length
  · obtain ⟨d, l, f, hx⟩ : ∃ d l f, T1[i]? = some (d, l, f) := ⟨_, _, _, List.getElem?_eq_getElem hi⟩
    have gd := goneT (show (tE T)[i]? = some d by rw [← tE1]; exact tE_get hx)
    have gl := goneT (show (tL (chg f2 T1 i))[i]? = some l from tL_get (chg_get (f := f2) hx))
    have gf := goneT (show (tF T)[i]? = some f by rw [← tF1]; exact tF_get hx)
    have hlv' := lv1 _ (List.mem_of_getElem? hx)
    have hq := chg_sum2 (k := k) (S := S) h1
    rw [← hf2] at hq
    have hlc := chg_length (f := f2) (T := T1) (i := i)
    have hlc2 := tL_length (T := chg f2 T1 i)
    have c1 : ((i : Int) < (tE T).length) = True := eq_true (by omega)
    have c2 : (i < (tE T).length) = True := eq_true (by omega)
    have c5 : ((i : Int) < (tF T).length) = True := eq_true (by omega)
    have c6 : (i < (tF T).length) = True := eq_true (by omega)
    have c7 : ((i : Int) < (tL T).length) = True := eq_true (by omega)
    have c8 : (i < (tL T).length) = True := eq_true (by omega)
    have c9 : (i < (tL (chg f2 T1 i)).length) = True := eq_true (by omega)
    cases f with
    | true =>
      have hs := chg_same (f := f2) hx (by rw [hf2, hS]; simp [r2, r2P])
      have hr : isR k S (d, l, true) = false := by rw [hS]; simp [isR]
      simp (config := { maxSteps := 10000000, implicitDefEqProofs := false }) only [go_sem, ↓reduceIte, Nat.reduceAdd, Nat.reduceMul, Nat.reduceEqDiff, Nat.reduceSub, Nat.reduceLT, reduceCtorEq, Nat.reduceLeDiff, Nat.reduceBEq, mwp_draw, c1, c2, c5, c6, c7, c8, c9, ↓gd, ↓gl, ↓gf]
      repeat (refine ⟨by first | omega | decide | exact fits64 (by omega) (by omega) | kernel_rfl | (intros; omega), ?_⟩)
      exact kN _ (i + 1) (by rw [hs]; kernel_rfl) ⟨by omega, not_next h0 hx hr⟩ (by omega)
    | false =>
      by_cases q1 : l = k
      · have d1 : (l = k) = True := eq_true q1
        by_cases q2 : d.1 ∈ sd
        · have d2 : (d.1 ∈ sd) = True := eq_true q2
          by_cases q3 : d.2 ∈ sd
          · have d3 : (d.2 ∈ sd) = True := eq_true q3
            have e1 : f2 (d, l, false) = (d, l + 1, false) := by rw [hf2, hS]; simp [r2, r2P, q1, q2, q3]
            have hs := chg_next (f := f2) hx
            rw [e1] at hs
            have hv := sum_set (y := (d, l + 1, false)) (chg_get (f := f2) hx)
            rw [← hs] at hv
            have hw : sumL (chg f2 T1 (i + 1)) - sumL T = sumL (chg f2 T1 i) - sumL T + 1 := by simp only at hv; omega
            have hL : tL (chg f2 T1 (i + 1)) = (tL (chg f2 T1 i)).set i (k + 1) := by rw [hs, tL_set, q1]
            have hr : isR k S (d, l, false) = false := by rw [hS]; simp [isR, q2, q3]
            simp (config := { maxSteps := 10000000, implicitDefEqProofs := false }) only [go_sem, ↓reduceIte, Nat.reduceAdd, Nat.reduceMul, Nat.reduceEqDiff, Nat.reduceSub, Nat.reduceLT, reduceCtorEq, Nat.reduceLeDiff, Nat.reduceBEq, mwp_draw, c1, c2, c5, c6, c7, c8, c9, ↓gd, ↓gl, ↓gf, d1, d2, d3]
            repeat (refine ⟨by first | omega | decide | exact fits64 (by omega) (by omega) | kernel_rfl | (intros; omega), ?_⟩)
            refine callK_is (l6InZ_is _ sd _ (by omega)) ?_
            simp (config := { maxSteps := 10000000, implicitDefEqProofs := false }) only [go_sem, ↓reduceIte, Nat.reduceAdd, Nat.reduceMul, Nat.reduceEqDiff, Nat.reduceSub, Nat.reduceLT, reduceCtorEq, Nat.reduceLeDiff, Nat.reduceBEq, mwp_draw, c1, c2, c5, c6, c7, c8, c9, ↓gd, ↓gl, ↓gf, d1, d2, d3]
            repeat (refine ⟨by first | omega | decide | exact fits64 (by omega) (by omega) | kernel_rfl | (intros; omega), ?_⟩)
            refine callK_is (l6InZ_is _ sd _ (by omega)) ?_
            simp (config := { maxSteps := 10000000, implicitDefEqProofs := false }) only [go_sem, ↓reduceIte, Nat.reduceAdd, Nat.reduceMul, Nat.reduceEqDiff, Nat.reduceSub, Nat.reduceLT, reduceCtorEq, Nat.reduceLeDiff, Nat.reduceBEq, mwp_draw, c1, c2, c5, c6, c7, c8, c9, ↓gd, ↓gl, ↓gf, d1, d2, d3]
            repeat (refine ⟨by first | omega | decide | exact fits64 (by omega) (by omega) | kernel_rfl | (intros; omega), ?_⟩)
            refine callK_is (l6InZ_is _ sd _ (by omega)) ?_
            simp (config := { maxSteps := 10000000, implicitDefEqProofs := false }) only [go_sem, ↓reduceIte, Nat.reduceAdd, Nat.reduceMul, Nat.reduceEqDiff, Nat.reduceSub, Nat.reduceLT, reduceCtorEq, Nat.reduceLeDiff, Nat.reduceBEq, mwp_draw, c1, c2, c5, c6, c7, c8, c9, ↓gd, ↓gl, ↓gf, d1, d2, d3]
            repeat (refine ⟨by first | omega | decide | exact fits64 (by omega) (by omega) | kernel_rfl | (intros; omega), ?_⟩)
            exact kN _ (i + 1) (by rw [hw, hL]; kernel_rfl) ⟨by omega, not_next h0 hx hr⟩ (by omega)
          · have d3 : (d.2 ∈ sd) = False := eq_false q3
            have hr : isR k S (d, l, false) = true := by rw [hS]; simp [isR, q1, q2, q3]
            have hh := scn_hit h0 hx hr
            rw [← hf2] at hh
            simp (config := { maxSteps := 10000000, implicitDefEqProofs := false }) only [go_sem, ↓reduceIte, Nat.reduceAdd, Nat.reduceMul, Nat.reduceEqDiff, Nat.reduceSub, Nat.reduceLT, reduceCtorEq, Nat.reduceLeDiff, Nat.reduceBEq, mwp_draw, c1, c2, c5, c6, c7, c8, c9, ↓gd, ↓gl, ↓gf, d1, d2, d3]
            repeat (refine ⟨by first | omega | decide | exact fits64 (by omega) (by omega) | kernel_rfl | (intros; omega), ?_⟩)
            refine callK_is (l6InZ_is _ sd _ (by omega)) ?_
            simp (config := { maxSteps := 10000000, implicitDefEqProofs := false }) only [go_sem, ↓reduceIte, Nat.reduceAdd, Nat.reduceMul, Nat.reduceEqDiff, Nat.reduceSub, Nat.reduceLT, reduceCtorEq, Nat.reduceLeDiff, Nat.reduceBEq, mwp_draw, c1, c2, c5, c6, c7, c8, c9, ↓gd, ↓gl, ↓gf, d1, d2, d3]
            repeat (refine ⟨by first | omega | decide | exact fits64 (by omega) (by omega) | kernel_rfl | (intros; omega), ?_⟩)
            refine callK_is (l6InZ_is _ sd _ (by omega)) ?_
            simp (config := { maxSteps := 10000000, implicitDefEqProofs := false }) only [go_sem, ↓reduceIte, Nat.reduceAdd, Nat.reduceMul, Nat.reduceEqDiff, Nat.reduceSub, Nat.reduceLT, reduceCtorEq, Nat.reduceLeDiff, Nat.reduceBEq, mwp_draw, c1, c2, c5, c6, c7, c8, c9, ↓gd, ↓gl, ↓gf, d1, d2, d3]
            repeat (refine ⟨by first | omega | decide | exact fits64 (by omega) (by omega) | kernel_rfl | (intros; omega), ?_⟩)
            refine callK_is (l6InZ_is _ sd _ (by omega)) ?_
            simp (config := { maxSteps := 10000000, implicitDefEqProofs := false }) only [go_sem, ↓reduceIte, Nat.reduceAdd, Nat.reduceMul, Nat.reduceEqDiff, Nat.reduceSub, Nat.reduceLT, reduceCtorEq, Nat.reduceLeDiff, Nat.reduceBEq, mwp_draw, c1, c2, c5, c6, c7, c8, c9, ↓gd, ↓gl, ↓gf, d1, d2, d3]
            repeat (refine ⟨by first | omega | decide | exact fits64 (by omega) (by omega) | kernel_rfl | (intros; omega), ?_⟩)
            refine kR _ ?_
            clear kN kE kR
            simp (config := { maxSteps := 10000000, implicitDefEqProofs := false }) only [go_sem, ↓reduceIte, Nat.reduceAdd, Nat.reduceMul, Nat.reduceEqDiff, Nat.reduceSub, Nat.reduceLT, reduceCtorEq, Nat.reduceLeDiff, Nat.reduceBEq, mwp_draw]
            have z1 : tL (scn k S T1).1 = tL (chg f2 T1 i) := by rw [hh, tL_set]; exact set_self (tL_get (x := (d, l, false)) (chg_get (f := f2) hx))
            have z2 : tF (scn k S T1).1 = (tF T).set i true := by rw [hh, tF_set, tF_chg (by rw [hf2]; exact r2_t), tF1]
            have z3 : sumL (scn k S T1).1 = sumL (chg f2 T1 i) := by rw [hh]; have := sum_set (y := (d, l, true)) (chg_get (f := f2) hx); simp only at this ⊢; omega
            have z4 : (scn k S T1).2 = true := by rw [hh]
            rw [z1, z2, z3, z4, List.take_of_length_le (by omega)]
            exact ⟨by omega, rfl⟩
        · have d2 : (d.1 ∈ sd) = False := eq_false q2
          by_cases q3 : d.2 ∈ sd
          · have d3 : (d.2 ∈ sd) = True := eq_true q3
            have hr : isR k S (d, l, false) = true := by rw [hS]; simp [isR, q1, q2, q3]
            have hh := scn_hit h0 hx hr
            rw [← hf2] at hh
            simp (config := { maxSteps := 10000000, implicitDefEqProofs := false }) only [go_sem, ↓reduceIte, Nat.reduceAdd, Nat.reduceMul, Nat.reduceEqDiff, Nat.reduceSub, Nat.reduceLT, reduceCtorEq, Nat.reduceLeDiff, Nat.reduceBEq, mwp_draw, c1, c2, c5, c6, c7, c8, c9, ↓gd, ↓gl, ↓gf, d1, d2, d3]
            repeat (refine ⟨by first | omega | decide | exact fits64 (by omega) (by omega) | kernel_rfl | (intros; omega), ?_⟩)
            refine callK_is (l6InZ_is _ sd _ (by omega)) ?_
            simp (config := { maxSteps := 10000000, implicitDefEqProofs := false }) only [go_sem, ↓reduceIte, Nat.reduceAdd, Nat.reduceMul, Nat.reduceEqDiff, Nat.reduceSub, Nat.reduceLT, reduceCtorEq, Nat.reduceLeDiff, Nat.reduceBEq, mwp_draw, c1, c2, c5, c6, c7, c8, c9, ↓gd, ↓gl, ↓gf, d1, d2, d3]
            repeat (refine ⟨by first | omega | decide | exact fits64 (by omega) (by omega) | kernel_rfl | (intros; omega), ?_⟩)
            refine callK_is (l6InZ_is _ sd _ (by omega)) ?_
            simp (config := { maxSteps := 10000000, implicitDefEqProofs := false }) only [go_sem, ↓reduceIte, Nat.reduceAdd, Nat.reduceMul, Nat.reduceEqDiff, Nat.reduceSub, Nat.reduceLT, reduceCtorEq, Nat.reduceLeDiff, Nat.reduceBEq, mwp_draw, c1, c2, c5, c6, c7, c8, c9, ↓gd, ↓gl, ↓gf, d1, d2, d3]
            repeat (refine ⟨by first | omega | decide | exact fits64 (by omega) (by omega) | kernel_rfl | (intros; omega), ?_⟩)
            refine callK_is (l6InZ_is _ sd _ (by omega)) ?_
            simp (config := { maxSteps := 10000000, implicitDefEqProofs := false }) only [go_sem, ↓reduceIte, Nat.reduceAdd, Nat.reduceMul, Nat.reduceEqDiff, Nat.reduceSub, Nat.reduceLT, reduceCtorEq, Nat.reduceLeDiff, Nat.reduceBEq, mwp_draw, c1, c2, c5, c6, c7, c8, c9, ↓gd, ↓gl, ↓gf, d1, d2, d3]
            repeat (refine ⟨by first | omega | decide | exact fits64 (by omega) (by omega) | kernel_rfl | (intros; omega), ?_⟩)
            refine kR _ ?_
            clear kN kE kR
            simp (config := { maxSteps := 10000000, implicitDefEqProofs := false }) only [go_sem, ↓reduceIte, Nat.reduceAdd, Nat.reduceMul, Nat.reduceEqDiff, Nat.reduceSub, Nat.reduceLT, reduceCtorEq, Nat.reduceLeDiff, Nat.reduceBEq, mwp_draw]
            have z1 : tL (scn k S T1).1 = tL (chg f2 T1 i) := by rw [hh, tL_set]; exact set_self (tL_get (x := (d, l, false)) (chg_get (f := f2) hx))
            have z2 : tF (scn k S T1).1 = (tF T).set i true := by rw [hh, tF_set, tF_chg (by rw [hf2]; exact r2_t), tF1]
            have z3 : sumL (scn k S T1).1 = sumL (chg f2 T1 i) := by rw [hh]; have := sum_set (y := (d, l, true)) (chg_get (f := f2) hx); simp only at this ⊢; omega
            have z4 : (scn k S T1).2 = true := by rw [hh]
            rw [z1, z2, z3, z4, List.take_of_length_le (by omega)]
            exact ⟨by omega, rfl⟩
          · have d3 : (d.2 ∈ sd) = False := eq_false q3
            have hs := chg_same (f := f2) hx (by rw [hf2, hS]; simp [r2, r2P, q2, q3])
            have hr : isR k S (d, l, false) = false := by rw [hS]; simp [isR, q2, q3]
            simp (config := { maxSteps := 10000000, implicitDefEqProofs := false }) only [go_sem, ↓reduceIte, Nat.reduceAdd, Nat.reduceMul, Nat.reduceEqDiff, Nat.reduceSub, Nat.reduceLT, reduceCtorEq, Nat.reduceLeDiff, Nat.reduceBEq, mwp_draw, c1, c2, c5, c6, c7, c8, c9, ↓gd, ↓gl, ↓gf, d1, d2, d3]
            repeat (refine ⟨by first | omega | decide | exact fits64 (by omega) (by omega) | kernel_rfl | (intros; omega), ?_⟩)
            refine callK_is (l6InZ_is _ sd _ (by omega)) ?_
            simp (config := { maxSteps := 10000000, implicitDefEqProofs := false }) only [go_sem, ↓reduceIte, Nat.reduceAdd, Nat.reduceMul, Nat.reduceEqDiff, Nat.reduceSub, Nat.reduceLT, reduceCtorEq, Nat.reduceLeDiff, Nat.reduceBEq, mwp_draw, c1, c2, c5, c6, c7, c8, c9, ↓gd, ↓gl, ↓gf, d1, d2, d3]
            repeat (refine ⟨by first | omega | decide | exact fits64 (by omega) (by omega) | kernel_rfl | (intros; omega), ?_⟩)
            refine callK_is (l6InZ_is _ sd _ (by omega)) ?_
            simp (config := { maxSteps := 10000000, implicitDefEqProofs := false }) only [go_sem, ↓reduceIte, Nat.reduceAdd, Nat.reduceMul, Nat.reduceEqDiff, Nat.reduceSub, Nat.reduceLT, reduceCtorEq, Nat.reduceLeDiff, Nat.reduceBEq, mwp_draw, c1, c2, c5, c6, c7, c8, c9, ↓gd, ↓gl, ↓gf, d1, d2, d3]
            repeat (refine ⟨by first | omega | decide | exact fits64 (by omega) (by omega) | kernel_rfl | (intros; omega), ?_⟩)
            exact kN _ (i + 1) (by rw [hs]; kernel_rfl) ⟨by omega, not_next h0 hx hr⟩ (by omega)
      · have d1 : (l = k) = False := eq_false q1
        have hs := chg_same (f := f2) hx (by rw [hf2, hS]; simp [r2, r2P, q1])
        have hr : isR k S (d, l, false) = false := by rw [hS]; simp [isR, q1]
        simp (config := { maxSteps := 10000000, implicitDefEqProofs := false }) only [go_sem, ↓reduceIte, Nat.reduceAdd, Nat.reduceMul, Nat.reduceEqDiff, Nat.reduceSub, Nat.reduceLT, reduceCtorEq, Nat.reduceLeDiff, Nat.reduceBEq, mwp_draw, c1, c2, c5, c6, c7, c8, c9, ↓gd, ↓gl, ↓gf, d1]
        repeat (refine ⟨by first | omega | decide | exact fits64 (by omega) (by omega) | kernel_rfl | (intros; omega), ?_⟩)
        exact kN _ (i + 1) (by rw [hs]; kernel_rfl) ⟨by omega, not_next h0 hx hr⟩ (by omega)
  · obtain rfl : i = T1.length := by omega
    have c7 : ((T1.length : Int) < (tL T).length) = False := eq_false (by omega)
    rw [chg_all]
    simp (config := { maxSteps := 10000000, implicitDefEqProofs := false }) only [go_sem, ↓reduceIte, Nat.reduceAdd, Nat.reduceMul, Nat.reduceEqDiff, Nat.reduceSub, Nat.reduceLT, reduceCtorEq, Nat.reduceLeDiff, Nat.reduceBEq, mwp_draw, c7]
    refine kE _ _ ?_
    clear kN kE kR
    simp (config := { maxSteps := 10000000, implicitDefEqProofs := false }) only [go_sem, ↓reduceIte, Nat.reduceAdd, Nat.reduceMul, Nat.reduceEqDiff, Nat.reduceSub, Nat.reduceLT, reduceCtorEq, Nat.reduceLeDiff, Nat.reduceBEq, mwp_draw]
    have hh : scn k S T1 = (T1.map f2, false) := by rw [hf2]; exact scn_none (by rw [List.take_length] at h0; exact h0)
    have z5 : (tL (T1.map f2)).length = T1.length := by rw [tL_length, List.length_map]
    rw [hh, List.take_of_length_le (by omega)]
    have z6 : tF (T1.map f2) = tF T := by rw [tF_map (by rw [hf2]; exact r2_t), tF1]
    simp only
    rw [z6]
    exact ⟨by omega, rfl⟩
end Go.Fw
