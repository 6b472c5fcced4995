/-
  Graphs with levels: the search for an edge that takes the place of one that was cut (the program's).
-/
import Derived.Test.YtfjekgjhhmkgoaaCtZ2
import Derived.Test.YtfjekgjhhmkgoaaPlL4
namespace Go.Fw
set_option linter.unusedSimpArgs false
set_option linter.unusedVariables false
set_option maxRecDepth 100000
set_option maxHeartbeats 16000000
open Go.Proofs.Try (prog)
open Go.Pl

theorem replace1_is (t : Bool) (x : Int) (l : List Int) (hl : l.length ≤ 1048576) : Is prog fid_p_impl_Leveled_replace_1 [.i .i64 x, .pd t [.a 1 (encI l)] 0] (.i .i64 (l.count x)) := by
  refine MCall.run mixed get_p_impl_Leveled_replace_1 ok_p_impl_Leveled_replace_1 (Nat.le_of_ble_eq_true rfl) (by decide) ?_
  unfold mc_p_impl_Leveled_replace_1
  simp (config := { maxSteps := 10000000, implicitDefEqProofs := false }) only [go_sem, ↓reduceIte, Nat.reduceAdd, Nat.reduceMul, Nat.reduceEqDiff, Nat.reduceSub, Nat.reduceLT, reduceCtorEq, Nat.reduceLeDiff, Nat.reduceBEq, mwp_draw]
  refine mwp_loopk (X := Nat) (fun i => ⟨[(0, .i .i64 x), (4, .i .i64 ((l.take i).count x)), (7, .s t 1 (encI l)), (8, .i .i64 l.length), (9, .i .i64 i)], [], 0⟩) (fun i => i ≤ l.length) (fun i => l.length - i) 0 (by rfl) (Nat.zero_le _) ?_
  rintro i h1 K kN kE kR
  have hc : (l.take i).count x ≤ i := Nat.le_trans List.count_le_length (by simp; omega)
  simp (config := { maxSteps := 10000000, implicitDefEqProofs := false }) only [go_sem, ↓reduceIte, Nat.reduceAdd, Nat.reduceMul, Nat.reduceEqDiff, Nat.reduceSub, Nat.reduceLT, reduceCtorEq, Nat.reduceLeDiff, Nat.reduceBEq, mwp_draw]
  refine ⟨fun c => ⟨by omega, by omega, fun y hy => ?_⟩, fun c => kE _ _ ?_⟩
  · have hn := count_next (v := x) hy
    refine ⟨fun d => ?_, fun d => ?_⟩
    · rw [if_pos d] at hn
      exact ⟨fits64 (by omega) (by omega), fits64 (by omega) (by omega), kN _ (i + 1) (by rw [hn]; rfl) (by omega) (by omega)⟩
    · rw [if_neg d, Int.add_zero] at hn
      exact ⟨fits64 (by omega) (by omega), kN _ (i + 1) (by rw [hn]; rfl) (by omega) (by omega)⟩
  · simp (config := { maxSteps := 10000000, implicitDefEqProofs := false }) only [go_sem, ↓reduceIte, Nat.reduceAdd, Nat.reduceMul, Nat.reduceEqDiff, Nat.reduceSub, Nat.reduceLT, reduceCtorEq, Nat.reduceLeDiff, Nat.reduceBEq, mwp_draw]
    obtain rfl : i = l.length := by omega
    first | done | rfl | simp
/-- Its meaning. -/
def cntF (l : List Int) : List FV → FV
  | [.c (.i _ x)] => .c (.i .i64 (l.count x))
  | _ => default
def cntD (xs : List FV) : Prop := ∃ x : Int, xs = [.c (.i .i64 x)]
theorem caps_i {s : MS} {b j : Nat} {w : Bool} {l : List Int} (h1 : s.obj b = some (.box [.sr j 0 l.length])) (h2 : s.obj j = some (.arr w 1 (encI l))) : mapO (closeM s false) [.pr b 0 0] = some [.pd false [.a 1 (encI l)] 0] := by
  have e : (encI l).take l.length = encI l := List.take_of_length_le (by rw [encI_length]; exact Nat.le_refl _)
  simp [mapO, closeM, closeC, closeD, h1, h2, encI_length, e]
theorem fnOk_cnt {s : MS} {b j : Nat} {w : Bool} {l : List Int} (hl : l.length ≤ 1048576) (h1 : s.obj b = some (.box [.sr j 0 l.length])) (h2 : s.obj j = some (.arr w 1 (encI l))) : FnOk prog s fid_p_impl_Leveled_replace_1 [] [.pr b 0 0] cntD (cntF l) := by
  unfold FnOk
  rw [caps_i h1 h2]
  refine ⟨⟨_, get_p_impl_Leveled_replace_1, by kernel_rfl, by kernel_rfl⟩, fun xs hf hx => ?_⟩
  obtain ⟨x, rfl⟩ := hx
  refine (replace1_is false x l hl).mono fun o r hr => ?_
  rw [hr.2]
  exact ⟨rfl, rfl⟩
/-- The list of a level, from three lists and from one. -/
theorem lvL_up (T : List Lv1) (k : Int) (b : Bool) : ∀ i : Nat, i ≤ T.length → lvL (tE T) (tL T) (tF T) k b i = up (T.take i) k b
  | 0, _ => by simp [lvL, up]
  | i + 1, hi => by
    obtain ⟨x, hx⟩ : ∃ x, T[i]? = some x := ⟨T[i], List.getElem?_eq_getElem (by omega)⟩
    have ih := lvL_up T k b i (by omega)
    rw [lvL, ih, take_snoc hx, up_app, tE_get hx]
    have e : lvT (tL T) (tF T) k b i = upP k b x := by unfold lvT upP; rw [tL_get hx, tF_get hx]; rfl
    rw [e]
    unfold up
    cases q : upP k b x <;> simp [q, List.filter_cons]
theorem upL_up (T : List Lv1) (k : Int) (b : Bool) : upL (tE T) (tL T) (tF T) k b = up T k b := by
  have := lvL_up T k b T.length (Nat.le_refl _)
  rw [List.take_length] at this
  rw [← this]; unfold upL; rw [tE_length]
theorem tF_chg {f : Lv1 → Lv1} (h : ∀ x, (f x).2.2 = x.2.2) {T : List Lv1} {i : Nat} : tF (chg f T i) = tF T := by
  have e : ∀ A : List Lv1, (A.map f).map (·.2.2) = A.map (·.2.2) := fun A => by rw [List.map_map]; exact List.map_congr_left fun x _ => h x
  unfold tF chg
  rw [List.map_append, e, ← List.map_append, List.take_append_drop]
theorem tE_map {f : Lv1 → Lv1} (h : ∀ x, (f x).1 = x.1) {T : List Lv1} : tE (T.map f) = tE T := by
  unfold tE; rw [List.map_map]; exact List.map_congr_left fun x _ => h x
theorem tF_map {f : Lv1 → Lv1} (h : ∀ x, (f x).2.2 = x.2.2) {T : List Lv1} : tF (T.map f) = tF T := by
  unfold tF; rw [List.map_map]; exact List.map_congr_left fun x _ => h x
theorem r1_t {k : Int} {S : Int → Bool} (x : Lv1) : (r1 k S x).2.2 = x.2.2 := by unfold r1; split <;> rfl
theorem r2_t {k : Int} {S : Int → Bool} (x : Lv1) : (r2 k S x).2.2 = x.2.2 := by unfold r2; split <;> rfl
theorem r1_e {k : Int} {S : Int → Bool} (x : Lv1) : (r1 k S x).1 = x.1 := by unfold r1; split <;> rfl
theorem r2_e {k : Int} {S : Int → Bool} (x : Lv1) : (r2 k S x).1 = x.1 := by unfold r2; split <;> rfl
theorem chg_sum2 {k : Int} {S : Int → Bool} {T : List Lv1} {i : Nat} (hi : i ≤ T.length) : 0 ≤ sumL (chg (r2 k S) T i) - sumL T ∧ sumL (chg (r2 k S) T i) - sumL T ≤ i := by
  have a : 0 ≤ sumL ((T.take i).map (r2 k S)) - sumL (T.take i) ∧ sumL ((T.take i).map (r2 k S)) - sumL (T.take i) ≤ (T.take i).length := by
    generalize T.take i = A
    induction A with
    | nil => simp [sumL]
    | cons x A ih =>
      have := r2_lev (k := k) (S := S) (x := x)
      simp only [List.map_cons, sumL, List.length_cons]; omega
  have b : sumL T = sumL (T.take i) + sumL (T.drop i) := by rw [← sumL_app, List.take_append_drop]
  unfold chg
  rw [sumL_app]
  simp only [List.length_take] at a
  omega
theorem set_self {l : List Int} {i : Nat} {x : Int} (h : l[i]? = some x) : l.set i x = l := by
  obtain ⟨hi, e⟩ := List.getElem?_eq_some_iff.1 h
  conv => lhs; arg 3; rw [← e]
  exact List.set_getElem_self hi

theorem replace_is (t1 t2 t3 : Bool) (n : Int) (T : List Lv1) (e : E) (k : Int) (hg : GE n (tE T)) (he : EIn n e) (hl : T.length ≤ 40) (hk : 0 ≤ k ∧ k ≤ 4) (hlv : ∀ x ∈ T, 0 ≤ x.2.1 ∧ x.2.1 ≤ 1000) :
    MCall prog fid_p_impl_Leveled_replace [.pw [.i .i64 n, .ow t1 2 (encE (tE T)), .ow t2 1 (encI (tL T)), .ow t3 1 (encT (tF T))], Ed1 e, .i .i64 k]
      (fun o r => o = [.pw [.i .i64 n, .ow true 2 (encE (tE T)), .ow true 1 (encI (tL (repl n e k T).1)), .ow true 1 (encT (tF (repl n e k T).1))], .u, .u] ∧
        r = .tup [.i .i64 (sumL (repl n e k T).1 - sumL T), .b (repl n e k T).2]) := by
  have h1 := tE_length (T := T)
  have h2 := tL_length (T := T)
  have h3 := tF_length (T := T)
  refine MCall.run mixed get_p_impl_Leveled_replace ok_p_impl_Leveled_replace (Nat.le_of_ble_eq_true rfl) (by decide) ?_
  unfold mc_p_impl_Leveled_replace
  simp (config := { maxSteps := 10000000, implicitDefEqProofs := false }) only [go_sem, ↓reduceIte, Nat.reduceAdd, Nat.reduceMul, Nat.reduceEqDiff, Nat.reduceSub, Nat.reduceLT, reduceCtorEq, Nat.reduceLeDiff, Nat.reduceBEq, mwp_draw]
  refine callK_is (above_is _ _ _ n (tE T) (tL T) (tF T) k true (by omega) (by omega) (by omega)) ?_
  simp (config := { maxSteps := 10000000, implicitDefEqProofs := false }) only [go_sem, ↓reduceIte, Nat.reduceAdd, Nat.reduceMul, Nat.reduceEqDiff, Nat.reduceSub, Nat.reduceLT, reduceCtorEq, Nat.reduceLeDiff, Nat.reduceBEq, mwp_draw]
  refine callK_is (parts_is _ n (upL (tE T) (tL T) (tF T) k true) (upL_ge hg)) ?_
  have pl := labL_length n (upL (tE T) (tL T) (tF T) k true)
  have he' := he
  unfold EIn at he'
  have hA : (labL n (upL (tE T) (tL T) (tF T) k true))[e.1.toNat]? = some (nth (labL n (upL (tE T) (tL T) (tF T) k true)) e.1) := labL_get (by omega)
  have hB : (labL n (upL (tE T) (tL T) (tF T) k true))[e.2.toNat]? = some (nth (labL n (upL (tE T) (tL T) (tF T) k true)) e.2) := labL_get (by omega)
  have hU := upL_up T k true
  obtain ⟨P, hP⟩ : ∃ P, labL n (upL (tE T) (tL T) (tF T) k true) = P := ⟨_, rfl⟩
  have hR : ∀ c, sidC n (up T k true) e = c → repl n e k T = scn k (fun x => decide (nth P x = c)) (T.map (r1 k (fun x => decide (nth P x = c)))) := fun c hc => by
    have : sidP n (up T k true) e = fun x => decide (nth P x = c) := by funext x; unfold sidP; rw [hc, ← hU, hP]
    unfold repl; rw [this]
  rw [hP] at pl hA hB ⊢
  have hn16 := hg.2.1
  have gA := goneT hA
  have gB := goneT hB
  have a1 : (0 ≤ e.1) = True := eq_true (by omega)
  have a2 : (e.1 < P.length) = True := eq_true (by omega)
  have a3 : (e.1.toNat < P.length) = True := eq_true (by omega)
  have b1 : (0 ≤ e.2) = True := eq_true (by omega)
  have b2 : (e.2 < P.length) = True := eq_true (by omega)
  have b3 : (e.2.toNat < P.length) = True := eq_true (by omega)
  simp (config := { maxSteps := 10000000, implicitDefEqProofs := false }) only [go_sem, ↓reduceIte, Nat.reduceAdd, Nat.reduceMul, Nat.reduceEqDiff, Nat.reduceSub, Nat.reduceLT, reduceCtorEq, Nat.reduceLeDiff, Nat.reduceBEq, mwp_draw, a1, a2, a3, b1, b2, b3, ↓gA, ↓gB]
  refine mwp_cut (X := Int) (fun c => ⟨[(0, .pr 0 0 0), (2, .i .i64 k), (8, .pr 1 0 0), (10, .i .i64 c), (11, .i .i64 0)],
          [(0, .box [.i .i64 n, .sr 2 0 (tE T).length, .sr 3 0 (tL T).length, .sr 4 0 (tF T).length]), (1, .box [.sr 5 0 P.length]), (2, .arr t1 2 (encE (tE T))), (3, .arr t2 1 (encI (tL T))), (4, .arr t3 1 (encT (tF T))), (5, .arr true 1 (encI P))], 6⟩)
        (fun c => sidC n (up T k true) e = c) ?_ ?_
  · simp (config := { maxSteps := 10000000, implicitDefEqProofs := false }) only [go_sem, ↓reduceIte, Nat.reduceAdd, Nat.reduceMul, Nat.reduceEqDiff, Nat.reduceSub, Nat.reduceLT, reduceCtorEq, Nat.reduceLeDiff, Nat.reduceBEq, mwp_draw, a1, a2, a3, b1, b2, b3, ↓gA, ↓gB]
    refine ⟨cntD, cntF P, fnOk_cnt (by omega) rfl rfl, ⟨_, rfl⟩, ?_⟩
    simp (config := { maxSteps := 10000000, implicitDefEqProofs := false }) only [go_sem, ↓reduceIte, Nat.reduceAdd, Nat.reduceMul, Nat.reduceEqDiff, Nat.reduceSub, Nat.reduceLT, reduceCtorEq, Nat.reduceLeDiff, Nat.reduceBEq, mwp_draw, a1, a2, a3, b1, b2, b3, ↓gA, ↓gB]
    refine ⟨cntD, cntF P, fnOk_cnt (by omega) rfl rfl, ⟨_, rfl⟩, ?_⟩
    simp only [cntF]
    simp (config := { maxSteps := 10000000, implicitDefEqProofs := false }) only [go_sem, ↓reduceIte, Nat.reduceAdd, Nat.reduceMul, Nat.reduceEqDiff, Nat.reduceSub, Nat.reduceLT, reduceCtorEq, Nat.reduceLeDiff, Nat.reduceBEq, mwp_draw, a1, a2, a3, b1, b2, b3, ↓gA, ↓gB]
    refine ⟨by kernel_rfl, fun hlt => ?_, fun hlt => ?_⟩
    · exact ⟨nth P e.2, by rfl, by unfold sidC; rw [← hU, hP, if_pos (by omega)]⟩
    · exact ⟨nth P e.1, by rfl, by unfold sidC; rw [← hU, hP, if_neg (by omega)]⟩
  intro c hc
  have hR := hR c hc
  clear hc hU hA hB gA gB a1 a2 a3 b1 b2 b3
  obtain ⟨S, hS⟩ : ∃ S : Int → Bool, S = fun x => decide (nth P x = c) := ⟨_, rfl⟩
  rw [← hS] at hR
  obtain ⟨f1, hf1⟩ : ∃ f1, f1 = r1 k S := ⟨_, rfl⟩
  obtain ⟨f2, hf2⟩ : ∃ f2, f2 = r2 k S := ⟨_, rfl⟩
  rw [← hf1] at hR
  rw [hR]
  refine mwp_cut (X := Unit) (fun _ => ⟨[(0, .pr 0 0 0), (2, .i .i64 k), (8, .pr 1 0 0), (10, .i .i64 c), (11, .i .i64 (sumL (T.map f1) - sumL T))],
          [(0, .box [.i .i64 n, .sr 2 0 (tE T).length, .sr 3 0 (tL T).length, .sr 4 0 (tF T).length]), (1, .box [.sr 5 0 P.length]), (2, .arr t1 2 (encE (tE T))), (3, .arr t2 1 (encI (tL (T.map f1)))), (4, .arr t3 1 (encT (tF T))), (5, .arr true 1 (encI P))], 6⟩)
        (fun _ => True) ?_ ?_
  · simp (config := { maxSteps := 10000000, implicitDefEqProofs := false }) only [go_sem, ↓reduceIte, Nat.reduceAdd, Nat.reduceMul, Nat.reduceEqDiff, Nat.reduceSub, Nat.reduceLT, reduceCtorEq, Nat.reduceLeDiff, Nat.reduceBEq, mwp_draw]
    refine mwp_loopk (X := Nat) (fun i => ⟨[(0, .pr 0 0 0), (2, .i .i64 k), (8, .pr 1 0 0), (10, .i .i64 c), (11, .i .i64 (sumL (chg f1 T i) - sumL T)), (54, .sr 2 0 (tE T).length), (55, .i .i64 (tE T).length), (56, .i .i64 i)],
          [(0, .box [.i .i64 n, .sr 2 0 (tE T).length, .sr 3 0 (tL T).length, .sr 4 0 (tF T).length]), (1, .box [.sr 5 0 P.length]), (2, .arr t1 2 (encE (tE T))), (3, .arr t2 1 (encI (tL (chg f1 T i)))), (4, .arr t3 1 (encT (tF T))), (5, .arr true 1 (encI P))], 6⟩)
        (fun i => i ≤ T.length) (fun i => T.length - i) 0 (by rw [chg_zero, Int.sub_self]; rfl) (Nat.zero_le _) ?_
    rintro i h1 K kN kE kR
    by_cases hi : i < T.length
    · obtain ⟨d, l, f, hx⟩ : ∃ d l f, T[i]? = some (d, l, f) := ⟨_, _, _, List.getElem?_eq_getElem hi⟩
      have gd := goneT (tE_get hx)
      have gl := goneT (tL_get (chg_get (f := f1) hx))
      have gf := goneT (tF_get hx)
      have hlv' := hlv _ (List.mem_of_getElem? hx)
      have hd : EIn n d := hg.2.2.2 d (List.mem_of_getElem? (tE_get hx))
      unfold EIn at hd
      have gPa := goneT (show P[d.1.toNat]? = some (nth P d.1) from nth_some ⟨by omega, by omega⟩)
      have gPb := goneT (show P[d.2.toNat]? = some (nth P d.2) from nth_some ⟨by omega, by omega⟩)
      have hq := chg_sum (k := k) (S := S) h1
      rw [← hf1] at hq
      have hlc := chg_length (f := f1) (T := T) (i := i)
      have hlc2 := tL_length (T := chg f1 T i)
      have c1 : ((i : Int) < (tE T).length) = True := eq_true (by omega)
      have c2 : (i < (tE T).length) = True := eq_true (by omega)
      have c5 : ((i : Int) < (tF T).length) = True := eq_true (by omega)
      have c6 : (i < (tF T).length) = True := eq_true (by omega)
      have c7 : ((i : Int) < (tL T).length) = True := eq_true (by omega)
      have c8 : (i < (tL T).length) = True := eq_true (by omega)
      have c9 : (i < (tL (chg f1 T i)).length) = True := eq_true (by omega)
      have p1 : (0 ≤ d.1) = True := eq_true (by omega)
      have p2 : (d.1 < P.length) = True := eq_true (by omega)
      have p3 : (d.1.toNat < P.length) = True := eq_true (by omega)
      have p4 : (0 ≤ d.2) = True := eq_true (by omega)
      have p5 : (d.2 < P.length) = True := eq_true (by omega)
      have p6 : (d.2.toNat < P.length) = True := eq_true (by omega)
      cases f with
      | false =>
        have hs := chg_same (f := f1) hx (by rw [hf1]; rfl)
        simp (config := { maxSteps := 10000000, implicitDefEqProofs := false }) only [go_sem, ↓reduceIte, Nat.reduceAdd, Nat.reduceMul, Nat.reduceEqDiff, Nat.reduceSub, Nat.reduceLT, reduceCtorEq, Nat.reduceLeDiff, Nat.reduceBEq, mwp_draw, c1, c2, c5, c6, c7, c8, c9, p1, p2, p3, p4, p5, p6, ↓gd, ↓gl, ↓gf, ↓gPa, ↓gPb]
        repeat (refine ⟨by first | omega | decide | exact fits64 (by omega) (by omega) | kernel_rfl | (intros; omega), ?_⟩)
        exact kN _ (i + 1) (by rw [hs]; kernel_rfl) (by omega) (by omega)
      | true =>
        by_cases q1 : l = k
        · have d1 : (l = k) = True := eq_true q1
          by_cases q2 : nth P d.1 = c
          · have d2 : (nth P d.1 = c) = True := eq_true q2
            by_cases q3 : nth P d.2 = c
            · have e1 : f1 (d, l, true) = (d, l + 1, true) := by rw [hf1, hS]; simp [r1, r1P, q1, q2, q3]
              have hs := chg_next (f := f1) hx
              rw [e1] at hs
              have hv := sum_set (y := (d, l + 1, true)) (chg_get (f := f1) hx)
              rw [← hs] at hv
              have hw : sumL (chg f1 T (i + 1)) - sumL T = sumL (chg f1 T i) - sumL T + 1 := by simp only at hv; omega
              have hL : tL (chg f1 T (i + 1)) = (tL (chg f1 T i)).set i (l + 1) := by rw [hs, tL_set]
              have d3 : (nth P d.2 = c) = True := eq_true q3
              simp (config := { maxSteps := 10000000, implicitDefEqProofs := false }) only [go_sem, ↓reduceIte, Nat.reduceAdd, Nat.reduceMul, Nat.reduceEqDiff, Nat.reduceSub, Nat.reduceLT, reduceCtorEq, Nat.reduceLeDiff, Nat.reduceBEq, mwp_draw, c1, c2, c5, c6, c7, c8, c9, p1, p2, p3, p4, p5, p6, ↓gd, ↓gl, ↓gf, ↓gPa, ↓gPb, d1, d2, d3]
              repeat (refine ⟨by first | omega | decide | exact fits64 (by omega) (by omega) | kernel_rfl | (intros; omega), ?_⟩)
              exact kN _ (i + 1) (by rw [hw, hL]; kernel_rfl) (by omega) (by omega)
            · have hs := chg_same (f := f1) hx (by rw [hf1, hS]; simp [r1, r1P, q3])
              have d3 : (nth P d.2 = c) = False := eq_false q3
              simp (config := { maxSteps := 10000000, implicitDefEqProofs := false }) only [go_sem, ↓reduceIte, Nat.reduceAdd, Nat.reduceMul, Nat.reduceEqDiff, Nat.reduceSub, Nat.reduceLT, reduceCtorEq, Nat.reduceLeDiff, Nat.reduceBEq, mwp_draw, c1, c2, c5, c6, c7, c8, c9, p1, p2, p3, p4, p5, p6, ↓gd, ↓gl, ↓gf, ↓gPa, ↓gPb, d1, d2, d3]
              repeat (refine ⟨by first | omega | decide | exact fits64 (by omega) (by omega) | kernel_rfl | (intros; omega), ?_⟩)
              exact kN _ (i + 1) (by rw [hs]; kernel_rfl) (by omega) (by omega)
          · have hs := chg_same (f := f1) hx (by rw [hf1, hS]; simp [r1, r1P, q2])
            have d2 : (nth P d.1 = c) = False := eq_false q2
            simp (config := { maxSteps := 10000000, implicitDefEqProofs := false }) only [go_sem, ↓reduceIte, Nat.reduceAdd, Nat.reduceMul, Nat.reduceEqDiff, Nat.reduceSub, Nat.reduceLT, reduceCtorEq, Nat.reduceLeDiff, Nat.reduceBEq, mwp_draw, c1, c2, c5, c6, c7, c8, c9, p1, p2, p3, p4, p5, p6, ↓gd, ↓gl, ↓gf, ↓gPa, ↓gPb, d1, d2]
            repeat (refine ⟨by first | omega | decide | exact fits64 (by omega) (by omega) | kernel_rfl | (intros; omega), ?_⟩)
            exact kN _ (i + 1) (by rw [hs]; kernel_rfl) (by omega) (by omega)
        · have hs := chg_same (f := f1) hx (by rw [hf1]; simp [r1, r1P, q1])
          have d1 : (l = k) = False := eq_false q1
          simp (config := { maxSteps := 10000000, implicitDefEqProofs := false }) only [go_sem, ↓reduceIte, Nat.reduceAdd, Nat.reduceMul, Nat.reduceEqDiff, Nat.reduceSub, Nat.reduceLT, reduceCtorEq, Nat.reduceLeDiff, Nat.reduceBEq, mwp_draw, c1, c2, c5, c6, c7, c8, c9, p1, p2, p3, p4, p5, p6, ↓gd, ↓gl, ↓gf, ↓gPa, ↓gPb, d1]
          repeat (refine ⟨by first | omega | decide | exact fits64 (by omega) (by omega) | kernel_rfl | (intros; omega), ?_⟩)
          exact kN _ (i + 1) (by rw [hs]; kernel_rfl) (by omega) (by omega)
    · obtain rfl : i = T.length := by omega
      have c1 : ((T.length : Int) < (tE T).length) = False := eq_false (by omega)
      rw [chg_all]
      simp (config := { maxSteps := 10000000, implicitDefEqProofs := false }) only [go_sem, ↓reduceIte, Nat.reduceAdd, Nat.reduceMul, Nat.reduceEqDiff, Nat.reduceSub, Nat.reduceLT, reduceCtorEq, Nat.reduceLeDiff, Nat.reduceBEq, mwp_draw, c1]
      refine kE _ _ ?_
      clear kN kE kR
      simp (config := { maxSteps := 10000000, implicitDefEqProofs := false }) only [go_sem, ↓reduceIte, Nat.reduceAdd, Nat.reduceMul, Nat.reduceEqDiff, Nat.reduceSub, Nat.reduceLT, reduceCtorEq, Nat.reduceLeDiff, Nat.reduceBEq, mwp_draw]
      exact ⟨(), trivial⟩
  rintro ⟨⟩ -
  obtain ⟨T1, hT1⟩ : ∃ T1, T1 = T.map f1 := ⟨_, rfl⟩
  have tE1 : tE T1 = tE T := by rw [hT1, hf1]; exact tE_map r1_e
  have tF1 : tF T1 = tF T := by rw [hT1, hf1]; exact tF_map r1_t
  have len1 : T1.length = T.length := by rw [hT1, List.length_map]
  have lv1 : ∀ x ∈ T1, 0 ≤ x.2.1 ∧ x.2.1 ≤ 1001 := fun x hx => by
    rw [hT1] at hx
    obtain ⟨y, hy, rfl⟩ := List.mem_map.1 hx
    have a := hlv y hy
    have b := r1_lev (k := k) (S := S) (x := y)
    rw [← hf1] at b
    omega
  have sum1 : 0 ≤ sumL T1 - sumL T ∧ sumL T1 - sumL T ≤ 40 := by
    have := map_r1_sum (k := k) (S := S) (T := T)
    rw [← hf1, ← hT1] at this; omega
  rw [← hT1]
  simp (config := { maxSteps := 10000000, implicitDefEqProofs := false }) only [go_sem, ↓reduceIte, Nat.reduceAdd, Nat.reduceMul, Nat.reduceEqDiff, Nat.reduceSub, Nat.reduceLT, reduceCtorEq, Nat.reduceLeDiff, Nat.reduceBEq, mwp_draw]
  refine mwp_loopk (X := Nat) (fun j => ⟨[(0, .pr 0 0 0), (2, .i .i64 k), (8, .pr 1 0 0), (10, .i .i64 c), (11, .i .i64 (sumL (chg f2 T1 j) - sumL T)), (113, .sr 2 0 (tE T).length), (114, .i .i64 (tE T).length), (115, .i .i64 j)],
          [(0, .box [.i .i64 n, .sr 2 0 (tE T).length, .sr 3 0 (tL T).length, .sr 4 0 (tF T).length]), (1, .box [.sr 5 0 P.length]), (2, .arr t1 2 (encE (tE T))), (3, .arr t2 1 (encI (tL (chg f2 T1 j)))), (4, .arr t3 1 (encT (tF T))), (5, .arr true 1 (encI P))], 6⟩)
        (fun j => j ≤ T1.length ∧ ∀ y ∈ T1.take j, isR k S y = false) (fun j => T1.length - j) 0 (by rw [chg_zero]; kernel_rfl) ⟨Nat.zero_le _, by simp⟩ ?_
  rintro i ⟨h1, h0⟩ K kN kE kR
  by_cases hi : i < T1.length
  · obtain ⟨d, l, f, hx⟩ : ∃ d l f, T1[i]? = some (d, l, f) := ⟨_, _, _, List.getElem?_eq_getElem hi⟩
    have gd := goneT (show (tE T)[i]? = some d by rw [← tE1]; exact tE_get hx)
    have gl := goneT (show (tL (chg f2 T1 i))[i]? = some l from tL_get (chg_get (f := f2) hx))
    have gf := goneT (show (tF T)[i]? = some f by rw [← tF1]; exact tF_get hx)
    have hlv' := lv1 _ (List.mem_of_getElem? hx)
    have hd : EIn n d := hg.2.2.2 d (by rw [← tE1]; exact List.mem_of_getElem? (tE_get hx))
    unfold EIn at hd
    have gPa := goneT (show P[d.1.toNat]? = some (nth P d.1) from nth_some ⟨by omega, by omega⟩)
    have gPb := goneT (show P[d.2.toNat]? = some (nth P d.2) from nth_some ⟨by omega, by omega⟩)
    have hq := chg_sum2 (k := k) (S := S) h1
    rw [← hf2] at hq
    have hlc := chg_length (f := f2) (T := T1) (i := i)
    have hlc2 := tL_length (T := chg f2 T1 i)
    have c1 : ((i : Int) < (tE T).length) = True := eq_true (by omega)
    have c2 : (i < (tE T).length) = True := eq_true (by omega)
    have c5 : ((i : Int) < (tF T).length) = True := eq_true (by omega)
    have c6 : (i < (tF T).length) = True := eq_true (by omega)
    have c7 : ((i : Int) < (tL T).length) = True := eq_true (by omega)
    have c8 : (i < (tL T).length) = True := eq_true (by omega)
    have c9 : (i < (tL (chg f2 T1 i)).length) = True := eq_true (by omega)
    have p1 : (0 ≤ d.1) = True := eq_true (by omega)
    have p2 : (d.1 < P.length) = True := eq_true (by omega)
    have p3 : (d.1.toNat < P.length) = True := eq_true (by omega)
    have p4 : (0 ≤ d.2) = True := eq_true (by omega)
    have p5 : (d.2 < P.length) = True := eq_true (by omega)
    have p6 : (d.2.toNat < P.length) = True := eq_true (by omega)
    by_cases q2 : nth P d.1 = c
    · have d2 : (nth P d.1 = c) = True := eq_true q2
      by_cases q3 : nth P d.2 = c
      · have d3 : (nth P d.2 = c) = True := eq_true q3
        cases f with
        | true =>
          have hs := chg_same (f := f2) hx (by rw [hf2, hS]; simp [r2, r2P])
          have hr : isR k S (d, l, true) = false := by rw [hS]; simp [isR]
          simp (config := { maxSteps := 10000000, implicitDefEqProofs := false }) only [go_sem, ↓reduceIte, Nat.reduceAdd, Nat.reduceMul, Nat.reduceEqDiff, Nat.reduceSub, Nat.reduceLT, reduceCtorEq, Nat.reduceLeDiff, Nat.reduceBEq, mwp_draw, c1, c2, c5, c6, c7, c8, c9, p1, p2, p3, p4, p5, p6, ↓gd, ↓gl, ↓gf, ↓gPa, ↓gPb, d2, d3]
          repeat (refine ⟨by first | omega | decide | exact fits64 (by omega) (by omega) | kernel_rfl | (intros; omega), ?_⟩)
          exact kN _ (i + 1) (by rw [hs]; kernel_rfl) ⟨by omega, not_next h0 hx hr⟩ (by omega)
        | false =>
          by_cases q1 : l = k
          · have d1 : (l = k) = True := eq_true q1
            have e1 : f2 (d, l, false) = (d, l + 1, false) := by rw [hf2, hS]; simp [r2, r2P, q1, q2, q3]
            have hs := chg_next (f := f2) hx
            rw [e1] at hs
            have hv := sum_set (y := (d, l + 1, false)) (chg_get (f := f2) hx)
            rw [← hs] at hv
            have hw : sumL (chg f2 T1 (i + 1)) - sumL T = sumL (chg f2 T1 i) - sumL T + 1 := by simp only at hv; omega
            have hL : tL (chg f2 T1 (i + 1)) = (tL (chg f2 T1 i)).set i (l + 1) := by rw [hs, tL_set]
            have hr : isR k S (d, l, false) = false := by rw [hS]; simp [isR, q2, q3]
            simp (config := { maxSteps := 10000000, implicitDefEqProofs := false }) only [go_sem, ↓reduceIte, Nat.reduceAdd, Nat.reduceMul, Nat.reduceEqDiff, Nat.reduceSub, Nat.reduceLT, reduceCtorEq, Nat.reduceLeDiff, Nat.reduceBEq, mwp_draw, c1, c2, c5, c6, c7, c8, c9, p1, p2, p3, p4, p5, p6, ↓gd, ↓gl, ↓gf, ↓gPa, ↓gPb, d1, d2, d3]
            repeat (refine ⟨by first | omega | decide | exact fits64 (by omega) (by omega) | kernel_rfl | (intros; omega), ?_⟩)
            exact kN _ (i + 1) (by rw [hw, hL]; kernel_rfl) ⟨by omega, not_next h0 hx hr⟩ (by omega)
          · have d1 : (l = k) = False := eq_false q1
            have hs := chg_same (f := f2) hx (by rw [hf2, hS]; simp [r2, r2P, q1])
            have hr : isR k S (d, l, false) = false := by rw [hS]; simp [isR, q1]
            simp (config := { maxSteps := 10000000, implicitDefEqProofs := false }) only [go_sem, ↓reduceIte, Nat.reduceAdd, Nat.reduceMul, Nat.reduceEqDiff, Nat.reduceSub, Nat.reduceLT, reduceCtorEq, Nat.reduceLeDiff, Nat.reduceBEq, mwp_draw, c1, c2, c5, c6, c7, c8, c9, p1, p2, p3, p4, p5, p6, ↓gd, ↓gl, ↓gf, ↓gPa, ↓gPb, d1, d2, d3]
            repeat (refine ⟨by first | omega | decide | exact fits64 (by omega) (by omega) | kernel_rfl | (intros; omega), ?_⟩)
            exact kN _ (i + 1) (by rw [hs]; kernel_rfl) ⟨by omega, not_next h0 hx hr⟩ (by omega)
      · have d3 : (nth P d.2 = c) = False := eq_false q3
        cases f with
        | true =>
          have hs := chg_same (f := f2) hx (by rw [hf2, hS]; simp [r2, r2P])
          have hr : isR k S (d, l, true) = false := by rw [hS]; simp [isR]
          simp (config := { maxSteps := 10000000, implicitDefEqProofs := false }) only [go_sem, ↓reduceIte, Nat.reduceAdd, Nat.reduceMul, Nat.reduceEqDiff, Nat.reduceSub, Nat.reduceLT, reduceCtorEq, Nat.reduceLeDiff, Nat.reduceBEq, mwp_draw, c1, c2, c5, c6, c7, c8, c9, p1, p2, p3, p4, p5, p6, ↓gd, ↓gl, ↓gf, ↓gPa, ↓gPb, d2, d3]
          repeat (refine ⟨by first | omega | decide | exact fits64 (by omega) (by omega) | kernel_rfl | (intros; omega), ?_⟩)
          exact kN _ (i + 1) (by rw [hs]; kernel_rfl) ⟨by omega, not_next h0 hx hr⟩ (by omega)
        | false =>
          by_cases q1 : l = k
          · have d1 : (l = k) = True := eq_true q1
            have hr : isR k S (d, l, false) = true := by rw [hS]; simp [isR, q1, q2, q3]
            have hh := scn_hit h0 hx hr
            rw [← hf2] at hh
            simp (config := { maxSteps := 10000000, implicitDefEqProofs := false }) only [go_sem, ↓reduceIte, Nat.reduceAdd, Nat.reduceMul, Nat.reduceEqDiff, Nat.reduceSub, Nat.reduceLT, reduceCtorEq, Nat.reduceLeDiff, Nat.reduceBEq, mwp_draw, beq_true, beq_false, c1, c2, c5, c6, c7, c8, c9, p1, p2, p3, p4, p5, p6, ↓gd, ↓gl, ↓gf, ↓gPa, ↓gPb, d1, d2, d3]
            repeat (refine ⟨by first | omega | decide | exact fits64 (by omega) (by omega) | kernel_rfl | (intros; omega), ?_⟩)
            refine kR _ ?_
            clear kN kE kR
            simp (config := { maxSteps := 10000000, implicitDefEqProofs := false }) only [go_sem, ↓reduceIte, Nat.reduceAdd, Nat.reduceMul, Nat.reduceEqDiff, Nat.reduceSub, Nat.reduceLT, reduceCtorEq, Nat.reduceLeDiff, Nat.reduceBEq, mwp_draw]
            have z1 : tL (scn k S T1).1 = tL (chg f2 T1 i) := by rw [hh, tL_set]; exact set_self (tL_get (x := (d, l, false)) (chg_get (f := f2) hx))
            have z2 : tF (scn k S T1).1 = (tF T).set i true := by rw [hh, tF_set, tF_chg (by rw [hf2]; exact r2_t), tF1]
            have z3 : sumL (scn k S T1).1 = sumL (chg f2 T1 i) := by rw [hh]; have := sum_set (y := (d, l, true)) (chg_get (f := f2) hx); simp only at this ⊢; omega
            have z4 : (scn k S T1).2 = true := by rw [hh]
            rw [z1, z2, z3, z4, List.take_of_length_le (by omega)]
            exact ⟨by omega, rfl, rfl⟩
          · have d1 : (l = k) = False := eq_false q1
            have hs := chg_same (f := f2) hx (by rw [hf2, hS]; simp [r2, r2P, q1])
            have hr : isR k S (d, l, false) = false := by rw [hS]; simp [isR, q1]
            simp (config := { maxSteps := 10000000, implicitDefEqProofs := false }) only [go_sem, ↓reduceIte, Nat.reduceAdd, Nat.reduceMul, Nat.reduceEqDiff, Nat.reduceSub, Nat.reduceLT, reduceCtorEq, Nat.reduceLeDiff, Nat.reduceBEq, mwp_draw, c1, c2, c5, c6, c7, c8, c9, p1, p2, p3, p4, p5, p6, ↓gd, ↓gl, ↓gf, ↓gPa, ↓gPb, d1, d2, d3]
            repeat (refine ⟨by first | omega | decide | exact fits64 (by omega) (by omega) | kernel_rfl | (intros; omega), ?_⟩)
            exact kN _ (i + 1) (by rw [hs]; kernel_rfl) ⟨by omega, not_next h0 hx hr⟩ (by omega)
    · have d2 : (nth P d.1 = c) = False := eq_false q2
      by_cases q3 : nth P d.2 = c
      · have d3 : (nth P d.2 = c) = True := eq_true q3
        cases f with
        | true =>
          have hs := chg_same (f := f2) hx (by rw [hf2, hS]; simp [r2, r2P])
          have hr : isR k S (d, l, true) = false := by rw [hS]; simp [isR]
          simp (config := { maxSteps := 10000000, implicitDefEqProofs := false }) only [go_sem, ↓reduceIte, Nat.reduceAdd, Nat.reduceMul, Nat.reduceEqDiff, Nat.reduceSub, Nat.reduceLT, reduceCtorEq, Nat.reduceLeDiff, Nat.reduceBEq, mwp_draw, c1, c2, c5, c6, c7, c8, c9, p1, p2, p3, p4, p5, p6, ↓gd, ↓gl, ↓gf, ↓gPa, ↓gPb, d2, d3]
          repeat (refine ⟨by first | omega | decide | exact fits64 (by omega) (by omega) | kernel_rfl | (intros; omega), ?_⟩)
          exact kN _ (i + 1) (by rw [hs]; kernel_rfl) ⟨by omega, not_next h0 hx hr⟩ (by omega)
        | false =>
          by_cases q1 : l = k
          · have d1 : (l = k) = True := eq_true q1
            have hr : isR k S (d, l, false) = true := by rw [hS]; simp [isR, q1, q2, q3]
            have hh := scn_hit h0 hx hr
            rw [← hf2] at hh
            simp (config := { maxSteps := 10000000, implicitDefEqProofs := false }) only [go_sem, ↓reduceIte, Nat.reduceAdd, Nat.reduceMul, Nat.reduceEqDiff, Nat.reduceSub, Nat.reduceLT, reduceCtorEq, Nat.reduceLeDiff, Nat.reduceBEq, mwp_draw, beq_true, beq_false, c1, c2, c5, c6, c7, c8, c9, p1, p2, p3, p4, p5, p6, ↓gd, ↓gl, ↓gf, ↓gPa, ↓gPb, d1, d2, d3]
            repeat (refine ⟨by first | omega | decide | exact fits64 (by omega) (by omega) | kernel_rfl | (intros; omega), ?_⟩)
            refine kR _ ?_
            clear kN kE kR
            simp (config := { maxSteps := 10000000, implicitDefEqProofs := false }) only [go_sem, ↓reduceIte, Nat.reduceAdd, Nat.reduceMul, Nat.reduceEqDiff, Nat.reduceSub, Nat.reduceLT, reduceCtorEq, Nat.reduceLeDiff, Nat.reduceBEq, mwp_draw]
            have z1 : tL (scn k S T1).1 = tL (chg f2 T1 i) := by rw [hh, tL_set]; exact set_self (tL_get (x := (d, l, false)) (chg_get (f := f2) hx))
            have z2 : tF (scn k S T1).1 = (tF T).set i true := by rw [hh, tF_set, tF_chg (by rw [hf2]; exact r2_t), tF1]
            have z3 : sumL (scn k S T1).1 = sumL (chg f2 T1 i) := by rw [hh]; have := sum_set (y := (d, l, true)) (chg_get (f := f2) hx); simp only at this ⊢; omega
            have z4 : (scn k S T1).2 = true := by rw [hh]
            rw [z1, z2, z3, z4, List.take_of_length_le (by omega)]
            exact ⟨by omega, rfl, rfl⟩
          · have d1 : (l = k) = False := eq_false q1
            have hs := chg_same (f := f2) hx (by rw [hf2, hS]; simp [r2, r2P, q1])
            have hr : isR k S (d, l, false) = false := by rw [hS]; simp [isR, q1]
            simp (config := { maxSteps := 10000000, implicitDefEqProofs := false }) only [go_sem, ↓reduceIte, Nat.reduceAdd, Nat.reduceMul, Nat.reduceEqDiff, Nat.reduceSub, Nat.reduceLT, reduceCtorEq, Nat.reduceLeDiff, Nat.reduceBEq, mwp_draw, c1, c2, c5, c6, c7, c8, c9, p1, p2, p3, p4, p5, p6, ↓gd, ↓gl, ↓gf, ↓gPa, ↓gPb, d1, d2, d3]
            repeat (refine ⟨by first | omega | decide | exact fits64 (by omega) (by omega) | kernel_rfl | (intros; omega), ?_⟩)
            exact kN _ (i + 1) (by rw [hs]; kernel_rfl) ⟨by omega, not_next h0 hx hr⟩ (by omega)
      · have d3 : (nth P d.2 = c) = False := eq_false q3
        cases f with
        | true =>
          have hs := chg_same (f := f2) hx (by rw [hf2, hS]; simp [r2, r2P])
          have hr : isR k S (d, l, true) = false := by rw [hS]; simp [isR]
          simp (config := { maxSteps := 10000000, implicitDefEqProofs := false }) only [go_sem, ↓reduceIte, Nat.reduceAdd, Nat.reduceMul, Nat.reduceEqDiff, Nat.reduceSub, Nat.reduceLT, reduceCtorEq, Nat.reduceLeDiff, Nat.reduceBEq, mwp_draw, c1, c2, c5, c6, c7, c8, c9, p1, p2, p3, p4, p5, p6, ↓gd, ↓gl, ↓gf, ↓gPa, ↓gPb, d2, d3]
          repeat (refine ⟨by first | omega | decide | exact fits64 (by omega) (by omega) | kernel_rfl | (intros; omega), ?_⟩)
          exact kN _ (i + 1) (by rw [hs]; kernel_rfl) ⟨by omega, not_next h0 hx hr⟩ (by omega)
        | false =>
          by_cases q1 : l = k
          · have d1 : (l = k) = True := eq_true q1
            have hs := chg_same (f := f2) hx (by rw [hf2, hS]; simp [r2, r2P, q2, q3])
            have hr : isR k S (d, l, false) = false := by rw [hS]; simp [isR, q2, q3]
            simp (config := { maxSteps := 10000000, implicitDefEqProofs := false }) only [go_sem, ↓reduceIte, Nat.reduceAdd, Nat.reduceMul, Nat.reduceEqDiff, Nat.reduceSub, Nat.reduceLT, reduceCtorEq, Nat.reduceLeDiff, Nat.reduceBEq, mwp_draw, c1, c2, c5, c6, c7, c8, c9, p1, p2, p3, p4, p5, p6, ↓gd, ↓gl, ↓gf, ↓gPa, ↓gPb, d1, d2, d3]
            repeat (refine ⟨by first | omega | decide | exact fits64 (by omega) (by omega) | kernel_rfl | (intros; omega), ?_⟩)
            exact kN _ (i + 1) (by rw [hs]; kernel_rfl) ⟨by omega, not_next h0 hx hr⟩ (by omega)
          · have d1 : (l = k) = False := eq_false q1
            have hs := chg_same (f := f2) hx (by rw [hf2, hS]; simp [r2, r2P, q1])
            have hr : isR k S (d, l, false) = false := by rw [hS]; simp [isR, q1]
            simp (config := { maxSteps := 10000000, implicitDefEqProofs := false }) only [go_sem, ↓reduceIte, Nat.reduceAdd, Nat.reduceMul, Nat.reduceEqDiff, Nat.reduceSub, Nat.reduceLT, reduceCtorEq, Nat.reduceLeDiff, Nat.reduceBEq, mwp_draw, c1, c2, c5, c6, c7, c8, c9, p1, p2, p3, p4, p5, p6, ↓gd, ↓gl, ↓gf, ↓gPa, ↓gPb, d1, d2, d3]
            repeat (refine ⟨by first | omega | decide | exact fits64 (by omega) (by omega) | kernel_rfl | (intros; omega), ?_⟩)
            exact kN _ (i + 1) (by rw [hs]; kernel_rfl) ⟨by omega, not_next h0 hx hr⟩ (by omega)
  · obtain rfl : i = T1.length := by omega
    have c1 : ((T1.length : Int) < (tE T).length) = False := eq_false (by omega)
    rw [chg_all]
    simp (config := { maxSteps := 10000000, implicitDefEqProofs := false }) only [go_sem, ↓reduceIte, Nat.reduceAdd, Nat.reduceMul, Nat.reduceEqDiff, Nat.reduceSub, Nat.reduceLT, reduceCtorEq, Nat.reduceLeDiff, Nat.reduceBEq, mwp_draw, c1]
    refine kE _ _ ?_
    clear kN kE kR
    simp (config := { maxSteps := 10000000, implicitDefEqProofs := false }) only [go_sem, ↓reduceIte, Nat.reduceAdd, Nat.reduceMul, Nat.reduceEqDiff, Nat.reduceSub, Nat.reduceLT, reduceCtorEq, Nat.reduceLeDiff, Nat.reduceBEq, mwp_draw]
    have hh : scn k S T1 = (T1.map f2, false) := by rw [hf2]; exact scn_none (by rw [List.take_length] at h0; exact h0)
    have z5 : (tL (T1.map f2)).length = T1.length := by rw [tL_length, List.length_map]
    rw [hh, List.take_of_length_le (by omega)]
    have z6 : tF (T1.map f2) = tF T := by rw [tF_map (by rw [hf2]; exact r2_t), tF1]
    simp only
    rw [z6]
    exact ⟨by omega, rfl, trivial⟩
end Go.Fw
