/-
  Graphs with levels: what CutLevel comes to.
-/
import Derived.Test.YtfjekgjhhmkgoaaCtZ5
namespace Go.Fw
set_option linter.unusedSimpArgs false
set_option linter.unusedVariables false
set_option maxRecDepth 100000
set_option maxHeartbeats 16000000
open Go.Proofs.Try (prog)
open Go.Pl

/-- Three lists as one. -/
def zipT (es : List E) (ls : List Int) (fs : List Bool) : List Lv1 := es.zip (ls.zip fs)
theorem tE_zip {es : List E} {ls : List Int} {fs : List Bool} (h1 : ls.length = es.length) (h2 : fs.length = es.length) : tE (zipT es ls fs) = es := by
  unfold tE zipT
  exact List.map_fst_zip (by simp; omega)
theorem tL_zip {es : List E} {ls : List Int} {fs : List Bool} (h1 : ls.length = es.length) (h2 : fs.length = es.length) : tL (zipT es ls fs) = ls := by
  unfold tL zipT
  have a : (es.zip (ls.zip fs)).map (·.2) = ls.zip fs := List.map_snd_zip (by simp; omega)
  have b : (ls.zip fs).map (·.1) = ls := List.map_fst_zip (by omega)
  have c := congrArg (List.map fun x : Int × Bool => x.1) a
  rw [List.map_map, b] at c; exact c
theorem tF_zip {es : List E} {ls : List Int} {fs : List Bool} (h1 : ls.length = es.length) (h2 : fs.length = es.length) : tF (zipT es ls fs) = fs := by
  unfold tF zipT
  have a : (es.zip (ls.zip fs)).map (·.2) = ls.zip fs := List.map_snd_zip (by simp; omega)
  have b : (ls.zip fs).map (·.2) = fs := List.map_snd_zip (by omega)
  have c := congrArg (List.map fun x : Int × Bool => x.2) a
  rw [List.map_map, b] at c; exact c
theorem map_erase {α β : Type} (f : α → β) : ∀ (T : List α) (i : Nat), (T.eraseIdx i).map f = (T.map f).eraseIdx i
  | [], i => by simp
  | x :: T, 0 => by simp
  | x :: T, i + 1 => by simp [map_erase f T i]
theorem tE_erase {T : List Lv1} {i : Nat} : tE (T.eraseIdx i) = (tE T).eraseIdx i := map_erase _ _ _
theorem tL_erase {T : List Lv1} {i : Nat} : tL (T.eraseIdx i) = (tL T).eraseIdx i := map_erase _ _ _
theorem tF_erase {T : List Lv1} {i : Nat} : tF (T.eraseIdx i) = (tF T).eraseIdx i := map_erase _ _ _
theorem filter_erase : ∀ {es : List E} {i : Nat} {e : E}, es.Nodup → es[i]? = some e → es.filter (fun x => !decide (x = e)) = es.eraseIdx i
  | [], i, e, _, h => by simp at h
  | x :: es, 0, e, hn, h => by
    simp at h; subst h
    rw [List.nodup_cons] at hn
    simp only [List.eraseIdx_zero, List.tail_cons, List.filter_cons, decide_true, Bool.not_true, Bool.false_eq_true, if_false]
    exact List.filter_eq_self.2 fun y hy => by
      have : y ≠ x := fun e => by subst e; exact hn.1 hy
      simp [this]
  | x :: es, i + 1, e, hn, h => by
    rw [List.nodup_cons] at hn
    simp at h
    have : x ≠ e := fun q => by subst q; exact hn.1 (List.mem_of_getElem? h)
    simp [List.filter_cons, this, filter_erase hn.2 h]
theorem er_next {T : List Lv1} {i a : Nat} {x : Lv1} (h : T[i]? = some x) : (T.take (i + 1)).eraseIdx a = (T.take i).eraseIdx a ++ if i = a then [] else [x] := by
  have hi := (List.getElem?_eq_some_iff.1 h).1
  rw [take_snoc h]
  have hl : (T.take i).length = i := by simp; omega
  by_cases q : i = a
  · subst q
    rw [if_pos rfl, List.append_nil, List.eraseIdx_append_of_length_le (by omega), hl, Nat.sub_self, List.eraseIdx_of_length_le (by omega : (T.take i).length ≤ i)]
    simp
  · rw [if_neg q]
    by_cases q2 : a < i
    · rw [List.eraseIdx_append_of_lt_length (by omega)]
    · rw [List.eraseIdx_of_length_le (by simp; omega : (T.take i ++ [x]).length ≤ a), List.eraseIdx_of_length_le (by omega : (T.take i).length ≤ a)]

theorem l7Cut_is (t1 t2 t3 : Bool) (n : Int) (T : List Lv1) (a : Nat) (hl : T.length ≤ 40) :
    Is prog fid_spec_l7Cut [Lv t1 t2 t3 n (tE T) (tL T) (tF T), .i .i64 a] (.agg [.i .i64 n, .ow true 2 (encE (tE (T.eraseIdx a))), .ow true 1 (encI (tL (T.eraseIdx a))), .ow true 1 (encT (tF (T.eraseIdx a)))]) := by
  have h1 := tE_length (T := T)
  have h2 := tL_length (T := T)
  have h3 := tF_length (T := T)
  refine MCall.run mixed get_spec_l7Cut ok_spec_l7Cut (Nat.le_of_ble_eq_true rfl) (by decide) ?_
  unfold mc_spec_l7Cut
  simp (config := { maxSteps := 10000000, implicitDefEqProofs := false }) only [go_sem, ↓reduceIte, Nat.reduceAdd, Nat.reduceMul, Nat.reduceEqDiff, Nat.reduceSub, Nat.reduceLT, reduceCtorEq, Nat.reduceLeDiff, Nat.reduceBEq, mwp_draw]
  refine mwp_loopk (X := Nat × List Lv1) (fun x => ⟨[(1, .i .i64 a), (2, .pr 0 0 0), (4, .pr 1 0 0), (5, .pr 2 0 0), (6, .i .i64 (x.1 : Int))],
      match x.2 with
      | [] => [(0, .box [.i .i64 n, .s t1 2 (encE (tE T)), .s t2 1 (encI (tL T)), .s t3 1 (encT (tF T))]), (1, .box [.i .i64 0, .nl 2, .nl 1, .nl 1]), (2, .box [.i .i64 n, .sr 3 0 0, .nl 1, .nl 1]), (3, .arr true 2 [])]
      | _ :: _ => [(0, .box [.i .i64 n, .s t1 2 (encE (tE T)), .s t2 1 (encI (tL T)), .s t3 1 (encT (tF T))]), (1, .box [.i .i64 0, .nl 2, .nl 1, .nl 1]), (2, .box [.i .i64 n, .sr 3 0 (tE x.2).length, .sr 4 0 (tL x.2).length, .sr 5 0 (tF x.2).length]),
          (3, .arr true 2 (encE (tE x.2))), (4, .arr true 1 (encI (tL x.2))), (5, .arr true 1 (encT (tF x.2)))],
      match x.2 with | [] => 4 | _ :: _ => 6⟩)
    (fun x => x.1 ≤ T.length ∧ x.2 = (T.take x.1).eraseIdx a) (fun x => T.length - x.1) (0, []) (by rfl) ⟨Nat.zero_le _, by simp⟩ ?_
  rintro ⟨i, out⟩ ⟨g1, g2⟩ K kN kE kR
  simp only at g1 g2
  have ol : out.length ≤ i := by
    rw [g2]; have := List.length_eraseIdx_le (T.take i) a; simp at this; omega
  by_cases hi : i < T.length
  · obtain ⟨d, l, f, hx⟩ : ∃ d l f, T[i]? = some (d, l, f) := ⟨_, _, _, List.getElem?_eq_getElem hi⟩
    have gd := goneT (tE_get hx)
    have gl := goneT (tL_get hx)
    have gf := goneT (tF_get hx)
    have hn := er_next (a := a) hx
    rw [← g2] at hn
    have c1 : ((i : Int) < (tE T).length) = True := eq_true (by omega)
    have c2 : (i < (tE T).length) = True := eq_true (by omega)
    have c5 : ((i : Int) < (tF T).length) = True := eq_true (by omega)
    have c6 : (i < (tF T).length) = True := eq_true (by omega)
    have c7 : ((i : Int) < (tL T).length) = True := eq_true (by omega)
    have c8 : (i < (tL T).length) = True := eq_true (by omega)
    have o1 := tE_length (T := out)
    have o2 := tL_length (T := out)
    have o3 := tF_length (T := out)
    by_cases q : i = a
    · have c3 : ((i : Int) = (a : Int)) = True := eq_true (by omega)
      rw [if_pos q, List.append_nil] at hn
      cases out with
      | nil =>
        simp (config := { maxSteps := 10000000, implicitDefEqProofs := false }) only [go_sem, ↓reduceIte, Nat.reduceAdd, Nat.reduceMul, Nat.reduceEqDiff, Nat.reduceSub, Nat.reduceLT, reduceCtorEq, Nat.reduceLeDiff, Nat.reduceBEq, mwp_draw, c1, c2, c5, c6, c7, c8, ↓gd, ↓gl, ↓gf, c3]
        repeat (refine ⟨by first | omega | decide | exact fits64 (by omega) (by omega) | kernel_rfl | (intros; omega), ?_⟩)
        exact kN _ (i + 1, []) (by kernel_rfl) ⟨by simp only; omega, hn.symm⟩ (by simp only; omega)
      | cons b r =>
        simp (config := { maxSteps := 10000000, implicitDefEqProofs := false }) only [go_sem, ↓reduceIte, Nat.reduceAdd, Nat.reduceMul, Nat.reduceEqDiff, Nat.reduceSub, Nat.reduceLT, reduceCtorEq, Nat.reduceLeDiff, Nat.reduceBEq, mwp_draw, c1, c2, c5, c6, c7, c8, ↓gd, ↓gl, ↓gf, c3]
        repeat (refine ⟨by first | omega | decide | exact fits64 (by omega) (by omega) | kernel_rfl | (intros; omega), ?_⟩)
        exact kN _ (i + 1, b :: r) (by kernel_rfl) ⟨by simp only; omega, hn.symm⟩ (by simp only; omega)
    · have c3 : ((i : Int) = (a : Int)) = False := eq_false (by omega)
      rw [if_neg q] at hn
      cases out with
      | nil =>
        simp (config := { maxSteps := 10000000, implicitDefEqProofs := false }) only [go_sem, ↓reduceIte, Nat.reduceAdd, Nat.reduceMul, Nat.reduceEqDiff, Nat.reduceSub, Nat.reduceLT, reduceCtorEq, Nat.reduceLeDiff, Nat.reduceBEq, mwp_draw, c1, c2, c5, c6, c7, c8, ↓gd, ↓gl, ↓gf, c3]
        repeat (refine ⟨by first | omega | decide | exact fits64 (by omega) (by omega) | kernel_rfl | (intros; omega), ?_⟩)
        exact kN _ (i + 1, [(d, l, f)]) (by kernel_rfl) ⟨by simp only; omega, hn.symm⟩ (by simp only; omega)
      | cons b r =>
        have e1 : tE (b :: (r ++ [(d, l, f)])) = tE (b :: r) ++ [d] := by simp [tE]
        have e2 : tL (b :: (r ++ [(d, l, f)])) = tL (b :: r) ++ [l] := by simp [tL]
        have e3 : tF (b :: (r ++ [(d, l, f)])) = tF (b :: r) ++ [f] := by simp [tF]
        simp (config := { maxSteps := 10000000, implicitDefEqProofs := false }) only [go_sem, ↓reduceIte, Nat.reduceAdd, Nat.reduceMul, Nat.reduceEqDiff, Nat.reduceSub, Nat.reduceLT, reduceCtorEq, Nat.reduceLeDiff, Nat.reduceBEq, mwp_draw, c1, c2, c5, c6, c7, c8, ↓gd, ↓gl, ↓gf, c3]
        repeat (refine ⟨by first | omega | decide | exact fits64 (by omega) (by omega) | kernel_rfl | (intros; omega), ?_⟩)
        exact kN _ (i + 1, b :: (r ++ [(d, l, f)])) (by simp only [e1, e2, e3, List.length_append]; kernel_rfl) ⟨by simp only; omega, hn.symm⟩ (by simp only; omega)
  · obtain rfl : i = T.length := by omega
    have c1 : ((T.length : Int) < (tE T).length) = False := eq_false (by omega)
    rw [List.take_length] at g2
    cases out with
    | nil =>
      simp (config := { maxSteps := 10000000, implicitDefEqProofs := false }) only [go_sem, ↓reduceIte, Nat.reduceAdd, Nat.reduceMul, Nat.reduceEqDiff, Nat.reduceSub, Nat.reduceLT, reduceCtorEq, Nat.reduceLeDiff, Nat.reduceBEq, mwp_draw, c1]
      refine kE _ _ ?_
      clear kN kE kR
      simp (config := { maxSteps := 10000000, implicitDefEqProofs := false }) only [go_sem, ↓reduceIte, Nat.reduceAdd, Nat.reduceMul, Nat.reduceEqDiff, Nat.reduceSub, Nat.reduceLT, reduceCtorEq, Nat.reduceLeDiff, Nat.reduceBEq, mwp_draw]
      rw [← g2]
      rfl
    | cons b r =>
      simp (config := { maxSteps := 10000000, implicitDefEqProofs := false }) only [go_sem, ↓reduceIte, Nat.reduceAdd, Nat.reduceMul, Nat.reduceEqDiff, Nat.reduceSub, Nat.reduceLT, reduceCtorEq, Nat.reduceLeDiff, Nat.reduceBEq, mwp_draw, c1]
      refine kE _ _ ?_
      clear kN kE kR
      simp (config := { maxSteps := 10000000, implicitDefEqProofs := false }) only [go_sem, ↓reduceIte, Nat.reduceAdd, Nat.reduceMul, Nat.reduceEqDiff, Nat.reduceSub, Nat.reduceLT, reduceCtorEq, Nat.reduceLeDiff, Nat.reduceBEq, mwp_draw]
      rw [← g2]
      repeat (refine ⟨by first | omega | decide | exact fits64 (by omega) (by omega) | kernel_rfl | (intros; omega), ?_⟩)
      first | done | rfl

/-! CutLevel. -/
def clAt (es : List E) (e : E) : Nat := (idxE es e).toNat
def clB (n : Int) (es : List E) (ls : List Int) (fs : List Bool) (e : E) : Bool := lvB n es ls fs && decide (e ∈ es)
def clT (es : List E) (ls : List Int) (fs : List Bool) (e : E) : List Lv1 := (zipT es ls fs).eraseIdx (clAt es e)
def clD (n : Int) (es : List E) (ls : List Int) (fs : List Bool) (e : E) : List Lv1 × Bool :=
  if fs[clAt es e]?.getD false then dwn n e ((ls[clAt es e]?.getD 0).toNat + 1) (clT es ls fs e) else (clT es ls fs e, false)
def clR (n : Int) (es : List E) (ls : List Int) (fs : List Bool) (e : E) : List Lv1 × Bool := if clB n es ls fs e then clD n es ls fs e else ([], false)
def clS (n : Int) (es : List E) (ls : List Int) (fs : List Bool) (e : E) : Int := if clB n es ls fs e then sumL (clD n es ls fs e).1 - sumL (clT es ls fs e) else 0
def clN (n : Int) (es : List E) (ls : List Int) (fs : List Bool) (e : E) : Int := if clB n es ls fs e then n else 0
abbrev ClV (n : Int) (es : List E) (ls : List Int) (fs : List Bool) (e : E) : MV :=
  .tup [.agg [.i .i64 (clN n es ls fs e), .ow true 2 (encE (tE (clR n es ls fs e).1)), .ow true 1 (encI (tL (clR n es ls fs e).1)), .ow true 1 (encT (tF (clR n es ls fs e).1))], .i .i64 (clS n es ls fs e), .b (clR n es ls fs e).2, .b (clB n es ls fs e)]
theorem cl_no {n : Int} {es : List E} {ls : List Int} {fs : List Bool} {e : E} (h : clB n es ls fs e = false) : ClV n es ls fs e = .tup [.agg [.i .i64 0, .ow true 2 (encE []), .ow true 1 (encI []), .ow true 1 (encT [])], .i .i64 0, .b false, .b false] := by
  simp [ClV, clN, clR, clS, h, tE, tL, tF]
theorem repl_lev {n : Int} {e : E} {k : Int} {T : List Lv1} {b : Int} (h : ∀ x ∈ T, 0 ≤ x.2.1 ∧ x.2.1 ≤ b) : ∀ x ∈ (repl n e k T).1, 0 ≤ x.2.1 ∧ x.2.1 ≤ b + 2 := by
  unfold repl
  generalize sidP n (up T k true) e = S
  have h1 : ∀ x ∈ T.map (r1 k S), 0 ≤ x.2.1 ∧ x.2.1 ≤ b + 1 := fun x hx => by
    obtain ⟨y, hy, rfl⟩ := List.mem_map.1 hx
    have := h y hy
    have := r1_lev (k := k) (S := S) (x := y)
    omega
  generalize T.map (r1 k S) = T1 at h1
  induction T1 with
  | nil => intro x hx; simp [scn] at hx
  | cons y T1 ih =>
    have hy := h1 y (by simp)
    have := r2_lev (k := k) (S := S) (x := y)
    intro x hx
    rw [scn] at hx
    split at hx
    · rcases List.mem_cons.1 hx with rfl | hx
      · simp only; omega
      · have := h1 x (List.mem_cons_of_mem _ hx); omega
    · rcases List.mem_cons.1 hx with rfl | hx
      · omega
      · exact ih (fun z hz => h1 z (List.mem_cons_of_mem _ hz)) x hx
/-- What holds where an edge of the graph is cut. -/
structure ClP (n : Int) (es : List E) (ls : List Int) (fs : List Bool) (e : E) (T : List Lv1) (a : Nat) : Prop where
  t0 : tE T = es.eraseIdx a
  t1 : tL T = ls.eraseIdx a
  t2 : tF T = fs.eraseIdx a
  ge : GV n (tE T)
  ein : EIn n e
  lv : ∀ x ∈ T, 0 ≤ x.2.1 ∧ x.2.1 ≤ 4
  a0 : a < es.length
  ai : idxE es e = a
  at' : es[a]? = some e
theorem cl_get {n : Int} {es : List E} {ls : List Int} {fs : List Bool} {e : E} (h : lvB n es ls fs = true) (he : e ∈ es) : ClP n es ls fs e (clT es ls fs e) (clAt es e) := by
  obtain ⟨h1, h2, h3, h4⟩ := lvB_get h
  have hn := srt_nodup h1.2.2.2.2
  have h0 := idxE_ge.2 he
  have hne : idxP (fun y => decide (y = e)) es ≠ -1 := by have : idxE es e = idxP (fun y => decide (y = e)) es := rfl; omega
  obtain ⟨i, i1, i2, i3, _⟩ := idxP_some hne
  have i1' : idxE es e = i := i1
  have ea : clAt es e = i := by unfold clAt; rw [i1']; simp
  have hx : es[i]? = some e := by
    have e1 : es[i]? = some es[i] := List.getElem?_eq_getElem i2
    have e2 := i3 _ e1
    simp at e2; rw [e1, e2]
  have s1 : tE (clT es ls fs e) = es.eraseIdx i := by unfold clT; rw [tE_erase, tE_zip h2 h3, ea]
  have s2 : tL (clT es ls fs e) = ls.eraseIdx i := by unfold clT; rw [tL_erase, tL_zip h2 h3, ea]
  rw [ea]
  refine ⟨s1, s2, by unfold clT; rw [tF_erase, tF_zip h2 h3, ea], ?_, h1.2.2.2.1 e he, fun x hx => ?_, i2, i1', hx⟩
  · rw [s1]
    exact ⟨h1.1, h1.2.1, Nat.le_trans (List.length_eraseIdx_le _ _) h1.2.2.1, fun d hd => h1.2.2.2.1 d ((List.eraseIdx_sublist _ _).subset hd), h1.2.2.2.2.sublist (List.eraseIdx_sublist _ _)⟩
  · exact h4 _ ((List.eraseIdx_sublist ls i).subset (by rw [← s2]; exact List.mem_map.2 ⟨x, hx, rfl⟩))
end Go.Fw
