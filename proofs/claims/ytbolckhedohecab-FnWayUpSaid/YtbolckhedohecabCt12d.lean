/-
  Rooted trees: the laws on ways and on meeting nodes.
-/
import Derived.Test.YtbolckhedohecabCt12c
import Derived.Test.YtbolckhedohecabPlM
import Derived.Test.YtbolckhedohecabCtRow
namespace Go.Fw
set_option linter.unusedSimpArgs false
set_option linter.unusedVariables false
set_option maxRecDepth 100000
set_option maxHeartbeats 4000000
open Go.Proofs.Try (prog)
open Go.Pl

theorem l12Two_is (t : Bool) (b : List Int) (hb : Byt b) : MCall prog fid_spec_l12Two [.s t 1 (encB b)]
    (fun o r => o = [.u] ∧ ∃ ps ws x y, r = .tup [.agg [.ow true 1 (encI ps), .ow true 1 (encI ws)], .i .i64 x, .i .i64 y] ∧ ps.length ≤ 16 ∧ ws.length ≤ 16) := by
  refine MCall.run mixed get_spec_l12Two ok_spec_l12Two (Nat.le_of_ble_eq_true rfl) (by decide) ?_
  unfold mc_spec_l12Two
  have hb' := byt_take hb 2000
  have hl' : (b.take 2000).length ≤ 2000 := by simp; omega
  simp (config := { maxSteps := 10000000, implicitDefEqProofs := false }) only [go_sem, ↓reduceIte, Nat.reduceAdd, Nat.reduceMul, Nat.reduceEqDiff, Nat.reduceSub, Nat.reduceLT, reduceCtorEq, Nat.reduceLeDiff, Nat.reduceBEq, mwp_draw]
  refine callK_any (l12Draw_any _ b hb) ?_
  rintro o r ⟨rfl, ps, ws, rfl, w1, w2, w3⟩
  simp (config := { maxSteps := 10000000, implicitDefEqProofs := false }) only [go_sem, ↓reduceIte, Nat.reduceAdd, Nat.reduceMul, Nat.reduceEqDiff, Nat.reduceSub, Nat.reduceLT, reduceCtorEq, Nat.reduceLeDiff, Nat.reduceBEq, mwp_draw]
  refine callK_is (l14Open_is b) ?_
  generalize b.take 2000 = c at hb' hl'
  simp (config := { maxSteps := 10000000, implicitDefEqProofs := false }) only [go_sem, ↓reduceIte, Nat.reduceAdd, Nat.reduceMul, Nat.reduceEqDiff, Nat.reduceSub, Nat.reduceLT, reduceCtorEq, Nat.reduceLeDiff, Nat.reduceBEq, mwp_draw]
  refine callK_det (pick_is c 0 20 hb' hl' (by omega) (by omega)) ?_
  simp (config := { maxSteps := 10000000, implicitDefEqProofs := false }) only [go_sem, ↓reduceIte, Nat.reduceAdd, Nat.reduceMul, Nat.reduceEqDiff, Nat.reduceSub, Nat.reduceLT, reduceCtorEq, Nat.reduceLeDiff, Nat.reduceBEq, mwp_draw]
  refine ⟨fun q => ?_, fun q => ?_⟩
  · refine callK_det (num_is _ c 1 [-1, 16] hb' hl' (by omega) (by decide)) ?_
    simp (config := { maxSteps := 10000000, implicitDefEqProofs := false }) only [go_sem, ↓reduceIte, Nat.reduceAdd, Nat.reduceMul, Nat.reduceEqDiff, Nat.reduceSub, Nat.reduceLT, reduceCtorEq, Nat.reduceLeDiff, Nat.reduceBEq, mwp_draw]
    first | exact ⟨ps, ws, _, _, rfl, w2, w3⟩ | exact ⟨by kernel_rfl, ps, ws, _, _, rfl, w2, w3⟩
  · refine callK_det (pick_is c 1 ps.length hb' hl' (by omega) (by omega)) ?_
    simp (config := { maxSteps := 10000000, implicitDefEqProofs := false }) only [go_sem, ↓reduceIte, Nat.reduceAdd, Nat.reduceMul, Nat.reduceEqDiff, Nat.reduceSub, Nat.reduceLT, reduceCtorEq, Nat.reduceLeDiff, Nat.reduceBEq, mwp_draw]
    refine callK_det (pick_is c (1 + 1) ps.length hb' hl' (by omega) (by omega)) ?_
    simp (config := { maxSteps := 10000000, implicitDefEqProofs := false }) only [go_sem, ↓reduceIte, Nat.reduceAdd, Nat.reduceMul, Nat.reduceEqDiff, Nat.reduceSub, Nat.reduceLT, reduceCtorEq, Nat.reduceLeDiff, Nat.reduceBEq, mwp_draw]
    first | exact ⟨ps, ws, _, _, rfl, w2, w3⟩ | exact ⟨by kernel_rfl, ps, ws, _, _, rfl, w2, w3⟩
theorem DrawRootOf_is (t : Bool) (b : List Int) (hb : Byt b) : MCall prog fid_spec_DrawRootOf [.s t 1 (encB b)]
    (fun o r => o = [.u] ∧ ∃ ps ws x, r = .tup [.agg [.ow true 1 (encI ps), .ow true 1 (encI ws)], .i .i64 x] ∧ ps.length ≤ 16 ∧ ws.length ≤ 16) := by
  refine MCall.run mixed get_spec_DrawRootOf ok_spec_DrawRootOf (Nat.le_of_ble_eq_true rfl) (by decide) ?_
  unfold mc_spec_DrawRootOf
  simp (config := { maxSteps := 10000000, implicitDefEqProofs := false }) only [go_sem, ↓reduceIte, Nat.reduceAdd, Nat.reduceMul, Nat.reduceEqDiff, Nat.reduceSub, Nat.reduceLT, reduceCtorEq, Nat.reduceLeDiff, Nat.reduceBEq, mwp_draw]
  refine callK_any (l12Two_is _ b hb) ?_
  rintro o r ⟨rfl, ps, ws, x, y, rfl, w1, w2⟩
  simp (config := { maxSteps := 10000000, implicitDefEqProofs := false }) only [go_sem, ↓reduceIte, Nat.reduceAdd, Nat.reduceMul, Nat.reduceEqDiff, Nat.reduceSub, Nat.reduceLT, reduceCtorEq, Nat.reduceLeDiff, Nat.reduceBEq, mwp_draw]
  exact ⟨ps, ws, x, rfl, w1, w2⟩
theorem DrawWayUp_is (t : Bool) (b : List Int) (hb : Byt b) : MCall prog fid_spec_DrawWayUp [.s t 1 (encB b)]
    (fun o r => o = [.u] ∧ ∃ ps ws x, r = .tup [.agg [.ow true 1 (encI ps), .ow true 1 (encI ws)], .i .i64 x] ∧ ps.length ≤ 16 ∧ ws.length ≤ 16) := by
  refine MCall.run mixed get_spec_DrawWayUp ok_spec_DrawWayUp (Nat.le_of_ble_eq_true rfl) (by decide) ?_
  unfold mc_spec_DrawWayUp
  simp (config := { maxSteps := 10000000, implicitDefEqProofs := false }) only [go_sem, ↓reduceIte, Nat.reduceAdd, Nat.reduceMul, Nat.reduceEqDiff, Nat.reduceSub, Nat.reduceLT, reduceCtorEq, Nat.reduceLeDiff, Nat.reduceBEq, mwp_draw]
  refine callK_any (DrawRootOf_is _ b hb) ?_
  rintro o r ⟨rfl, ps, ws, x, rfl, w1, w2⟩
  simp (config := { maxSteps := 10000000, implicitDefEqProofs := false }) only [go_sem, ↓reduceIte, Nat.reduceAdd, Nat.reduceMul, Nat.reduceEqDiff, Nat.reduceSub, Nat.reduceLT, reduceCtorEq, Nat.reduceLeDiff, Nat.reduceBEq, mwp_draw]
  exact ⟨ps, ws, x, rfl, w1, w2⟩
theorem DrawMeetOf_is (t : Bool) (b : List Int) (hb : Byt b) : MCall prog fid_spec_DrawMeetOf [.s t 1 (encB b)]
    (fun o r => o = [.u] ∧ ∃ ps ws x y, r = .tup [.agg [.ow true 1 (encI ps), .ow true 1 (encI ws)], .i .i64 x, .i .i64 y] ∧ ps.length ≤ 16 ∧ ws.length ≤ 16) := by
  refine MCall.run mixed get_spec_DrawMeetOf ok_spec_DrawMeetOf (Nat.le_of_ble_eq_true rfl) (by decide) ?_
  unfold mc_spec_DrawMeetOf
  simp (config := { maxSteps := 10000000, implicitDefEqProofs := false }) only [go_sem, ↓reduceIte, Nat.reduceAdd, Nat.reduceMul, Nat.reduceEqDiff, Nat.reduceSub, Nat.reduceLT, reduceCtorEq, Nat.reduceLeDiff, Nat.reduceBEq, mwp_draw]
  refine callK_any (l12Two_is _ b hb) ?_
  rintro o r ⟨rfl, ps, ws, x, y, rfl, w1, w2⟩
  simp (config := { maxSteps := 10000000, implicitDefEqProofs := false }) only [go_sem, ↓reduceIte, Nat.reduceAdd, Nat.reduceMul, Nat.reduceEqDiff, Nat.reduceSub, Nat.reduceLT, reduceCtorEq, Nat.reduceLeDiff, Nat.reduceBEq, mwp_draw]
  exact ⟨ps, ws, x, y, rfl, w1, w2⟩
theorem way_rng {ps : List Int} (h : Pts ps) : ∀ {f : Nat} {a : Int}, a < ps.length → ∀ z ∈ upL ps f a, 0 ≤ z ∧ z < ps.length
  | 0, a, _, z, hz => by simp [upL] at hz
  | f + 1, a, ha, z, hz => by
    by_cases q : a < 0
    · simp [upL, q] at hz
    · simp only [upL, if_neg q] at hz
      rcases List.mem_cons.1 hz with rfl | hz
      · exact ⟨by omega, ha⟩
      · exact way_rng h (par_rng h ⟨by omega, ha⟩).2 z hz
theorem way_head {ps : List Int} {f : Nat} {a : Int} (hf : 0 < f) (ha : 0 ≤ a) : (upL ps f a)[0]? = some a := by
  obtain ⟨f, rfl⟩ : ∃ g, f = g + 1 := ⟨f - 1, by omega⟩
  have : ¬ a < 0 := by omega
  simp [upL, this]
theorem nodup_take {l : List Int} (h : l.Nodup) {i : Nat} {x : Int} (hx : l[i]? = some x) : x ∉ l.take i := fun hm => by
  obtain ⟨j, hj⟩ := List.getElem?_of_mem hm
  rw [List.getElem?_take] at hj
  split at hj
  · rename_i q
    obtain ⟨h1, h2⟩ := List.getElem?_eq_some_iff.1 hj
    obtain ⟨g1, g2⟩ := List.getElem?_eq_some_iff.1 hx
    exact List.pairwise_iff_getElem.1 (List.nodup_iff_pairwise_ne.1 h) j i h1 g1 q (by rw [h2, g2])
  · cases hj
theorem gone {l : List Int} {i : Nat} {x : Int} (hx : l[i]? = some x) : ∀ P : Int → Prop, (∀ z, l[i]? = some z → P z) ↔ P x := fun P => ⟨fun h => h x hx, fun h z hz => by rw [hx] at hz; cases hz; exact h⟩
theorem mvBl {a : Bool} (h : a = true) : MV.b a = MV.b true := by rw [h]
theorem cnt_take {p : Int → Bool} {l : List Int} {i : Nat} {x : Int} (hx : l[i]? = some x) : ((l.take (i + 1)).filter p).length = ((l.take i).filter p).length + if p x then 1 else 0 := by
  rw [List.take_add_one, hx, List.filter_append, List.length_append]
  cases h : p x <;> simp [h]
theorem FnMeetOf_is (t : Bool) (b : List Int) (hb : Byt b) : Is prog fid_laws_FnMeetOf [.s t 1 (encB b)] (.b true) := by
  refine MCall.run mixed get_laws_FnMeetOf ok_laws_FnMeetOf (Nat.le_of_ble_eq_true rfl) (by decide) ?_
  unfold mc_laws_FnMeetOf
  simp (config := { maxSteps := 10000000, implicitDefEqProofs := false }) only [go_sem, ↓reduceIte, Nat.reduceAdd, Nat.reduceMul, Nat.reduceEqDiff, Nat.reduceSub, Nat.reduceLT, reduceCtorEq, Nat.reduceLeDiff, Nat.reduceBEq, mwp_draw]
  refine fun hlen => callK_any (DrawMeetOf_is _ b hb) ?_
  rintro o r ⟨rfl, ps, ws, x, y, rfl, w1, w2⟩
  simp (config := { maxSteps := 10000000, implicitDefEqProofs := false }) only [go_sem, ↓reduceIte, Nat.reduceAdd, Nat.reduceMul, Nat.reduceEqDiff, Nat.reduceSub, Nat.reduceLT, reduceCtorEq, Nat.reduceLeDiff, Nat.reduceBEq, mwp_draw]
  refine callK_is (MeetOf_is _ _ ps ws x y (by omega) (by omega)) ?_
  simp (config := { maxSteps := 10000000, implicitDefEqProofs := false }) only [go_sem, ↓reduceIte, Nat.reduceAdd, Nat.reduceMul, Nat.reduceEqDiff, Nat.reduceSub, Nat.reduceLT, reduceCtorEq, Nat.reduceLeDiff, Nat.reduceBEq, mwp_draw]
  refine callK_is (MeetOfS_is _ _ ps ws x y (by omega) (by omega)) ?_
  simp (config := { maxSteps := 10000000, implicitDefEqProofs := false }) only [go_sem, ↓reduceIte, Nat.reduceAdd, Nat.reduceMul, Nat.reduceEqDiff, Nat.reduceSub, Nat.reduceLT, reduceCtorEq, Nat.reduceLeDiff, Nat.reduceBEq, mwp_draw]
  refine callK_is (MeetOf_is _ _ ps ws y x (by omega) (by omega)) ?_
  have sym : meetO ps ws y x = meetO ps ws x y := by
    unfold meetO
    rw [Bool.and_comm]
    split
    · rename_i h
      simp only [Bool.and_eq_true] at h
      have hx := (nodeOK_get h.1).2.2.2.2.2
      have hy := (nodeOK_get h.2).2.2.2.2.2
      simp only [wayL, hx, hy, if_true]
      exact way_meet hx hy
    · rfl
  rw [sym]
  cases ho : meetO ps ws x y with
  | none =>
    simp (config := { maxSteps := 10000000, implicitDefEqProofs := false }) only [go_sem, ↓reduceIte, Nat.reduceAdd, Nat.reduceMul, Nat.reduceEqDiff, Nat.reduceSub, Nat.reduceLT, reduceCtorEq, Nat.reduceLeDiff, Nat.reduceBEq, mwp_draw, Option.isSome_none, Option.getD_none]
  | some m =>
    have h : nodeOK ps ws x = true ∧ nodeOK ps ws y = true := by
      cases q : nodeOK ps ws x && nodeOK ps ws y
      · simp [meetO, q] at ho
      · simpa using q
    have gx := nodeOK_get h.1
    have gy := nodeOK_get h.2
    have hx := gx.2.2.2.2.2
    have hy := gy.2.2.2.2.2
    have ho2 := ho
    simp only [meetO, h.1, h.2, Bool.and_self, if_true, wayL, hx, hy] at ho2
    obtain ⟨c1, c2, c3, c4⟩ := way_common hx hy ho2
    have hw := (wayL_ne h.1).2
    have hw' := (wayL_ne h.2).2
    have e1 : wayN ps ws x = wayL ps x := by simp [wayN, h.1]
    have e2 : wayN ps ws y = wayL ps y := by simp [wayN, h.2]
    have rx : ∀ z ∈ upL ps ps.length x, 0 ≤ z ∧ z < ps.length := way_rng gx.1 (by omega)
    have hm : nodeOK ps ws m = true := by
      have r := rx m c1
      have g := h.1
      simp only [nodeOK, Bool.and_eq_true, decide_eq_true_eq] at g ⊢
      exact ⟨⟨g.1.1, r.1⟩, r.2⟩
    have e3 : wayN ps ws m = wayL ps m := by simp [wayN, hm]
    have hw3 := (wayL_ne hm).2
    have m1 : m ∈ wayL ps x := by simpa [wayL, hx] using c1
    have m2 : m ∈ wayL ps y := by simpa [wayL, hy] using c2
    have c5 : ((wayL ps x).filter (fun n => decide (n ∈ wayL ps y))).length = (wayL ps m).length := by simpa [wayL, hx, hy, c3] using congrArg List.length c4
    simp (config := { maxSteps := 10000000, implicitDefEqProofs := false }) only [go_sem, ↓reduceIte, Nat.reduceAdd, Nat.reduceMul, Nat.reduceEqDiff, Nat.reduceSub, Nat.reduceLT, reduceCtorEq, Nat.reduceLeDiff, Nat.reduceBEq, mwp_draw, Option.isSome_some, Option.getD_some]
    refine callK_is (WayUp_is _ _ ps ws x (by omega) (by omega)) ?_
    rw [e1]
    simp (config := { maxSteps := 10000000, implicitDefEqProofs := false }) only [go_sem, ↓reduceIte, Nat.reduceAdd, Nat.reduceMul, Nat.reduceEqDiff, Nat.reduceSub, Nat.reduceLT, reduceCtorEq, Nat.reduceLeDiff, Nat.reduceBEq, mwp_draw]
    refine callK_is (WayUp_is _ _ ps ws y (by omega) (by omega)) ?_
    rw [e2]
    simp (config := { maxSteps := 10000000, implicitDefEqProofs := false }) only [go_sem, ↓reduceIte, Nat.reduceAdd, Nat.reduceMul, Nat.reduceEqDiff, Nat.reduceSub, Nat.reduceLT, reduceCtorEq, Nat.reduceLeDiff, Nat.reduceBEq, mwp_draw]
    refine callK_is (WayUp_is _ _ ps ws m (by omega) (by omega)) ?_
    rw [e3, hm]
    simp (config := { maxSteps := 10000000, implicitDefEqProofs := false }) only [go_sem, ↓reduceIte, Nat.reduceAdd, Nat.reduceMul, Nat.reduceEqDiff, Nat.reduceSub, Nat.reduceLT, reduceCtorEq, Nat.reduceLeDiff, Nat.reduceBEq, mwp_draw]
    refine mwp_loopk (X := Nat) (fun i => ⟨[(6, .i .i64 m), (12, .sr 0 0 (wayL ps x).length), (14, .sr 1 0 (wayL ps y).length), (16, .sr 2 0 (wayL ps m).length), (17, .b true), (18, .i .i64 ((wayL ps x).take i |>.filter (fun n => decide (n ∈ wayL ps y))).length), (19, .i .i64 i)], [(0, .arr true 1 (encI (wayL ps x))), (1, .arr true 1 (encI (wayL ps y))), (2, .arr true 1 (encI (wayL ps m)))], 3⟩) (fun i => i ≤ (wayL ps x).length) (fun i => (wayL ps x).length - i) 0 (by rfl) (by simp) ?_
    rintro i k1 K kN kE kR
    have fl : ((wayL ps x).take i |>.filter (fun n => decide (n ∈ wayL ps y))).length ≤ 16 := by
      have := List.length_filter_le (fun n => decide (n ∈ wayL ps y)) ((wayL ps x).take i)
      simp at this ⊢; omega
    simp (config := { maxSteps := 10000000, implicitDefEqProofs := false }) only [go_sem, ↓reduceIte, Nat.reduceAdd, Nat.reduceMul, Nat.reduceEqDiff, Nat.reduceSub, Nat.reduceLT, reduceCtorEq, Nat.reduceLeDiff, Nat.reduceBEq, mwp_draw]
    refine ⟨fun k3 => ⟨by omega, by omega, by omega, fun z hz => ?_⟩, fun k3 => kE _ _ ?_⟩
    · refine callK_is (dyIn_is _ (wayL ps y) z (by omega)) ?_
      have ct := cnt_take (p := fun n => decide (n ∈ wayL ps y)) hz
      cases hc : decide (z ∈ wayL ps y)
      · rw [hc] at ct
        simp (config := { maxSteps := 10000000, implicitDefEqProofs := false }) only [go_sem, ↓reduceIte, Nat.reduceAdd, Nat.reduceMul, Nat.reduceEqDiff, Nat.reduceSub, Nat.reduceLT, reduceCtorEq, Nat.reduceLeDiff, Nat.reduceBEq, mwp_draw]
        refine ⟨fits64 (by omega) (by omega), kN _ (i + 1) ?_ (by omega) (by omega)⟩
        rw [ct]; rfl
      · rw [hc] at ct
        simp (config := { maxSteps := 10000000, implicitDefEqProofs := false }) only [go_sem, ↓reduceIte, Nat.reduceAdd, Nat.reduceMul, Nat.reduceEqDiff, Nat.reduceSub, Nat.reduceLT, reduceCtorEq, Nat.reduceLeDiff, Nat.reduceBEq, mwp_draw]
        refine ⟨fits64 (by omega) (by omega), fits64 (by omega) (by omega), kN _ (i + 1) ?_ (by omega) (by omega)⟩
        rw [ct]; rfl
    · obtain rfl : i = (wayL ps x).length := by omega
      rw [List.take_length]
      rw [c5]
      simp (config := { maxSteps := 10000000, implicitDefEqProofs := false }) only [go_sem, ↓reduceIte, Nat.reduceAdd, Nat.reduceMul, Nat.reduceEqDiff, Nat.reduceSub, Nat.reduceLT, reduceCtorEq, Nat.reduceLeDiff, Nat.reduceBEq, mwp_draw]
      refine callK_is (dyIn_is _ (wayL ps x) m (by omega)) ?_
      rw [decide_eq_true m1]
      simp (config := { maxSteps := 10000000, implicitDefEqProofs := false }) only [go_sem, ↓reduceIte, Nat.reduceAdd, Nat.reduceMul, Nat.reduceEqDiff, Nat.reduceSub, Nat.reduceLT, reduceCtorEq, Nat.reduceLeDiff, Nat.reduceBEq, mwp_draw]
      refine callK_is (dyIn_is _ (wayL ps y) m (by omega)) ?_
      rw [decide_eq_true m2]
      simp (config := { maxSteps := 10000000, implicitDefEqProofs := false }) only [go_sem, ↓reduceIte, Nat.reduceAdd, Nat.reduceMul, Nat.reduceEqDiff, Nat.reduceSub, Nat.reduceLT, reduceCtorEq, Nat.reduceLeDiff, Nat.reduceBEq, mwp_draw]
theorem FnWayUp_is (t : Bool) (b : List Int) (hb : Byt b) : Is prog fid_laws_FnWayUp [.s t 1 (encB b)] (.b true) := by
  refine MCall.run mixed get_laws_FnWayUp ok_laws_FnWayUp (Nat.le_of_ble_eq_true rfl) (by decide) ?_
  unfold mc_laws_FnWayUp
  simp (config := { maxSteps := 10000000, implicitDefEqProofs := false }) only [go_sem, ↓reduceIte, Nat.reduceAdd, Nat.reduceMul, Nat.reduceEqDiff, Nat.reduceSub, Nat.reduceLT, reduceCtorEq, Nat.reduceLeDiff, Nat.reduceBEq, mwp_draw]
  refine fun hlen => callK_any (DrawWayUp_is _ b hb) ?_
  rintro o r ⟨rfl, ps, ws, x, rfl, w1, w2⟩
  simp (config := { maxSteps := 10000000, implicitDefEqProofs := false }) only [go_sem, ↓reduceIte, Nat.reduceAdd, Nat.reduceMul, Nat.reduceEqDiff, Nat.reduceSub, Nat.reduceLT, reduceCtorEq, Nat.reduceLeDiff, Nat.reduceBEq, mwp_draw]
  refine callK_is (WayUp_is _ _ ps ws x (by omega) (by omega)) ?_
  simp (config := { maxSteps := 10000000, implicitDefEqProofs := false }) only [go_sem, ↓reduceIte, Nat.reduceAdd, Nat.reduceMul, Nat.reduceEqDiff, Nat.reduceSub, Nat.reduceLT, reduceCtorEq, Nat.reduceLeDiff, Nat.reduceBEq, mwp_draw]
  refine callK_is (WayUpS_is _ _ ps ws x (by omega) (by omega)) ?_
  have hlen2 : (wayN ps ws x).length ≤ 16 := by
    cases h : nodeOK ps ws x
    · simp [wayN, h]
    · simpa [wayN, h] using (wayL_ne h).2
  simp (config := { maxSteps := 10000000, implicitDefEqProofs := false }) only [go_sem, ↓reduceIte, Nat.reduceAdd, Nat.reduceMul, Nat.reduceEqDiff, Nat.reduceSub, Nat.reduceLT, reduceCtorEq, Nat.reduceLeDiff, Nat.reduceBEq, mwp_draw]
  refine callK_is (dyInts_is _ _ (wayN ps ws x) (wayN ps ws x) (by omega)) ?_
  cases ho : nodeOK ps ws x
  · simp (config := { maxSteps := 10000000, implicitDefEqProofs := false }) only [go_sem, ↓reduceIte, Nat.reduceAdd, Nat.reduceMul, Nat.reduceEqDiff, Nat.reduceSub, Nat.reduceLT, reduceCtorEq, Nat.reduceLeDiff, Nat.reduceBEq, mwp_draw]
    refine callK_is (dyInts_is _ _ (wayN ps ws x) (wayN ps ws x) (by omega)) ?_
    simp (config := { maxSteps := 10000000, implicitDefEqProofs := false }) only [go_sem, ↓reduceIte, Nat.reduceAdd, Nat.reduceMul, Nat.reduceEqDiff, Nat.reduceSub, Nat.reduceLT, reduceCtorEq, Nat.reduceLeDiff, Nat.reduceBEq, mwp_draw]
  · obtain ⟨g1, g2, g3, g4, g5, hx⟩ := nodeOK_get ho
    have e1 : wayN ps ws x = upL ps ps.length x := by simp [wayN, wayL, ho, hx]
    have e2 : rootN ps ws x = (upL ps ps.length x).getLast?.getD 0 := by simp [rootN, wayL, ho, hx]
    have nd := way_nodup ps ps.length x hx
    have nx := way_next ps ps.length x
    have hd := way_head (ps := ps) (f := ps.length) (a := x) (by omega) g3
    have rg := way_rng g1 (f := ps.length) (a := x) g4
    have ls := way_last ps ps.length x
    rw [e1] at hlen2
    rw [e1]
    generalize upL ps ps.length x = W at *
    have hW : 0 < W.length := (List.getElem?_eq_some_iff.1 hd).1
    have ne : W ≠ [] := List.length_pos_iff.1 hW
    simp (config := { maxSteps := 10000000, implicitDefEqProofs := false }) only [go_sem, ↓reduceIte, Nat.reduceAdd, Nat.reduceMul, Nat.reduceEqDiff, Nat.reduceSub, Nat.reduceLT, reduceCtorEq, Nat.reduceLeDiff, Nat.reduceBEq, mwp_draw]
    refine mwp_loopk (X := Nat) (fun i => ⟨[(3, .pr 0 0 0), (4, .i .i64 x), (5, .sr 1 0 W.length), (9, .i .i64 i)], [(0, .box [.sr 2 0 ps.length, .sr 3 0 ws.length]), (1, .arr true 1 (encI W)), (2, .arr true 1 (encI ps)), (3, .arr true 1 (encI ws))], 4⟩) (fun i => i ≤ W.length) (fun i => W.length - i) 0 (by rfl) (by simp) ?_
    rintro i k1 K kN kE kR
    by_cases hil : i < W.length
    · obtain ⟨y, hy⟩ : ∃ y, W[i]? = some y := ⟨_, List.getElem?_eq_getElem hil⟩
      have gy := gone hy
      have c1 : ((i : Int) < W.length) = True := eq_true (by omega)
      have c2 : (i < W.length) = True := eq_true hil
      have c3 : (i ≤ W.length) = True := eq_true k1
      simp (config := { maxSteps := 10000000, implicitDefEqProofs := false }) only [go_sem, ↓reduceIte, Nat.reduceAdd, Nat.reduceMul, Nat.reduceEqDiff, Nat.reduceSub, Nat.reduceLT, reduceCtorEq, Nat.reduceLeDiff, Nat.reduceBEq, mwp_draw, c1, c2, c3, ↓gy]
      repeat (refine ⟨by first | omega | decide | exact fits64 (by omega) (by omega) | kernel_rfl | (intros; omega), ?_⟩)
      refine callK_is (dyIn_is _ (W.take i) y (by simp; omega)) ?_
      rw [decide_eq_false (nodup_take nd hy)]
      by_cases hi0 : i = 0
      · have c0 : ((0 : Int) < (i : Int)) = False := eq_false (by omega)
        simp (config := { maxSteps := 10000000, implicitDefEqProofs := false }) only [go_sem, ↓reduceIte, Nat.reduceAdd, Nat.reduceMul, Nat.reduceEqDiff, Nat.reduceSub, Nat.reduceLT, reduceCtorEq, Nat.reduceLeDiff, Nat.reduceBEq, mwp_draw, c0]
        repeat (refine ⟨by first | omega | decide | exact fits64 (by omega) (by omega) | kernel_rfl | (intros; omega), ?_⟩)
        exact kN _ (i + 1) (by rfl) (by omega) (by omega)
      · have c0 : ((0 : Int) < (i : Int)) = True := eq_true (by omega)
        obtain ⟨w, hw⟩ : ∃ w, W[((i : Int) - 1).toNat]? = some w := ⟨_, List.getElem?_eq_getElem (by omega)⟩
        have hwr := rg w (List.mem_of_getElem? hw)
        have hwp : ps[w.toNat]? = some y := by
          have := nx (((i : Int) - 1).toNat) w y hw (by rw [show ((i : Int) - 1).toNat + 1 = i by omega]; exact hy)
          unfold par at this
          rw [List.getElem?_eq_getElem (by omega)] at this ⊢
          simpa using this
        have gw := gone hw
        have gp := gone hwp
        have c5 : (0 ≤ (i : Int) - 1) = True := eq_true (by omega)
        have c6 : ((i : Int) - 1 < W.length) = True := eq_true (by omega)
        have c7 : (((i : Int) - 1).toNat < W.length) = True := eq_true (by omega)
        have c8 : Fits .i64 ((i : Int) - 1) = True := eq_true (fits64 (by omega) (by omega))
        have c9 : (0 ≤ w) = True := eq_true hwr.1
        have c10 : (w < ps.length) = True := eq_true hwr.2
        have c11 : (w.toNat < ps.length) = True := eq_true (by omega)
        simp (config := { maxSteps := 10000000, implicitDefEqProofs := false }) only [go_sem, ↓reduceIte, Nat.reduceAdd, Nat.reduceMul, Nat.reduceEqDiff, Nat.reduceSub, Nat.reduceLT, reduceCtorEq, Nat.reduceLeDiff, Nat.reduceBEq, mwp_draw, c0, c1, c2, c5, c6, c7, c8, c9, c10, c11, ↓gy, ↓gw, ↓gp]
        repeat (refine ⟨by first | omega | decide | exact fits64 (by omega) (by omega) | kernel_rfl | (intros; omega), ?_⟩)
        exact kN _ (i + 1) (by rfl) (by omega) (by omega)
    · have c1 : ((i : Int) < W.length) = False := eq_false (by omega)
      simp (config := { maxSteps := 10000000, implicitDefEqProofs := false }) only [go_sem, ↓reduceIte, Nat.reduceAdd, Nat.reduceMul, Nat.reduceEqDiff, Nat.reduceSub, Nat.reduceLT, reduceCtorEq, Nat.reduceLeDiff, Nat.reduceBEq, mwp_draw, c1]
      repeat (refine ⟨by first | omega | decide | exact fits64 (by omega) (by omega) | kernel_rfl | (intros; omega), ?_⟩)
      refine kE _ _ ?_
      clear kN kE kR
      obtain ⟨m, hm⟩ : ∃ m, W.getLast? = some m := ⟨_, List.getLast?_eq_some_getLast ne⟩
      have hm1 : W[((W.length : Int) - 1).toNat]? = some m := by
        rw [show ((W.length : Int) - 1).toNat = W.length - 1 by omega, ← List.getLast?_eq_getElem?]; exact hm
      have hmr := rg m (List.mem_of_getElem? hm1)
      have e3 : rootN ps ws x = m := by rw [e2, hm]; rfl
      have hmp : ps[m.toNat]? = some (-1) := by
        have a := ls m hx hm
        have b := par_rng g1 hmr
        have c : par ps m = -1 := by omega
        unfold par at c
        rw [List.getElem?_eq_getElem (by omega)] at c ⊢
        simpa using c
      simp (config := { maxSteps := 10000000, implicitDefEqProofs := false }) only [go_sem, ↓reduceIte, Nat.reduceAdd, Nat.reduceMul, Nat.reduceEqDiff, Nat.reduceSub, Nat.reduceLT, reduceCtorEq, Nat.reduceLeDiff, Nat.reduceBEq, mwp_draw]
      refine callK_is (RootOf_is _ _ ps ws x (by omega) (by omega)) ?_
      rw [e3, ho]
      have gh := gone hd
      have gm := gone hm1
      have gp := gone hmp
      have c2 : ((0 : Int) < W.length) = True := eq_true (by omega)
      have c3 : (0 < W.length) = True := eq_true hW
      have c5 : (0 ≤ (W.length : Int) - 1) = True := eq_true (by omega)
      have c6 : ((W.length : Int) - 1 < W.length) = True := eq_true (by omega)
      have c7 : (((W.length : Int) - 1).toNat < W.length) = True := eq_true (by omega)
      have c8 : Fits .i64 ((W.length : Int) - 1) = True := eq_true (fits64 (by omega) (by omega))
      have c9 : (0 ≤ m) = True := eq_true hmr.1
      have c10 : (m < ps.length) = True := eq_true hmr.2
      have c11 : (m.toNat < ps.length) = True := eq_true (by omega)
      simp (config := { maxSteps := 10000000, implicitDefEqProofs := false }) only [go_sem, ↓reduceIte, Nat.reduceAdd, Nat.reduceMul, Nat.reduceEqDiff, Nat.reduceSub, Nat.reduceLT, reduceCtorEq, Nat.reduceLeDiff, Nat.reduceBEq, mwp_draw, c2, c3, c5, c6, c7, c8, c9, c10, c11, ↓gh, ↓gm, ↓gp]
      repeat (refine ⟨by first | omega | decide | exact fits64 (by omega) (by omega) | kernel_rfl | (intros; omega), ?_⟩)
      refine callK_is (RootedValid_is _ _ ps ws (by omega) (by omega)) ?_
      simp (config := { maxSteps := 10000000, implicitDefEqProofs := false }) only [go_sem, ↓reduceIte, Nat.reduceAdd, Nat.reduceMul, Nat.reduceEqDiff, Nat.reduceSub, Nat.reduceLT, reduceCtorEq, Nat.reduceLeDiff, Nat.reduceBEq, mwp_draw]
      refine callK_is (RootedValidS_is _ _ ps ws (by omega) (by omega)) ?_
      simp (config := { maxSteps := 10000000, implicitDefEqProofs := false }) only [go_sem, ↓reduceIte, Nat.reduceAdd, Nat.reduceMul, Nat.reduceEqDiff, Nat.reduceSub, Nat.reduceLT, reduceCtorEq, Nat.reduceLeDiff, Nat.reduceBEq, mwp_draw]
      show _ = true
      kernel_rfl
theorem FnWayUp_row (m : List (List D)) (h : ∀ r ∈ m, rowOK [.i .u8] r) (_ : m.length ≤ maxLen) : Is prog fid_laws_FnWayUp [.s false 1 m] (.b true) := by
  obtain ⟨b, rfl, hb⟩ := rows_bytes h
  exact FnWayUp_is _ b hb
theorem FnMeetOf_row (m : List (List D)) (h : ∀ r ∈ m, rowOK [.i .u8] r) (_ : m.length ≤ maxLen) : Is prog fid_laws_FnMeetOf [.s false 1 m] (.b true) := by
  obtain ⟨b, rfl, hb⟩ := rows_bytes h
  exact FnMeetOf_is _ b hb
end Go.Fw
