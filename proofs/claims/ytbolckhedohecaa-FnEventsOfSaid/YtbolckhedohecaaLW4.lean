/-
  Events: the laws on what they are, on their order, on those of the first turns.
-/
import Derived.Test.YtbolckhedohecaaLW3
import Derived.Test.YtbolckhedohecaaPlE2
namespace Go.Fw
set_option linter.unusedSimpArgs false
set_option linter.unusedVariables false
set_option maxRecDepth 100000
set_option maxHeartbeats 4000000
open Go.Proofs.Try (prog)
open Go.Pl

theorem runB_take {n : Int} {es ts : List E} (h : runB n es ts = true) (k : Nat) : runB n es (ts.take k) = true := by
  obtain ⟨h1, h2, h3, h4⟩ := runB_get h
  exact runB_yes h1 (by simp; omega) (trT_take h3)
theorem evV_take {n : Int} {es ts : List E} (h : runB n es ts = true) (k : Nat) : (evV n es (ts.take k)).length ≤ (evV n es ts).length ∧ (evV n es ts).take (evV n es (ts.take k)).length = evV n es (ts.take k) := by
  rw [evV_yes h, evV_yes (runB_take h k)]
  have e := evs_app (n := n) (br := brL n) (a := ts.take k) (b := ts.drop k) (es := es) (i := 0)
  rw [List.take_append_drop] at e
  rw [e]
  exact ⟨by simp, by simp⟩
theorem FnEventsOf_is (t : Bool) (b : List Int) (hb : Byt b) : Is prog fid_laws_FnEventsOf [.s t 1 (encB b)] (.b true) := by
  refine MCall.run mixed get_laws_FnEventsOf ok_laws_FnEventsOf (Nat.le_of_ble_eq_true rfl) (by decide) ?_
  unfold mc_laws_FnEventsOf
  simp (config := { maxSteps := 10000000, implicitDefEqProofs := false }) only [go_sem, ↓reduceIte, Nat.reduceAdd, Nat.reduceMul, Nat.reduceEqDiff, Nat.reduceSub, Nat.reduceLT, reduceCtorEq, Nat.reduceLeDiff, Nat.reduceBEq, mwp_draw]
  refine fun hlen => callK_any (DrawEventsOf_is _ b hb) ?_
  rintro o r ⟨rfl, n, es, ts, rfl, w3, w4, w5, w6⟩
  simp (config := { maxSteps := 10000000, implicitDefEqProofs := false }) only [go_sem, ↓reduceIte, Nat.reduceAdd, Nat.reduceMul, Nat.reduceEqDiff, Nat.reduceSub, Nat.reduceLT, reduceCtorEq, Nat.reduceLeDiff, Nat.reduceBEq, mwp_draw]
  have le := evV_len (n := n) (es := es) (ts := ts)
  refine callK_is (EventsOf_is _ _ n es ts (by omega) (by omega)) ?_
  simp (config := { maxSteps := 10000000, implicitDefEqProofs := false }) only [go_sem, ↓reduceIte, Nat.reduceAdd, Nat.reduceMul, Nat.reduceEqDiff, Nat.reduceSub, Nat.reduceLT, reduceCtorEq, Nat.reduceLeDiff, Nat.reduceBEq, mwp_draw]
  refine callK_is (EventsOfS_is _ _ n es ts (by omega) (by omega)) ?_
  simp (config := { maxSteps := 10000000, implicitDefEqProofs := false }) only [go_sem, ↓reduceIte, Nat.reduceAdd, Nat.reduceMul, Nat.reduceEqDiff, Nat.reduceSub, Nat.reduceLT, reduceCtorEq, Nat.reduceLeDiff, Nat.reduceBEq, mwp_draw]
  refine callK_is (dyEvents_is _ _ (evV n es ts) (evV n es ts) (by omega)) ?_
  cases ho : runB n es ts
  · simp (config := { maxSteps := 10000000, implicitDefEqProofs := false }) only [go_sem, ↓reduceIte, Nat.reduceAdd, Nat.reduceMul, Nat.reduceEqDiff, Nat.reduceSub, Nat.reduceLT, reduceCtorEq, Nat.reduceLeDiff, Nat.reduceBEq, mwp_draw]
    refine callK_is (dyEvents_is _ _ (evV n es ts) (evV n es ts) (by omega)) ?_
    simp (config := { maxSteps := 10000000, implicitDefEqProofs := false }) only [go_sem, ↓reduceIte, Nat.reduceAdd, Nat.reduceMul, Nat.reduceEqDiff, Nat.reduceSub, Nat.reduceLT, reduceCtorEq, Nat.reduceLeDiff, Nat.reduceBEq, mwp_draw]
  · obtain ⟨h1, h2, h3, h4⟩ := runB_get ho
    have hs := rp_evs (i := 0) brL_ok h1 h3
    have hb1 := brL_ok es h1
    have hb2 := brL_ok _ h4
    rw [← evV_yes ho] at hs
    have l0 := runE_len (n := n) (es := es) (ts := ts)
    have e0 : brV n es = brL n es := by simp [brV, h1]
    have e1 : runE n es ts = trG n es ts := by simp [runE, ho]
    have e2 : rnN n es ts = n := by simp [rnN, ho]
    have e3 : brV n (trG n es ts) = brL n (trG n es ts) := by simp [brV, h4]
    simp (config := { maxSteps := 10000000, implicitDefEqProofs := false }) only [go_sem, ↓reduceIte, Nat.reduceAdd, Nat.reduceMul, Nat.reduceEqDiff, Nat.reduceSub, Nat.reduceLT, reduceCtorEq, Nat.reduceLeDiff, Nat.reduceBEq, mwp_draw]
    refine callK_is (RunTurns_is _ _ n es ts (by omega) (by omega)) ?_
    rw [ho, e1, e2]
    rw [e1] at l0
    simp (config := { maxSteps := 10000000, implicitDefEqProofs := false }) only [go_sem, ↓reduceIte, Nat.reduceAdd, Nat.reduceMul, Nat.reduceEqDiff, Nat.reduceSub, Nat.reduceLT, reduceCtorEq, Nat.reduceLeDiff, Nat.reduceBEq, mwp_draw]
    refine callK_is (BridgesOf_is _ n es (by omega)) ?_
    rw [e0]
    simp (config := { maxSteps := 10000000, implicitDefEqProofs := false }) only [go_sem, ↓reduceIte, Nat.reduceAdd, Nat.reduceMul, Nat.reduceEqDiff, Nat.reduceSub, Nat.reduceLT, reduceCtorEq, Nat.reduceLeDiff, Nat.reduceBEq, mwp_draw]
    refine callK_is (ReplayEvents_is _ _ (brL n es) (evV n es ts) (by omega) (by omega)) ?_
    rw [replay_yes hb1.2 hb1.1, hs.1]
    simp (config := { maxSteps := 10000000, implicitDefEqProofs := false }) only [go_sem, ↓reduceIte, Nat.reduceAdd, Nat.reduceMul, Nat.reduceEqDiff, Nat.reduceSub, Nat.reduceLT, reduceCtorEq, Nat.reduceLeDiff, Nat.reduceBEq, mwp_draw]
    refine callK_is (BridgesOf_is _ n (trG n es ts) (by omega)) ?_
    rw [e3]
    simp (config := { maxSteps := 10000000, implicitDefEqProofs := false }) only [go_sem, ↓reduceIte, Nat.reduceAdd, Nat.reduceMul, Nat.reduceEqDiff, Nat.reduceSub, Nat.reduceLT, reduceCtorEq, Nat.reduceLeDiff, Nat.reduceBEq, mwp_draw]
    refine callK_is (dyEdges_is _ _ (brL n (trG n es ts)) (brL n (trG n es ts)) (by omega)) ?_
    simp (config := { maxSteps := 10000000, implicitDefEqProofs := false }) only [go_sem, ↓reduceIte, Nat.reduceAdd, Nat.reduceMul, Nat.reduceEqDiff, Nat.reduceSub, Nat.reduceLT, reduceCtorEq, Nat.reduceLeDiff, Nat.reduceBEq, mwp_draw]
theorem FnEventsOf_row (m : List (List D)) (h : ∀ r ∈ m, rowOK [.i .u8] r) (_ : m.length ≤ maxLen) : Is prog fid_laws_FnEventsOf [.s false 1 m] (.b true) := by
  obtain ⟨b, rfl, hb⟩ := rows_bytes h
  exact FnEventsOf_is _ b hb
theorem FnEventsPart_is (t : Bool) (b : List Int) (hb : Byt b) : Is prog fid_laws_FnEventsPart [.s t 1 (encB b)] (.b true) := by
  refine MCall.run mixed get_laws_FnEventsPart ok_laws_FnEventsPart (Nat.le_of_ble_eq_true rfl) (by decide) ?_
  unfold mc_laws_FnEventsPart
  simp (config := { maxSteps := 10000000, implicitDefEqProofs := false }) only [go_sem, ↓reduceIte, Nat.reduceAdd, Nat.reduceMul, Nat.reduceEqDiff, Nat.reduceSub, Nat.reduceLT, reduceCtorEq, Nat.reduceLeDiff, Nat.reduceBEq, mwp_draw]
  refine fun hlen => callK_any (DrawEventsOf_is _ b hb) ?_
  rintro o r ⟨rfl, n, es, ts, rfl, w3, w4, w5, w6⟩
  simp (config := { maxSteps := 10000000, implicitDefEqProofs := false }) only [go_sem, ↓reduceIte, Nat.reduceAdd, Nat.reduceMul, Nat.reduceEqDiff, Nat.reduceSub, Nat.reduceLT, reduceCtorEq, Nat.reduceLeDiff, Nat.reduceBEq, mwp_draw]
  have le := evV_len (n := n) (es := es) (ts := ts)
  refine callK_is (EventsOf_is _ _ n es ts (by omega) (by omega)) ?_
  simp (config := { maxSteps := 10000000, implicitDefEqProofs := false }) only [go_sem, ↓reduceIte, Nat.reduceAdd, Nat.reduceMul, Nat.reduceEqDiff, Nat.reduceSub, Nat.reduceLT, reduceCtorEq, Nat.reduceLeDiff, Nat.reduceBEq, mwp_draw]
  refine callK_is (EventsOfS_is _ _ n es ts (by omega) (by omega)) ?_
  simp (config := { maxSteps := 10000000, implicitDefEqProofs := false }) only [go_sem, ↓reduceIte, Nat.reduceAdd, Nat.reduceMul, Nat.reduceEqDiff, Nat.reduceSub, Nat.reduceLT, reduceCtorEq, Nat.reduceLeDiff, Nat.reduceBEq, mwp_draw]
  refine callK_is (dyEvents_is _ _ (evV n es ts) (evV n es ts) (by omega)) ?_
  cases ho : runB n es ts
  · simp (config := { maxSteps := 10000000, implicitDefEqProofs := false }) only [go_sem, ↓reduceIte, Nat.reduceAdd, Nat.reduceMul, Nat.reduceEqDiff, Nat.reduceSub, Nat.reduceLT, reduceCtorEq, Nat.reduceLeDiff, Nat.reduceBEq, mwp_draw]
    refine callK_is (dyEvents_is _ _ (evV n es ts) (evV n es ts) (by omega)) ?_
    simp (config := { maxSteps := 10000000, implicitDefEqProofs := false }) only [go_sem, ↓reduceIte, Nat.reduceAdd, Nat.reduceMul, Nat.reduceEqDiff, Nat.reduceSub, Nat.reduceLT, reduceCtorEq, Nat.reduceLeDiff, Nat.reduceBEq, mwp_draw]
  · have hh := tdiv_half ts.length
    obtain ⟨k, hk⟩ : ∃ k : Nat, (ts.length : Int).tdiv 2 = (k : Int) := ⟨_, (Int.toNat_of_nonneg hh.1).symm⟩
    rw [hk] at hh
    have hk2 : (k ≤ ts.length) = True := eq_true (by omega)
    have hkl : (ts.take k).length = k := by simp; omega
    have p1 := runB_take ho k
    obtain ⟨p2, p3⟩ := evV_take ho k
    have p4 : ((evV n es (ts.take k)).length ≤ (evV n es ts).length) = True := eq_true p2
    have p5 : (((evV n es (ts.take k)).length : Int) ≤ (evV n es ts).length) = True := eq_true (by omega)
    have le2 := evV_len (n := n) (es := es) (ts := ts.take k)
    simp (config := { maxSteps := 10000000, implicitDefEqProofs := false }) only [go_sem, ↓reduceIte, Nat.reduceAdd, Nat.reduceMul, Nat.reduceEqDiff, Nat.reduceSub, Nat.reduceLT, reduceCtorEq, Nat.reduceLeDiff, Nat.reduceBEq, mwp_draw, hk, hk2]
    repeat (refine ⟨by first | omega | decide | exact fits64 (by omega) (by omega) | kernel_rfl | (intros; omega), ?_⟩)
    refine callK_is (EventsOf_is _ _ n es (ts.take k) (by omega) (by omega)) ?_
    rw [p1]
    simp (config := { maxSteps := 10000000, implicitDefEqProofs := false }) only [go_sem, ↓reduceIte, Nat.reduceAdd, Nat.reduceMul, Nat.reduceEqDiff, Nat.reduceSub, Nat.reduceLT, reduceCtorEq, Nat.reduceLeDiff, Nat.reduceBEq, mwp_draw, hk, hk2, p3, p4, p5]
    repeat (refine ⟨by first | omega | decide | exact fits64 (by omega) (by omega) | kernel_rfl | (intros; omega), ?_⟩)
    refine callK_is (dyEvents_is _ _ (evV n es (ts.take k)) (evV n es (ts.take k)) (by omega)) ?_
    simp (config := { maxSteps := 10000000, implicitDefEqProofs := false }) only [go_sem, ↓reduceIte, Nat.reduceAdd, Nat.reduceMul, Nat.reduceEqDiff, Nat.reduceSub, Nat.reduceLT, reduceCtorEq, Nat.reduceLeDiff, Nat.reduceBEq, mwp_draw]
theorem FnEventsPart_row (m : List (List D)) (h : ∀ r ∈ m, rowOK [.i .u8] r) (_ : m.length ≤ maxLen) : Is prog fid_laws_FnEventsPart [.s false 1 m] (.b true) := by
  obtain ⟨b, rfl, hb⟩ := rows_bytes h
  exact FnEventsPart_is _ b hb
theorem FnEventsOrder_is (t : Bool) (b : List Int) (hb : Byt b) : Is prog fid_laws_FnEventsOrder [.s t 1 (encB b)] (.b true) := by
  refine MCall.run mixed get_laws_FnEventsOrder ok_laws_FnEventsOrder (Nat.le_of_ble_eq_true rfl) (by decide) ?_
  unfold mc_laws_FnEventsOrder
  simp (config := { maxSteps := 10000000, implicitDefEqProofs := false }) only [go_sem, ↓reduceIte, Nat.reduceAdd, Nat.reduceMul, Nat.reduceEqDiff, Nat.reduceSub, Nat.reduceLT, reduceCtorEq, Nat.reduceLeDiff, Nat.reduceBEq, mwp_draw]
  refine fun hlen => callK_any (DrawEventsOf_is _ b hb) ?_
  rintro o r ⟨rfl, n, es, ts, rfl, w3, w4, w5, w6⟩
  simp (config := { maxSteps := 10000000, implicitDefEqProofs := false }) only [go_sem, ↓reduceIte, Nat.reduceAdd, Nat.reduceMul, Nat.reduceEqDiff, Nat.reduceSub, Nat.reduceLT, reduceCtorEq, Nat.reduceLeDiff, Nat.reduceBEq, mwp_draw]
  have le := evV_len (n := n) (es := es) (ts := ts)
  refine callK_is (EventsOf_is _ _ n es ts (by omega) (by omega)) ?_
  simp (config := { maxSteps := 10000000, implicitDefEqProofs := false }) only [go_sem, ↓reduceIte, Nat.reduceAdd, Nat.reduceMul, Nat.reduceEqDiff, Nat.reduceSub, Nat.reduceLT, reduceCtorEq, Nat.reduceLeDiff, Nat.reduceBEq, mwp_draw]
  refine callK_is (EventsOfS_is _ _ n es ts (by omega) (by omega)) ?_
  simp (config := { maxSteps := 10000000, implicitDefEqProofs := false }) only [go_sem, ↓reduceIte, Nat.reduceAdd, Nat.reduceMul, Nat.reduceEqDiff, Nat.reduceSub, Nat.reduceLT, reduceCtorEq, Nat.reduceLeDiff, Nat.reduceBEq, mwp_draw]
  refine callK_is (dyEvents_is _ _ (evV n es ts) (evV n es ts) (by omega)) ?_
  cases ho : runB n es ts
  · simp (config := { maxSteps := 10000000, implicitDefEqProofs := false }) only [go_sem, ↓reduceIte, Nat.reduceAdd, Nat.reduceMul, Nat.reduceEqDiff, Nat.reduceSub, Nat.reduceLT, reduceCtorEq, Nat.reduceLeDiff, Nat.reduceBEq, mwp_draw]
    refine callK_is (dyEvents_is _ _ (evV n es ts) (evV n es ts) (by omega)) ?_
    simp (config := { maxSteps := 10000000, implicitDefEqProofs := false }) only [go_sem, ↓reduceIte, Nat.reduceAdd, Nat.reduceMul, Nat.reduceEqDiff, Nat.reduceSub, Nat.reduceLT, reduceCtorEq, Nat.reduceLeDiff, Nat.reduceBEq, mwp_draw]
  · obtain ⟨h1, h2, h3, h4⟩ := runB_get ho
    have hp : (evV n es ts).Pairwise EvP := by rw [evV_yes ho]; exact evs_pair brL_ok h1 h3
    have ht : ∀ x ∈ evV n es ts, (0 : Int) ≤ x.1 ∧ x.1 < ts.length := fun x hx => by
      rw [evV_yes ho] at hx
      have := evs_turn hx
      simpa using this
    simp (config := { maxSteps := 10000000, implicitDefEqProofs := false }) only [go_sem, ↓reduceIte, Nat.reduceAdd, Nat.reduceMul, Nat.reduceEqDiff, Nat.reduceSub, Nat.reduceLT, reduceCtorEq, Nat.reduceLeDiff, Nat.reduceBEq, mwp_draw]
    refine mwp_loopk (X := Nat) (fun i => ⟨[(4, .sr 0 0 ts.length), (5, .sr 1 0 (evV n es ts).length), (9, .i .i64 i)], [(0, .arr true 2 (encE ts)), (1, .arr true 4 (encV (evV n es ts)))], 2⟩) (fun i => i ≤ (evV n es ts).length) (fun i => (evV n es ts).length - i) 0 rfl (by simp) ?_
    rintro i h1 K kN kE kR
    by_cases hil : i < (evV n es ts).length
    · obtain ⟨x, hx⟩ : ∃ x, (evV n es ts)[i]? = some x := ⟨_, List.getElem?_eq_getElem hil⟩
      have hxt := ht x (List.mem_of_getElem? hx)
      have c1 : ((i : Int) < (evV n es ts).length) = True := eq_true (by omega)
      have c2 : (i < (evV n es ts).length) = True := eq_true hil
      have c3 : (x.1 < 0) = False := eq_false (by omega)
      have c4 : ((ts.length : Int) ≤ x.1) = False := eq_false (by omega)
      have gx : ∀ P : V3 → Prop, (∀ z, (evV n es ts)[i]? = some z → P z) ↔ P x := fun P => ⟨fun h => h x hx, fun h z hz => by rw [hx] at hz; cases hz; exact h⟩
      have inner : ∀ Q : Prop, Q → Q := fun _ q => q
      by_cases hi0 : i = 0
      · have c0 : ((0 : Int) < (i : Int)) = False := eq_false (by omega)
        simp (config := { maxSteps := 10000000, implicitDefEqProofs := false }) only [go_sem, ↓reduceIte, Nat.reduceAdd, Nat.reduceMul, Nat.reduceEqDiff, Nat.reduceSub, Nat.reduceLT, reduceCtorEq, Nat.reduceLeDiff, Nat.reduceBEq, mwp_draw, c0, c1, c2, c3, c4, ↓gx]
        repeat (refine ⟨by first | omega | decide | exact fits64 (by omega) (by omega) | kernel_rfl | (intros; omega), ?_⟩)
        refine mwp_loopk (X := Nat) (fun k => ⟨[(4, .sr 0 0 ts.length), (5, .sr 1 0 (evV n es ts).length), (9, .i .i64 i), (10, .i .i64 k)], [(0, .arr true 2 (encE ts)), (1, .arr true 4 (encV (evV n es ts)))], 2⟩) (fun k => k ≤ i) (fun k => i - k) 0 rfl (by simp) ?_
        rintro k h5 K2 kN2 kE2 kR2
        by_cases hk : k < i
        · obtain ⟨y, hy⟩ : ∃ y, (evV n es ts)[k]? = some y := ⟨_, List.getElem?_eq_getElem (by omega)⟩
          have gy : ∀ P : V3 → Prop, (∀ z, (evV n es ts)[k]? = some z → P z) ↔ P y := fun P => ⟨fun h => h y hy, fun h z hz => by rw [hy] at hz; cases hz; exact h⟩
          have d0 : ((k : Int) < (i : Int)) = True := eq_true (by omega)
          have d1 : ((k : Int) < (evV n es ts).length) = True := eq_true (by omega)
          have d2 : (k < (evV n es ts).length) = True := eq_true (by omega)
          have ev := (pair_at hp hk hy hx).2
          by_cases q : y.1 = x.1
          · have q1 : (y.1 = x.1) = True := eq_true q
            have q2 : ¬ y.2.1 = x.2.1 := fun w => ev ⟨q, w⟩
            simp (config := { maxSteps := 10000000, implicitDefEqProofs := false }) only [go_sem, ↓reduceIte, Nat.reduceAdd, Nat.reduceMul, Nat.reduceEqDiff, Nat.reduceSub, Nat.reduceLT, reduceCtorEq, Nat.reduceLeDiff, Nat.reduceBEq, mwp_draw, d0, d1, d2, c1, c2, ↓gx, ↓gy, q1]
            repeat (refine ⟨by first | omega | decide | exact fits64 (by omega) (by omega) | kernel_rfl | (intros; omega), ?_⟩)
            first
              | exact fun h6 => ⟨fits64 (by omega) (by omega), kN2 _ (k + 1) (by rfl) (by omega) (by omega)⟩
              | exact ⟨fun h6 => absurd h6 q2, fun h6 => ⟨fits64 (by omega) (by omega), kN2 _ (k + 1) (by rfl) (by omega) (by omega)⟩⟩
          · have q1 : (y.1 = x.1) = False := eq_false q
            simp (config := { maxSteps := 10000000, implicitDefEqProofs := false }) only [go_sem, ↓reduceIte, Nat.reduceAdd, Nat.reduceMul, Nat.reduceEqDiff, Nat.reduceSub, Nat.reduceLT, reduceCtorEq, Nat.reduceLeDiff, Nat.reduceBEq, mwp_draw, d0, d1, d2, c1, c2, ↓gx, ↓gy, q1]
            repeat (refine ⟨by first | omega | decide | exact fits64 (by omega) (by omega) | kernel_rfl | (intros; omega), ?_⟩)
            exact kN2 _ (k + 1) (by rfl) (by omega) (by omega)
        · have d0 : ((k : Int) < (i : Int)) = False := eq_false (by omega)
          simp (config := { maxSteps := 10000000, implicitDefEqProofs := false }) only [go_sem, ↓reduceIte, Nat.reduceAdd, Nat.reduceMul, Nat.reduceEqDiff, Nat.reduceSub, Nat.reduceLT, reduceCtorEq, Nat.reduceLeDiff, Nat.reduceBEq, mwp_draw, d0]
          repeat (refine ⟨by first | omega | decide | exact fits64 (by omega) (by omega) | kernel_rfl | (intros; omega), ?_⟩)
          refine kE2 _ _ ?_
          simp (config := { maxSteps := 10000000, implicitDefEqProofs := false }) only [go_sem, ↓reduceIte, Nat.reduceAdd, Nat.reduceMul, Nat.reduceEqDiff, Nat.reduceSub, Nat.reduceLT, reduceCtorEq, Nat.reduceLeDiff, Nat.reduceBEq, mwp_draw]
          repeat (refine ⟨by first | omega | decide | exact fits64 (by omega) (by omega) | kernel_rfl | (intros; omega), ?_⟩)
          exact kN _ (i + 1) (by rfl) (by omega) (by omega)
      · have c0 : ((0 : Int) < (i : Int)) = True := eq_true (by omega)
        obtain ⟨w, hw⟩ : ∃ w, (evV n es ts)[((i : Int) - 1).toNat]? = some w := ⟨_, List.getElem?_eq_getElem (by omega)⟩
        have gw : ∀ P : V3 → Prop, (∀ z, (evV n es ts)[((i : Int) - 1).toNat]? = some z → P z) ↔ P w := fun P => ⟨fun h => h w hw, fun h z hz => by rw [hw] at hz; cases hz; exact h⟩
        have c5 : (x.1 < w.1) = False := eq_false (by have := (pair_at hp (i := ((i : Int) - 1).toNat) (j := i) (by omega) hw hx).1; omega)
        have c6 : (0 ≤ (i : Int) - 1) = True := eq_true (by omega)
        have c7 : ((i : Int) - 1 < (evV n es ts).length) = True := eq_true (by omega)
        have c8 : (((i : Int) - 1).toNat < (evV n es ts).length) = True := eq_true (by omega)
        have c9 : Fits .i64 ((i : Int) - 1) = True := eq_true (fits64 (by omega) (by omega))
        simp (config := { maxSteps := 10000000, implicitDefEqProofs := false }) only [go_sem, ↓reduceIte, Nat.reduceAdd, Nat.reduceMul, Nat.reduceEqDiff, Nat.reduceSub, Nat.reduceLT, reduceCtorEq, Nat.reduceLeDiff, Nat.reduceBEq, mwp_draw, c0, c1, c2, c3, c4, c5, c6, c7, c8, c9, ↓gx, ↓gw]
        repeat (refine ⟨by first | omega | decide | exact fits64 (by omega) (by omega) | kernel_rfl | (intros; omega), ?_⟩)
        refine mwp_loopk (X := Nat) (fun k => ⟨[(4, .sr 0 0 ts.length), (5, .sr 1 0 (evV n es ts).length), (9, .i .i64 i), (10, .i .i64 k)], [(0, .arr true 2 (encE ts)), (1, .arr true 4 (encV (evV n es ts)))], 2⟩) (fun k => k ≤ i) (fun k => i - k) 0 rfl (by simp) ?_
        rintro k h5 K2 kN2 kE2 kR2
        by_cases hk : k < i
        · obtain ⟨y, hy⟩ : ∃ y, (evV n es ts)[k]? = some y := ⟨_, List.getElem?_eq_getElem (by omega)⟩
          have gy : ∀ P : V3 → Prop, (∀ z, (evV n es ts)[k]? = some z → P z) ↔ P y := fun P => ⟨fun h => h y hy, fun h z hz => by rw [hy] at hz; cases hz; exact h⟩
          have d0 : ((k : Int) < (i : Int)) = True := eq_true (by omega)
          have d1 : ((k : Int) < (evV n es ts).length) = True := eq_true (by omega)
          have d2 : (k < (evV n es ts).length) = True := eq_true (by omega)
          have ev := (pair_at hp hk hy hx).2
          by_cases q : y.1 = x.1
          · have q1 : (y.1 = x.1) = True := eq_true q
            have q2 : ¬ y.2.1 = x.2.1 := fun w => ev ⟨q, w⟩
            simp (config := { maxSteps := 10000000, implicitDefEqProofs := false }) only [go_sem, ↓reduceIte, Nat.reduceAdd, Nat.reduceMul, Nat.reduceEqDiff, Nat.reduceSub, Nat.reduceLT, reduceCtorEq, Nat.reduceLeDiff, Nat.reduceBEq, mwp_draw, d0, d1, d2, c1, c2, ↓gx, ↓gy, q1]
            repeat (refine ⟨by first | omega | decide | exact fits64 (by omega) (by omega) | kernel_rfl | (intros; omega), ?_⟩)
            first
              | exact fun h6 => ⟨fits64 (by omega) (by omega), kN2 _ (k + 1) (by rfl) (by omega) (by omega)⟩
              | exact ⟨fun h6 => absurd h6 q2, fun h6 => ⟨fits64 (by omega) (by omega), kN2 _ (k + 1) (by rfl) (by omega) (by omega)⟩⟩
          · have q1 : (y.1 = x.1) = False := eq_false q
            simp (config := { maxSteps := 10000000, implicitDefEqProofs := false }) only [go_sem, ↓reduceIte, Nat.reduceAdd, Nat.reduceMul, Nat.reduceEqDiff, Nat.reduceSub, Nat.reduceLT, reduceCtorEq, Nat.reduceLeDiff, Nat.reduceBEq, mwp_draw, d0, d1, d2, c1, c2, ↓gx, ↓gy, q1]
            repeat (refine ⟨by first | omega | decide | exact fits64 (by omega) (by omega) | kernel_rfl | (intros; omega), ?_⟩)
            exact kN2 _ (k + 1) (by rfl) (by omega) (by omega)
        · have d0 : ((k : Int) < (i : Int)) = False := eq_false (by omega)
          simp (config := { maxSteps := 10000000, implicitDefEqProofs := false }) only [go_sem, ↓reduceIte, Nat.reduceAdd, Nat.reduceMul, Nat.reduceEqDiff, Nat.reduceSub, Nat.reduceLT, reduceCtorEq, Nat.reduceLeDiff, Nat.reduceBEq, mwp_draw, d0]
          repeat (refine ⟨by first | omega | decide | exact fits64 (by omega) (by omega) | kernel_rfl | (intros; omega), ?_⟩)
          refine kE2 _ _ ?_
          simp (config := { maxSteps := 10000000, implicitDefEqProofs := false }) only [go_sem, ↓reduceIte, Nat.reduceAdd, Nat.reduceMul, Nat.reduceEqDiff, Nat.reduceSub, Nat.reduceLT, reduceCtorEq, Nat.reduceLeDiff, Nat.reduceBEq, mwp_draw]
          repeat (refine ⟨by first | omega | decide | exact fits64 (by omega) (by omega) | kernel_rfl | (intros; omega), ?_⟩)
          exact kN _ (i + 1) (by rfl) (by omega) (by omega)
    · have c1 : ((i : Int) < (evV n es ts).length) = False := eq_false (by omega)
      simp (config := { maxSteps := 10000000, implicitDefEqProofs := false }) only [go_sem, ↓reduceIte, Nat.reduceAdd, Nat.reduceMul, Nat.reduceEqDiff, Nat.reduceSub, Nat.reduceLT, reduceCtorEq, Nat.reduceLeDiff, Nat.reduceBEq, mwp_draw, c1]
      repeat (refine ⟨by first | omega | decide | exact fits64 (by omega) (by omega) | kernel_rfl | (intros; omega), ?_⟩)
      refine kE _ _ ?_
      simp (config := { maxSteps := 10000000, implicitDefEqProofs := false }) only [go_sem, ↓reduceIte, Nat.reduceAdd, Nat.reduceMul, Nat.reduceEqDiff, Nat.reduceSub, Nat.reduceLT, reduceCtorEq, Nat.reduceLeDiff, Nat.reduceBEq, mwp_draw]
theorem FnEventsOrder_row (m : List (List D)) (h : ∀ r ∈ m, rowOK [.i .u8] r) (_ : m.length ≤ maxLen) : Is prog fid_laws_FnEventsOrder [.s false 1 m] (.b true) := by
  obtain ⟨b, rfl, hb⟩ := rows_bytes h
  exact FnEventsOrder_is _ b hb
end Go.Fw
