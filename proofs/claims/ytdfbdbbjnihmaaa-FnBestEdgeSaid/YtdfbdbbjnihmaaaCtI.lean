/-
  Graphs: the bridges that an edge more takes away.
-/
import Derived.Test.YtdfbdbbjnihmaaaCtG5
import Derived.Test.YtdfbdbbjnihmaaaCtG8
import Derived.Test.YtdfbdbbjnihmaaaPlG3
namespace Go.Fw
set_option linter.unusedSimpArgs false
set_option linter.unusedVariables false
set_option maxRecDepth 100000
set_option maxHeartbeats 4000000
open Go.Proofs.Try (prog)
open Go.Pl

/-- Bridges of one graph that are none of another. -/
def onlyP (n : Int) (es : List E) (m : Int) (fs : List E) (e : E) : Bool := brB n es e && !(decide (e ∈ fs) && brB m fs e)
theorem only1_is (t t' : Bool) (n : Int) (es : List E) (m : Int) (fs : List E) (e : E) (hg : GE n es) (hg' : GE m fs) (he : EIn n e) :
    Is prog fid_impl_bridgesOnly_1 [Ed1 e, .pd t [.i .i64 n, .a 2 (encE es)] 0, .pd t' [.i .i64 m, .a 2 (encE fs)] 0] (.b (onlyP n es m fs e)) := by
  refine MCall.run mixed get_impl_bridgesOnly_1 ok_impl_bridgesOnly_1 (Nat.le_of_ble_eq_true rfl) (by decide) ?_
  unfold mc_impl_bridgesOnly_1
  simp (config := { maxSteps := 10000000, implicitDefEqProofs := false }) only [go_sem, ↓reduceIte, Nat.reduceAdd, Nat.reduceMul, Nat.reduceEqDiff, Nat.reduceSub, Nat.reduceLT, reduceCtorEq, Nat.reduceLeDiff, Nat.reduceBEq, mwp_draw]
  refine callK_is (isBridge_is _ n es e hg he) ?_
  cases h : brB n es e
  · simp (config := { maxSteps := 10000000, implicitDefEqProofs := false }) only [go_sem, ↓reduceIte, Nat.reduceAdd, Nat.reduceMul, Nat.reduceEqDiff, Nat.reduceSub, Nat.reduceLT, reduceCtorEq, Nat.reduceLeDiff, Nat.reduceBEq, mwp_draw]
    exact mvb (by simp [onlyP, h])
  · simp (config := { maxSteps := 10000000, implicitDefEqProofs := false }) only [go_sem, ↓reduceIte, Nat.reduceAdd, Nat.reduceMul, Nat.reduceEqDiff, Nat.reduceSub, Nat.reduceLT, reduceCtorEq, Nat.reduceLeDiff, Nat.reduceBEq, mwp_draw]
    refine callK_is (has_is _ m fs e hg'.2.2.1) ?_
    by_cases h2 : e ∈ fs
    · simp (config := { maxSteps := 10000000, implicitDefEqProofs := false }) only [go_sem, ↓reduceIte, Nat.reduceAdd, Nat.reduceMul, Nat.reduceEqDiff, Nat.reduceSub, Nat.reduceLT, reduceCtorEq, Nat.reduceLeDiff, Nat.reduceBEq, mwp_draw, h2]
      refine callK_is (isBridge_is _ m fs e hg' (hg'.2.2.2 e h2)) ?_
      cases h3 : brB m fs e
      · simp (config := { maxSteps := 10000000, implicitDefEqProofs := false }) only [go_sem, ↓reduceIte, Nat.reduceAdd, Nat.reduceMul, Nat.reduceEqDiff, Nat.reduceSub, Nat.reduceLT, reduceCtorEq, Nat.reduceLeDiff, Nat.reduceBEq, mwp_draw]
        exact mvb (by simp [onlyP, h, h2, h3])
      · simp (config := { maxSteps := 10000000, implicitDefEqProofs := false }) only [go_sem, ↓reduceIte, Nat.reduceAdd, Nat.reduceMul, Nat.reduceEqDiff, Nat.reduceSub, Nat.reduceLT, reduceCtorEq, Nat.reduceLeDiff, Nat.reduceBEq, mwp_draw]
        exact mvb (by simp [onlyP, h, h2, h3])
    · simp (config := { maxSteps := 10000000, implicitDefEqProofs := false }) only [go_sem, ↓reduceIte, Nat.reduceAdd, Nat.reduceMul, Nat.reduceEqDiff, Nat.reduceSub, Nat.reduceLT, reduceCtorEq, Nat.reduceLeDiff, Nat.reduceBEq, mwp_draw, h2]
      exact mvb (by simp [onlyP, h, h2])
theorem bridgesOnly_is (t t' : Bool) (n : Int) (es : List E) (m : Int) (fs : List E) (hg : GE n es) (hg' : GE m fs) :
    Is prog fid_impl_bridgesOnly [Gr t n es, Gr t' m fs] (.ow true 2 (encE (es.filter (onlyP n es m fs)))) := by
  refine MCall.run mixed get_impl_bridgesOnly ok_impl_bridgesOnly (Nat.le_of_ble_eq_true rfl) (by decide) ?_
  unfold mc_impl_bridgesOnly
  simp (config := { maxSteps := 10000000, implicitDefEqProofs := false }) only [go_sem, ↓reduceIte, Nat.reduceAdd, Nat.reduceMul, Nat.reduceEqDiff, Nat.reduceSub, Nat.reduceLT, reduceCtorEq, Nat.reduceLeDiff, Nat.reduceBEq, mwp_draw]
  refine ⟨tdm es, tst (onlyP n es m fs), fnOk_tst rfl rfl ⟨_, get_impl_bridgesOnly_1, by kernel_rfl, by kernel_rfl⟩ (fun e he => only1_is _ _ n es m fs e hg hg' (hg.2.2.2 e he)), ?_⟩
  refine callK_is (edgesBy_is _ n es _ _ _ (tests_tst es _) hg.2.2.1) ?_
  simp (config := { maxSteps := 10000000, implicitDefEqProofs := false }) only [go_sem, ↓reduceIte, Nat.reduceAdd, Nat.reduceMul, Nat.reduceEqDiff, Nat.reduceSub, Nat.reduceLT, reduceCtorEq, Nat.reduceLeDiff, Nat.reduceBEq, mwp_draw]
/-- The edges that part two nodes. -/
def btP (n : Int) (es : List E) (x y : Int) (f : E) : Bool := !jn n (es.filter fun d => !decide (d = f)) x y
def btL (n : Int) (es : List E) (x y : Int) : List E := if conB n es x y then es.filter (btP n es x y) else []
theorem conB_get {n : Int} {es : List E} {x y : Int} (h : conB n es x y = true) : GV n es ∧ (0 ≤ x ∧ x < n) ∧ (0 ≤ y ∧ y < n) ∧ jn n es x y = true := by
  simp only [conB, gnB, Bool.and_eq_true, decide_eq_true_eq] at h
  exact ⟨gvB_iff.1 h.1.1.1.1, ⟨h.1.1.1.2, h.1.1.2⟩, ⟨h.1.2.1.2, h.1.2.2⟩, h.2⟩
theorem BridgesBetweenS_is (t : Bool) (n : Int) (es : List E) (x y : Int) (hl : es.length ≤ 1048576) :
    Is prog fid_spec_BridgesBetween [Gr t n es, .i .i64 x, .i .i64 y] (.tup [.ow true 2 (encE (btL n es x y)), .b (conB n es x y)]) := by
  refine MCall.run mixed get_spec_BridgesBetween ok_spec_BridgesBetween (Nat.le_of_ble_eq_true rfl) (by decide) ?_
  unfold mc_spec_BridgesBetween
  simp (config := { maxSteps := 10000000, implicitDefEqProofs := false }) only [go_sem, ↓reduceIte, Nat.reduceAdd, Nat.reduceMul, Nat.reduceEqDiff, Nat.reduceSub, Nat.reduceLT, reduceCtorEq, Nat.reduceLeDiff, Nat.reduceBEq, mwp_draw]
  refine callK_is (ConnectedS_is _ n es x y hl) ?_
  cases h : conB n es x y
  · simp (config := { maxSteps := 10000000, implicitDefEqProofs := false }) only [go_sem, ↓reduceIte, Nat.reduceAdd, Nat.reduceMul, Nat.reduceEqDiff, Nat.reduceSub, Nat.reduceLT, reduceCtorEq, Nat.reduceLeDiff, Nat.reduceBEq, mwp_draw]
    simp [btL, h, encE]
  · obtain ⟨hv, hx, hy, _⟩ := conB_get h
    have hg := GE_of hv
    simp (config := { maxSteps := 10000000, implicitDefEqProofs := false }) only [go_sem, ↓reduceIte, Nat.reduceAdd, Nat.reduceMul, Nat.reduceEqDiff, Nat.reduceSub, Nat.reduceLT, reduceCtorEq, Nat.reduceLeDiff, Nat.reduceBEq, mwp_draw]
    refine mwp_loopk (X := Nat × List E) (fun z => ⟨[(1, .i .i64 x), (2, .i .i64 y), (3, .pr 0 0 0), (8, .sr 1 0 z.2.length), (9, .i .i64 z.1)], [(0, .box [.i .i64 n, .s t 2 (encE es)]), (1, .arr true 2 (encE z.2))], 2⟩)
      (fun z => z.1 ≤ es.length ∧ z.2 = (es.take z.1).filter (btP n es x y)) (fun z => es.length - z.1) (0, []) (by rfl) (by simp) ?_
    rintro ⟨i, out⟩ ⟨h1, h2⟩ K kN kE kR
    simp only at h1 h2
    have hb : out.length ≤ es.length := by rw [h2]; exact Nat.le_trans (List.length_filter_le _ _) (by simp; omega)
    simp (config := { maxSteps := 10000000, implicitDefEqProofs := false }) only [go_sem, ↓reduceIte, Nat.reduceAdd, Nat.reduceMul, Nat.reduceEqDiff, Nat.reduceSub, Nat.reduceLT, reduceCtorEq, Nat.reduceLeDiff, Nat.reduceBEq, mwp_draw]
    refine ⟨fun h4 => ⟨by omega, h4, fun e he => ?_⟩, fun h4 => kE _ _ ?_⟩
    · refine callK_is (l1Without_is _ es e hl) ?_
      simp (config := { maxSteps := 10000000, implicitDefEqProofs := false }) only [go_sem, ↓reduceIte, Nat.reduceAdd, Nat.reduceMul, Nat.reduceEqDiff, Nat.reduceSub, Nat.reduceLT, reduceCtorEq, Nat.reduceLeDiff, Nat.reduceBEq, mwp_draw]
      refine callK_is (l2Joined_is _ n _ x y (GE_filter hg _) hx hy) ?_
      cases q : jn n (es.filter fun d => !decide (d = e)) x y
      · simp (config := { maxSteps := 10000000, implicitDefEqProofs := false }) only [go_sem, ↓reduceIte, Nat.reduceAdd, Nat.reduceMul, Nat.reduceEqDiff, Nat.reduceSub, Nat.reduceLT, reduceCtorEq, Nat.reduceLeDiff, Nat.reduceBEq, mwp_draw]
        refine ⟨by kernel_rfl, ?_⟩
        refine ⟨by omega, h4, fun e2 he2 => ⟨by omega, fits64 (by omega) (by omega), ?_⟩⟩
        obtain rfl : e = e2 := by rw [he] at he2; exact Option.some.inj he2
        exact kN _ (i + 1, out ++ [e]) (by simp; rfl) ⟨by simp only; omega, by simp only; rw [h2, filter_snoc he]; simp [btP, q]⟩ (by simp only; omega)
      · simp (config := { maxSteps := 10000000, implicitDefEqProofs := false }) only [go_sem, ↓reduceIte, Nat.reduceAdd, Nat.reduceMul, Nat.reduceEqDiff, Nat.reduceSub, Nat.reduceLT, reduceCtorEq, Nat.reduceLeDiff, Nat.reduceBEq, mwp_draw]
        refine ⟨by kernel_rfl, ?_⟩
        exact ⟨fits64 (by omega) (by omega), kN _ (i + 1, out) (by rfl) ⟨by simp only; omega, by simp only; rw [h2, filter_snoc he]; simp [btP, q]⟩ (by simp only; omega)⟩
    · simp (config := { maxSteps := 10000000, implicitDefEqProofs := false }) only [go_sem, ↓reduceIte, Nat.reduceAdd, Nat.reduceMul, Nat.reduceEqDiff, Nat.reduceSub, Nat.reduceLT, reduceCtorEq, Nat.reduceLeDiff, Nat.reduceBEq, mwp_draw]
      obtain rfl : i = es.length := by omega
      rw [List.take_length] at h2
      simp [h2, btL, h]
/-- The bridges that an edge put in takes away. -/
def lostL (n : Int) (es : List E) (e : E) : List E := if putOK n es e then es.filter (onlyP n es n (putE es e)) else []
theorem lost_eq {n : Int} {es : List E} {e : E} (h : putOK n es e = true) : lostL n es e = if jn n es e.1 e.2 then es.filter (btP n es e.1 e.2) else [] := by
  simp only [putOK, Bool.and_eq_true, Bool.not_eq_true', decide_eq_false_iff_not] at h
  obtain ⟨⟨h1, h2⟩, h3⟩ := h
  have g1 := gvB_iff.1 h1
  have g3 := gvB_iff.1 h3
  have E1 := (GE_of g1).2.2.2
  have E3 := (GE_of g3).2.2.2
  have he : EIn n e := E3 e (mem_putE.2 (.inl rfl))
  unfold EIn at he
  have key : ∀ f ∈ es, onlyP n es n (putE es e) f = (jn n es e.1 e.2 && btP n es e.1 e.2 f) := fun f hf => by
    have hfn := E1 f hf
    unfold EIn at hfn
    have hne : e ≠ f := fun k => h2 (k ▸ hf)
    have Er : ∀ d ∈ es.filter (fun d => !decide (d = f)), EIn n d := fun d hd => E1 d (List.mem_filter.1 hd).1
    have Er' : ∀ d ∈ (putE es e).filter (fun d => !decide (d = f)), EIn n d := fun d hd => E3 d (List.mem_filter.1 hd).1
    have hl := lost_iff (es := es) (r := es.filter (fun d => !decide (d = f))) (r' := (putE es e).filter (fun d => !decide (d = f))) (e := e) (f := f) hf
      (fun d => by simp [List.mem_filter]) (fun d => by
        simp only [List.mem_filter, mem_putE, Bool.not_eq_true', decide_eq_false_iff_not]
        constructor
        · rintro ⟨rfl | a, b⟩
          · exact .inr rfl
          · exact .inl ⟨a, b⟩
        · rintro (⟨a, b⟩ | rfl)
          · exact ⟨.inr a, b⟩
          · exact ⟨.inl rfl, hne⟩)
    have hm : f ∈ putE es e := mem_putE.2 (.inr hf)
    rw [← jn_no Er (by omega) (by omega), ← jn_iff Er' (by omega) (by omega), ← jn_iff E1 (by omega) (by omega), ← jn_no Er (by omega) (by omega)] at hl
    unfold onlyP btP brB
    simp only [hm, decide_true, Bool.true_and]
    rw [Bool.eq_iff_iff]
    simp only [Bool.and_eq_true, Bool.not_eq_true', Bool.not_eq_false']
    simpa using hl
  unfold lostL
  rw [show putOK n es e = true by simp [putOK, h1, h2, h3]]
  simp only [if_true]
  rw [List.filter_congr key]
  cases jn n es e.1 e.2 <;> simp
theorem LostBy_is (t : Bool) (n : Int) (es : List E) (e : E) (hl : es.length ≤ 1048576) :
    Is prog fid_impl_LostBy [Gr t n es, Ed1 e] (.tup [.ow true 2 (encE (lostL n es e)), .b (putOK n es e)]) := by
  refine MCall.run mixed get_impl_LostBy ok_impl_LostBy (Nat.le_of_ble_eq_true rfl) (by decide) ?_
  unfold mc_impl_LostBy
  simp (config := { maxSteps := 10000000, implicitDefEqProofs := false }) only [go_sem, ↓reduceIte, Nat.reduceAdd, Nat.reduceMul, Nat.reduceEqDiff, Nat.reduceSub, Nat.reduceLT, reduceCtorEq, Nat.reduceLeDiff, Nat.reduceBEq, mwp_draw]
  refine callK_is (PutEdge_is _ n es e hl) ?_
  cases h : putOK n es e
  · simp (config := { maxSteps := 10000000, implicitDefEqProofs := false }) only [go_sem, ↓reduceIte, Nat.reduceAdd, Nat.reduceMul, Nat.reduceEqDiff, Nat.reduceSub, Nat.reduceLT, reduceCtorEq, Nat.reduceLeDiff, Nat.reduceBEq, mwp_draw]
    simp [lostL, h, encE]
  · simp (config := { maxSteps := 10000000, implicitDefEqProofs := false }) only [go_sem, ↓reduceIte, Nat.reduceAdd, Nat.reduceMul, Nat.reduceEqDiff, Nat.reduceSub, Nat.reduceLT, reduceCtorEq, Nat.reduceLeDiff, Nat.reduceBEq, mwp_draw]
    have h' := h
    simp only [putOK, Bool.and_eq_true] at h'
    refine callK_is (bridgesOnly_is _ _ n es n (putE es e) (GE_of (gvB_iff.1 h'.1.1)) (GE_of (gvB_iff.1 h'.2))) ?_
    simp (config := { maxSteps := 10000000, implicitDefEqProofs := false }) only [go_sem, ↓reduceIte, Nat.reduceAdd, Nat.reduceMul, Nat.reduceEqDiff, Nat.reduceSub, Nat.reduceLT, reduceCtorEq, Nat.reduceLeDiff, Nat.reduceBEq, mwp_draw]
    simp [lostL, h]
theorem LostByS_is (t : Bool) (n : Int) (es : List E) (e : E) (hl : es.length ≤ 1048576) :
    Is prog fid_spec_LostBy [Gr t n es, Ed1 e] (.tup [.ow true 2 (encE (lostL n es e)), .b (putOK n es e)]) := by
  refine MCall.run mixed get_spec_LostBy ok_spec_LostBy (Nat.le_of_ble_eq_true rfl) (by decide) ?_
  unfold mc_spec_LostBy
  simp (config := { maxSteps := 10000000, implicitDefEqProofs := false }) only [go_sem, ↓reduceIte, Nat.reduceAdd, Nat.reduceMul, Nat.reduceEqDiff, Nat.reduceSub, Nat.reduceLT, reduceCtorEq, Nat.reduceLeDiff, Nat.reduceBEq, mwp_draw]
  refine callK_is (PutEdgeS_is _ n es e hl) ?_
  cases h : putOK n es e
  · simp (config := { maxSteps := 10000000, implicitDefEqProofs := false }) only [go_sem, ↓reduceIte, Nat.reduceAdd, Nat.reduceMul, Nat.reduceEqDiff, Nat.reduceSub, Nat.reduceLT, reduceCtorEq, Nat.reduceLeDiff, Nat.reduceBEq, mwp_draw]
    simp [lostL, h, encE]
  · simp (config := { maxSteps := 10000000, implicitDefEqProofs := false }) only [go_sem, ↓reduceIte, Nat.reduceAdd, Nat.reduceMul, Nat.reduceEqDiff, Nat.reduceSub, Nat.reduceLT, reduceCtorEq, Nat.reduceLeDiff, Nat.reduceBEq, mwp_draw]
    have hq := lost_eq h
    have h' := h
    simp only [putOK, Bool.and_eq_true] at h'
    have hg := GE_of (gvB_iff.1 h'.1.1)
    have he := (GE_of (gvB_iff.1 h'.2)).2.2.2 e (mem_putE.2 (.inl rfl))
    unfold EIn at he
    refine callK_is (l2Joined_is _ n es e.1 e.2 hg (by omega) (by omega)) ?_
    cases q : jn n es e.1 e.2
    · simp (config := { maxSteps := 10000000, implicitDefEqProofs := false }) only [go_sem, ↓reduceIte, Nat.reduceAdd, Nat.reduceMul, Nat.reduceEqDiff, Nat.reduceSub, Nat.reduceLT, reduceCtorEq, Nat.reduceLeDiff, Nat.reduceBEq, mwp_draw]
      rw [q] at hq
      simp [hq, encE]
    · simp (config := { maxSteps := 10000000, implicitDefEqProofs := false }) only [go_sem, ↓reduceIte, Nat.reduceAdd, Nat.reduceMul, Nat.reduceEqDiff, Nat.reduceSub, Nat.reduceLT, reduceCtorEq, Nat.reduceLeDiff, Nat.reduceBEq, mwp_draw]
      rw [q] at hq
      have hc : conB n es e.1 e.2 = true := by
        simp only [conB, gnB, h'.1.1, q, Bool.true_and, Bool.and_true, Bool.and_eq_true, decide_eq_true_eq]
        omega
      refine callK_is (BridgesBetweenS_is _ n es e.1 e.2 hl) ?_
      simp (config := { maxSteps := 10000000, implicitDefEqProofs := false }) only [go_sem, ↓reduceIte, Nat.reduceAdd, Nat.reduceMul, Nat.reduceEqDiff, Nat.reduceSub, Nat.reduceLT, reduceCtorEq, Nat.reduceLeDiff, Nat.reduceBEq, mwp_draw]
      rw [hq, hc]
      simp [btL, hc]

/-- The best so far, and one edge more. -/
def bst (n : Int) (es : List E) (b : E × Int) (e : E) : E × Int := if b.2 < ((lostL n es e).length : Int) then (e, ((lostL n es e).length : Int)) else b
def rowB (n : Int) (es : List E) (i : Nat) : Nat → Nat → E × Int → E × Int
  | _, 0, b => b
  | j, k + 1, b => rowB n es i (j + 1) k (bst n es b ((i : Int), (j : Int)))
def allB (n : Int) (es : List E) (m : Nat) : Nat → Nat → E × Int → E × Int
  | _, 0, b => b
  | i, k + 1, b => allB n es m (i + 1) k (rowB n es i (i + 1) (m - (i + 1)) b)
def bestV (n : Int) (es : List E) : E × Int := allB n es 16 0 16 ((0, 0), 0)
theorem lost_out {n : Int} {es : List E} {e : E} (h : gvB n es = false ∨ ¬ EIn n e) : lostL n es e = [] := by
  unfold lostL
  have : putOK n es e = false := by
    cases q : putOK n es e with
    | false => rfl
    | true =>
      simp only [putOK, Bool.and_eq_true] at q
      rcases h with h | h
      · rw [h] at q; simp at q
      · exact absurd ((gvB_iff.1 q.2).2.2.2.1 e (mem_putE.2 (.inl rfl))) h
  rw [this]; rfl
theorem bst_out {n : Int} {es : List E} {b : E × Int} {e : E} (hb : 0 ≤ b.2) (h : gvB n es = false ∨ ¬ EIn n e) : bst n es b e = b := by
  unfold bst; rw [lost_out h, if_neg (by simp; omega)]
theorem bst_pos {n : Int} {es : List E} {b : E × Int} {e : E} (hb : 0 ≤ b.2) : 0 ≤ (bst n es b e).2 := by
  unfold bst; split
  · simp only; omega
  · exact hb
theorem rowB_pos {n : Int} {es : List E} {i : Nat} : ∀ {k j : Nat} {b : E × Int}, 0 ≤ b.2 → 0 ≤ (rowB n es i j k b).2
  | 0, _, _, h => h
  | k + 1, j, b, h => by rw [rowB]; exact rowB_pos (bst_pos h)
theorem rowB_out {n : Int} {es : List E} {i : Nat} : ∀ {k j : Nat} {b : E × Int}, 0 ≤ b.2 → (gvB n es = false ∨ n ≤ i ∨ n ≤ j) → rowB n es i j k b = b
  | 0, _, _, _, _ => rfl
  | k + 1, j, b, hb, h => by
    have : bst n es b ((i : Int), (j : Int)) = b := bst_out hb (by
      rcases h with h | h | h
      · exact .inl h
      · exact .inr (by unfold EIn; simp only; omega)
      · exact .inr (by unfold EIn; simp only; omega))
    rw [rowB, this]
    exact rowB_out hb (h.imp id fun q => by omega)
theorem rowB_add {n : Int} {es : List E} {i : Nat} : ∀ {a c j : Nat} {b : E × Int}, rowB n es i j (a + c) b = rowB n es i (j + a) c (rowB n es i j a b)
  | 0, c, j, b => by rw [Nat.zero_add]; rfl
  | a + 1, c, j, b => by
    rw [show a + 1 + c = (a + c) + 1 by omega, rowB, rowB, rowB_add, show j + 1 + a = j + (a + 1) by omega]
theorem rowB_cut {n : Int} {es : List E} {i j m M : Nat} {b : E × Int} (hb : 0 ≤ b.2) (hm : n ≤ m) (hM : m ≤ M) : rowB n es i j (M - j) b = rowB n es i j (m - j) b := by
  by_cases h : m ≤ j
  · rw [rowB_out hb (.inr (.inr (by omega))), rowB_out hb (.inr (.inr (by omega)))]
  · rw [show M - j = (m - j) + (M - m) by omega, rowB_add]
    exact rowB_out (rowB_pos hb) (.inr (.inr (by omega)))
theorem allB_out {n : Int} {es : List E} {M : Nat} : ∀ {k i : Nat} {b : E × Int}, 0 ≤ b.2 → (gvB n es = false ∨ n ≤ i) → allB n es M i k b = b
  | 0, _, _, _, _ => rfl
  | k + 1, i, b, hb, h => by
    rw [allB, rowB_out hb (h.imp id fun q => .inl q)]
    exact allB_out hb (h.imp id fun q => by omega)
theorem allB_cut {n : Int} {es : List E} {m M : Nat} (hm : n ≤ m) (hM : m ≤ M) : ∀ {k i : Nat} {b : E × Int}, 0 ≤ b.2 → allB n es M i k b = allB n es m i k b
  | 0, _, _, _ => rfl
  | k + 1, i, b, hb => by
    rw [allB, allB, rowB_cut hb hm hM]
    exact allB_cut hm hM (rowB_pos hb)
theorem allB_add {n : Int} {es : List E} {M : Nat} : ∀ {a c i : Nat} {b : E × Int}, allB n es M i (a + c) b = allB n es M (i + a) c (allB n es M i a b)
  | 0, c, i, b => by rw [Nat.zero_add]; rfl
  | a + 1, c, i, b => by
    rw [show a + 1 + c = (a + c) + 1 by omega, allB, allB, allB_add, show i + 1 + a = i + (a + 1) by omega]
theorem allB_pos {n : Int} {es : List E} {M : Nat} : ∀ {k i : Nat} {b : E × Int}, 0 ≤ b.2 → 0 ≤ (allB n es M i k b).2
  | 0, _, _, h => h
  | k + 1, i, b, h => by rw [allB]; exact allB_pos (rowB_pos h)
theorem bestV_eq {n : Int} {es : List E} (h : gvB n es = true) : bestV n es = allB n es n.toNat 0 n.toNat ((0, 0), 0) := by
  have hn := (gvB_iff.1 h).2.1
  unfold bestV
  rw [allB_cut (m := n.toNat) (by omega) (by omega) (by simp), show 16 = n.toNat + (16 - n.toNat) by omega, allB_add]
  exact allB_out (allB_pos (by simp)) (.inr (by omega))
theorem lost_len {n : Int} {es : List E} {e : E} : (lostL n es e).length ≤ es.length := by
  unfold lostL; split
  · exact List.length_filter_le _ _
  · simp
abbrev bstR (n : Int) (es : List E) : MV := .tup [.agg [.i .i64 (bestV n es).1.1, .i .i64 (bestV n es).1.2], .b (decide (0 < (bestV n es).2))]
theorem BestEdge_is (t : Bool) (n : Int) (es : List E) (hl : es.length ≤ 1048576) : Is prog fid_impl_BestEdge [Gr t n es] (bstR n es) := by
  refine MCall.run mixed get_impl_BestEdge ok_impl_BestEdge (Nat.le_of_ble_eq_true rfl) (by decide) ?_
  unfold mc_impl_BestEdge
  simp (config := { maxSteps := 10000000, implicitDefEqProofs := false }) only [go_sem, ↓reduceIte, Nat.reduceAdd, Nat.reduceMul, Nat.reduceEqDiff, Nat.reduceSub, Nat.reduceLT, reduceCtorEq, Nat.reduceLeDiff, Nat.reduceBEq, mwp_draw]
  refine mwp_loopk (X := Nat × (E × Int)) (fun x => ⟨[(1, .pr 0 0 0), (2, .pr 1 0 0), (4, .pr 2 0 0), (5, .i .i64 x.2.2), (12, .i .i64 x.1)], [(0, .box [.i .i64 n, .s t 2 (encE es)]), (1, .box [.i .i64 0, .i .i64 0]), (2, .box [.i .i64 x.2.1.1, .i .i64 x.2.1.2])], 3⟩)
    (fun x => x.1 ≤ 16 ∧ 0 ≤ x.2.2 ∧ allB n es 16 x.1 (16 - x.1) x.2 = bestV n es) (fun x => 16 - x.1) (0, ((0, 0), 0)) (by rfl) ⟨by simp, by simp, by rfl⟩ ?_
  rintro ⟨i, b⟩ ⟨h1, hb, h2⟩ K kN kE kR
  simp only at h1 hb h2
  simp (config := { maxSteps := 10000000, implicitDefEqProofs := false }) only [go_sem, ↓reduceIte, Nat.reduceAdd, Nat.reduceMul, Nat.reduceEqDiff, Nat.reduceSub, Nat.reduceLT, reduceCtorEq, Nat.reduceLeDiff, Nat.reduceBEq, mwp_draw]
  refine ⟨fun h4 => ⟨fits64 (by omega) (by omega), ?_⟩, fun h4 => kE _ _ ?_⟩
  · rw [show 16 - i = (16 - (i + 1)) + 1 by omega, allB] at h2
    refine mwp_loopk (X := Nat × (E × Int)) (fun x => ⟨[(1, .pr 0 0 0), (2, .pr 1 0 0), (4, .pr 2 0 0), (5, .i .i64 x.2.2), (6, .i .i64 i), (7, .i .i64 x.1), (12, .i .i64 i)], [(0, .box [.i .i64 n, .s t 2 (encE es)]), (1, .box [.i .i64 0, .i .i64 0]), (2, .box [.i .i64 x.2.1.1, .i .i64 x.2.1.2])], 3⟩)
      (fun x => x.1 ≤ 16 ∧ 0 ≤ x.2.2 ∧ rowB n es i x.1 (16 - x.1) x.2 = rowB n es i (i + 1) (16 - (i + 1)) b) (fun x => 16 - x.1) (i + 1, b) (by simp; rfl) ⟨by simp only; omega, hb, by rfl⟩ ?_
    rintro ⟨j, c⟩ ⟨p1, pc, p2⟩ K' kN' kE' kR'
    simp only at p1 pc p2
    simp (config := { maxSteps := 10000000, implicitDefEqProofs := false }) only [go_sem, ↓reduceIte, Nat.reduceAdd, Nat.reduceMul, Nat.reduceEqDiff, Nat.reduceSub, Nat.reduceLT, reduceCtorEq, Nat.reduceLeDiff, Nat.reduceBEq, mwp_draw]
    refine ⟨fun p4 => ?_, fun p4 => kE' _ _ ?_⟩
    · rw [show 16 - j = (16 - (j + 1)) + 1 by omega, rowB] at p2
      refine callK_is (LostBy_is _ n es ((i : Int), (j : Int)) hl) ?_
      have hll := lost_len (n := n) (es := es) (e := ((i : Int), (j : Int)))
      simp (config := { maxSteps := 10000000, implicitDefEqProofs := false }) only [go_sem, ↓reduceIte, Nat.reduceAdd, Nat.reduceMul, Nat.reduceEqDiff, Nat.reduceSub, Nat.reduceLT, reduceCtorEq, Nat.reduceLeDiff, Nat.reduceBEq, mwp_draw]
      refine ⟨fun q => ?_, fun q => ?_⟩
      · refine ⟨fits64 (by omega) (by omega), kN' _ (j + 1, (((i : Int), (j : Int)), ((lostL n es ((i : Int), (j : Int))).length : Int))) (by simp; rfl) ⟨by simp only; omega, by simp only; omega, by rw [← p2]; simp only [bst]; rw [if_pos (by omega)]⟩ (by simp only; omega)⟩
      · refine ⟨fits64 (by omega) (by omega), kN' _ (j + 1, c) (by simp; rfl) ⟨by simp only; omega, pc, by rw [← p2]; simp only [bst]; rw [if_neg (by omega)]⟩ (by simp only; omega)⟩
    · simp (config := { maxSteps := 10000000, implicitDefEqProofs := false }) only [go_sem, ↓reduceIte, Nat.reduceAdd, Nat.reduceMul, Nat.reduceEqDiff, Nat.reduceSub, Nat.reduceLT, reduceCtorEq, Nat.reduceLeDiff, Nat.reduceBEq, mwp_draw]
      obtain rfl : j = 16 := by omega
      rw [show 16 - 16 = 0 by rfl, rowB] at p2
      exact ⟨fits64 (by omega) (by omega), kN _ (i + 1, c) (by simp; rfl) ⟨by simp only; omega, pc, by rw [← h2, ← p2]⟩ (by simp only; omega)⟩
  · simp (config := { maxSteps := 10000000, implicitDefEqProofs := false }) only [go_sem, ↓reduceIte, Nat.reduceAdd, Nat.reduceMul, Nat.reduceEqDiff, Nat.reduceSub, Nat.reduceLT, reduceCtorEq, Nat.reduceLeDiff, Nat.reduceBEq, mwp_draw]
    obtain rfl : i = 16 := by omega
    rw [show 16 - 16 = 0 by rfl, allB] at h2
    rw [bstR, ← h2]
theorem BestEdgeS_is (t : Bool) (n : Int) (es : List E) (hl : es.length ≤ 1048576) : Is prog fid_spec_BestEdge [Gr t n es] (bstR n es) := by
  refine MCall.run mixed get_spec_BestEdge ok_spec_BestEdge (Nat.le_of_ble_eq_true rfl) (by decide) ?_
  unfold mc_spec_BestEdge
  simp (config := { maxSteps := 10000000, implicitDefEqProofs := false }) only [go_sem, ↓reduceIte, Nat.reduceAdd, Nat.reduceMul, Nat.reduceEqDiff, Nat.reduceSub, Nat.reduceLT, reduceCtorEq, Nat.reduceLeDiff, Nat.reduceBEq, mwp_draw]
  refine mwp_loopk (X := Nat × (E × Int)) (fun x => ⟨[(1, .pr 0 0 0), (2, .pr 1 0 0), (4, .pr 2 0 0), (5, .i .i64 x.2.2), (6, .i .i64 x.1)], [(0, .box [.i .i64 n, .s t 2 (encE es)]), (1, .box [.i .i64 0, .i .i64 0]), (2, .box [.i .i64 x.2.1.1, .i .i64 x.2.1.2])], 3⟩)
    (fun x => 0 ≤ x.2.2 ∧ (x.1 : Int) ≤ max n 0 ∧ (gvB n es = false → x.1 = 0 ∧ x.2 = ((0, 0), 0)) ∧ (gvB n es = true → allB n es n.toNat x.1 (n.toNat - x.1) x.2 = bestV n es)) (fun x => n.toNat - x.1) (0, ((0, 0), 0)) (by rfl) ⟨by simp, by simp only; omega, fun _ => ⟨rfl, rfl⟩, fun h => (bestV_eq h).symm⟩ ?_
  rintro ⟨i, b⟩ ⟨hb, h1, h0, h2⟩ K kN kE kR
  simp only at h1 hb h2 h0
  have last : (gvB n es = false ∨ n ≤ i) → b = bestV n es := fun h => by
    cases q : gvB n es with
    | false => rw [(h0 q).2]; unfold bestV; rw [allB_out (by simp) (.inl q)]
    | true =>
      have h' : n ≤ i := by rcases h with h | h; · rw [q] at h; simp at h
                            · exact h
      rw [← h2 q, show n.toNat - i = 0 by omega]; rfl
  simp (config := { maxSteps := 10000000, implicitDefEqProofs := false }) only [go_sem, ↓reduceIte, Nat.reduceAdd, Nat.reduceMul, Nat.reduceEqDiff, Nat.reduceSub, Nat.reduceLT, reduceCtorEq, Nat.reduceLeDiff, Nat.reduceBEq, mwp_draw]
  refine ⟨fun h4 => ?_, fun h4 => kE _ _ ?_⟩
  · refine callK_is (GraphValidS_is _ n es hl) ?_
    cases q : gvB n es
    · simp (config := { maxSteps := 10000000, implicitDefEqProofs := false }) only [go_sem, ↓reduceIte, Nat.reduceAdd, Nat.reduceMul, Nat.reduceEqDiff, Nat.reduceSub, Nat.reduceLT, reduceCtorEq, Nat.reduceLeDiff, Nat.reduceBEq, mwp_draw]
      refine kE _ _ ?_
      simp (config := { maxSteps := 10000000, implicitDefEqProofs := false }) only [go_sem, ↓reduceIte, Nat.reduceAdd, Nat.reduceMul, Nat.reduceEqDiff, Nat.reduceSub, Nat.reduceLT, reduceCtorEq, Nat.reduceLeDiff, Nat.reduceBEq, mwp_draw]
      rw [bstR, ← last (.inl q)]
    · have hn := (gvB_iff.1 q).2.1
      have h2 := h2 q
      simp (config := { maxSteps := 10000000, implicitDefEqProofs := false }) only [go_sem, ↓reduceIte, Nat.reduceAdd, Nat.reduceMul, Nat.reduceEqDiff, Nat.reduceSub, Nat.reduceLT, reduceCtorEq, Nat.reduceLeDiff, Nat.reduceBEq, mwp_draw]
      refine ⟨fits64 (by omega) (by omega), ?_⟩
      rw [show n.toNat - i = (n.toNat - (i + 1)) + 1 by omega, allB] at h2
      refine mwp_loopk (X := Nat × (E × Int)) (fun x => ⟨[(1, .pr 0 0 0), (2, .pr 1 0 0), (4, .pr 2 0 0), (5, .i .i64 x.2.2), (6, .i .i64 i), (7, .i .i64 x.1)], [(0, .box [.i .i64 n, .s t 2 (encE es)]), (1, .box [.i .i64 0, .i .i64 0]), (2, .box [.i .i64 x.2.1.1, .i .i64 x.2.1.2])], 3⟩)
        (fun x => (x.1 : Int) ≤ n ∧ 0 ≤ x.2.2 ∧ rowB n es i x.1 (n.toNat - x.1) x.2 = rowB n es i (i + 1) (n.toNat - (i + 1)) b) (fun x => n.toNat - x.1) (i + 1, b) (by simp; rfl) ⟨by simp only; omega, hb, by rfl⟩ ?_
      rintro ⟨j, c⟩ ⟨p1, pc, p2⟩ K' kN' kE' kR'
      simp only at p1 pc p2
      simp (config := { maxSteps := 10000000, implicitDefEqProofs := false }) only [go_sem, ↓reduceIte, Nat.reduceAdd, Nat.reduceMul, Nat.reduceEqDiff, Nat.reduceSub, Nat.reduceLT, reduceCtorEq, Nat.reduceLeDiff, Nat.reduceBEq, mwp_draw]
      refine ⟨fun p4 => ?_, fun p4 => kE' _ _ ?_⟩
      · rw [show n.toNat - j = (n.toNat - (j + 1)) + 1 by omega, rowB] at p2
        refine callK_is (LostByS_is _ n es ((i : Int), (j : Int)) hl) ?_
        have hll := lost_len (n := n) (es := es) (e := ((i : Int), (j : Int)))
        have good : ∀ c', c' = bst n es c ((i : Int), (j : Int)) → (((j + 1 : Nat) : Int) ≤ n ∧ 0 ≤ c'.2 ∧ rowB n es i (j + 1) (n.toNat - (j + 1)) c' = rowB n es i (i + 1) (n.toNat - (i + 1)) b) := fun c' hc => by
          subst hc; exact ⟨by omega, bst_pos pc, p2⟩
        cases w : putOK n es ((i : Int), (j : Int))
        · have w2 : lostL n es ((i : Int), (j : Int)) = [] := by unfold lostL; rw [w]; rfl
          simp (config := { maxSteps := 10000000, implicitDefEqProofs := false }) only [go_sem, ↓reduceIte, Nat.reduceAdd, Nat.reduceMul, Nat.reduceEqDiff, Nat.reduceSub, Nat.reduceLT, reduceCtorEq, Nat.reduceLeDiff, Nat.reduceBEq, mwp_draw]
          exact ⟨fits64 (by omega) (by omega), kN' _ (j + 1, c) (by simp; rfl) (good _ (by simp only [bst]; rw [w2, if_neg (by simp; omega)])) (by simp only; omega)⟩
        · simp (config := { maxSteps := 10000000, implicitDefEqProofs := false }) only [go_sem, ↓reduceIte, Nat.reduceAdd, Nat.reduceMul, Nat.reduceEqDiff, Nat.reduceSub, Nat.reduceLT, reduceCtorEq, Nat.reduceLeDiff, Nat.reduceBEq, mwp_draw]
          refine ⟨fun q => ?_, fun q => ?_⟩
          · refine ⟨fits64 (by omega) (by omega), kN' _ (j + 1, (((i : Int), (j : Int)), ((lostL n es ((i : Int), (j : Int))).length : Int))) (by simp; rfl) (good _ (by simp only [bst]; rw [if_pos (by omega)])) (by simp only; omega)⟩
          · refine ⟨fits64 (by omega) (by omega), kN' _ (j + 1, c) (by simp; rfl) (good _ (by simp only [bst]; rw [if_neg (by omega)])) (by simp only; omega)⟩
      · simp (config := { maxSteps := 10000000, implicitDefEqProofs := false }) only [go_sem, ↓reduceIte, Nat.reduceAdd, Nat.reduceMul, Nat.reduceEqDiff, Nat.reduceSub, Nat.reduceLT, reduceCtorEq, Nat.reduceLeDiff, Nat.reduceBEq, mwp_draw]
        obtain rfl : j = n.toNat := by omega
        rw [Nat.sub_self, rowB] at p2
        exact ⟨fits64 (by omega) (by omega), kN _ (i + 1, c) (by simp; rfl) ⟨pc, by simp only; omega, fun r => absurd (q.symm.trans r) (by decide), fun _ => by rw [← h2, ← p2]⟩ (by simp only; omega)⟩
  · simp (config := { maxSteps := 10000000, implicitDefEqProofs := false }) only [go_sem, ↓reduceIte, Nat.reduceAdd, Nat.reduceMul, Nat.reduceEqDiff, Nat.reduceSub, Nat.reduceLT, reduceCtorEq, Nat.reduceLeDiff, Nat.reduceBEq, mwp_draw]
    rw [bstR, ← last (.inr (by omega))]
end Go.Fw
