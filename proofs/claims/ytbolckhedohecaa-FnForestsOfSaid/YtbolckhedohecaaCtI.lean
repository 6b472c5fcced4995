/-
  Graphs: the bridges that an edge more takes away.
-/
import Derived.Test.YtbolckhedohecaaCtG5
import Derived.Test.YtbolckhedohecaaCtG8
import Derived.Test.YtbolckhedohecaaPlG3
namespace Go.Fw
set_option linter.unusedSimpArgs false
set_option linter.unusedVariables false
set_option maxRecDepth 100000
set_option maxHeartbeats 4000000
open Go.Proofs.Try (prog)
open Go.Pl

/-- Bridges of one graph that are none of another. -/
def onlyP (n : Int) (es : List E) (m : Int) (fs : List E) (e : E) : Bool := brB n es e && !(decide (e ∈ fs) && brB m fs e)
theorem only1_is (t t' : Bool) (n : Int) (es : List E) (m : Int) (fs : List E) (e : E) (hg : GE n es) (hg' : GE m fs) (he : EIn n e) :
    Is prog fid_impl_bridgesOnly_1 [Ed1 e, .pd t [.i .i64 n, .a 2 (encE es)] 0, .pd t' [.i .i64 m, .a 2 (encE fs)] 0] (.b (onlyP n es m fs e)) := by
  refine MCall.run mixed get_impl_bridgesOnly_1 ok_impl_bridgesOnly_1 (Nat.le_of_ble_eq_true rfl) (by decide) ?_
  unfold mc_impl_bridgesOnly_1
  simp (config := { maxSteps := 10000000, implicitDefEqProofs := false }) only [go_sem, ↓reduceIte, Nat.reduceAdd, Nat.reduceMul, Nat.reduceEqDiff, Nat.reduceSub, Nat.reduceLT, reduceCtorEq, Nat.reduceLeDiff, Nat.reduceBEq, mwp_draw]
  refine callK_is (isBridge_is _ n es e hg he) ?_
  cases h : brB n es e
  · simp (config := { maxSteps := 10000000, implicitDefEqProofs := false }) only [go_sem, ↓reduceIte, Nat.reduceAdd, Nat.reduceMul, Nat.reduceEqDiff, Nat.reduceSub, Nat.reduceLT, reduceCtorEq, Nat.reduceLeDiff, Nat.reduceBEq, mwp_draw]
    exact mvb (by simp [onlyP, h])
  · simp (config := { maxSteps := 10000000, implicitDefEqProofs := false }) only [go_sem, ↓reduceIte, Nat.reduceAdd, Nat.reduceMul, Nat.reduceEqDiff, Nat.reduceSub, Nat.reduceLT, reduceCtorEq, Nat.reduceLeDiff, Nat.reduceBEq, mwp_draw]
    refine callK_is (has_is _ m fs e hg'.2.2.1) ?_
    by_cases h2 : e ∈ fs
    · simp (config := { maxSteps := 10000000, implicitDefEqProofs := false }) only [go_sem, ↓reduceIte, Nat.reduceAdd, Nat.reduceMul, Nat.reduceEqDiff, Nat.reduceSub, Nat.reduceLT, reduceCtorEq, Nat.reduceLeDiff, Nat.reduceBEq, mwp_draw, h2]
      refine callK_is (isBridge_is _ m fs e hg' (hg'.2.2.2 e h2)) ?_
      cases h3 : brB m fs e
      · simp (config := { maxSteps := 10000000, implicitDefEqProofs := false }) only [go_sem, ↓reduceIte, Nat.reduceAdd, Nat.reduceMul, Nat.reduceEqDiff, Nat.reduceSub, Nat.reduceLT, reduceCtorEq, Nat.reduceLeDiff, Nat.reduceBEq, mwp_draw]
        exact mvb (by simp [onlyP, h, h2, h3])
      · simp (config := { maxSteps := 10000000, implicitDefEqProofs := false }) only [go_sem, ↓reduceIte, Nat.reduceAdd, Nat.reduceMul, Nat.reduceEqDiff, Nat.reduceSub, Nat.reduceLT, reduceCtorEq, Nat.reduceLeDiff, Nat.reduceBEq, mwp_draw]
        exact mvb (by simp [onlyP, h, h2, h3])
    · simp (config := { maxSteps := 10000000, implicitDefEqProofs := false }) only [go_sem, ↓reduceIte, Nat.reduceAdd, Nat.reduceMul, Nat.reduceEqDiff, Nat.reduceSub, Nat.reduceLT, reduceCtorEq, Nat.reduceLeDiff, Nat.reduceBEq, mwp_draw, h2]
      exact mvb (by simp [onlyP, h, h2])
theorem bridgesOnly_is (t t' : Bool) (n : Int) (es : List E) (m : Int) (fs : List E) (hg : GE n es) (hg' : GE m fs) :
    Is prog fid_impl_bridgesOnly [Gr t n es, Gr t' m fs] (.ow true 2 (encE (es.filter (onlyP n es m fs)))) := by
  refine MCall.run mixed get_impl_bridgesOnly ok_impl_bridgesOnly (Nat.le_of_ble_eq_true rfl) (by decide) ?_
  unfold mc_impl_bridgesOnly
  simp (config := { maxSteps := 10000000, implicitDefEqProofs := false }) only [go_sem, ↓reduceIte, Nat.reduceAdd, Nat.reduceMul, Nat.reduceEqDiff, Nat.reduceSub, Nat.reduceLT, reduceCtorEq, Nat.reduceLeDiff, Nat.reduceBEq, mwp_draw]
  refine ⟨tdm es, tst (onlyP n es m fs), fnOk_tst rfl rfl ⟨_, get_impl_bridgesOnly_1, by kernel_rfl, by kernel_rfl⟩ (fun e he => only1_is _ _ n es m fs e hg hg' (hg.2.2.2 e he)), ?_⟩
  refine callK_is (edgesBy_is _ n es _ _ _ (tests_tst es _) hg.2.2.1) ?_
  simp (config := { maxSteps := 10000000, implicitDefEqProofs := false }) only [go_sem, ↓reduceIte, Nat.reduceAdd, Nat.reduceMul, Nat.reduceEqDiff, Nat.reduceSub, Nat.reduceLT, reduceCtorEq, Nat.reduceLeDiff, Nat.reduceBEq, mwp_draw]
/-- The edges that part two nodes. -/
def btP (n : Int) (es : List E) (x y : Int) (f : E) : Bool := !jn n (es.filter fun d => !decide (d = f)) x y
def btL (n : Int) (es : List E) (x y : Int) : List E := if conB n es x y then es.filter (btP n es x y) else []
theorem conB_get {n : Int} {es : List E} {x y : Int} (h : conB n es x y = true) : GV n es ∧ (0 ≤ x ∧ x < n) ∧ (0 ≤ y ∧ y < n) ∧ jn n es x y = true := by
  simp only [conB, gnB, Bool.and_eq_true, decide_eq_true_eq] at h
  exact ⟨gvB_iff.1 h.1.1.1.1, ⟨h.1.1.1.2, h.1.1.2⟩, ⟨h.1.2.1.2, h.1.2.2⟩, h.2⟩
/-- The bridges that an edge put in takes away. -/
def lostL (n : Int) (es : List E) (e : E) : List E := if putOK n es e then es.filter (onlyP n es n (putE es e)) else []
theorem lost_eq {n : Int} {es : List E} {e : E} (h : putOK n es e = true) : lostL n es e = if jn n es e.1 e.2 then es.filter (btP n es e.1 e.2) else [] := by
  simp only [putOK, Bool.and_eq_true, Bool.not_eq_true', decide_eq_false_iff_not] at h
  obtain ⟨⟨h1, h2⟩, h3⟩ := h
  have g1 := gvB_iff.1 h1
  have g3 := gvB_iff.1 h3
  have E1 := (GE_of g1).2.2.2
  have E3 := (GE_of g3).2.2.2
  have he : EIn n e := E3 e (mem_putE.2 (.inl rfl))
  unfold EIn at he
  have key : ∀ f ∈ es, onlyP n es n (putE es e) f = (jn n es e.1 e.2 && btP n es e.1 e.2 f) := fun f hf => by
    have hfn := E1 f hf
    unfold EIn at hfn
    have hne : e ≠ f := fun k => h2 (k ▸ hf)
    have Er : ∀ d ∈ es.filter (fun d => !decide (d = f)), EIn n d := fun d hd => E1 d (List.mem_filter.1 hd).1
    have Er' : ∀ d ∈ (putE es e).filter (fun d => !decide (d = f)), EIn n d := fun d hd => E3 d (List.mem_filter.1 hd).1
    have hl := lost_iff (es := es) (r := es.filter (fun d => !decide (d = f))) (r' := (putE es e).filter (fun d => !decide (d = f))) (e := e) (f := f) hf
      (fun d => by simp [List.mem_filter]) (fun d => by
        simp only [List.mem_filter, mem_putE, Bool.not_eq_true', decide_eq_false_iff_not]
        constructor
        · rintro ⟨rfl | a, b⟩
          · exact .inr rfl
          · exact .inl ⟨a, b⟩
        · rintro (⟨a, b⟩ | rfl)
          · exact ⟨.inr a, b⟩
          · exact ⟨.inl rfl, hne⟩)
    have hm : f ∈ putE es e := mem_putE.2 (.inr hf)
    rw [← jn_no Er (by omega) (by omega), ← jn_iff Er' (by omega) (by omega), ← jn_iff E1 (by omega) (by omega), ← jn_no Er (by omega) (by omega)] at hl
    unfold onlyP btP brB
    simp only [hm, decide_true, Bool.true_and]
    rw [Bool.eq_iff_iff]
    simp only [Bool.and_eq_true, Bool.not_eq_true', Bool.not_eq_false']
    simpa using hl
  unfold lostL
  rw [show putOK n es e = true by simp [putOK, h1, h2, h3]]
  simp only [if_true]
  rw [List.filter_congr key]
  cases jn n es e.1 e.2 <;> simp
/-- The best so far, and one edge more. -/
def bst (n : Int) (es : List E) (b : E × Int) (e : E) : E × Int := if b.2 < ((lostL n es e).length : Int) then (e, ((lostL n es e).length : Int)) else b
def rowB (n : Int) (es : List E) (i : Nat) : Nat → Nat → E × Int → E × Int
  | _, 0, b => b
  | j, k + 1, b => rowB n es i (j + 1) k (bst n es b ((i : Int), (j : Int)))
def allB (n : Int) (es : List E) (m : Nat) : Nat → Nat → E × Int → E × Int
  | _, 0, b => b
  | i, k + 1, b => allB n es m (i + 1) k (rowB n es i (i + 1) (m - (i + 1)) b)
def bestV (n : Int) (es : List E) : E × Int := allB n es 16 0 16 ((0, 0), 0)
theorem lost_out {n : Int} {es : List E} {e : E} (h : gvB n es = false ∨ ¬ EIn n e) : lostL n es e = [] := by
  unfold lostL
  have : putOK n es e = false := by
    cases q : putOK n es e with
    | false => rfl
    | true =>
      simp only [putOK, Bool.and_eq_true] at q
      rcases h with h | h
      · rw [h] at q; simp at q
      · exact absurd ((gvB_iff.1 q.2).2.2.2.1 e (mem_putE.2 (.inl rfl))) h
  rw [this]; rfl
theorem bst_out {n : Int} {es : List E} {b : E × Int} {e : E} (hb : 0 ≤ b.2) (h : gvB n es = false ∨ ¬ EIn n e) : bst n es b e = b := by
  unfold bst; rw [lost_out h, if_neg (by simp; omega)]
theorem bst_pos {n : Int} {es : List E} {b : E × Int} {e : E} (hb : 0 ≤ b.2) : 0 ≤ (bst n es b e).2 := by
  unfold bst; split
  · simp only; omega
  · exact hb
theorem rowB_pos {n : Int} {es : List E} {i : Nat} : ∀ {k j : Nat} {b : E × Int}, 0 ≤ b.2 → 0 ≤ (rowB n es i j k b).2
  | 0, _, _, h => h
  | k + 1, j, b, h => by rw [rowB]; exact rowB_pos (bst_pos h)
theorem rowB_out {n : Int} {es : List E} {i : Nat} : ∀ {k j : Nat} {b : E × Int}, 0 ≤ b.2 → (gvB n es = false ∨ n ≤ i ∨ n ≤ j) → rowB n es i j k b = b
  | 0, _, _, _, _ => rfl
  | k + 1, j, b, hb, h => by
    have : bst n es b ((i : Int), (j : Int)) = b := bst_out hb (by
      rcases h with h | h | h
      · exact .inl h
      · exact .inr (by unfold EIn; simp only; omega)
      · exact .inr (by unfold EIn; simp only; omega))
    rw [rowB, this]
    exact rowB_out hb (h.imp id fun q => by omega)
theorem rowB_add {n : Int} {es : List E} {i : Nat} : ∀ {a c j : Nat} {b : E × Int}, rowB n es i j (a + c) b = rowB n es i (j + a) c (rowB n es i j a b)
  | 0, c, j, b => by rw [Nat.zero_add]; rfl
  | a + 1, c, j, b => by
    rw [show a + 1 + c = (a + c) + 1 by omega, rowB, rowB, rowB_add, show j + 1 + a = j + (a + 1) by omega]
theorem rowB_cut {n : Int} {es : List E} {i j m M : Nat} {b : E × Int} (hb : 0 ≤ b.2) (hm : n ≤ m) (hM : m ≤ M) : rowB n es i j (M - j) b = rowB n es i j (m - j) b := by
  by_cases h : m ≤ j
  · rw [rowB_out hb (.inr (.inr (by omega))), rowB_out hb (.inr (.inr (by omega)))]
  · rw [show M - j = (m - j) + (M - m) by omega, rowB_add]
    exact rowB_out (rowB_pos hb) (.inr (.inr (by omega)))
theorem allB_out {n : Int} {es : List E} {M : Nat} : ∀ {k i : Nat} {b : E × Int}, 0 ≤ b.2 → (gvB n es = false ∨ n ≤ i) → allB n es M i k b = b
  | 0, _, _, _, _ => rfl
  | k + 1, i, b, hb, h => by
    rw [allB, rowB_out hb (h.imp id fun q => .inl q)]
    exact allB_out hb (h.imp id fun q => by omega)
theorem allB_cut {n : Int} {es : List E} {m M : Nat} (hm : n ≤ m) (hM : m ≤ M) : ∀ {k i : Nat} {b : E × Int}, 0 ≤ b.2 → allB n es M i k b = allB n es m i k b
  | 0, _, _, _ => rfl
  | k + 1, i, b, hb => by
    rw [allB, allB, rowB_cut hb hm hM]
    exact allB_cut hm hM (rowB_pos hb)
theorem allB_add {n : Int} {es : List E} {M : Nat} : ∀ {a c i : Nat} {b : E × Int}, allB n es M i (a + c) b = allB n es M (i + a) c (allB n es M i a b)
  | 0, c, i, b => by rw [Nat.zero_add]; rfl
  | a + 1, c, i, b => by
    rw [show a + 1 + c = (a + c) + 1 by omega, allB, allB, allB_add, show i + 1 + a = i + (a + 1) by omega]
theorem allB_pos {n : Int} {es : List E} {M : Nat} : ∀ {k i : Nat} {b : E × Int}, 0 ≤ b.2 → 0 ≤ (allB n es M i k b).2
  | 0, _, _, h => h
  | k + 1, i, b, h => by rw [allB]; exact allB_pos (rowB_pos h)
theorem bestV_eq {n : Int} {es : List E} (h : gvB n es = true) : bestV n es = allB n es n.toNat 0 n.toNat ((0, 0), 0) := by
  have hn := (gvB_iff.1 h).2.1
  unfold bestV
  rw [allB_cut (m := n.toNat) (by omega) (by omega) (by simp), show 16 = n.toNat + (16 - n.toNat) by omega, allB_add]
  exact allB_out (allB_pos (by simp)) (.inr (by omega))
theorem lost_len {n : Int} {es : List E} {e : E} : (lostL n es e).length ≤ es.length := by
  unfold lostL; split
  · exact List.length_filter_le _ _
  · simp
abbrev bstR (n : Int) (es : List E) : MV := .tup [.agg [.i .i64 (bestV n es).1.1, .i .i64 (bestV n es).1.2], .b (decide (0 < (bestV n es).2))]
end Go.Fw
