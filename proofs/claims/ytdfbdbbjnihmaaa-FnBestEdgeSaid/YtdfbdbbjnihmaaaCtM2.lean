/-
  The law of the best edge, on drawn graphs.
-/
import Derived.Test.YtdfbdbbjnihmaaaCtI
import Derived.Test.YtdfbdbbjnihmaaaCtM
import Derived.Test.YtdfbdbbjnihmaaaFyA
import Derived.Test.YtdfbdbbjnihmaaaCf
namespace Go.Fw
set_option linter.unusedSimpArgs false
set_option linter.unusedVariables false
set_option maxRecDepth 100000
set_option maxHeartbeats 4000000
open Go.Proofs.Try (prog)
open Go.Pl

def Bst (n : Int) (es : List E) (b : E × Int) : Prop := 0 ≤ b.2 ∧ (0 < b.2 → ((lostL n es b.1).length : Int) = b.2)
theorem bst_ok {n : Int} {es : List E} {b : E × Int} {e : E} (h : Bst n es b) : Bst n es (bst n es b e) ∧ b.2 ≤ (bst n es b e).2 ∧ ((lostL n es e).length : Int) ≤ (bst n es b e).2 := by
  unfold bst
  split
  · exact ⟨⟨by simp only; omega, fun _ => rfl⟩, by simp only; omega, by simp⟩
  · exact ⟨h, by omega, by omega⟩
theorem rowB_ok {n : Int} {es : List E} {i : Nat} : ∀ {k j : Nat} {b : E × Int}, Bst n es b → Bst n es (rowB n es i j k b) ∧ b.2 ≤ (rowB n es i j k b).2 ∧ ∀ j', j ≤ j' → j' < j + k → ((lostL n es ((i : Int), (j' : Int))).length : Int) ≤ (rowB n es i j k b).2
  | 0, j, b, h => ⟨h, by simp [rowB], fun j' h1 h2 => by omega⟩
  | k + 1, j, b, h => by
    rw [rowB]
    obtain ⟨a1, a2, a3⟩ := bst_ok (e := ((i : Int), (j : Int))) h
    obtain ⟨b1, b2, b3⟩ := rowB_ok (i := i) (k := k) (j := j + 1) a1
    refine ⟨b1, by omega, fun j' h1 h2 => ?_⟩
    by_cases q : j' = j
    · subst q; omega
    · exact b3 j' (by omega) (by omega)
theorem allB_ok {n : Int} {es : List E} {m : Nat} : ∀ {k i : Nat} {b : E × Int}, Bst n es b → Bst n es (allB n es m i k b) ∧ b.2 ≤ (allB n es m i k b).2 ∧ ∀ i' j', i ≤ i' → i' < i + k → i' < j' → j' < m → ((lostL n es ((i' : Int), (j' : Int))).length : Int) ≤ (allB n es m i k b).2
  | 0, i, b, h => ⟨h, by simp [allB], fun i' j' h1 h2 => by omega⟩
  | k + 1, i, b, h => by
    rw [allB]
    obtain ⟨a1, a2, a3⟩ := rowB_ok (i := i) (k := m - (i + 1)) (j := i + 1) h
    obtain ⟨b1, b2, b3⟩ := allB_ok (m := m) (k := k) (i := i + 1) a1
    refine ⟨b1, by omega, fun i' j' h1 h2 h3 h4 => ?_⟩
    by_cases q : i' = i
    · subst q
      have := a3 j' (by omega) (by omega); omega
    · exact b3 i' j' (by omega) (by omega) h3 h4
theorem best_ok {n : Int} {es : List E} (h : 0 < (bestV n es).2) : ((lostL n es (bestV n es).1).length : Int) = (bestV n es).2 ∧ putOK n es (bestV n es).1 = true ∧ ∀ i j : Nat, i < j → (j : Int) < n → ((lostL n es ((i : Int), (j : Int))).length : Int) ≤ (bestV n es).2 := by
  obtain ⟨a, b, c⟩ := allB_ok (n := n) (es := es) (m := 16) (k := 16) (i := 0) (b := ((0, 0), 0)) ⟨by simp, fun q => by simp at q⟩
  have h1 := a.2 h
  have hp : putOK n es (bestV n es).1 = true := by
    cases q : putOK n es (bestV n es).1 with
    | true => rfl
    | false =>
      have : lostL n es (bestV n es).1 = [] := by unfold lostL; rw [q]; rfl
      rw [bestV] at this
      rw [this] at h1; simp only [List.length_nil] at h1
      unfold bestV at h; omega
  refine ⟨h1, hp, fun i j hij hj => ?_⟩
  by_cases hn : n ≤ 16
  · exact c i j (by omega) (by omega) hij (by omega)
  · have : gvB n es = false := gvB_no.2 fun g => hn g.2.1
    rw [lost_out (.inl this)]
    simp only [List.length_nil]; omega
theorem DrawBestEdge_is (t : Bool) (b : List Int) (hb : Byt b) : MCall prog fid_spec_DrawBestEdge [.s t 1 (encB b)]
    (fun o r => o = [.u] ∧ ∃ n es, r = .agg [.i .i64 n, .ow true 2 (encE es)] ∧ -1 ≤ n ∧ n ≤ 17 ∧ es.length ≤ 100) := by
  refine MCall.run mixed get_spec_DrawBestEdge ok_spec_DrawBestEdge (Nat.le_of_ble_eq_true rfl) (by decide) ?_
  unfold mc_spec_DrawBestEdge
  simp (config := { maxSteps := 10000000, implicitDefEqProofs := false }) only [go_sem, ↓reduceIte, Nat.reduceAdd, Nat.reduceMul, Nat.reduceEqDiff, Nat.reduceSub, Nat.reduceLT, reduceCtorEq, Nat.reduceLeDiff, Nat.reduceBEq, mwp_draw]
  refine callK_is (l14Open_is b) ?_
  simp (config := { maxSteps := 10000000, implicitDefEqProofs := false }) only [go_sem, ↓reduceIte, Nat.reduceAdd, Nat.reduceMul, Nat.reduceEqDiff, Nat.reduceSub, Nat.reduceLT, reduceCtorEq, Nat.reduceLeDiff, Nat.reduceBEq, mwp_draw]
  refine callK_any (l5Small_is (b.take 2000) 0 (byt_take2 hb _) (by simp; omega) (by omega)) ?_
  rintro o r ⟨p', n', es', rfl, rfl, w1, w2, w3, w4, w5⟩
  simp (config := { maxSteps := 10000000, implicitDefEqProofs := false }) only [go_sem, ↓reduceIte, Nat.reduceAdd, Nat.reduceMul, Nat.reduceEqDiff, Nat.reduceSub, Nat.reduceLT, reduceCtorEq, Nat.reduceLeDiff, Nat.reduceBEq, mwp_draw]
  exact ⟨n', es', rfl, w3, w4, w5⟩
theorem FnBestEdge_is (t : Bool) (b : List Int) (hb : Byt b) : Is prog fid_laws_FnBestEdge [.s t 1 (encB b)] (.b true) := by
  refine MCall.run mixed get_laws_FnBestEdge ok_laws_FnBestEdge (Nat.le_of_ble_eq_true rfl) (by decide) ?_
  unfold mc_laws_FnBestEdge
  simp (config := { maxSteps := 10000000, implicitDefEqProofs := false }) only [go_sem, ↓reduceIte, Nat.reduceAdd, Nat.reduceMul, Nat.reduceEqDiff, Nat.reduceSub, Nat.reduceLT, reduceCtorEq, Nat.reduceLeDiff, Nat.reduceBEq, mwp_draw]
  refine fun hlen => callK_any (DrawBestEdge_is _ b hb) ?_
  rintro o r ⟨rfl, n, es, rfl, w3, w4, w5⟩
  simp (config := { maxSteps := 10000000, implicitDefEqProofs := false }) only [go_sem, ↓reduceIte, Nat.reduceAdd, Nat.reduceMul, Nat.reduceEqDiff, Nat.reduceSub, Nat.reduceLT, reduceCtorEq, Nat.reduceLeDiff, Nat.reduceBEq, mwp_draw]
  refine callK_is (BestEdge_is _ n es (by omega)) ?_
  simp (config := { maxSteps := 10000000, implicitDefEqProofs := false }) only [go_sem, ↓reduceIte, Nat.reduceAdd, Nat.reduceMul, Nat.reduceEqDiff, Nat.reduceSub, Nat.reduceLT, reduceCtorEq, Nat.reduceLeDiff, Nat.reduceBEq, mwp_draw]
  refine callK_is (BestEdgeS_is _ n es (by omega)) ?_
  simp (config := { maxSteps := 10000000, implicitDefEqProofs := false }) only [go_sem, ↓reduceIte, Nat.reduceAdd, Nat.reduceMul, Nat.reduceEqDiff, Nat.reduceSub, Nat.reduceLT, reduceCtorEq, Nat.reduceLeDiff, Nat.reduceBEq, mwp_draw]
  refine fun hb2 => ?_
  obtain ⟨e1, e2, e3⟩ := best_ok hb2
  generalize bestV n es = v at hb2 e1 e2 e3
  refine callK_is (LostBy_is _ n es v.1 (by omega)) ?_
  rw [e2]
  have hll := lost_len (n := n) (es := es) (e := v.1)
  generalize lostL n es v.1 = ls at e1 hll
  simp (config := { maxSteps := 10000000, implicitDefEqProofs := false }) only [go_sem, ↓reduceIte, Nat.reduceAdd, Nat.reduceMul, Nat.reduceEqDiff, Nat.reduceSub, Nat.reduceLT, reduceCtorEq, Nat.reduceLeDiff, Nat.reduceBEq, mwp_draw]
  refine mwp_loopk (X := Nat) (fun i => ⟨[(3, .pr 0 0 0), (8, .sr 1 0 ls.length), (9, .b true), (10, .i .i64 (i : Int))], [(0, .box [.i .i64 n, .sr 2 0 es.length]), (1, .arr true 2 (encE ls)), (2, .arr true 2 (encE es))], 3⟩)
    (fun i => (i : Int) ≤ max n 0) (fun i => n.toNat - i) 0 (by rfl) (by omega) ?_
  rintro i h1 K kN kE kR
  simp (config := { maxSteps := 10000000, implicitDefEqProofs := false }) only [go_sem, ↓reduceIte, Nat.reduceAdd, Nat.reduceMul, Nat.reduceEqDiff, Nat.reduceSub, Nat.reduceLT, reduceCtorEq, Nat.reduceLeDiff, Nat.reduceBEq, mwp_draw]
  refine ⟨fun c1 => ⟨fits64 (by omega) (by omega), ?_⟩, fun c1 => kE _ _ ?_⟩
  · refine mwp_loopk (X := Nat) (fun j => ⟨[(3, .pr 0 0 0), (8, .sr 1 0 ls.length), (9, .b true), (10, .i .i64 (i : Int)), (11, .i .i64 (j : Int))], [(0, .box [.i .i64 n, .sr 2 0 es.length]), (1, .arr true 2 (encE ls)), (2, .arr true 2 (encE es))], 3⟩)
      (fun j => i < j ∧ (j : Int) ≤ n) (fun j => n.toNat - j) (i + 1) (by rfl) (by omega) ?_
    rintro j ⟨g1, g2⟩ K' kN' kE' kR'
    simp (config := { maxSteps := 10000000, implicitDefEqProofs := false }) only [go_sem, ↓reduceIte, Nat.reduceAdd, Nat.reduceMul, Nat.reduceEqDiff, Nat.reduceSub, Nat.reduceLT, reduceCtorEq, Nat.reduceLeDiff, Nat.reduceBEq, mwp_draw]
    refine ⟨fun d1 => ?_, fun d1 => kE' _ _ ?_⟩
    · refine callK_is (LostBy_is _ n es ((i : Int), (j : Int)) (by omega)) ?_
      have hmx := e3 i j g1 d1
      have hll2 := lost_len (n := n) (es := es) (e := ((i : Int), (j : Int)))
      cases hq : putOK n es ((i : Int), (j : Int))
      · simp (config := { maxSteps := 10000000, implicitDefEqProofs := false }) only [go_sem, ↓reduceIte, Nat.reduceAdd, Nat.reduceMul, Nat.reduceEqDiff, Nat.reduceSub, Nat.reduceLT, reduceCtorEq, Nat.reduceLeDiff, Nat.reduceBEq, mwp_draw]
        exact ⟨fits64 (by omega) (by omega), kN' _ (j + 1) (by rfl) (by omega) (by omega)⟩
      · have hlt : ¬ (ls.length : Int) < ((lostL n es ((i : Int), (j : Int))).length : Int) := by omega
        simp (config := { maxSteps := 10000000, implicitDefEqProofs := false }) only [go_sem, ↓reduceIte, Nat.reduceAdd, Nat.reduceMul, Nat.reduceEqDiff, Nat.reduceSub, Nat.reduceLT, reduceCtorEq, Nat.reduceLeDiff, Nat.reduceBEq, mwp_draw, hlt]
        exact ⟨fits64 (by omega) (by omega), kN' _ (j + 1) (by rfl) (by omega) (by omega)⟩
    · simp (config := { maxSteps := 10000000, implicitDefEqProofs := false }) only [go_sem, ↓reduceIte, Nat.reduceAdd, Nat.reduceMul, Nat.reduceEqDiff, Nat.reduceSub, Nat.reduceLT, reduceCtorEq, Nat.reduceLeDiff, Nat.reduceBEq, mwp_draw]
      exact ⟨fits64 (by omega) (by omega), kN _ (i + 1) (by rfl) (by omega) (by omega)⟩
  · simp (config := { maxSteps := 10000000, implicitDefEqProofs := false }) only [go_sem, ↓reduceIte, Nat.reduceAdd, Nat.reduceMul, Nat.reduceEqDiff, Nat.reduceSub, Nat.reduceLT, reduceCtorEq, Nat.reduceLeDiff, Nat.reduceBEq, mwp_draw]
    have : (0 : Int) < ls.length := by omega
    first | exact mvb (decide_eq_true this) | simp [this]
theorem rows_bytes {rows : List (List D)} (h : ∀ r ∈ rows, rowOK [.i .u8] r) : ∃ b, rows = encB b ∧ Byt b := by
  obtain ⟨l, h1, h2⟩ := rows_int h
  exact ⟨l, h1, fun n hn => wf_u8 (h2 n hn)⟩
theorem FnBestEdge_row (m : List (List D)) (h : ∀ r ∈ m, rowOK [.i .u8] r) (_ : m.length ≤ maxLen) : Is prog fid_laws_FnBestEdge [.s false 1 m] (.b true) := by
  obtain ⟨b, rfl, hb⟩ := rows_bytes h
  exact FnBestEdge_is _ b hb
end Go.Fw
