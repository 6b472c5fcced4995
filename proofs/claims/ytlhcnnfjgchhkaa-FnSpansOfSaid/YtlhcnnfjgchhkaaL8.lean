/-
  The laws on spans of time.
-/
import Derived.Test.YtlhcnnfjgchhkaaCt8
import Derived.Test.YtlhcnnfjgchhkaaFyA
namespace Go.Fw
set_option linter.unusedSimpArgs false
set_option linter.unusedVariables false
set_option maxRecDepth 100000
set_option maxHeartbeats 4000000
open Go.Proofs.Try (prog)

theorem spL_length (size a c : Int) : (spL size a c).length ≤ 64 := by
  unfold spL
  split
  · rename_i h
    have h1 := of_decide_eq_true h.1
    have := spansM_length a c 64 0 size (by omega) (by omega) (by omega)
    omega
  · simp

theorem FnExactSpansOf_is (size a c : Int) : Is prog fid_laws_FnExactSpansOf [.i .i64 size, .i .i64 a, .i .i64 c] (.b true) := by
  have hl := spL_length size a c
  refine MCall.run mixed get_laws_FnExactSpansOf ok_laws_FnExactSpansOf (Nat.le_of_ble_eq_true rfl) (by decide) ?_
  unfold mc_laws_FnExactSpansOf
  simp (config := { maxSteps := 10000000, implicitDefEqProofs := false }) only [go_sem, ↓reduceIte, Nat.reduceAdd, Nat.reduceMul, Nat.reduceEqDiff, Nat.reduceSub, Nat.reduceLT, reduceCtorEq, Nat.reduceLeDiff, Nat.reduceBEq]
  refine callK_is (SpansOfS_is size a c) ?_
  simp (config := { maxSteps := 10000000, implicitDefEqProofs := false }) only [go_sem, ↓reduceIte, Nat.reduceAdd, Nat.reduceMul, Nat.reduceEqDiff, Nat.reduceSub, Nat.reduceLT, reduceCtorEq, Nat.reduceLeDiff, Nat.reduceBEq]
  refine callK_is (SpansOf_is size a c) ?_
  simp (config := { maxSteps := 10000000, implicitDefEqProofs := false }) only [go_sem, ↓reduceIte, Nat.reduceAdd, Nat.reduceMul, Nat.reduceEqDiff, Nat.reduceSub, Nat.reduceLT, reduceCtorEq, Nat.reduceLeDiff, Nat.reduceBEq]
  refine callK_is (eqLifeS_is _ _ _ _ (by omega)) ?_
  simp (config := { maxSteps := 10000000, implicitDefEqProofs := false }) only [go_sem, ↓reduceIte, Nat.reduceAdd, Nat.reduceMul, Nat.reduceEqDiff, Nat.reduceSub, Nat.reduceLT, reduceCtorEq, Nat.reduceLeDiff, Nat.reduceBEq]
  refine callK_det (markLifeS_is _ 1 (by omega) (by omega)) ?_
  simp (config := { maxSteps := 10000000, implicitDefEqProofs := false }) only [go_sem, ↓reduceIte, Nat.reduceAdd, Nat.reduceMul, Nat.reduceEqDiff, Nat.reduceSub, Nat.reduceLT, reduceCtorEq, Nat.reduceLeDiff, Nat.reduceBEq, markL_length, markL_take]
  refine callK_is (heldLifeS_is _ (spL size a c).length 1 (by omega) (by omega)) ?_
  simp (config := { maxSteps := 10000000, implicitDefEqProofs := false }) only [go_sem, ↓reduceIte, Nat.reduceAdd, Nat.reduceMul, Nat.reduceEqDiff, Nat.reduceSub, Nat.reduceLT, reduceCtorEq, Nat.reduceLeDiff, Nat.reduceBEq, markL_length, markL_take]
  refine ⟨fun h => by omega, fun h => ?_⟩
  refine callK_is (SpansOf_is size a c) ?_
  simp (config := { maxSteps := 10000000, implicitDefEqProofs := false }) only [go_sem, ↓reduceIte, Nat.reduceAdd, Nat.reduceMul, Nat.reduceEqDiff, Nat.reduceSub, Nat.reduceLT, reduceCtorEq, Nat.reduceLeDiff, Nat.reduceBEq, markL_length, markL_take]
  refine callK_is (eqLifeS_is _ _ _ _ (by omega)) ?_
  simp (config := { maxSteps := 10000000, implicitDefEqProofs := false }) only [go_sem, ↓reduceIte, Nat.reduceAdd, Nat.reduceMul, Nat.reduceEqDiff, Nat.reduceSub, Nat.reduceLT, reduceCtorEq, Nat.reduceLeDiff, Nat.reduceBEq, markL_length, markL_take]
  refine callK_is (heldLifeS_is _ (spL size a c).length 1 (by omega) (by omega)) ?_
  simp (config := { maxSteps := 10000000, implicitDefEqProofs := false }) only [go_sem, ↓reduceIte, Nat.reduceAdd, Nat.reduceMul, Nat.reduceEqDiff, Nat.reduceSub, Nat.reduceLT, reduceCtorEq, Nat.reduceLeDiff, Nat.reduceBEq, markL_length, markL_take]
  exact fun h => by omega

theorem FnSpansWhole_is (t : Bool) (b : List Int) (hb : Byt b) : Is prog fid_laws_FnSpansWhole [.s t 1 (encB b)] (.b true) := by
  refine MCall.run mixed get_laws_FnSpansWhole ok_laws_FnSpansWhole (Nat.le_of_ble_eq_true rfl) (by decide) ?_
  unfold mc_laws_FnSpansWhole
  simp (config := { maxSteps := 10000000, implicitDefEqProofs := false }) only [go_sem, ↓reduceIte, Nat.reduceAdd, Nat.reduceMul, Nat.reduceEqDiff, Nat.reduceSub, Nat.reduceLT, reduceCtorEq, Nat.reduceLeDiff, Nat.reduceBEq]
  refine fun hlen => callK_is (DrawSpansOf_is _ b hb) ?_
  simp (config := { maxSteps := 10000000, implicitDefEqProofs := false }) only [go_sem, ↓reduceIte, Nat.reduceAdd, Nat.reduceMul, Nat.reduceEqDiff, Nat.reduceSub, Nat.reduceLT, reduceCtorEq, Nat.reduceLeDiff, Nat.reduceBEq]
  generalize numM (b.take 2000) 0 _ = size
  generalize numM (b.take 2000) 1 _ = a
  generalize numM (b.take 2000) 2 _ = c
  have hl := spL_length size a c
  refine callK_is (SpansOf_is size a c) ?_
  simp (config := { maxSteps := 10000000, implicitDefEqProofs := false }) only [go_sem, ↓reduceIte, Nat.reduceAdd, Nat.reduceMul, Nat.reduceEqDiff, Nat.reduceSub, Nat.reduceLT, reduceCtorEq, Nat.reduceLeDiff, Nat.reduceBEq]
  refine callK_is (SpansOfS_is size a c) ?_
  simp (config := { maxSteps := 10000000, implicitDefEqProofs := false }) only [go_sem, ↓reduceIte, Nat.reduceAdd, Nat.reduceMul, Nat.reduceEqDiff, Nat.reduceSub, Nat.reduceLT, reduceCtorEq, Nat.reduceLeDiff, Nat.reduceBEq]
  refine callK_is (dyLives_is _ _ _ _ (by omega)) ?_
  simp (config := { maxSteps := 10000000, implicitDefEqProofs := false }) only [go_sem, ↓reduceIte, Nat.reduceAdd, Nat.reduceMul, Nat.reduceEqDiff, Nat.reduceSub, Nat.reduceLT, reduceCtorEq, Nat.reduceLeDiff, Nat.reduceBEq]
  have sh : ∀ x : Int, ¬ x < 1 → ¬ 64 < x → spL x 0 x = [(0, 0, 0, x)] ∧ spV x 0 x = true ∧ spL x x x = [] ∧ spV x x x = true := fun x h1 h2 => by
    have v1 : spV x 0 x = true := decide_eq_true (by omega)
    have v2 : spV x x x = true := decide_eq_true (by omega)
    refine ⟨?_, v1, ?_, v2⟩
    · unfold spL; rw [if_pos ⟨v1, by omega⟩]; simp [spansM]
    · unfold spL; rw [if_neg (by omega)]
  refine ⟨fun h1 => ⟨fun h2 => callK_is (dyLives_is _ _ _ _ (by omega)) ?_, fun h2 => ?_⟩, fun h1 => callK_is (dyLives_is _ _ _ _ (by omega)) ?_⟩
  · simp (config := { maxSteps := 10000000, implicitDefEqProofs := false }) only [go_sem, ↓reduceIte, Nat.reduceAdd, Nat.reduceMul, Nat.reduceEqDiff, Nat.reduceSub, Nat.reduceLT, reduceCtorEq, Nat.reduceLeDiff, Nat.reduceBEq]
  · obtain ⟨e1, e2, e3, e4⟩ := sh size h1 h2
    refine callK_is (SpansOf_is size 0 size) ?_
    simp (config := { maxSteps := 10000000, implicitDefEqProofs := false }) only [go_sem, ↓reduceIte, Nat.reduceAdd, Nat.reduceMul, Nat.reduceEqDiff, Nat.reduceSub, Nat.reduceLT, reduceCtorEq, Nat.reduceLeDiff, Nat.reduceBEq, e1, e2, e3, e4]
    refine callK_is (SpansOf_is size size size) ?_
    simp (config := { maxSteps := 10000000, implicitDefEqProofs := false }) only [go_sem, ↓reduceIte, Nat.reduceAdd, Nat.reduceMul, Nat.reduceEqDiff, Nat.reduceSub, Nat.reduceLT, reduceCtorEq, Nat.reduceLeDiff, Nat.reduceBEq, e1, e2, e3, e4]
    decide
  · simp (config := { maxSteps := 10000000, implicitDefEqProofs := false }) only [go_sem, ↓reduceIte, Nat.reduceAdd, Nat.reduceMul, Nat.reduceEqDiff, Nat.reduceSub, Nat.reduceLT, reduceCtorEq, Nat.reduceLeDiff, Nat.reduceBEq]

/-- What the law on spans runs through. -/
def chainB (c : Int) : List L4 → Int → Bool
  | [], at' => decide (at' = c)
  | x :: r, at' => decide (x.2.2.1 = at') && decide (at' < x.2.2.2) && chainB c r x.2.2.2
set_option maxRecDepth 100000 in
theorem spans_chain : ∀ size ∈ [(8 : Int), 7, 16, 5, 64, 1, 0, 65], ∀ a ∈ [(1 : Int), 0, 3, 2, 5, -1], ∀ c ∈ [(6 : Int), 4, 7, 5, 3, 16, 1], spV size a c = true → chainB c (spL size a c) a = true ∧ (spL size a c).length ≤ 12 := by
  decide +kernel
theorem FnSpansOf_is (t : Bool) (b : List Int) (hb : Byt b) : Is prog fid_laws_FnSpansOf [.s t 1 (encB b)] (.b true) := by
  refine MCall.run mixed get_laws_FnSpansOf ok_laws_FnSpansOf (Nat.le_of_ble_eq_true rfl) (by decide) ?_
  unfold mc_laws_FnSpansOf
  simp (config := { maxSteps := 10000000, implicitDefEqProofs := false }) only [go_sem, ↓reduceIte, Nat.reduceAdd, Nat.reduceMul, Nat.reduceEqDiff, Nat.reduceSub, Nat.reduceLT, reduceCtorEq, Nat.reduceLeDiff, Nat.reduceBEq]
  refine fun hlen => callK_is (DrawSpansOf_is _ b hb) ?_
  simp (config := { maxSteps := 10000000, implicitDefEqProofs := false }) only [go_sem, ↓reduceIte, Nat.reduceAdd, Nat.reduceMul, Nat.reduceEqDiff, Nat.reduceSub, Nat.reduceLT, reduceCtorEq, Nat.reduceLeDiff, Nat.reduceBEq]
  have m1 := num_mem (p := 0) (l := [8, 7, 16, 5, 64, 1, 0, 65]) (byt_take hb 2000) (take_le2000 b) (by omega) (by decide)
  have m2 := num_mem (p := 1) (l := [1, 0, 3, 2, 5, -1]) (byt_take hb 2000) (take_le2000 b) (by omega) (by decide)
  have m3 := num_mem (p := 2) (l := [6, 4, 7, 5, 3, 16, 1]) (byt_take hb 2000) (take_le2000 b) (by omega) (by decide)
  generalize numM (b.take 2000) 0 _ = size at m1
  generalize numM (b.take 2000) 1 _ = a at m2
  generalize numM (b.take 2000) 2 _ = c at m3
  have hl := spL_length size a c
  refine callK_is (SpansOf_is size a c) ?_
  simp (config := { maxSteps := 10000000, implicitDefEqProofs := false }) only [go_sem, ↓reduceIte, Nat.reduceAdd, Nat.reduceMul, Nat.reduceEqDiff, Nat.reduceSub, Nat.reduceLT, reduceCtorEq, Nat.reduceLeDiff, Nat.reduceBEq]
  refine callK_is (SpansOfS_is size a c) ?_
  simp (config := { maxSteps := 10000000, implicitDefEqProofs := false }) only [go_sem, ↓reduceIte, Nat.reduceAdd, Nat.reduceMul, Nat.reduceEqDiff, Nat.reduceSub, Nat.reduceLT, reduceCtorEq, Nat.reduceLeDiff, Nat.reduceBEq]
  refine callK_is (dyLives_is _ _ _ _ (by omega)) ?_
  simp (config := { maxSteps := 10000000, implicitDefEqProofs := false }) only [go_sem, ↓reduceIte, Nat.reduceAdd, Nat.reduceMul, Nat.reduceEqDiff, Nat.reduceSub, Nat.reduceLT, reduceCtorEq, Nat.reduceLeDiff, Nat.reduceBEq]
  refine guardK_mk (fun hv => ?_) (fun hv => ?_)
  · simp only [hv]
    simp (config := { maxSteps := 10000000, implicitDefEqProofs := false }) only [go_sem, ↓reduceIte, Nat.reduceAdd, Nat.reduceMul, Nat.reduceEqDiff, Nat.reduceSub, Nat.reduceLT, reduceCtorEq, Nat.reduceLeDiff, Nat.reduceBEq]
    refine callK_is (dyLives_is _ _ _ _ (by omega)) ?_
    simp (config := { maxSteps := 10000000, implicitDefEqProofs := false }) only [go_sem, ↓reduceIte, Nat.reduceAdd, Nat.reduceMul, Nat.reduceEqDiff, Nat.reduceSub, Nat.reduceLT, reduceCtorEq, Nat.reduceLeDiff, Nat.reduceBEq]
  · have hv' : spV size a c = true := by simpa using hv
    have fin := spans_chain size m1 a m2 c m3 hv'
    simp only [hv']
    simp (config := { maxSteps := 10000000, implicitDefEqProofs := false }) only [go_sem, ↓reduceIte, Nat.reduceAdd, Nat.reduceMul, Nat.reduceEqDiff, Nat.reduceSub, Nat.reduceLT, reduceCtorEq, Nat.reduceLeDiff, Nat.reduceBEq]
    refine mwp_loopk (X := Nat × Int) (fun x => ⟨[(5, .i .i64 c), (6, .sr 0 0 (spL size a c).length), (10, .i .i64 x.2), (11, .i .i64 x.1)], [(0, .arr true 4 (encL (spL size a c)))], 1⟩)
      (fun x => x.1 ≤ (spL size a c).length ∧ chainB c ((spL size a c).drop x.1) x.2 = true) (fun x => (spL size a c).length - x.1) (0, a) rfl ⟨Nat.zero_le _, fin.1⟩ ?_
    rintro ⟨i, at'⟩ ⟨h1, h2⟩ K kN kE kR
    simp only at h1 h2
    simp (config := { maxSteps := 10000000, implicitDefEqProofs := false }) only [go_sem, ↓reduceIte, Nat.reduceAdd, Nat.reduceMul, Nat.reduceEqDiff, Nat.reduceSub, Nat.reduceLT, reduceCtorEq, Nat.reduceLeDiff, Nat.reduceBEq]
    refine ⟨fun h3 => ⟨by omega, h3, by omega, fun x hx => ?_⟩, fun h3 => kE _ _ ?_⟩
    · have e : (spL size a c).drop i = x :: (spL size a c).drop (i + 1) := by
        rw [List.drop_eq_getElem_cons (by omega)]
        congr 1
        exact (List.getElem?_eq_some_iff.1 hx).2
      rw [e] at h2
      simp only [chainB, Bool.and_eq_true, decide_eq_true_eq] at h2
      refine ⟨fun _ => ⟨by omega, h3, by omega, fun y hy => ?_⟩, fun h4 => absurd h2.1.1 h4⟩
      obtain rfl : x = y := by rw [hx] at hy; exact Option.some.inj hy
      refine ⟨fun h4 => by omega, fun _ => ⟨by omega, h3, by omega, fun y hy => ?_⟩⟩
      obtain rfl : x = y := by rw [hx] at hy; exact Option.some.inj hy
      exact ⟨fits64 (by omega) (by omega), kN _ (i + 1, x.2.2.2) (by rfl) ⟨by omega, h2.2⟩ (by simp only; omega)⟩
    · obtain rfl : i = (spL size a c).length := by omega
      simp only [List.drop_length, chainB, decide_eq_true_eq] at h2
      simp (config := { maxSteps := 10000000, implicitDefEqProofs := false }) only [go_sem, ↓reduceIte, Nat.reduceAdd, Nat.reduceMul, Nat.reduceEqDiff, Nat.reduceSub, Nat.reduceLT, reduceCtorEq, Nat.reduceLeDiff, Nat.reduceBEq]
      exact ⟨fun _ => mvb (decide_eq_true (by omega)), fun h => absurd h2 h⟩

theorem FnExactSpansOf_row (x0 : Int) (_ : (Lit.int .i64 x0).wf = true) (x1 : Int) (_ : (Lit.int .i64 x1).wf = true) (x2 : Int) (_ : (Lit.int .i64 x2).wf = true) :
    Is prog fid_laws_FnExactSpansOf [.i .i64 x0, .i .i64 x1, .i .i64 x2] (.b true) := FnExactSpansOf_is x0 x1 x2
theorem rows_bytes {rows : List (List D)} (h : ∀ r ∈ rows, rowOK [.i .u8] r) : ∃ b, rows = encB b ∧ Byt b := by
  obtain ⟨l, h1, h2⟩ := rows_int h
  exact ⟨l, h1, fun n hn => wf_u8 (h2 n hn)⟩
theorem FnSpansOf_row (m : List (List D)) (h : ∀ r ∈ m, rowOK [.i .u8] r) (_ : m.length ≤ maxLen) : Is prog fid_laws_FnSpansOf [.s false 1 m] (.b true) := by
  obtain ⟨b, rfl, hb⟩ := rows_bytes h
  exact FnSpansOf_is _ b hb
theorem FnSpansWhole_row (m : List (List D)) (h : ∀ r ∈ m, rowOK [.i .u8] r) (_ : m.length ≤ maxLen) : Is prog fid_laws_FnSpansWhole [.s false 1 m] (.b true) := by
  obtain ⟨b, rfl, hb⟩ := rows_bytes h
  exact FnSpansWhole_is _ b hb
end Go.Fw
