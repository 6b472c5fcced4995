/-
  Spans of time.
-/
import Derived.Test.YtlhcnnfjgchhkaaCtD
namespace Go.Fw
set_option linter.unusedSimpArgs false
set_option linter.unusedVariables false
set_option maxRecDepth 100000
set_option maxHeartbeats 4000000
open Go.Proofs.Try (prog)

theorem take_le2000 (b : List Int) : (b.take 2000).length ≤ 2000 := by simp; omega

theorem DrawSpansOf_is (t : Bool) (b : List Int) (hb : Byt b) : Is prog fid_spec_DrawSpansOf [.s t 1 (encB b)]
    (.tup [.i .i64 (numM (b.take 2000) 0 [8, 7, 16, 5, 64, 1, 0, 65]), .i .i64 (numM (b.take 2000) 1 [1, 0, 3, 2, 5, -1]), .i .i64 (numM (b.take 2000) 2 [6, 4, 7, 5, 3, 16, 1])]) := by
  refine MCall.run mixed get_spec_DrawSpansOf ok_spec_DrawSpansOf (Nat.le_of_ble_eq_true rfl) (by decide) ?_
  unfold mc_spec_DrawSpansOf
  simp (config := { maxSteps := 10000000, implicitDefEqProofs := false }) only [go_sem, ↓reduceIte, Nat.reduceAdd, Nat.reduceMul, Nat.reduceEqDiff, Nat.reduceSub, Nat.reduceLT, reduceCtorEq, Nat.reduceLeDiff, Nat.reduceBEq]
  refine callK_is (l14Open_is b) ?_
  simp (config := { maxSteps := 10000000, implicitDefEqProofs := false }) only [go_sem, ↓reduceIte, Nat.reduceAdd, Nat.reduceMul, Nat.reduceEqDiff, Nat.reduceSub, Nat.reduceLT, reduceCtorEq, Nat.reduceLeDiff, Nat.reduceBEq]
  refine callK_det (num_is _ _ _ [8, 7, 16, 5, 64, 1, 0, 65] (byt_take hb _) (take_le2000 b) (by omega) (by decide)) ?_
  simp (config := { maxSteps := 10000000, implicitDefEqProofs := false }) only [go_sem, ↓reduceIte, Nat.reduceAdd, Nat.reduceMul, Nat.reduceEqDiff, Nat.reduceSub, Nat.reduceLT, reduceCtorEq, Nat.reduceLeDiff, Nat.reduceBEq]
  refine callK_det (num_is _ _ _ [1, 0, 3, 2, 5, -1] (byt_take hb _) (take_le2000 b) (by omega) (by decide)) ?_
  simp (config := { maxSteps := 10000000, implicitDefEqProofs := false }) only [go_sem, ↓reduceIte, Nat.reduceAdd, Nat.reduceMul, Nat.reduceEqDiff, Nat.reduceSub, Nat.reduceLT, reduceCtorEq, Nat.reduceLeDiff, Nat.reduceBEq]
  refine callK_det (num_is _ _ _ [6, 4, 7, 5, 3, 16, 1] (byt_take hb _) (take_le2000 b) (by omega) (by decide)) ?_
  simp (config := { maxSteps := 10000000, implicitDefEqProofs := false }) only [go_sem, ↓reduceIte, Nat.reduceAdd, Nat.reduceMul, Nat.reduceEqDiff, Nat.reduceSub, Nat.reduceLT, reduceCtorEq, Nat.reduceLeDiff, Nat.reduceBEq]
  rfl

/-- The spans of a time, by halves. -/
def spansM (from' to' : Int) : Nat → Int → Int → List L4
  | 0, _, _ => []
  | f + 1, lo, hi => if from' ≤ lo ∧ hi ≤ to' then [(0, 0, lo, hi)] else if hi ≤ from' ∨ to' ≤ lo then [] else spansM from' to' f lo ((lo + hi).tdiv 2) ++ spansM from' to' f ((lo + hi).tdiv 2) hi

theorem mid {lo hi : Int} (h : 0 ≤ lo) (h2 : lo + 2 ≤ hi) : lo < (lo + hi).tdiv 2 ∧ (lo + hi).tdiv 2 < hi := by
  rw [Int.tdiv_eq_ediv_of_nonneg (by omega)]; omega

theorem spansM_length (a c : Int) : ∀ (f : Nat) (lo hi : Int), 0 ≤ lo → lo < hi → hi - lo ≤ f → (spansM a c f lo hi).length ≤ (hi - lo).toNat
  | 0, lo, hi, _, _, _ => by simp [spansM]
  | f + 1, lo, hi, h0, h1, hf => by
    simp only [spansM]
    split
    · simp; omega
    · split
      · simp
      · rename_i h2 h3
        by_cases h4 : lo + 2 ≤ hi
        · have m := mid h0 h4
          have i1 := spansM_length a c f lo _ h0 m.1 (by omega)
          have i2 := spansM_length a c f _ hi (by omega) m.2 (by omega)
          simp only [List.length_append]; omega
        · omega

theorem spans_is (a c : Int) (hac : a < c) (h64 : 0 ≤ a ∧ c ≤ 64) : ∀ (f : Nat) (lo hi : Int), 0 ≤ lo → lo < hi → hi ≤ 64 → hi - lo ≤ f →
    Is prog fid_impl_spans [.i .i64 lo, .i .i64 hi, .i .i64 a, .i .i64 c] (.ow true 4 (encL (spansM a c f lo hi)))
  | 0, lo, hi, _, _, _, _ => by omega
  | f + 1, lo, hi, h0, h1, h2, hf => by
    refine MCall.run mixed get_impl_spans ok_impl_spans (Nat.le_of_ble_eq_true rfl) (by decide) ?_
    unfold mc_impl_spans
    simp (config := { maxSteps := 10000000, implicitDefEqProofs := false }) only [go_sem, ↓reduceIte, Nat.reduceAdd, Nat.reduceMul, Nat.reduceEqDiff, Nat.reduceSub, Nat.reduceLT, reduceCtorEq, Nat.reduceLeDiff, Nat.reduceBEq]
    have e1 : ∀ {x y : List (List D)}, x = y → MV.ow true 4 x = MV.ow true 4 y := fun h => by rw [h]
    have key : ¬ (a ≤ lo ∧ hi ≤ c) → ¬ (hi ≤ a ∨ c ≤ lo) → lo + 2 ≤ hi := fun h h' => by omega
    refine ⟨fun p1 => ⟨fun p2 => ?_, fun p2 => ?_⟩, fun p1 => ?_⟩
    · apply e1; simp only [spansM]; rw [if_pos ⟨p1, p2⟩]; rfl
    all_goals
      have hno : ¬ (a ≤ lo ∧ hi ≤ c) := by omega
      refine ⟨fun p3 => ⟨fun p4 => ?_, fun p4 => ⟨fits64 (by omega) (by omega), by omega, ?_, ?_⟩⟩, fun p3 => ?_⟩
      · apply e1; simp only [spansM]; rw [if_neg hno, if_pos (.inr p4)]; rfl
      · have m := mid h0 (key hno (by omega)); exact fits64 (by omega) (by omega)
      · have hn2 : ¬ (hi ≤ a ∨ c ≤ lo) := by omega
        have m := mid h0 (key hno hn2)
        refine callK_is (spans_is a c hac h64 f _ _ h0 m.1 (by omega) (by omega)) ?_
        simp (config := { maxSteps := 10000000, implicitDefEqProofs := false }) only [go_sem, ↓reduceIte, Nat.reduceAdd, Nat.reduceMul, Nat.reduceEqDiff, Nat.reduceSub, Nat.reduceLT, reduceCtorEq, Nat.reduceLeDiff, Nat.reduceBEq]
        refine callK_is (spans_is a c hac h64 f _ _ (by omega) m.2 (by omega) (by omega)) ?_
        simp (config := { maxSteps := 10000000, implicitDefEqProofs := false }) only [go_sem, ↓reduceIte, Nat.reduceAdd, Nat.reduceMul, Nat.reduceEqDiff, Nat.reduceSub, Nat.reduceLT, reduceCtorEq, Nat.reduceLeDiff, Nat.reduceBEq]
        have i1 := spansM_length a c f lo _ h0 m.1 (by omega)
        have i2 := spansM_length a c f _ hi (by omega) m.2 (by omega)
        refine ⟨by omega, e1 ?_⟩
        simp only [spansM]; rw [if_neg hno, if_neg hn2]
      · apply e1; simp only [spansM]; rw [if_neg hno, if_pos (.inl p3)]; rfl

theorem l8Spans_is (a c : Int) (hac : a < c) (h64 : 0 ≤ a ∧ c ≤ 64) : ∀ (f : Nat) (lo hi : Int) (out : List L4), 0 ≤ lo → lo < hi → hi ≤ 64 → hi - lo ≤ f → (out.length : Int) + (hi - lo) ≤ 1000 →
    Is prog fid_spec_l8Spans [.i .i64 lo, .i .i64 hi, .i .i64 a, .i .i64 c, .ow false 4 (encL out)] (.ow true 4 (encL (out ++ spansM a c f lo hi)))
  | 0, lo, hi, _, _, _, _, _, _ => by omega
  | f + 1, lo, hi, out, h0, h1, h2, hf, ho => by
    refine MCall.run mixed get_spec_l8Spans ok_spec_l8Spans (Nat.le_of_ble_eq_true rfl) (by decide) ?_
    unfold mc_spec_l8Spans
    simp (config := { maxSteps := 10000000, implicitDefEqProofs := false }) only [go_sem, ↓reduceIte, Nat.reduceAdd, Nat.reduceMul, Nat.reduceEqDiff, Nat.reduceSub, Nat.reduceLT, reduceCtorEq, Nat.reduceLeDiff, Nat.reduceBEq]
    have e1 : ∀ {x y : List L4}, x = y → MV.ow true 4 (encL x) = MV.ow true 4 (encL y) := fun h => by rw [h]
    refine ⟨fun p1 => ⟨fun p2 => ⟨fun p3 => by omega, fun p3 => ⟨fun p4 => ⟨fun p5 => ?_, fun p5 => ?_⟩, fun p4 => ?_⟩⟩, fun p2 => ?_⟩, fun p1 => ?_⟩
    · refine ⟨by omega, e1 ?_⟩
      simp only [spansM]; rw [if_pos ⟨p4, p5⟩]
    · have m := mid h0 (show lo + 2 ≤ hi by omega)
      have i1 := spansM_length a c f lo _ h0 m.1 (by omega)
      have i2 := spansM_length a c f _ hi (by omega) m.2 (by omega)
      refine ⟨fits64 (by omega) (by omega), by omega, fits64 (by omega) (by omega), callK_is (l8Spans_is a c hac h64 f _ _ out h0 m.1 (by omega) (by omega) (by omega)) ?_⟩
      simp (config := { maxSteps := 10000000, implicitDefEqProofs := false }) only [go_sem, ↓reduceIte, Nat.reduceAdd, Nat.reduceMul, Nat.reduceEqDiff, Nat.reduceSub, Nat.reduceLT, reduceCtorEq, Nat.reduceLeDiff, Nat.reduceBEq]
      refine callK_is (l8Spans_is a c hac h64 f _ _ _ (by omega) m.2 (by omega) (by omega) (by simp; omega)) ?_
      simp (config := { maxSteps := 10000000, implicitDefEqProofs := false }) only [go_sem, ↓reduceIte, Nat.reduceAdd, Nat.reduceMul, Nat.reduceEqDiff, Nat.reduceSub, Nat.reduceLT, reduceCtorEq, Nat.reduceLeDiff, Nat.reduceBEq]
      apply e1
      simp only [spansM]; rw [if_neg (by omega), if_neg (by omega)]
    · have m := mid h0 (show lo + 2 ≤ hi by omega)
      have i1 := spansM_length a c f lo _ h0 m.1 (by omega)
      have i2 := spansM_length a c f _ hi (by omega) m.2 (by omega)
      refine ⟨fits64 (by omega) (by omega), by omega, fits64 (by omega) (by omega), callK_is (l8Spans_is a c hac h64 f _ _ out h0 m.1 (by omega) (by omega) (by omega)) ?_⟩
      simp (config := { maxSteps := 10000000, implicitDefEqProofs := false }) only [go_sem, ↓reduceIte, Nat.reduceAdd, Nat.reduceMul, Nat.reduceEqDiff, Nat.reduceSub, Nat.reduceLT, reduceCtorEq, Nat.reduceLeDiff, Nat.reduceBEq]
      refine callK_is (l8Spans_is a c hac h64 f _ _ _ (by omega) m.2 (by omega) (by omega) (by simp; omega)) ?_
      simp (config := { maxSteps := 10000000, implicitDefEqProofs := false }) only [go_sem, ↓reduceIte, Nat.reduceAdd, Nat.reduceMul, Nat.reduceEqDiff, Nat.reduceSub, Nat.reduceLT, reduceCtorEq, Nat.reduceLeDiff, Nat.reduceBEq]
      apply e1
      simp only [spansM]; rw [if_neg (by omega), if_neg (by omega)]
    · apply e1; simp only [spansM]; rw [if_neg (by omega), if_pos (by omega)]; simp
    · apply e1; simp only [spansM]; rw [if_neg (by omega), if_pos (by omega)]; simp

theorem l8Spans_none (a c : Int) (hac : c ≤ a) (lo hi : Int) (out : List L4) :
    Is prog fid_spec_l8Spans [.i .i64 lo, .i .i64 hi, .i .i64 a, .i .i64 c, .ow false 4 (encL out)] (.ow true 4 (encL out)) := by
  refine MCall.run mixed get_spec_l8Spans ok_spec_l8Spans (Nat.le_of_ble_eq_true rfl) (by decide) ?_
  unfold mc_spec_l8Spans
  simp (config := { maxSteps := 10000000, implicitDefEqProofs := false }) only [go_sem, ↓reduceIte, Nat.reduceAdd, Nat.reduceMul, Nat.reduceEqDiff, Nat.reduceSub, Nat.reduceLT, reduceCtorEq, Nat.reduceLeDiff, Nat.reduceBEq]
  exact fun _ _ h => absurd hac h

def spV (size a c : Int) : Bool := decide (1 ≤ size ∧ size ≤ 64 ∧ 0 ≤ a ∧ a ≤ c ∧ c ≤ size)
def spL (size a c : Int) : List L4 := if spV size a c = true ∧ a ≠ c then spansM a c 64 0 size else []
abbrev spansR (size a c : Int) : MV := .tup [.ow true 4 (encL (spL size a c)), .b (spV size a c)]
theorem sp_no {size a c : Int} (h : size < 1 ∨ 64 < size ∨ a < 0 ∨ c < a ∨ size < c) : MV.tup [.ow true 4 [], .b false] = spansR size a c := by
  have : spV size a c = false := decide_eq_false (by omega)
  simp [spansR, spL, this, encL]
theorem sp_eq {size a c : Int} (h : ¬ (size < 1 ∨ 64 < size ∨ a < 0 ∨ c < a ∨ size < c)) (e : a = c) : MV.tup [.ow true 4 [], .b true] = spansR size a c := by
  have : spV size a c = true := decide_eq_true (by omega)
  subst e; simp [spansR, spL, this, encL]
theorem sp_yes {size a c : Int} (h : ¬ (size < 1 ∨ 64 < size ∨ a < 0 ∨ c < a ∨ size < c)) (e : ¬ a = c) : MV.tup [.ow true 4 (encL (spansM a c 64 0 size)), .b true] = spansR size a c := by
  have : spV size a c = true := decide_eq_true (by omega)
  simp [spansR, spL, this, e]

theorem SpansOf_is (size a c : Int) : Is prog fid_impl_SpansOf [.i .i64 size, .i .i64 a, .i .i64 c] (spansR size a c) := by
  refine MCall.run mixed get_impl_SpansOf ok_impl_SpansOf (Nat.le_of_ble_eq_true rfl) (by decide) ?_
  unfold mc_impl_SpansOf
  simp (config := { maxSteps := 10000000, implicitDefEqProofs := false }) only [go_sem, ↓reduceIte, Nat.reduceAdd, Nat.reduceMul, Nat.reduceEqDiff, Nat.reduceSub, Nat.reduceLT, reduceCtorEq, Nat.reduceLeDiff, Nat.reduceBEq]
  have hA : (size < 1 ∨ 64 < size ∨ a < 0 ∨ c < a ∨ size < c) → MV.tup [MV.ow true 4 [], MV.b false] = spansR size a c := sp_no
  refine ⟨fun p1 => ⟨fun p2 => ⟨fun p3 => ⟨fun p4 => ⟨fun p5 => hA (by omega), fun p5 => ⟨fun p6 => ?_, fun p6 => ?_⟩⟩, fun p4 => hA (by omega)⟩, fun p3 => hA (by omega)⟩, fun p2 => hA (by omega)⟩, fun p1 => hA (by omega)⟩
  · exact sp_eq (by omega) p6
  · refine callK_is (spans_is a c (by omega) (by omega) 64 0 size (by omega) (by omega) (by omega) (by omega)) ?_
    simp (config := { maxSteps := 10000000, implicitDefEqProofs := false }) only [go_sem, ↓reduceIte, Nat.reduceAdd, Nat.reduceMul, Nat.reduceEqDiff, Nat.reduceSub, Nat.reduceLT, reduceCtorEq, Nat.reduceLeDiff, Nat.reduceBEq]
    exact sp_yes (by omega) p6

theorem SpansOfS_is (size a c : Int) : Is prog fid_spec_SpansOf [.i .i64 size, .i .i64 a, .i .i64 c] (spansR size a c) := by
  refine MCall.run mixed get_spec_SpansOf ok_spec_SpansOf (Nat.le_of_ble_eq_true rfl) (by decide) ?_
  unfold mc_spec_SpansOf
  simp (config := { maxSteps := 10000000, implicitDefEqProofs := false }) only [go_sem, ↓reduceIte, Nat.reduceAdd, Nat.reduceMul, Nat.reduceEqDiff, Nat.reduceSub, Nat.reduceLT, reduceCtorEq, Nat.reduceLeDiff, Nat.reduceBEq]
  have hA : (size < 1 ∨ 64 < size ∨ a < 0 ∨ c < a ∨ size < c) → MV.tup [MV.ow true 4 [], MV.b false] = spansR size a c := sp_no
  refine ⟨fun p1 => ⟨fun p2 => ⟨fun p3 => ⟨fun p4 => ⟨fun p5 => hA (by omega), fun p5 => ?_⟩, fun p4 => hA (by omega)⟩, fun p3 => hA (by omega)⟩, fun p2 => hA (by omega)⟩, fun p1 => hA (by omega)⟩
  by_cases p6 : a = c
  · refine callK_is (l8Spans_none a c (by omega) 0 size []) ?_
    simp (config := { maxSteps := 10000000, implicitDefEqProofs := false }) only [go_sem, ↓reduceIte, Nat.reduceAdd, Nat.reduceMul, Nat.reduceEqDiff, Nat.reduceSub, Nat.reduceLT, reduceCtorEq, Nat.reduceLeDiff, Nat.reduceBEq]
    exact sp_eq (by omega) p6
  · refine callK_is (l8Spans_is a c (by omega) (by omega) 64 0 size [] (by omega) (by omega) (by omega) (by omega) (by simp; omega)) ?_
    simp (config := { maxSteps := 10000000, implicitDefEqProofs := false }) only [go_sem, ↓reduceIte, Nat.reduceAdd, Nat.reduceMul, Nat.reduceEqDiff, Nat.reduceSub, Nat.reduceLT, reduceCtorEq, Nat.reduceLeDiff, Nat.reduceBEq]
    exact sp_yes (by omega) p6

theorem dyLives_is (t t' : Bool) (l m : List L4) (hl : l.length ≤ 1000000) : Is prog fid_laws_dyLives [.s t 4 (encL l), .s t' 4 (encL m)] (.b (decide (l = m))) := by
  refine MCall.run mixed get_laws_dyLives ok_laws_dyLives (Nat.le_of_ble_eq_true rfl) (by decide) ?_
  unfold mc_laws_dyLives
  simp (config := { maxSteps := 10000000, implicitDefEqProofs := false }) only [go_sem, ↓reduceIte, Nat.reduceAdd, Nat.reduceMul, Nat.reduceEqDiff, Nat.reduceSub, Nat.reduceLT, reduceCtorEq, Nat.reduceLeDiff, Nat.reduceBEq]
  refine ⟨fun h => mvb (eq_len h).symm, fun h => ?_⟩
  refine mwp_loopk (X := Nat) (fun i => ⟨[(0, .s t 4 (encL l)), (1, .s t' 4 (encL m)), (5, .i .i64 i)], [], 0⟩) (fun i => i ≤ l.length ∧ l.take i = m.take i) (fun i => l.length - i) 0 rfl (by simp) ?_
  rintro i ⟨h1, h2⟩ K kN kE kR
  simp (config := { maxSteps := 10000000, implicitDefEqProofs := false }) only [go_sem, ↓reduceIte, Nat.reduceAdd, Nat.reduceMul, Nat.reduceEqDiff, Nat.reduceSub, Nat.reduceLT, reduceCtorEq, Nat.reduceLeDiff, Nat.reduceBEq]
  refine ⟨fun h3 => ⟨by omega, h3, fun x hx => ⟨by omega, by omega, fun y hy => ⟨by kernel_rfl, fun h4 => kR _ ?_, fun h4 => ⟨fits64 (by omega) (by omega), kN _ (i + 1) (by rfl) ⟨by omega, eq_step h2 hx hy h4⟩ (by omega)⟩⟩⟩⟩, fun h3 => kE _ _ ?_⟩
  · simp (config := { maxSteps := 10000000, implicitDefEqProofs := false }) only [go_sem, ↓reduceIte, Nat.reduceAdd, Nat.reduceMul, Nat.reduceEqDiff, Nat.reduceSub, Nat.reduceLT, reduceCtorEq, Nat.reduceLeDiff, Nat.reduceBEq]
    exact mvb (eq_ne hx hy h4).symm
  · simp (config := { maxSteps := 10000000, implicitDefEqProofs := false }) only [go_sem, ↓reduceIte, Nat.reduceAdd, Nat.reduceMul, Nat.reduceEqDiff, Nat.reduceSub, Nat.reduceLT, reduceCtorEq, Nat.reduceLeDiff, Nat.reduceBEq]
    obtain rfl : i = l.length := by omega
    exact mvb (eq_end (by omega) h2).symm

theorem eqEdge_is (x y : E) : Is prog fid_laws_eqEdge [.agg [.i .i64 x.1, .i .i64 x.2], .agg [.i .i64 y.1, .i .i64 y.2]] (.b (decide (x = y))) := by
  refine MCall.run mixed get_laws_eqEdge ok_laws_eqEdge (Nat.le_of_ble_eq_true rfl) (by decide) ?_
  unfold mc_laws_eqEdge
  simp (config := { maxSteps := 10000000, implicitDefEqProofs := false }) only [go_sem, ↓reduceIte, Nat.reduceAdd, Nat.reduceMul, Nat.reduceEqDiff, Nat.reduceSub, Nat.reduceLT, reduceCtorEq, Nat.reduceLeDiff, Nat.reduceBEq]
  have e : x = y ↔ x.1 = y.1 ∧ x.2 = y.2 := Prod.ext_iff
  refine ⟨fun h1 => mvb ?_, fun h1 => ⟨fun h2 => mvb ?_, fun h2 => mvb ?_⟩⟩ <;> simp [e, h1] <;> try simp [h2]
theorem eqLife_is (x y : L4) : Is prog fid_laws_eqLife [.agg [.i .i64 x.1, .i .i64 x.2.1, .i .i64 x.2.2.1, .i .i64 x.2.2.2], .agg [.i .i64 y.1, .i .i64 y.2.1, .i .i64 y.2.2.1, .i .i64 y.2.2.2]] (.b (decide (x = y))) := by
  refine MCall.run mixed get_laws_eqLife ok_laws_eqLife (Nat.le_of_ble_eq_true rfl) (by decide) ?_
  unfold mc_laws_eqLife
  simp (config := { maxSteps := 10000000, implicitDefEqProofs := false }) only [go_sem, ↓reduceIte, Nat.reduceAdd, Nat.reduceMul, Nat.reduceEqDiff, Nat.reduceSub, Nat.reduceLT, reduceCtorEq, Nat.reduceLeDiff, Nat.reduceBEq]
  refine callK_is (eqEdge_is (x.1, x.2.1) (y.1, y.2.1)) ?_
  simp (config := { maxSteps := 10000000, implicitDefEqProofs := false }) only [go_sem, ↓reduceIte, Nat.reduceAdd, Nat.reduceMul, Nat.reduceEqDiff, Nat.reduceSub, Nat.reduceLT, reduceCtorEq, Nat.reduceLeDiff, Nat.reduceBEq]
  have e : x = y ↔ (x.1, x.2.1) = (y.1, y.2.1) ∧ x.2.2.1 = y.2.2.1 ∧ x.2.2.2 = y.2.2.2 := by simp [Prod.ext_iff, and_assoc]
  refine ⟨fun h1 => mvb ?_, fun h1 => ⟨fun h2 => mvb ?_, fun h2 => ⟨fun h3 => mvb ?_, fun h3 => mvb ?_⟩⟩⟩ <;> simp only [e, h1, true_and, decide_true, false_and, decide_false] <;> simp_all
theorem eqLifeS_is (t t' : Bool) (l m : List L4) (hl : l.length ≤ 1000000) : Is prog fid_laws_eqLifeS [.s t 4 (encL l), .s t' 4 (encL m)] (.b (decide (l = m))) := by
  refine MCall.run mixed get_laws_eqLifeS ok_laws_eqLifeS (Nat.le_of_ble_eq_true rfl) (by decide) ?_
  unfold mc_laws_eqLifeS
  simp (config := { maxSteps := 10000000, implicitDefEqProofs := false }) only [go_sem, ↓reduceIte, Nat.reduceAdd, Nat.reduceMul, Nat.reduceEqDiff, Nat.reduceSub, Nat.reduceLT, reduceCtorEq, Nat.reduceLeDiff, Nat.reduceBEq]
  refine ⟨fun h => mvb (eq_len h).symm, fun h => ?_⟩
  refine mwp_loopk (X := Nat) (fun i => ⟨[(0, .s t 4 (encL l)), (1, .s t' 4 (encL m)), (5, .i .i64 i)], [], 0⟩) (fun i => i ≤ l.length ∧ l.take i = m.take i) (fun i => l.length - i) 0 rfl (by simp) ?_
  rintro i ⟨h1, h2⟩ K kN kE kR
  simp (config := { maxSteps := 10000000, implicitDefEqProofs := false }) only [go_sem, ↓reduceIte, Nat.reduceAdd, Nat.reduceMul, Nat.reduceEqDiff, Nat.reduceSub, Nat.reduceLT, reduceCtorEq, Nat.reduceLeDiff, Nat.reduceBEq]
  refine ⟨fun h3 => ⟨by omega, h3, fun x hx => ⟨by omega, by omega, fun y hy => ?_⟩⟩, fun h3 => kE _ _ ?_⟩
  · refine callK_is (eqLife_is x y) ?_
    simp (config := { maxSteps := 10000000, implicitDefEqProofs := false }) only [go_sem, ↓reduceIte, Nat.reduceAdd, Nat.reduceMul, Nat.reduceEqDiff, Nat.reduceSub, Nat.reduceLT, reduceCtorEq, Nat.reduceLeDiff, Nat.reduceBEq]
    refine ⟨?_, fun h4 => kR _ ?_, fun h4 => ⟨fits64 (by omega) (by omega), kN _ (i + 1) (by rfl) ⟨by omega, eq_step h2 hx hy h4⟩ (by omega)⟩⟩
    · kernel_rfl
    · simp (config := { maxSteps := 10000000, implicitDefEqProofs := false }) only [go_sem, ↓reduceIte, Nat.reduceAdd, Nat.reduceMul, Nat.reduceEqDiff, Nat.reduceSub, Nat.reduceLT, reduceCtorEq, Nat.reduceLeDiff, Nat.reduceBEq]
      exact mvb (eq_ne hx hy h4).symm
  · simp (config := { maxSteps := 10000000, implicitDefEqProofs := false }) only [go_sem, ↓reduceIte, Nat.reduceAdd, Nat.reduceMul, Nat.reduceEqDiff, Nat.reduceSub, Nat.reduceLT, reduceCtorEq, Nat.reduceLeDiff, Nat.reduceBEq]
    obtain rfl : i = l.length := by omega
    exact mvb (eq_end (by omega) h2).symm

def markL (n : Nat) (k : Int) : List L4 := (List.range n).map fun i : Nat => (k + 4 * i, k + 4 * i + 1, k + 4 * i + 1 + 1, k + 4 * i + 1 + 1 + 1)
theorem markL_length (n : Nat) (k : Int) : (markL n k).length = n := by simp [markL]
theorem markL_take (n : Nat) (k : Int) : (markL n k).take n = markL n k := List.take_of_length_le (by rw [markL_length]; omega)
theorem markL_get {n : Nat} {k : Int} {i : Nat} (h : i < n) : (markL n k)[i]? = some (k + 4 * i, k + 4 * i + 1, k + 4 * i + 1 + 1, k + 4 * i + 1 + 1 + 1) := by simp [markL, h]
theorem markLifeS_is (l : List L4) (k : Int) (hk : 0 ≤ k ∧ k ≤ 1000000) (hl : l.length ≤ 1000000) :
    MCall prog fid_laws_markLifeS [.ow false 4 (encL l), .i .i64 k] (fun o r => o = [.ow true 4 (encL (markL l.length k)), .u] ∧ r = .i .i64 (k + 4 * l.length)) := by
  refine MCall.run mixed get_laws_markLifeS ok_laws_markLifeS (Nat.le_of_ble_eq_true rfl) (by decide) ?_
  unfold mc_laws_markLifeS
  simp (config := { maxSteps := 10000000, implicitDefEqProofs := false }) only [go_sem, ↓reduceIte, Nat.reduceAdd, Nat.reduceMul, Nat.reduceEqDiff, Nat.reduceSub, Nat.reduceLT, reduceCtorEq, Nat.reduceLeDiff, Nat.reduceBEq]
  refine mwp_loopk (X := Nat × List L4) (fun x => ⟨[(0, .sr 0 0 l.length), (1, .i .i64 (k + 4 * x.1)), (5, .i .i64 x.1)], [(0, .arr false 4 (encL x.2))], 1⟩)
    (fun x => x.1 ≤ l.length ∧ x.2.length = l.length ∧ x.2.take x.1 = (markL l.length k).take x.1) (fun x => l.length - x.1) (0, l) ?_ ?_ ?_
  · simp; rfl
  · simp
  · rintro ⟨i, m⟩ ⟨h1, h2, h3⟩ K kN kE kR
    simp only at h1 h2 h3
    simp (config := { maxSteps := 10000000, implicitDefEqProofs := false }) only [go_sem, ↓reduceIte, Nat.reduceAdd, Nat.reduceMul, Nat.reduceEqDiff, Nat.reduceSub, Nat.reduceLT, reduceCtorEq, Nat.reduceLeDiff, Nat.reduceBEq]
    refine ⟨fun h4 => ⟨by omega, h4, by omega, fun x hx => ?_⟩, fun h4 => kE _ _ ?_⟩
    · have hm : i < m.length := by omega
      refine ⟨fits64 (by omega) (by omega), by omega, h4, hm, ?_⟩
      rintro _ ⟨_, rfl⟩
      refine ⟨fits64 (by omega) (by omega), by omega, h4, hm, ?_⟩
      rintro _ ⟨_, rfl⟩
      refine ⟨fits64 (by omega) (by omega), by omega, h4, hm, ?_⟩
      rintro _ ⟨_, rfl⟩
      refine ⟨fits64 (by omega) (by omega), fits64 (by omega) (by omega), ?_⟩
      rw [show k + 4 * (i : Int) + 1 + 1 + 1 + 1 = k + 4 * ((i + 1 : Nat) : Int) by omega]
      refine kN _ (i + 1, m.set i (k + 4 * i, k + 4 * i + 1, k + 4 * i + 1 + 1, k + 4 * i + 1 + 1 + 1)) ?_ ⟨by omega, by simp [h2], take_set_next (by rw [h2, markL_length]) h3 (markL_get (by omega))⟩ (by simp only; omega)
      rfl
    · obtain rfl : i = l.length := by omega
      have e2 : m = markL l.length k := by
        rw [List.take_of_length_le (by omega), List.take_of_length_le (by rw [markL_length]; omega)] at h3; exact h3
      subst e2
      simp (config := { maxSteps := 10000000, implicitDefEqProofs := false }) only [go_sem, ↓reduceIte, Nat.reduceAdd, Nat.reduceMul, Nat.reduceEqDiff, Nat.reduceSub, Nat.reduceLT, reduceCtorEq, Nat.reduceLeDiff, Nat.reduceBEq, markL_length]
      rw [List.take_of_length_le (by rw [markL_length]; omega)]
theorem heldLifeS_is (t : Bool) (n : Nat) (k : Int) (hk : 0 ≤ k ∧ k ≤ 1000000) (hl : n ≤ 1000000) :
    Is prog fid_laws_heldLifeS [.s t 4 (encL (markL n k)), .i .i64 k] (.i .i64 (k + 4 * n)) := by
  refine MCall.run mixed get_laws_heldLifeS ok_laws_heldLifeS (Nat.le_of_ble_eq_true rfl) (by decide) ?_
  unfold mc_laws_heldLifeS
  simp (config := { maxSteps := 10000000, implicitDefEqProofs := false }) only [go_sem, ↓reduceIte, Nat.reduceAdd, Nat.reduceMul, Nat.reduceEqDiff, Nat.reduceSub, Nat.reduceLT, reduceCtorEq, Nat.reduceLeDiff, Nat.reduceBEq]
  refine mwp_loopk (X := Nat) (fun x => ⟨[(0, .s t 4 (encL (markL n k))), (1, .i .i64 (k + 4 * x)), (5, .i .i64 x)], [], 0⟩)
    (fun x => x ≤ n) (fun x => n - x) 0 ?_ ?_ ?_
  · simp; rfl
  · simp
  · rintro i h1 K kN kE kR
    simp (config := { maxSteps := 10000000, implicitDefEqProofs := false }) only [go_sem, ↓reduceIte, Nat.reduceAdd, Nat.reduceMul, Nat.reduceEqDiff, Nat.reduceSub, Nat.reduceLT, reduceCtorEq, Nat.reduceLeDiff, Nat.reduceBEq, markL_length]
    refine ⟨fun h3 => ⟨by omega, h3, fun x hx => ?_⟩, fun h3 => kE _ _ ?_⟩
    · rw [markL_get (by omega)] at hx
      cases hx
      simp (config := { maxSteps := 10000000, implicitDefEqProofs := false }) only [go_sem, ↓reduceIte, Nat.reduceAdd, Nat.reduceMul, Nat.reduceEqDiff, Nat.reduceSub, Nat.reduceLT, reduceCtorEq, Nat.reduceLeDiff, Nat.reduceBEq, markL_length]
      refine ⟨fits64 (by omega) (by omega), by omega, by omega, fun x hx => ?_⟩
      rw [markL_get (by omega)] at hx
      cases hx
      simp (config := { maxSteps := 10000000, implicitDefEqProofs := false }) only [go_sem, ↓reduceIte, Nat.reduceAdd, Nat.reduceMul, Nat.reduceEqDiff, Nat.reduceSub, Nat.reduceLT, reduceCtorEq, Nat.reduceLeDiff, Nat.reduceBEq, markL_length]
      refine ⟨fits64 (by omega) (by omega), by omega, by omega, fun x hx => ?_⟩
      rw [markL_get (by omega)] at hx
      cases hx
      simp (config := { maxSteps := 10000000, implicitDefEqProofs := false }) only [go_sem, ↓reduceIte, Nat.reduceAdd, Nat.reduceMul, Nat.reduceEqDiff, Nat.reduceSub, Nat.reduceLT, reduceCtorEq, Nat.reduceLeDiff, Nat.reduceBEq, markL_length]
      refine ⟨fits64 (by omega) (by omega), by omega, by omega, fun x hx => ?_⟩
      rw [markL_get (by omega)] at hx
      cases hx
      simp (config := { maxSteps := 10000000, implicitDefEqProofs := false }) only [go_sem, ↓reduceIte, Nat.reduceAdd, Nat.reduceMul, Nat.reduceEqDiff, Nat.reduceSub, Nat.reduceLT, reduceCtorEq, Nat.reduceLeDiff, Nat.reduceBEq, markL_length]
      refine ⟨fits64 (by omega) (by omega), fits64 (by omega) (by omega), kN _ (i + 1) ?_ (by omega) (by omega)⟩
      rw [show k + 4 * (i : Int) + 1 + 1 + 1 + 1 = k + 4 * ((i + 1 : Nat) : Int) by omega]
      rfl
    · simp (config := { maxSteps := 10000000, implicitDefEqProofs := false }) only [go_sem, ↓reduceIte, Nat.reduceAdd, Nat.reduceMul, Nat.reduceEqDiff, Nat.reduceSub, Nat.reduceLT, reduceCtorEq, Nat.reduceLeDiff, Nat.reduceBEq]
      exact mvi (by omega)
end Go.Fw
