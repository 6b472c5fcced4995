/-
  Levels: small parts.
-/
import Derived.Test.YtfjekgjhhmkgoaaCtG8
import Derived.Test.YtfjekgjhhmkgoaaCtH
namespace Go.Fw
set_option linter.unusedSimpArgs false
set_option linter.unusedVariables false
set_option maxRecDepth 100000
set_option maxHeartbeats 4000000
open Go.Proofs.Try (prog)
open Go.Pl

theorem l7Ints_is (t t' : Bool) (l m : List Int) (hl : l.length ≤ 1048576) : Is prog fid_spec_l7Ints [.s t 1 (encI l), .s t' 1 (encI m)] (.b (decide (l = m))) := by
  refine MCall.run mixed get_spec_l7Ints ok_spec_l7Ints (Nat.le_of_ble_eq_true rfl) (by decide) ?_
  unfold mc_spec_l7Ints
  simp (config := { maxSteps := 10000000, implicitDefEqProofs := false }) only [go_sem, ↓reduceIte, Nat.reduceAdd, Nat.reduceMul, Nat.reduceEqDiff, Nat.reduceSub, Nat.reduceLT, reduceCtorEq, Nat.reduceLeDiff, Nat.reduceBEq, mwp_draw]
  refine ⟨fun h => mvb (eq_len h).symm, fun h => ?_⟩
  refine mwp_loopk (X := Nat) (fun i => ⟨[(0, .s t 1 (encI l)), (1, .s t' 1 (encI m)), (5, .i .i64 i)], [], 0⟩) (fun i => i ≤ l.length ∧ l.take i = m.take i) (fun i => l.length - i) 0 rfl (by simp) ?_
  rintro i ⟨h1, h2⟩ K kN kE kR
  simp (config := { maxSteps := 10000000, implicitDefEqProofs := false }) only [go_sem, ↓reduceIte, Nat.reduceAdd, Nat.reduceMul, Nat.reduceEqDiff, Nat.reduceSub, Nat.reduceLT, reduceCtorEq, Nat.reduceLeDiff, Nat.reduceBEq, mwp_draw]
  refine ⟨fun h3 => ⟨by omega, h3, fun x hx => ⟨by omega, by omega, fun y hy => ⟨by kernel_rfl, fun h4 => kR _ ?_, fun h4 => ⟨fits64 (by omega) (by omega), kN _ (i + 1) (by rfl) ⟨by omega, eq_step h2 hx hy h4⟩ (by omega)⟩⟩⟩⟩, fun h3 => kE _ _ ?_⟩
  · simp (config := { maxSteps := 10000000, implicitDefEqProofs := false }) only [go_sem, ↓reduceIte, Nat.reduceAdd, Nat.reduceMul, Nat.reduceEqDiff, Nat.reduceSub, Nat.reduceLT, reduceCtorEq, Nat.reduceLeDiff, Nat.reduceBEq, mwp_draw]
    exact mvb (eq_ne hx hy h4).symm
  · simp (config := { maxSteps := 10000000, implicitDefEqProofs := false }) only [go_sem, ↓reduceIte, Nat.reduceAdd, Nat.reduceMul, Nat.reduceEqDiff, Nat.reduceSub, Nat.reduceLT, reduceCtorEq, Nat.reduceLeDiff, Nat.reduceBEq, mwp_draw]
    obtain rfl : i = l.length := by omega
    exact mvb (eq_end (by omega) h2).symm
theorem l6Forest_is (t : Bool) (n : Int) (es : List E) (hg : GE n es) : Is prog fid_spec_l6Forest [Gr t n es] (.b (decide (((forest n es).length : Int) = es.length))) := by
  refine MCall.run mixed get_spec_l6Forest ok_spec_l6Forest (Nat.le_of_ble_eq_true rfl) (by decide) ?_
  unfold mc_spec_l6Forest
  simp (config := { maxSteps := 10000000, implicitDefEqProofs := false }) only [go_sem, ↓reduceIte, Nat.reduceAdd, Nat.reduceMul, Nat.reduceEqDiff, Nat.reduceSub, Nat.reduceLT, reduceCtorEq, Nat.reduceLeDiff, Nat.reduceBEq, mwp_draw]
  refine callK_is (l2Forest_is _ n es hg) ?_
  simp (config := { maxSteps := 10000000, implicitDefEqProofs := false }) only [go_sem, ↓reduceIte, Nat.reduceAdd, Nat.reduceMul, Nat.reduceEqDiff, Nat.reduceSub, Nat.reduceLT, reduceCtorEq, Nat.reduceLeDiff, Nat.reduceBEq, mwp_draw]
  first | exact ⟨by kernel_rfl, rfl⟩ | (show _ = true; kernel_rfl)
/-- A number, halved again and again. -/
def hlf (n : Int) : Nat → Int
  | 0 => n
  | k + 1 => (hlf n k).tdiv 2
theorem hlf_rng {n : Int} (h : 0 ≤ n) : ∀ k, 0 ≤ hlf n k ∧ hlf n k ≤ n
  | 0 => ⟨h, Int.le_refl _⟩
  | k + 1 => by
    have := hlf_rng h k
    simp only [hlf]
    rw [Int.tdiv_eq_ediv_of_nonneg this.1]; omega
theorem l7Most_is (n : Int) (k : Nat) (hn : 0 ≤ n ∧ n ≤ 1000) (hk : k ≤ 1000) : Is prog fid_spec_l7Most [.i .i64 n, .i .i64 (k : Int)] (.i .i64 (hlf n k)) := by
  refine MCall.run mixed get_spec_l7Most ok_spec_l7Most (Nat.le_of_ble_eq_true rfl) (by decide) ?_
  unfold mc_spec_l7Most
  simp (config := { maxSteps := 10000000, implicitDefEqProofs := false }) only [go_sem, ↓reduceIte, Nat.reduceAdd, Nat.reduceMul, Nat.reduceEqDiff, Nat.reduceSub, Nat.reduceLT, reduceCtorEq, Nat.reduceLeDiff, Nat.reduceBEq, mwp_draw]
  refine mwp_loopk (X := Nat) (fun i => ⟨[(0, .i .i64 (hlf n i)), (1, .i .i64 (k : Int)), (5, .i .i64 (i : Int))], [], 0⟩) (fun i => i ≤ k) (fun i => k - i) 0 (by rfl) (by simp) ?_
  rintro i h1 K kN kE kR
  have hr := hlf_rng hn.1 i
  simp (config := { maxSteps := 10000000, implicitDefEqProofs := false }) only [go_sem, ↓reduceIte, Nat.reduceAdd, Nat.reduceMul, Nat.reduceEqDiff, Nat.reduceSub, Nat.reduceLT, reduceCtorEq, Nat.reduceLeDiff, Nat.reduceBEq, mwp_draw]
  refine ⟨fun h3 => ?_, fun h3 => kE _ _ ?_⟩
  · have hs := hlf_rng hn.1 (i + 1)
    simp only [hlf] at hs
    exact ⟨by decide, fits64 (by omega) (by omega), fits64 (by omega) (by omega), kN _ (i + 1) (by rfl) (by omega) (by omega)⟩
  · simp (config := { maxSteps := 10000000, implicitDefEqProofs := false }) only [go_sem, ↓reduceIte, Nat.reduceAdd, Nat.reduceMul, Nat.reduceEqDiff, Nat.reduceSub, Nat.reduceLT, reduceCtorEq, Nat.reduceLeDiff, Nat.reduceBEq, mwp_draw]
    obtain rfl : i = k := by omega
    rfl
/-- The edges of a level and above; of the forest alone, where that is asked. -/
def lvT (ls : List Int) (fs : List Bool) (k : Int) (b : Bool) (i : Nat) : Bool := decide (k ≤ ls[i]?.getD 0) && (!b || fs[i]?.getD false)
def lvL (es : List E) (ls : List Int) (fs : List Bool) (k : Int) (b : Bool) : Nat → List E
  | 0 => []
  | i + 1 => if lvT ls fs k b i then lvL es ls fs k b i ++ [es[i]?.getD (0, 0)] else lvL es ls fs k b i
theorem lvL_len (es : List E) (ls : List Int) (fs : List Bool) (k : Int) (b : Bool) : ∀ i, (lvL es ls fs k b i).length ≤ i
  | 0 => by simp [lvL]
  | i + 1 => by
    have := lvL_len es ls fs k b i
    simp only [lvL]; split
    · simp; omega
    · omega
abbrev Lv (t1 t2 t3 : Bool) (n : Int) (es : List E) (ls : List Int) (fs : List Bool) : MV := .agg [.i .i64 n, .s t1 2 (encE es), .s t2 1 (encI ls), .s t3 1 (encT fs)]
theorem l7At_is (t1 t2 t3 : Bool) (n : Int) (es : List E) (ls : List Int) (fs : List Bool) (k : Int) (b : Bool) (hl : es.length ≤ 1048576) (h1 : ls.length = es.length) (h2 : fs.length = es.length) :
    Is prog fid_spec_l7At [Lv t1 t2 t3 n es ls fs, .i .i64 k, .b b] (.agg [.i .i64 n, .ow true 2 (encE (lvL es ls fs k b es.length))]) := by
  refine MCall.run mixed get_spec_l7At ok_spec_l7At (Nat.le_of_ble_eq_true rfl) (by decide) ?_
  unfold mc_spec_l7At
  simp (config := { maxSteps := 10000000, implicitDefEqProofs := false }) only [go_sem, ↓reduceIte, Nat.reduceAdd, Nat.reduceMul, Nat.reduceEqDiff, Nat.reduceSub, Nat.reduceLT, reduceCtorEq, Nat.reduceLeDiff, Nat.reduceBEq, mwp_draw]
  refine mwp_loopk (X := Nat) (fun i => ⟨[(1, .i .i64 k), (2, .b b), (3, .pr 0 0 0), (6, .pr 1 0 0), (7, .pr 2 0 0), (8, .i .i64 (i : Int))],
      [(0, .box [.i .i64 n, .s t1 2 (encE es), .s t2 1 (encI ls), .s t3 1 (encT fs)]), (1, .box [.i .i64 0, .nl 2]), (2, .box [.i .i64 n, .sr 3 0 (lvL es ls fs k b i).length]), (3, .arr true 2 (encE (lvL es ls fs k b i)))], 4⟩)
    (fun i => i ≤ es.length) (fun i => es.length - i) 0 (by rfl) (by simp) ?_
  rintro i g1 K kN kE kR
  have gl := lvL_len es ls fs k b i
  simp (config := { maxSteps := 10000000, implicitDefEqProofs := false }) only [go_sem, ↓reduceIte, Nat.reduceAdd, Nat.reduceMul, Nat.reduceEqDiff, Nat.reduceSub, Nat.reduceLT, reduceCtorEq, Nat.reduceLeDiff, Nat.reduceBEq]
  refine ⟨fun c1 => ⟨by omega, by omega, fun x hx => ⟨fun c2 => ⟨by omega, by omega, fun f hf => ?_⟩, fun c2 => ?_⟩⟩, fun c1 => kE _ _ ?_⟩
  · obtain ⟨e, he⟩ : ∃ e, es[i]? = some e := ⟨es[i], List.getElem?_eq_getElem (by omega)⟩
    have yes : lvT ls fs k b i = true → lvL es ls fs k b (i + 1) = lvL es ls fs k b i ++ [e] := fun q => by simp [lvL, q, he]
    have no : lvT ls fs k b i = false → lvL es ls fs k b (i + 1) = lvL es ls fs k b i := fun q => by simp [lvL, q]
    cases f
    · cases b
      · have w := yes (by simp [lvT, hx, hf, c2])
        simp (config := { maxSteps := 10000000, implicitDefEqProofs := false }) only [go_sem, ↓reduceIte, Nat.reduceAdd, Nat.reduceMul, Nat.reduceEqDiff, Nat.reduceSub, Nat.reduceLT, reduceCtorEq, Nat.reduceLeDiff, Nat.reduceBEq, mwp_draw]
        refine ⟨by omega, by omega, fun y hy => ⟨by omega, by kernel_rfl, fits64 (by omega) (by omega), ?_⟩⟩
        obtain rfl : e = y := by rw [he] at hy; exact Option.some.inj hy
        exact kN _ (i + 1) (by rw [w]; simp; rfl) (by omega) (by omega)
      · have w := no (by simp [lvT, hx, hf, c2])
        simp (config := { maxSteps := 10000000, implicitDefEqProofs := false }) only [go_sem, ↓reduceIte, Nat.reduceAdd, Nat.reduceMul, Nat.reduceEqDiff, Nat.reduceSub, Nat.reduceLT, reduceCtorEq, Nat.reduceLeDiff, Nat.reduceBEq, mwp_draw]
        exact ⟨fits64 (by omega) (by omega), kN _ (i + 1) (by rw [w]; rfl) (by omega) (by omega)⟩
    · have w := yes (by simp [lvT, hx, hf, c2])
      simp (config := { maxSteps := 10000000, implicitDefEqProofs := false }) only [go_sem, ↓reduceIte, Nat.reduceAdd, Nat.reduceMul, Nat.reduceEqDiff, Nat.reduceSub, Nat.reduceLT, reduceCtorEq, Nat.reduceLeDiff, Nat.reduceBEq, mwp_draw]
      refine ⟨by omega, by omega, fun y hy => ⟨by omega, by kernel_rfl, fits64 (by omega) (by omega), ?_⟩⟩
      obtain rfl : e = y := by rw [he] at hy; exact Option.some.inj hy
      exact kN _ (i + 1) (by rw [w]; simp; rfl) (by omega) (by omega)
  · have w : lvL es ls fs k b (i + 1) = lvL es ls fs k b i := by simp [lvL, lvT, hx, c2]
    exact ⟨fits64 (by omega) (by omega), kN _ (i + 1) (by rw [w]; rfl) (by omega) (by omega)⟩
  · simp (config := { maxSteps := 10000000, implicitDefEqProofs := false }) only [go_sem, ↓reduceIte, Nat.reduceAdd, Nat.reduceMul, Nat.reduceEqDiff, Nat.reduceSub, Nat.reduceLT, reduceCtorEq, Nat.reduceLeDiff, Nat.reduceBEq, mwp_draw]
    obtain rfl : i = es.length := by omega
    rfl
end Go.Fw
