/-
  Graphs with levels: the reference's small parts of CutLevel.
-/
import Derived.Test.YtfjekgjhhmkgoaaCtZ3
import Derived.Test.YtfjekgjhhmkgoaaCtM
namespace Go.Fw
set_option linter.unusedSimpArgs false
set_option linter.unusedVariables false
set_option maxRecDepth 100000
set_option maxHeartbeats 4000000
open Go.Proofs.Try (prog)
open Go.Pl

theorem l6InZ_is (t : Bool) (l : List Int) (n : Int) (hl : l.length ≤ 2000000) : Is prog fid_spec_l6In [.s t 1 (encI l), .i .i64 n] (.b (decide (n ∈ l))) := by
  refine MCall.run mixed get_spec_l6In ok_spec_l6In (Nat.le_of_ble_eq_true rfl) (by decide) ?_
  unfold mc_spec_l6In
  simp (config := { maxSteps := 10000000, implicitDefEqProofs := false }) only [go_sem, ↓reduceIte, Nat.reduceAdd, Nat.reduceMul, Nat.reduceEqDiff, Nat.reduceSub, Nat.reduceLT, reduceCtorEq, Nat.reduceLeDiff, Nat.reduceBEq, mwp_draw]
  refine mwp_loopk (X := Nat) (fun i => ⟨[(0, .s t 1 (encI l)), (1, .i .i64 n), (5, .i .i64 i)], [], 0⟩) (fun i => i ≤ l.length ∧ n ∉ l.take i) (fun i => l.length - i) 0 rfl (by simp) ?_
  rintro i ⟨h1, h2⟩ K kN kE kR
  simp (config := { maxSteps := 10000000, implicitDefEqProofs := false }) only [go_sem, ↓reduceIte, Nat.reduceAdd, Nat.reduceMul, Nat.reduceEqDiff, Nat.reduceSub, Nat.reduceLT, reduceCtorEq, Nat.reduceLeDiff, Nat.reduceBEq, mwp_draw]
  refine ⟨fun h3 => ⟨by omega, h3, fun x hx => ⟨fun h4 => kR _ ?_, fun h4 => ⟨fits64 (by omega) (by omega), kN _ (i + 1) (by rfl) ⟨by omega, in_step h2 hx h4⟩ (by omega)⟩⟩⟩, fun h3 => kE _ _ ?_⟩
  · simp (config := { maxSteps := 10000000, implicitDefEqProofs := false }) only [go_sem, ↓reduceIte, Nat.reduceAdd, Nat.reduceMul, Nat.reduceEqDiff, Nat.reduceSub, Nat.reduceLT, reduceCtorEq, Nat.reduceLeDiff, Nat.reduceBEq, mwp_draw]
    exact mvb (decide_eq_true (h4 ▸ List.mem_of_getElem? hx)).symm
  · simp (config := { maxSteps := 10000000, implicitDefEqProofs := false }) only [go_sem, ↓reduceIte, Nat.reduceAdd, Nat.reduceMul, Nat.reduceEqDiff, Nat.reduceSub, Nat.reduceLT, reduceCtorEq, Nat.reduceLeDiff, Nat.reduceBEq, mwp_draw]
    obtain rfl : i = l.length := by omega
    rw [List.take_length] at h2
    exact mvb (decide_eq_false h2).symm

/-- The nodes that are connected with a node. -/
def pnL (n : Int) (es : List E) (x : Int) : List Int := (ups n.toNat).filter fun i => decide (nth (labL n es) i = nth (labL n es) x)
theorem mem_ups {n : Nat} {x : Int} : x ∈ ups n ↔ 0 ≤ x ∧ x < n := by
  unfold ups
  rw [List.mem_map]
  constructor
  · rintro ⟨i, hi, rfl⟩; rw [List.mem_range] at hi; omega
  · intro h; exact ⟨x.toNat, by rw [List.mem_range]; omega, by omega⟩
theorem pnL_count {n : Int} {es : List E} {x : Int} (hn : 0 ≤ n) : (pnL n es x).length = (labL n es).count (nth (labL n es) x) := by
  rw [← cnt_count hn]
  unfold pnL cnt ups
  rw [← List.countP_eq_length_filter, List.countP_map]
  rfl
theorem mem_pnL {n : Int} {es : List E} {x y : Int} (hn : 0 ≤ n) : y ∈ pnL n es x ↔ (0 ≤ y ∧ y < n) ∧ nth (labL n es) y = nth (labL n es) x := by
  unfold pnL
  rw [List.mem_filter, mem_ups, decide_eq_true_eq]
  have : ((n.toNat : Nat) : Int) = n := by omega
  rw [this]
theorem PartNodesZ_is (t : Bool) (n : Int) (es : List E) (x : Int) (hv : GV n es) (hx : 0 ≤ x ∧ x < n) : Is prog fid_spec_PartNodes [Gr t n es, .i .i64 x] (.ow true 1 (encI (pnL n es x))) := by
  refine MCall.run mixed get_spec_PartNodes ok_spec_PartNodes (Nat.le_of_ble_eq_true rfl) (by decide) ?_
  unfold mc_spec_PartNodes
  have hg := GE_of hv
  have hlen := labL_length n es
  have hb : gnB n es x = true := by simp [gnB, gvB_iff.2 hv, hx]
  have hn16 := hv.2.1
  simp (config := { maxSteps := 10000000, implicitDefEqProofs := false }) only [go_sem, ↓reduceIte, Nat.reduceAdd, Nat.reduceMul, Nat.reduceEqDiff, Nat.reduceSub, Nat.reduceLT, reduceCtorEq, Nat.reduceLeDiff, Nat.reduceBEq, mwp_draw]
  refine callK_is (l2Node_is _ n es x hg.2.2.1) ?_
  rw [hb]
  simp (config := { maxSteps := 10000000, implicitDefEqProofs := false }) only [go_sem, ↓reduceIte, Nat.reduceAdd, Nat.reduceMul, Nat.reduceEqDiff, Nat.reduceSub, Nat.reduceLT, reduceCtorEq, Nat.reduceLeDiff, Nat.reduceBEq, mwp_draw]
  refine callK_is (l2Labels_is _ n es hg) ?_
  unfold pnL
  generalize labL n es = lab at hlen ⊢
  simp (config := { maxSteps := 10000000, implicitDefEqProofs := false }) only [go_sem, ↓reduceIte, Nat.reduceAdd, Nat.reduceMul, Nat.reduceEqDiff, Nat.reduceSub, Nat.reduceLT, reduceCtorEq, Nat.reduceLeDiff, Nat.reduceBEq, mwp_draw]
  refine mwp_loopk (X := Nat) (fun i => ⟨[(1, .i .i64 x), (5, .sr 0 0 ((ups i).filter fun i => decide (nth lab i = nth lab x)).length), (6, .sr 1 0 lab.length), (7, .i .i64 i)], [(0, .arr true 1 (encI ((ups i).filter fun i => decide (nth lab i = nth lab x)))), (1, .arr true 1 (encI lab))], 2⟩)
    (fun i => i ≤ lab.length) (fun i => lab.length - i) 0 (by rfl) (Nat.zero_le _) ?_
  rintro i g1 K kN kE kR
  have hfl := List.length_filter_le (fun i => decide (nth lab i = nth lab x)) (ups i)
  rw [ups_length] at hfl
  have hs : (ups (i + 1)).filter (fun i => decide (nth lab i = nth lab x)) = (ups i).filter (fun i => decide (nth lab i = nth lab x)) ++ if nth lab i = nth lab x then [(i : Int)] else [] := by
    rw [ups_succ, List.filter_append]
    by_cases q : nth lab i = nth lab x <;> simp [q]
  by_cases hi : i < lab.length
  · have c1 : ((i : Int) < lab.length) = True := eq_true (by omega)
    have c2 : (i < lab.length) = True := eq_true (by omega)
    have c3 : (0 ≤ x) = True := eq_true (by omega)
    have c4 : (x < lab.length) = True := eq_true (by omega)
    have c5 : (x.toNat < lab.length) = True := eq_true (by omega)
    have g2 := goneT (show lab[i]? = some (nth lab i) by have := nth_some (l := lab) (x := (i : Int)) ⟨by omega, by omega⟩; simpa using this)
    have g3 := goneT (show lab[x.toNat]? = some (nth lab x) from nth_some ⟨by omega, by omega⟩)
    by_cases q : nth lab i = nth lab x
    · have d1 : (nth lab i = nth lab x) = True := eq_true q
      rw [if_pos q] at hs
      simp (config := { maxSteps := 10000000, implicitDefEqProofs := false }) only [go_sem, ↓reduceIte, Nat.reduceAdd, Nat.reduceMul, Nat.reduceEqDiff, Nat.reduceSub, Nat.reduceLT, reduceCtorEq, Nat.reduceLeDiff, Nat.reduceBEq, mwp_draw, c1, c2, c3, c4, c5, d1, ↓g2, ↓g3]
      repeat (refine ⟨by first | omega | decide | exact fits64 (by omega) (by omega) | kernel_rfl | (intros; omega), ?_⟩)
      exact kN _ (i + 1) (by rw [hs]; simp only [List.length_append]; rfl) (by omega) (by omega)
    · have d1 : (nth lab i = nth lab x) = False := eq_false q
      rw [if_neg q, List.append_nil] at hs
      simp (config := { maxSteps := 10000000, implicitDefEqProofs := false }) only [go_sem, ↓reduceIte, Nat.reduceAdd, Nat.reduceMul, Nat.reduceEqDiff, Nat.reduceSub, Nat.reduceLT, reduceCtorEq, Nat.reduceLeDiff, Nat.reduceBEq, mwp_draw, c1, c2, c3, c4, c5, d1, ↓g2, ↓g3]
      repeat (refine ⟨by first | omega | decide | exact fits64 (by omega) (by omega) | kernel_rfl | (intros; omega), ?_⟩)
      exact kN _ (i + 1) (by rw [hs]; rfl) (by omega) (by omega)
  · obtain rfl : i = lab.length := by omega
    have c1 : ((lab.length : Int) < lab.length) = False := eq_false (by omega)
    simp (config := { maxSteps := 10000000, implicitDefEqProofs := false }) only [go_sem, ↓reduceIte, Nat.reduceAdd, Nat.reduceMul, Nat.reduceEqDiff, Nat.reduceSub, Nat.reduceLT, reduceCtorEq, Nat.reduceLeDiff, Nat.reduceBEq, mwp_draw, c1]
    refine kE _ _ ?_
    clear kN kE kR
    simp (config := { maxSteps := 10000000, implicitDefEqProofs := false }) only [go_sem, ↓reduceIte, Nat.reduceAdd, Nat.reduceMul, Nat.reduceEqDiff, Nat.reduceSub, Nat.reduceLT, reduceCtorEq, Nat.reduceLeDiff, Nat.reduceBEq, mwp_draw]
    rw [hlen]
    repeat (refine ⟨by first | omega | decide | exact fits64 (by omega) (by omega) | kernel_rfl | (intros; omega), ?_⟩)
    first | done | rfl
/-- The nodes of the lesser tree. -/
def sidL (n : Int) (es : List E) (x y : Int) : List Int := if (pnL n es y).length < (pnL n es x).length then pnL n es y else pnL n es x
theorem l7Side_is (t : Bool) (n : Int) (es : List E) (x y : Int) (hv : GV n es) (hx : 0 ≤ x ∧ x < n) (hy : 0 ≤ y ∧ y < n) : Is prog fid_spec_l7Side [Gr t n es, .i .i64 x, .i .i64 y] (.ow true 1 (encI (sidL n es x y))) := by
  refine MCall.run mixed get_spec_l7Side ok_spec_l7Side (Nat.le_of_ble_eq_true rfl) (by decide) ?_
  unfold mc_spec_l7Side
  simp (config := { maxSteps := 10000000, implicitDefEqProofs := false }) only [go_sem, ↓reduceIte, Nat.reduceAdd, Nat.reduceMul, Nat.reduceEqDiff, Nat.reduceSub, Nat.reduceLT, reduceCtorEq, Nat.reduceLeDiff, Nat.reduceBEq, mwp_draw]
  refine callK_is (PartNodesZ_is _ n es x hv hx) ?_
  simp (config := { maxSteps := 10000000, implicitDefEqProofs := false }) only [go_sem, ↓reduceIte, Nat.reduceAdd, Nat.reduceMul, Nat.reduceEqDiff, Nat.reduceSub, Nat.reduceLT, reduceCtorEq, Nat.reduceLeDiff, Nat.reduceBEq, mwp_draw]
  refine callK_is (PartNodesZ_is _ n es y hv hy) ?_
  simp (config := { maxSteps := 10000000, implicitDefEqProofs := false }) only [go_sem, ↓reduceIte, Nat.reduceAdd, Nat.reduceMul, Nat.reduceEqDiff, Nat.reduceSub, Nat.reduceLT, reduceCtorEq, Nat.reduceLeDiff, Nat.reduceBEq, mwp_draw]
  unfold sidL
  refine ⟨fun h => ?_, fun h => ?_⟩
  · rw [if_pos (by omega)]; repeat (refine ⟨by first | omega | decide | exact fits64 (by omega) (by omega) | kernel_rfl | (intros; omega), ?_⟩)
    first | done | rfl
  · rw [if_neg (by omega)]; repeat (refine ⟨by first | omega | decide | exact fits64 (by omega) (by omega) | kernel_rfl | (intros; omega), ?_⟩)
    first | done | rfl
theorem mem_sidL {n : Int} {es : List E} {e : E} (hn : 0 ≤ n) {x : Int} (hx : 0 ≤ x ∧ x < n) : x ∈ sidL n es e.1 e.2 ↔ sidP n es e x = true := by
  unfold sidL sidP sidC
  rw [pnL_count hn, pnL_count hn, decide_eq_true_eq]
  split
  · rw [mem_pnL hn]; exact ⟨fun h => h.2, fun h => ⟨hx, h⟩⟩
  · rw [mem_pnL hn]; exact ⟨fun h => h.2, fun h => ⟨hx, h⟩⟩
theorem sidL_len {n : Int} {es : List E} {x y : Int} (hn : 0 ≤ n ∧ n ≤ 16) : (sidL n es x y).length ≤ 16 := by
  have a : ∀ z, (pnL n es z).length ≤ 16 := fun z => by
    have := List.length_filter_le (fun i => decide (nth (labL n es) i = nth (labL n es) z)) (ups n.toNat)
    rw [ups_length] at this
    unfold pnL; omega
  unfold sidL; split
  · exact a _
  · exact a _

theorem l7Copy_is (t1 t2 t3 : Bool) (n : Int) (es : List E) (ls : List Int) (fs : List Bool) (hl : es.length ≤ 1048576) (hl2 : ls.length ≤ 1048576) (hl3 : fs.length ≤ 1048576) :
    Is prog fid_spec_l7Copy [Lv t1 t2 t3 n es ls fs] (.agg [.i .i64 n, .ow true 2 (encE es), .ow true 1 (encI ls), .ow true 1 (encT fs)]) := by
  refine MCall.run mixed get_spec_l7Copy ok_spec_l7Copy (Nat.le_of_ble_eq_true rfl) (by decide) ?_
  unfold mc_spec_l7Copy
  simp (config := { maxSteps := 10000000, implicitDefEqProofs := false }) only [go_sem, ↓reduceIte, Nat.reduceAdd, Nat.reduceMul, Nat.reduceEqDiff, Nat.reduceSub, Nat.reduceLT, reduceCtorEq, Nat.reduceLeDiff, Nat.reduceBEq, mwp_draw]
  refine callK_is (l1Copy_is _ n es hl) ?_
  simp (config := { maxSteps := 10000000, implicitDefEqProofs := false }) only [go_sem, ↓reduceIte, Nat.reduceAdd, Nat.reduceMul, Nat.reduceEqDiff, Nat.reduceSub, Nat.reduceLT, reduceCtorEq, Nat.reduceLeDiff, Nat.reduceBEq, mwp_draw]
  repeat (refine ⟨by first | omega | decide | exact fits64 (by omega) (by omega) | kernel_rfl | (intros; omega), ?_⟩)
  first | done | rfl
end Go.Fw
