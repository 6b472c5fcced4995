/-
  Neighbors in order, and nodes without which others are parted.
-/
import Derived.Test.YtjklefjjmfpnoaaCtSo
import Derived.Test.YtjklefjjmfpnoaaCtG8
import Derived.Test.YtjklefjjmfpnoaaCtJ
import Derived.Test.YtjklefjjmfpnoaaPlN
namespace Go.Fw
set_option linter.unusedSimpArgs false
set_option linter.unusedVariables false
set_option maxRecDepth 100000
set_option maxHeartbeats 4000000
open Go.Proofs.Try (prog)
open Go.Pl

theorem neighbors_is (t : Bool) (n : Int) (es : List E) (x : Int) (hv : GV n es) : Is prog fid_impl_Graph_neighbors [Gr t n es, .i .i64 x] (.ow true 1 (encI (nbr es x))) := by
  have hl := hv.2.2.1
  have hsrt : Srt (nbr es x) := nbr_sorted hv.2.2.2.1 hv.2.2.2.2 x
  have hlen := nbr_len hv x
  refine MCall.run mixed get_impl_Graph_neighbors ok_impl_Graph_neighbors (Nat.le_of_ble_eq_true rfl) (by decide) ?_
  unfold mc_impl_Graph_neighbors
  simp (maxSteps := 9999999) -implicitDefEqProofs only [go_sem, mwp_draw]
  refine mwp_loopk (X := Nat) (fun i => ⟨[(1, .i .i64 x), (5, .sr 0 0 (nbr (es.take i) x).length), (10, .s t 2 (encE es)), (11, .i .i64 es.length), (12, .i .i64 i)], [(0, .arr true 1 (encI (nbr (es.take i) x)))], 1⟩)
    (fun i => i ≤ es.length) (fun i => es.length - i) 0 (by rfl) (Nat.zero_le _) ?_
  rintro i h1 K kN kE kR
  have hfl : (nbr (es.take i) x).length ≤ i := by
    unfold nbr; exact Nat.le_trans (List.length_filterMap_le _ _) (by simp; omega)
  by_cases hi : i < es.length
  · obtain ⟨e, he⟩ : ∃ e, es[i]? = some e := ⟨_, List.getElem?_eq_getElem hi⟩
    have ge := goneS he
    have hn := nbr_next he x
    have c1 : ((i : Int) < es.length) = True := eq_true (by omega)
    have c2 : (i < es.length) = True := eq_true (by omega)
    by_cases q1 : x = e.1
    · have d1 : (x = e.1) = True := eq_true q1
      rw [if_pos q1] at hn
      simp (maxSteps := 9999999) -implicitDefEqProofs only [go_sem, mwp_draw, c1, c2, d1, ↓ge]
      repeat (refine ⟨by first | omega | decide | exact fits64 (by omega) (by omega) | kernel_rfl | (intros; omega), ?_⟩)
      exact kN _ (i + 1) (by rw [hn]; simp only [List.length_append]; kernel_rfl) (by omega) (by omega)
    · have d1 : (x = e.1) = False := eq_false q1
      rw [if_neg q1] at hn
      by_cases q2 : x = e.2
      · have d2 : (x = e.2) = True := eq_true q2
        rw [if_pos q2] at hn
        simp (maxSteps := 9999999) -implicitDefEqProofs only [go_sem, mwp_draw, c1, c2, d1, d2, ↓ge]
        repeat (refine ⟨by first | omega | decide | exact fits64 (by omega) (by omega) | kernel_rfl | (intros; omega), ?_⟩)
        exact kN _ (i + 1) (by rw [hn]; simp only [List.length_append]; kernel_rfl) (by omega) (by omega)
      · have d2 : (x = e.2) = False := eq_false q2
        rw [if_neg q2, List.append_nil] at hn
        simp (maxSteps := 9999999) -implicitDefEqProofs only [go_sem, mwp_draw, c1, c2, d1, d2, ↓ge]
        repeat (refine ⟨by first | omega | decide | exact fits64 (by omega) (by omega) | kernel_rfl | (intros; omega), ?_⟩)
        exact kN _ (i + 1) (by rw [hn]; kernel_rfl) (by omega) (by omega)
  · obtain rfl : i = es.length := by omega
    have c1 : ((es.length : Int) < es.length) = False := eq_false (by omega)
    rw [List.take_length]
    simp (maxSteps := 9999999) -implicitDefEqProofs only [go_sem, mwp_draw, c1]
    refine kE _ _ ?_
    clear kN kE kR
    simp (maxSteps := 9999999) -implicitDefEqProofs only [go_sem, mwp_draw]
    repeat (refine ⟨by first | omega | decide | exact fits64 (by omega) (by omega) | kernel_rfl | (intros; omega), ?_⟩)
    refine callK_is (Sort_is _ (nbr es x) hsrt hlen) ?_
    simp (maxSteps := 9999999) -implicitDefEqProofs only [go_sem, mwp_draw]
    repeat (refine ⟨by first | omega | decide | exact fits64 (by omega) (by omega) | kernel_rfl | (intros; omega), ?_⟩)
    first | done | rfl
theorem l1Next_is (t : Bool) (n : Int) (es : List E) (x : Int) (hv : GV n es) : Is prog fid_spec_l1Next [Gr t n es, .i .i64 x] (.ow true 1 (encI (nbr es x))) := by
  have hl := hv.2.2.1
  have hn16 := hv.2.1
  have hn0 := hv.1
  refine MCall.run mixed get_spec_l1Next ok_spec_l1Next (Nat.le_of_ble_eq_true rfl) (by decide) ?_
  unfold mc_spec_l1Next
  rw [← nxt_eq hv x]
  simp (maxSteps := 9999999) -implicitDefEqProofs only [go_sem, mwp_draw]
  refine mwp_loopk (X := Nat) (fun i => ⟨[(1, .i .i64 x), (2, .pr 0 0 0), (5, .sr 1 0 ((ups i).filter (nxtP es x)).length), (6, .i .i64 i)], [(0, .box [.i .i64 n, .s t 2 (encE es)]), (1, .arr true 1 (encI ((ups i).filter (nxtP es x))))], 2⟩)
    (fun i => (i : Int) ≤ n) (fun i => n.toNat - i) 0 (by rfl) (by omega) ?_
  rintro i h1 K kN kE kR
  have hfl := List.length_filter_le (nxtP es x) (ups i)
  rw [ups_length] at hfl
  have hs : (ups (i + 1)).filter (nxtP es x) = (ups i).filter (nxtP es x) ++ if nxtP es x i then [(i : Int)] else [] := by
    rw [ups_succ, List.filter_append]
    cases q : nxtP es x i <;> simp [q]
  by_cases hi : (i : Int) < n
  · have c1 : ((i : Int) < n) = True := eq_true hi
    by_cases q1 : (i : Int) = x
    · have d1 : ((i : Int) = x) = True := eq_true q1
      have hp : nxtP es x i = false := by simp [nxtP, q1]
      rw [hp] at hs
      simp only [Bool.false_eq_true, if_false, List.append_nil] at hs
      simp (maxSteps := 9999999) -implicitDefEqProofs only [go_sem, mwp_draw, c1, d1]
      repeat (refine ⟨by first | omega | decide | exact fits64 (by omega) (by omega) | kernel_rfl | (intros; omega), ?_⟩)
      exact kN _ (i + 1) (by rw [hs]; kernel_rfl) (by omega) (by omega)
    · have d1 : ((i : Int) = x) = False := eq_false q1
      simp (maxSteps := 9999999) -implicitDefEqProofs only [go_sem, mwp_draw, c1, d1]
      refine callK_is (l1Edge_is (i : Int) x) ?_
      simp (maxSteps := 9999999) -implicitDefEqProofs only [go_sem, mwp_draw, c1, d1]
      refine callK_is (l1Find_is _ es (edgN (i : Int) x) (by omega)) ?_
      by_cases q2 : edgN (i : Int) x ∈ es
      · have d2 : (0 ≤ idxE es (edgN (i : Int) x)) = True := eq_true (idxE_ge.2 q2)
        have hp : nxtP es x i = true := by simp only [nxtP, q1, decide_false, Bool.not_false, Bool.true_and]; exact decide_eq_true q2
        rw [hp] at hs
        simp only [if_true] at hs
        simp (maxSteps := 9999999) -implicitDefEqProofs only [go_sem, mwp_draw, c1, d1, d2]
        repeat (refine ⟨by first | omega | decide | exact fits64 (by omega) (by omega) | kernel_rfl | (intros; omega), ?_⟩)
        exact kN _ (i + 1) (by rw [hs]; simp only [List.length_append]; kernel_rfl) (by omega) (by omega)
      · have d2 : (0 ≤ idxE es (edgN (i : Int) x)) = False := eq_false fun h => q2 (idxE_ge.1 h)
        have hp : nxtP es x i = false := by simp only [nxtP, q1, decide_false, Bool.not_false, Bool.true_and]; exact decide_eq_false q2
        rw [hp] at hs
        simp only [Bool.false_eq_true, if_false, List.append_nil] at hs
        simp (maxSteps := 9999999) -implicitDefEqProofs only [go_sem, mwp_draw, c1, d1, d2]
        repeat (refine ⟨by first | omega | decide | exact fits64 (by omega) (by omega) | kernel_rfl | (intros; omega), ?_⟩)
        exact kN _ (i + 1) (by rw [hs]; kernel_rfl) (by omega) (by omega)
  · have c1 : ((i : Int) < n) = False := eq_false hi
    simp (maxSteps := 9999999) -implicitDefEqProofs only [go_sem, mwp_draw, c1]
    refine kE _ _ ?_
    clear kN kE kR
    simp (maxSteps := 9999999) -implicitDefEqProofs only [go_sem, mwp_draw]
    obtain rfl : i = n.toNat := by omega
    repeat (refine ⟨by first | omega | decide | exact fits64 (by omega) (by omega) | kernel_rfl | (intros; omega), ?_⟩)
    first | done | rfl

/-! Without a node. -/
theorem cutNode1_is (e : E) (x : Int) (t : Bool) : Is prog fid_impl_Graph_cutNode_1 [Ed1 e, .pd t [.i .i64 x] 0] (.b (aloP x e)) := by
  refine MCall.run mixed get_impl_Graph_cutNode_1 ok_impl_Graph_cutNode_1 (Nat.le_of_ble_eq_true rfl) (by decide) ?_
  unfold mc_impl_Graph_cutNode_1 aloP
  by_cases q : e.1 = x
  · have d : (e.1 = x) = True := eq_true q
    simp (maxSteps := 9999999) -implicitDefEqProofs only [go_sem, mwp_draw, d]
  · have d : (e.1 = x) = False := eq_false q
    simp (maxSteps := 9999999) -implicitDefEqProofs only [go_sem, mwp_draw, d]
theorem cutNode_is (t : Bool) (n : Int) (es : List E) (x : Int) (hl : es.length ≤ 1048576) : Is prog fid_impl_Graph_cutNode [Gr t n es, .i .i64 x] (.agg [.i .i64 n, .ow true 2 (encE (aloL es x))]) := by
  refine MCall.run mixed get_impl_Graph_cutNode ok_impl_Graph_cutNode (Nat.le_of_ble_eq_true rfl) (by decide) ?_
  unfold mc_impl_Graph_cutNode
  simp (maxSteps := 9999999) -implicitDefEqProofs only [go_sem, mwp_draw]
  refine ⟨tdm es, tst (aloP x), fnOk_tst rfl rfl ⟨_, get_impl_Graph_cutNode_1, by kernel_rfl, by kernel_rfl⟩ (fun a ha => cutNode1_is a x _), ?_⟩
  refine callK_is (without_is _ n es _ _ _ (tests_tst es _) hl) ?_
  simp (maxSteps := 9999999) -implicitDefEqProofs only [go_sem, mwp_draw]
  rfl
theorem l1Alone_is (t : Bool) (n : Int) (es : List E) (x : Int) (hl : es.length ≤ 1048576) : Is prog fid_spec_l1Alone [Gr t n es, .i .i64 x] (.agg [.i .i64 n, .ow true 2 (encE (aloL es x))]) := by
  refine MCall.run mixed get_spec_l1Alone ok_spec_l1Alone (Nat.le_of_ble_eq_true rfl) (by decide) ?_
  unfold mc_spec_l1Alone
  simp (maxSteps := 9999999) -implicitDefEqProofs only [go_sem, mwp_draw]
  refine mwp_loopk (X := Nat) (fun i => ⟨[(1, .i .i64 x), (2, .pr 0 0 0), (4, .pr 1 0 0), (5, .pr 2 0 0), (6, .i .i64 i)],
      [(0, .box [.i .i64 n, .s t 2 (encE es)]), (1, .box [.i .i64 0, .nl 2]), (2, .box [.i .i64 n, .sr 3 0 (aloL (es.take i) x).length]), (3, .arr true 2 (encE (aloL (es.take i) x)))], 4⟩)
    (fun i => i ≤ es.length) (fun i => es.length - i) 0 (by rfl) (Nat.zero_le _) ?_
  rintro i h1 K kN kE kR
  have hfl : (aloL (es.take i) x).length ≤ i := by
    have := List.length_filter_le (fun e => !aloP x e) (es.take i)
    simp at this; unfold aloL; omega
  by_cases hi : i < es.length
  · obtain ⟨e, he⟩ : ∃ e, es[i]? = some e := ⟨_, List.getElem?_eq_getElem hi⟩
    have ge := goneS he
    have hn : aloL (es.take (i + 1)) x = aloL (es.take i) x ++ if aloP x e then [] else [e] := by
      unfold aloL
      rw [take_snoc he, List.filter_append]
      cases q : aloP x e <;> simp [q]
    have c1 : ((i : Int) < es.length) = True := eq_true (by omega)
    have c2 : (i < es.length) = True := eq_true (by omega)
    by_cases q1 : e.1 = x
    · have d1 : (e.1 = x) = True := eq_true q1
      have hp : aloP x e = true := by simp [aloP, q1]
      rw [hp] at hn
      simp only [if_true, List.append_nil] at hn
      simp (maxSteps := 9999999) -implicitDefEqProofs only [go_sem, mwp_draw, c1, c2, d1, ↓ge]
      repeat (refine ⟨by first | omega | decide | exact fits64 (by omega) (by omega) | kernel_rfl | (intros; omega), ?_⟩)
      exact kN _ (i + 1) (by rw [hn]; kernel_rfl) (by omega) (by omega)
    · have d1 : (e.1 = x) = False := eq_false q1
      by_cases q2 : e.2 = x
      · have d2 : (e.2 = x) = True := eq_true q2
        have hp : aloP x e = true := by simp [aloP, q2]
        rw [hp] at hn
        simp only [if_true, List.append_nil] at hn
        simp (maxSteps := 9999999) -implicitDefEqProofs only [go_sem, mwp_draw, c1, c2, d1, d2, ↓ge]
        repeat (refine ⟨by first | omega | decide | exact fits64 (by omega) (by omega) | kernel_rfl | (intros; omega), ?_⟩)
        exact kN _ (i + 1) (by rw [hn]; kernel_rfl) (by omega) (by omega)
      · have d2 : (e.2 = x) = False := eq_false q2
        have hp : aloP x e = false := by simp [aloP, q1, q2]
        rw [hp] at hn
        simp only [Bool.false_eq_true, if_false] at hn
        simp (maxSteps := 9999999) -implicitDefEqProofs only [go_sem, mwp_draw, c1, c2, d1, d2, ↓ge]
        repeat (refine ⟨by first | omega | decide | exact fits64 (by omega) (by omega) | kernel_rfl | (intros; omega), ?_⟩)
        exact kN _ (i + 1) (by rw [hn]; simp only [List.length_append]; kernel_rfl) (by omega) (by omega)
  · obtain rfl : i = es.length := by omega
    have c1 : ((es.length : Int) < es.length) = False := eq_false (by omega)
    rw [List.take_length]
    simp (maxSteps := 9999999) -implicitDefEqProofs only [go_sem, mwp_draw, c1]
    refine kE _ _ ?_
    clear kN kE kR
    simp (maxSteps := 9999999) -implicitDefEqProofs only [go_sem, mwp_draw]
    repeat (refine ⟨by first | omega | decide | exact fits64 (by omega) (by omega) | kernel_rfl | (intros; omega), ?_⟩)
    first | done | rfl
end Go.Fw
