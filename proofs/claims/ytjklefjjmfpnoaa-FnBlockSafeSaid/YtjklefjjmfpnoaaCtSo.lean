/-
  Sorting a list that is in order already: nothing is changed.
-/
import Derived.Test.YtjklefjjmfpnoaaCtG3
namespace Go.Fw
set_option linter.unusedSimpArgs false
set_option linter.unusedVariables false
set_option maxRecDepth 100000
set_option maxHeartbeats 4000000
open Go.Proofs.Try (prog)
open Go.Pl

theorem goneS {α : Type} {l : List α} {i : Nat} {x : α} (hx : l[i]? = some x) : ∀ P : α → Prop, (∀ z, l[i]? = some z → P z) ↔ P x := fun P => ⟨fun h => h x hx, fun h z hz => by rw [hx] at hz; cases hz; exact h⟩
theorem Less_is (a b : Int) : Is prog fid_cmp_Less_int [.i .i64 a, .i .i64 b] (.b (decide (a < b))) := by
  refine MCall.run mixed get_cmp_Less_int ok_cmp_Less_int (Nat.le_of_ble_eq_true rfl) (by decide) ?_
  unfold mc_cmp_Less_int
  simp (maxSteps := 9999999) -implicitDefEqProofs only [go_sem, mwp_draw]
  refine callK_is (isNaN_is a) ?_
  simp (maxSteps := 9999999) -implicitDefEqProofs only [go_sem, mwp_draw]
/-- In order. -/
abbrev Srt (l : List Int) : Prop := l.Pairwise (· < ·)
theorem srt_le {l : List Int} (h : Srt l) {i j : Nat} {x y : Int} (hij : i ≤ j) (hx : l[i]? = some x) (hy : l[j]? = some y) : x ≤ y := by
  obtain ⟨hi, rfl⟩ := List.getElem?_eq_some_iff.1 hx
  obtain ⟨hj, rfl⟩ := List.getElem?_eq_some_iff.1 hy
  by_cases e : i = j
  · subst e; exact Int.le_refl _
  · have := List.pairwise_iff_getElem.1 h i j hi hj (by omega); omega

theorem insertionSort_is (t : Bool) (l : List Int) (hs : Srt l) (hl : l.length ≤ 1048576) : Is prog fid_slices_insertionSortOrdered_int [.s t 1 (encI l), .i .i64 0, .i .i64 l.length] (.tup []) := by
  refine MCall.run mixed get_slices_insertionSortOrdered_int ok_slices_insertionSortOrdered_int (Nat.le_of_ble_eq_true rfl) (by decide) ?_
  unfold mc_slices_insertionSortOrdered_int
  simp (maxSteps := 9999999) -implicitDefEqProofs only [go_sem, mwp_draw]
  repeat (refine ⟨by first | omega | decide | exact fits64 (by omega) (by omega) | kernel_rfl | (intros; omega), ?_⟩)
  refine mwp_loopk (X := Nat) (fun i => ⟨[(0, .s t 1 (encI l)), (1, .i .i64 0), (2, .i .i64 l.length), (6, .i .i64 ((i + 1 : Nat) : Int))], [], 0⟩) (fun i => i ≤ l.length) (fun i => l.length - i) 0 (by rfl) (Nat.zero_le _) ?_
  rintro i h1 K kN kE kR
  by_cases hi : i + 1 < l.length
  · have c1 : (((i + 1 : Nat) : Int) < l.length) = True := eq_true (by omega)
    simp (maxSteps := 9999999) -implicitDefEqProofs only [go_sem, mwp_draw, c1]
    refine mwp_loopk (X := Unit) (fun _ => ⟨[(0, .s t 1 (encI l)), (1, .i .i64 0), (2, .i .i64 l.length), (6, .i .i64 ((i + 1 : Nat) : Int)), (7, .i .i64 ((i + 1 : Nat) : Int))], [], 0⟩) (fun _ => True) (fun _ => 0) () (by rfl) trivial ?_
    rintro ⟨⟩ - K' kN' kE' kR'
    obtain ⟨x, hx⟩ : ∃ x, l[i]? = some x := ⟨_, List.getElem?_eq_getElem (by omega)⟩
    obtain ⟨y, hy⟩ : ∃ y, l[i + 1]? = some y := ⟨_, List.getElem?_eq_getElem (by omega)⟩
    have hxy := srt_le hs (Nat.le_succ i) hx hy
    have gx := goneS hx
    have gy := goneS hy
    have d0 : ((0 : Int) < ((i + 1 : Nat) : Int)) = True := eq_true (by omega)
    have d1 : ((i + 1 : Nat) : Int) - 1 = (i : Nat) := by omega
    have d2 : ((i : Nat) : Int) < l.length := by omega
    have d3 : i + 1 < l.length := hi
    have d4 : i < l.length := by omega
    have d5 : (y < x) = False := eq_false (by omega)
    simp (maxSteps := 9999999) -implicitDefEqProofs only [go_sem, mwp_draw, d0, d1, ↓gx, ↓gy]
    repeat (refine ⟨by first | omega | decide | exact fits64 (by omega) (by omega) | kernel_rfl | (intros; omega), ?_⟩)
    refine callK_is (Less_is y x) ?_
    simp (maxSteps := 9999999) -implicitDefEqProofs only [go_sem, mwp_draw, d5]
    repeat (refine ⟨by first | omega | decide | exact fits64 (by omega) (by omega) | kernel_rfl | (intros; omega), ?_⟩)
    refine kE' _ _ ?_
    clear kN' kE' kR'
    simp (maxSteps := 9999999) -implicitDefEqProofs only [go_sem, mwp_draw]
    repeat (refine ⟨by first | omega | decide | exact fits64 (by omega) (by omega) | kernel_rfl | (intros; omega), ?_⟩)
    exact kN _ (i + 1) (by kernel_rfl) (by omega) (by omega)
  · have c1 : (((i + 1 : Nat) : Int) < l.length) = False := eq_false (by omega)
    simp (maxSteps := 9999999) -implicitDefEqProofs only [go_sem, mwp_draw, c1]
    refine kE _ _ ?_
    simp (maxSteps := 9999999) -implicitDefEqProofs only [go_sem, mwp_draw]
theorem order2_is (t u : Bool) (l : List Int) (i j : Nat) (hs : Srt l) (hij : i < j) (hj : j < l.length) (hl : l.length ≤ 1048576) :
    Is prog fid_slices_order2Ordered_int [.s t 1 (encI l), .i .i64 i, .i .i64 j, .pd u [.i .i64 0] 0] (.tup [.i .i64 i, .i .i64 j]) := by
  refine MCall.run mixed get_slices_order2Ordered_int ok_slices_order2Ordered_int (Nat.le_of_ble_eq_true rfl) (by decide) ?_
  unfold mc_slices_order2Ordered_int
  obtain ⟨x, hx⟩ : ∃ x, l[i]? = some x := ⟨_, List.getElem?_eq_getElem (by omega)⟩
  obtain ⟨y, hy⟩ : ∃ y, l[j]? = some y := ⟨_, List.getElem?_eq_getElem (by omega)⟩
  have hxy := srt_le hs (Nat.le_of_lt hij) hx hy
  have gx := goneS hx
  have gy := goneS hy
  have d5 : (y < x) = False := eq_false (by omega)
  simp (maxSteps := 9999999) -implicitDefEqProofs only [go_sem, mwp_draw, ↓gx, ↓gy]
  repeat (refine ⟨by first | omega | decide | exact fits64 (by omega) (by omega) | kernel_rfl | (intros; omega), ?_⟩)
  refine callK_is (Less_is y x) ?_
  simp (maxSteps := 9999999) -implicitDefEqProofs only [go_sem, mwp_draw, d5]
  repeat (refine ⟨by first | omega | decide | exact fits64 (by omega) (by omega) | kernel_rfl | (intros; omega), ?_⟩)
  first | done | (show _ = true; kernel_rfl) | exact ⟨by kernel_rfl, rfl⟩
theorem median_is (t u : Bool) (l : List Int) (i j k : Nat) (hs : Srt l) (hij : i < j) (hjk : j < k) (hk : k < l.length) (hl : l.length ≤ 1048576) :
    Is prog fid_slices_medianOrdered_int [.s t 1 (encI l), .i .i64 i, .i .i64 j, .i .i64 k, .pd u [.i .i64 0] 0] (.i .i64 j) := by
  refine MCall.run mixed get_slices_medianOrdered_int ok_slices_medianOrdered_int (Nat.le_of_ble_eq_true rfl) (by decide) ?_
  unfold mc_slices_medianOrdered_int
  simp (maxSteps := 9999999) -implicitDefEqProofs only [go_sem, mwp_draw]
  refine callK_is (order2_is _ _ l i j hs hij (by omega) hl) ?_
  simp (maxSteps := 9999999) -implicitDefEqProofs only [go_sem, mwp_draw]
  refine callK_is (order2_is _ _ l j k hs hjk hk hl) ?_
  simp (maxSteps := 9999999) -implicitDefEqProofs only [go_sem, mwp_draw]
  refine callK_is (order2_is _ _ l i j hs hij (by omega) hl) ?_
  simp (maxSteps := 9999999) -implicitDefEqProofs only [go_sem, mwp_draw]
/-- From 8 to 49 elements. -/
theorem choosePivot_is (t : Bool) (l : List Int) (hs : Srt l) (h8 : 8 ≤ l.length) (h50 : l.length < 50) :
    Is prog fid_slices_choosePivotOrdered_int [.s t 1 (encI l), .i .i64 0, .i .i64 l.length] (.tup [.i .i64 (l.length / 4 * 2 : Nat), .i .i64 1]) := by
  refine MCall.run mixed get_slices_choosePivotOrdered_int ok_slices_choosePivotOrdered_int (Nat.le_of_ble_eq_true rfl) (by decide) ?_
  unfold mc_slices_choosePivotOrdered_int
  have e0 : ((l.length : Int) - 0) = l.length := by omega
  have e1 : (l.length : Int).tdiv 4 = ((l.length / 4 : Nat) : Int) := by
    rw [Int.tdiv_eq_ediv_of_nonneg (by omega)]; omega
  have e2 : (0 : Int) + ((l.length / 4 : Nat) : Int) * 1 = ((l.length / 4 : Nat) : Int) := by omega
  have e3 : (0 : Int) + ((l.length / 4 : Nat) : Int) * 2 = ((l.length / 4 * 2 : Nat) : Int) := by omega
  have e4 : (0 : Int) + ((l.length / 4 : Nat) : Int) * 3 = ((l.length / 4 * 3 : Nat) : Int) := by omega
  have c1 : (8 ≤ (l.length : Int)) = True := eq_true (by omega)
  have c2 : (50 ≤ (l.length : Int)) = False := eq_false (by omega)
  simp (maxSteps := 9999999) -implicitDefEqProofs only [go_sem, mwp_draw, e0, e1, e2, e3, e4, c1, c2]
  repeat (refine ⟨by first | omega | decide | exact fits64 (by omega) (by omega) | kernel_rfl | (intros; omega), ?_⟩)
  refine callK_is (median_is _ _ l (l.length / 4) (l.length / 4 * 2) (l.length / 4 * 3) hs (by omega) (by omega) (by omega) (by omega)) ?_
  simp (maxSteps := 9999999) -implicitDefEqProofs only [go_sem, mwp_draw]
theorem partialSort_is (t : Bool) (l : List Int) (hs : Srt l) (h1 : 1 ≤ l.length) (hl : l.length ≤ 1048576) :
    Is prog fid_slices_partialInsertionSortOrdered_int [.s t 1 (encI l), .i .i64 0, .i .i64 l.length] (.b true) := by
  refine MCall.run mixed get_slices_partialInsertionSortOrdered_int ok_slices_partialInsertionSortOrdered_int (Nat.le_of_ble_eq_true rfl) (by decide) ?_
  unfold mc_slices_partialInsertionSortOrdered_int
  simp (maxSteps := 9999999) -implicitDefEqProofs only [go_sem, mwp_draw]
  repeat (refine ⟨by first | omega | decide | exact fits64 (by omega) (by omega) | kernel_rfl | (intros; omega), ?_⟩)
  refine mwp_loopk (X := Unit) (fun _ => ⟨[(0, .s t 1 (encI l)), (1, .i .i64 0), (2, .i .i64 l.length), (7, .i .i64 1), (8, .i .i64 0)], [], 0⟩) (fun _ => True) (fun _ => 0) () (by rfl) trivial ?_
  rintro ⟨⟩ - K kN kE kR
  have c05 : ((0 : Int) < 5) = True := eq_true (by decide)
  simp (maxSteps := 9999999) -implicitDefEqProofs only [go_sem, mwp_draw, c05]
  repeat (refine ⟨by first | omega | decide | exact fits64 (by omega) (by omega) | kernel_rfl | (intros; omega), ?_⟩)
  refine mwp_loopk (X := Nat) (fun i => ⟨[(0, .s t 1 (encI l)), (1, .i .i64 0), (2, .i .i64 l.length), (7, .i .i64 ((i + 1 : Nat) : Int)), (8, .i .i64 0)], [], 0⟩) (fun i => i + 1 ≤ l.length) (fun i => l.length - i) 0 (by rfl) (by omega) ?_
  rintro i g1 K' kN' kE' kR'
  by_cases hi : i + 1 < l.length
  · obtain ⟨x, hx⟩ : ∃ x, l[i]? = some x := ⟨_, List.getElem?_eq_getElem (by omega)⟩
    obtain ⟨y, hy⟩ : ∃ y, l[i + 1]? = some y := ⟨_, List.getElem?_eq_getElem (by omega)⟩
    have hxy := srt_le hs (Nat.le_succ i) hx hy
    have gx := goneS hx
    have gy := goneS hy
    have c1 : (((i + 1 : Nat) : Int) < l.length) = True := eq_true (by omega)
    have d1 : ((i + 1 : Nat) : Int) - 1 = (i : Nat) := by omega
    have d5 : (y < x) = False := eq_false (by omega)
    simp (maxSteps := 9999999) -implicitDefEqProofs only [go_sem, mwp_draw, c1, d1, ↓gx, ↓gy]
    repeat (refine ⟨by first | omega | decide | exact fits64 (by omega) (by omega) | kernel_rfl | (intros; omega), ?_⟩)
    refine callK_is (Less_is y x) ?_
    simp (maxSteps := 9999999) -implicitDefEqProofs only [go_sem, mwp_draw, d5]
    repeat (refine ⟨by first | omega | decide | exact fits64 (by omega) (by omega) | kernel_rfl | (intros; omega), ?_⟩)
    exact kN' _ (i + 1) (by kernel_rfl) (by omega) (by omega)
  · have c1 : (((i + 1 : Nat) : Int) < l.length) = False := eq_false (by omega)
    simp (maxSteps := 9999999) -implicitDefEqProofs only [go_sem, mwp_draw, c1]
    repeat (refine ⟨by first | omega | decide | exact fits64 (by omega) (by omega) | kernel_rfl | (intros; omega), ?_⟩)
    refine kE' _ _ ?_
    clear kN' kE' kR'
    have c2 : (((i + 1 : Nat) : Int) = l.length) = True := eq_true (by omega)
    simp (maxSteps := 9999999) -implicitDefEqProofs only [go_sem, mwp_draw, c2]
    refine kR _ ?_
    simp (maxSteps := 9999999) -implicitDefEqProofs only [go_sem, mwp_draw]
def len8 : List Nat := [0, 1, 2, 2, 3, 3, 3, 3, 4, 4, 4, 4, 4, 4, 4, 4, 5]
theorem Len_is (n : Nat) (hn : n ≤ 16) : Is prog fid_math_bits_Len [.i .u64 n] (.i .i64 (len8.getD n 0 : Nat)) := by
  have h64 : Is prog fid_math_bits_Len64 [.i .u64 n] (.i .i64 (len8.getD n 0 : Nat)) := by
    refine MCall.run mixed get_math_bits_Len64 ok_math_bits_Len64 (Nat.le_of_ble_eq_true rfl) (by decide) ?_
    unfold mc_math_bits_Len64
    have c1 : (4294967296 ≤ (n : Int)) = False := eq_false (by omega)
    have c2 : (65536 ≤ (n : Int)) = False := eq_false (by omega)
    have c3 : (256 ≤ (n : Int)) = False := eq_false (by omega)
    simp (maxSteps := 9999999) -implicitDefEqProofs only [go_sem, mwp_draw, c1, c2, c3]
    have : n = 0 ∨ n = 1 ∨ n = 2 ∨ n = 3 ∨ n = 4 ∨ n = 5 ∨ n = 6 ∨ n = 7 ∨ n = 8 ∨ n = 9 ∨ n = 10 ∨ n = 11 ∨ n = 12 ∨ n = 13 ∨ n = 14 ∨ n = 15 ∨ n = 16 := by omega
    rcases this with rfl | rfl | rfl | rfl | rfl | rfl | rfl | rfl | rfl | rfl | rfl | rfl | rfl | rfl | rfl | rfl | rfl <;>
      exact ⟨by unfold Fits; decide, by omega, by decide, by unfold Fits; decide, by unfold Fits; decide, rfl⟩
  refine MCall.run mixed get_math_bits_Len ok_math_bits_Len (Nat.le_of_ble_eq_true rfl) (by decide) ?_
  unfold mc_math_bits_Len
  simp (maxSteps := 9999999) -implicitDefEqProofs only [go_sem, mwp_draw]
  refine callK_is h64 ?_
  simp (maxSteps := 9999999) -implicitDefEqProofs only [go_sem, mwp_draw]
theorem pdqsort_is (t : Bool) (l : List Int) (k : Int) (hs : Srt l) (hl : l.length ≤ 16) (hk : 12 < l.length → k ≠ 0) : Is prog fid_slices_pdqsortOrdered_int [.s t 1 (encI l), .i .i64 0, .i .i64 l.length, .i .i64 k] (.tup []) := by
  refine MCall.run mixed get_slices_pdqsortOrdered_int ok_slices_pdqsortOrdered_int (Nat.le_of_ble_eq_true rfl) (by decide) ?_
  unfold mc_slices_pdqsortOrdered_int
  simp (maxSteps := 9999999) -implicitDefEqProofs only [go_sem, mwp_draw]
  refine mwp_loopk (X := Unit) (fun _ => ⟨[(0, .s t 1 (encI l)), (1, .i .i64 0), (2, .i .i64 l.length), (3, .i .i64 k), (8, .b true), (9, .b true)], [], 0⟩) (fun _ => True) (fun _ => 0) () (by rfl) trivial ?_
  rintro ⟨⟩ - K kN kE kR
  have e0 : ((l.length : Int) - 0) = l.length := by omega
  by_cases h12 : l.length ≤ 12
  · have c1 : ((l.length : Int) ≤ 12) = True := eq_true (by omega)
    simp (maxSteps := 9999999) -implicitDefEqProofs only [go_sem, mwp_draw, e0, c1]
    repeat (refine ⟨by first | omega | decide | exact fits64 (by omega) (by omega) | kernel_rfl | (intros; omega), ?_⟩)
    refine callK_is (insertionSort_is _ l hs (by omega)) ?_
    simp (maxSteps := 9999999) -implicitDefEqProofs only [go_sem, mwp_draw]
    refine kR _ ?_
    simp (maxSteps := 9999999) -implicitDefEqProofs only [go_sem, mwp_draw]
  · have c1 : ((l.length : Int) ≤ 12) = False := eq_false (by omega)
    have c2 : (k = 0) = False := eq_false (hk (by omega))
    simp (maxSteps := 9999999) -implicitDefEqProofs only [go_sem, mwp_draw, e0, c1, c2]
    repeat (refine ⟨by first | omega | decide | exact fits64 (by omega) (by omega) | kernel_rfl | (intros; omega), ?_⟩)
    refine callK_is (choosePivot_is _ l hs (by omega) (by omega)) ?_
    have c12 : ((1 : Int) = 2) = False := eq_false (by decide)
    simp (maxSteps := 9999999) -implicitDefEqProofs only [go_sem, mwp_draw, c12]
    refine callK_is (partialSort_is _ l hs (by omega) (by omega)) ?_
    simp (maxSteps := 9999999) -implicitDefEqProofs only [go_sem, mwp_draw]
    refine kR _ ?_
    simp (maxSteps := 9999999) -implicitDefEqProofs only [go_sem, mwp_draw]
theorem Sort_is (t : Bool) (l : List Int) (hs : Srt l) (hl : l.length ≤ 16) : Is prog fid_slices_Sort_int_int [.s t 1 (encI l)] (.tup []) := by
  refine MCall.run mixed get_slices_Sort_int_int ok_slices_Sort_int_int (Nat.le_of_ble_eq_true rfl) (by decide) ?_
  unfold mc_slices_Sort_int_int
  simp (maxSteps := 9999999) -implicitDefEqProofs only [go_sem, mwp_draw]
  refine ⟨?_, callK_is (Len_is l.length hl) ?_⟩
  · have : l.length = 0 ∨ l.length = 1 ∨ l.length = 2 ∨ l.length = 3 ∨ l.length = 4 ∨ l.length = 5 ∨ l.length = 6 ∨ l.length = 7 ∨ l.length = 8 ∨ l.length = 9 ∨ l.length = 10 ∨ l.length = 11 ∨ l.length = 12 ∨ l.length = 13 ∨ l.length = 14 ∨ l.length = 15 ∨ l.length = 16 := by omega
    rcases this with q | q | q | q | q | q | q | q | q | q | q | q | q | q | q | q | q <;> rw [q] <;> unfold Fits <;> decide
  simp (maxSteps := 9999999) -implicitDefEqProofs only [go_sem, mwp_draw]
  refine callK_is (pdqsort_is _ l _ hs hl fun h => ?_) ?_
  · have : l.length = 13 ∨ l.length = 14 ∨ l.length = 15 ∨ l.length = 16 := by omega
    rcases this with q | q | q | q <;> rw [q] <;> decide
  simp (maxSteps := 9999999) -implicitDefEqProofs only [go_sem, mwp_draw]
end Go.Fw
