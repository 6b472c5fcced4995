/-
  Insert, Delete and Clone for slices of numbers and of truth values.
-/
import Derived.Test.YtfjekgjhhmkgoaaCtG4
namespace Go.Fw
set_option linter.unusedSimpArgs false
set_option linter.unusedVariables false
set_option maxRecDepth 100000
set_option maxHeartbeats 4000000
open Go.Proofs.Try (prog)
open Go.Pl

theorem flat_I (l : List Int) : Flat (encI l) := of_eq_true (flat_encI l)
theorem flat_T (l : List Bool) : Flat (encT l) := of_eq_true (flat_encT l)
theorem del_take {α : Type} {l z : List α} {i j : Nat} (hi : i ≤ j) (hj : j ≤ l.length) : ((overL (overL l i (l.drop j)) (i + (l.length - j)) z).take (i + (l.length - j))) = l.take i ++ l.drop j := by
  have hl : (overL l i (l.drop j)).length = l.length := by rw [overL_length (by omega)]; simp; omega
  have h1 : (l.take i ++ l.drop j).length = i + (l.length - j) := by simp; omega
  unfold overL at hl ⊢
  rw [List.append_assoc, List.take_append_of_le_length (by rw [List.length_take, hl]; omega), List.take_take, Nat.min_self, List.append_assoc, ← List.append_assoc, ← h1, List.take_left']
  rfl
theorem CloneI_is (t : Bool) (l : List Int) (hl : l.length ≤ 1048576) : Is prog fid_slices_Clone_int_int [.s t 1 (encI l)] (.ow true 1 (encI l)) := by
  refine MCall.run mixed get_slices_Clone_int_int ok_slices_Clone_int_int (Nat.le_of_ble_eq_true rfl) (by decide) ?_
  unfold mc_slices_Clone_int_int
  simp (config := { maxSteps := 10000000, implicitDefEqProofs := false }) only [go_sem, ↓reduceIte, Nat.reduceAdd, Nat.reduceMul, Nat.reduceEqDiff, Nat.reduceSub, Nat.reduceLT, reduceCtorEq, Nat.reduceLeDiff, Nat.reduceBEq, mwp_draw]
  exact ⟨fun h => by rw [h], by omega⟩
theorem ovOK_I : OvOK prog fid_slices_overlaps_int := by
  obtain ⟨inf, hi⟩ := Option.isSome_iff_exists.1 (show (prog.info? ove_slices_overlaps_int).isSome = true by kernel_rfl)
  exact ⟨_, ovT_slices_overlaps_int, ovR_slices_overlaps_int, ove_slices_overlaps_int, inf, get_slices_overlaps_int, by kernel_rfl, by kernel_rfl, by kernel_rfl, by kernel_rfl, by kernel_rfl, hi⟩
theorem overR_encI (a b : List Int) (i : Nat) : overR (encI a) i (encI b) = encI (overL a i b) := by
  simp only [overR, overL, encI_take, encI_drop, encI_length, encI_app]
theorem ins_newI {l : List Int} {i : Nat} (e : Int) (hi : i < l.length) : overL (overL (l.take i ++ List.replicate (l.length + 1 - i) 0) i [e]) (i + 1) (l.drop i) = l.take i ++ e :: l.drop i := by
  have h1 : (l.take i).length = i := by simp; omega
  have e1 : List.replicate (l.length + 1 - i) (0 : Int) = [0] ++ List.replicate (l.length - i) 0 := by
    rw [show l.length + 1 - i = (l.length - i) + 1 by omega, List.replicate_succ]; rfl
  rw [e1, overL_mid (b := [e]) (z := [0]) h1 rfl]
  have e2 : l.take i ++ ([e] ++ List.replicate (l.length - i) (0 : Int)) = (l.take i ++ [e]) ++ (List.replicate (l.length - i) 0 ++ []) := by simp
  rw [e2, overL_mid (by simp; omega) (by simp)]
  simp
theorem ins_oldI {l : List Int} {i : Nat} (e : Int) (hi : i < l.length) : overL (overL l (i + 1) (l.drop i)) i [e] = l.take i ++ e :: l.drop i := by
  have h1 : (l.take i).length = i := by simp; omega
  have e1 : overL l (i + 1) (l.drop i) = l.take i ++ ([l[i]] ++ l.drop i) := by
    unfold overL
    rw [List.drop_eq_nil_of_le (show l.length ≤ i + 1 + (l.drop i).length by simp; omega), List.append_nil, take_snoc (List.getElem?_eq_getElem hi), List.append_assoc]
  rw [e1, overL_mid (b := [e]) (z := [l[i]]) h1 rfl]; rfl
theorem ins_lengthI {l : List Int} {i : Nat} (e : Int) (hi : i ≤ l.length) : (l.take i ++ e :: l.drop i).length = l.length + 1 := by simp; omega
theorem InsertI_is (l : List Int) (i : Nat) (e : Int) (t t' : Bool) (hi : i ≤ l.length) (hl : l.length ≤ 1048576) :
    Is prog fid_slices_Insert_int_int [.ow t 1 (encI l), .i .i64 i, .ow t' 1 (encI [e])] (.ow true 1 (encI (l.take i ++ e :: l.drop i))) := by
  refine MCall.run mixed get_slices_Insert_int_int ok_slices_Insert_int_int (Nat.le_of_ble_eq_true rfl) (by decide) ?_
  unfold mc_slices_Insert_int_int
  simp (config := { maxSteps := 10000000, implicitDefEqProofs := false }) only [go_sem, ↓reduceIte, Nat.reduceAdd, Nat.reduceMul, Nat.reduceEqDiff, Nat.reduceSub, Nat.reduceLT, reduceCtorEq, Nat.reduceLeDiff, Nat.reduceBEq]
  refine ⟨by omega, hi, fun h => by omega, fun _ => ⟨fun h => ?_, fun h => ⟨fits64 (by omega) (by omega), by omega, fun c hc _ => ⟨fun h1 => ?_, fun h1 => ?_⟩⟩⟩⟩
  · obtain rfl : i = l.length := by omega
    refine ⟨by omega, ?_⟩
    rw [List.take_length, List.drop_length]
  · have e1 : ((l.length : Int) + 1 - (i : Int)).toNat = l.length + 1 - i := by omega
    have e2 : min 1 (i + (l.length + 1 - i) - i) = 1 := by omega
    have e3 : ((i : Int) + 1).toNat = i + 1 := by omega
    have e4 : min (l.length - i) (i + (l.length + 1 - i) - (i + 1)) = l.length - i := by omega
    have e5 : (i + (l.length - i) ≤ l.length) = True := eq_true (by omega)
    have e6 : (l.drop i).take (l.length - i) = l.drop i := List.take_of_length_le (by simp)
    simp only [e1, e2, e3, e4]
    simp (config := { maxSteps := 10000000, implicitDefEqProofs := false }) only [go_sem, ↓reduceIte, Nat.reduceAdd, Nat.reduceMul, Nat.reduceEqDiff, Nat.reduceSub, Nat.reduceLT, reduceCtorEq, Nat.reduceLeDiff, Nat.reduceBEq, mwp_draw, e1, e2, e3, e4, e5, e6, overR_encI]
    refine ⟨by omega, by omega, by omega, by omega, fits64 (by omega) (by omega), fits64 (by omega) (by omega), by omega, by omega, by omega, by omega, by omega, by omega, by simp; omega, fits64 (by omega) (by omega), by omega, by omega, by omega, by omega, by omega, by omega, ?_, by kernel_rfl, ?_⟩
    · rw [overL_length (by simp; omega)]; simp; omega
    · have h5 : i + (l.length + 1 - i) = (l.take i ++ e :: l.drop i).length := by rw [ins_lengthI e hi]; omega
      rw [ins_newI e (by omega), h5, List.take_length]
      exact ⟨Nat.le_refl _, rfl⟩
  · have e1 : ((l.length : Int) + 1).toNat = l.length + 1 := by omega
    have e3 : ((i : Int) + 1).toNat = i + 1 := by omega
    have e4 : min (l.length + 1 - i) (l.length + 1 - (i + 1)) = l.length - i := by omega
    have e2 : min 1 (l.length + 1 - i) = 1 := by omega
    have e5 : (l.length - i ≤ l.length + 1 - i) = True := eq_true (by omega)
    have e7 : (i + (l.length - i) ≤ l.length) = True := eq_true (by omega)
    have e6 : (l.drop i).take (l.length - i) = l.drop i := List.take_of_length_le (by simp)
    simp only [e1, e2, e3, e4]
    simp (config := { maxSteps := 10000000, implicitDefEqProofs := false }) only [go_sem, ↓reduceIte, Nat.reduceAdd, Nat.reduceMul, Nat.reduceEqDiff, Nat.reduceSub, Nat.reduceLT, reduceCtorEq, Nat.reduceLeDiff, Nat.reduceBEq, mwp_draw, e1, e2, e3, e4, e5, e6, e7, overR_encI]
    refine ⟨fits64 (by omega) (by omega), by omega, by omega, by omega, fits64 (by omega) (by omega), by omega, by omega, by omega, by omega, ovOK_I, by omega, by omega, by decide, fits64 (by omega) (by omega), by omega, by omega, by omega, by omega, by omega, by omega, by omega, by omega, by omega, by kernel_rfl, by omega, by omega, ?_, ?_⟩
    · rw [overL_length (by omega)]; omega
    · rw [ins_oldI e (by omega), ← ins_lengthI e hi, List.take_length]
      exact ⟨Nat.le_refl _, rfl⟩
theorem DeleteI_is (l : List Int) (i : Nat) (t : Bool) (hi : i < l.length) (hl : l.length ≤ 1048576) :
    Is prog fid_slices_Delete_int_int [.ow t 1 (encI l), .i .i64 i, .i .i64 ((i : Int) + 1)] (.ow true 1 (encI (l.take i ++ l.drop (i + 1)))) := by
  refine MCall.run mixed get_slices_Delete_int_int ok_slices_Delete_int_int (Nat.le_of_ble_eq_true rfl) (by decide) ?_
  unfold mc_slices_Delete_int_int
  have e1 : ((i : Int) + 1).toNat = i + 1 := by omega
  have e2 : ((i : Int) = (i : Int) + 1) = False := eq_false (by omega)
  have e3 : (i + 1 + (l.length - (i + 1)) ≤ l.length) = True := eq_true (by omega)
  have e4 : (l.drop (i + 1)).take (l.length - (i + 1)) = l.drop (i + 1) := List.take_of_length_le (by simp)
  have e5 : (encI (l.drop (i + 1))).length = l.length - (i + 1) := by simp [encI]
  have e6 : i + (l.length - (i + 1)) ≤ l.length := by omega
  simp (config := { maxSteps := 10000000, implicitDefEqProofs := false }) only [go_sem, ↓reduceIte, Nat.reduceAdd, Nat.reduceMul, Nat.reduceEqDiff, Nat.reduceSub, Nat.reduceLT, reduceCtorEq, Nat.reduceLeDiff, Nat.reduceBEq, mwp_draw, e1, e2, e3, e4, e5, overR_encI]
  have e7 : (overL l i (l.drop (i + 1))).length = l.length := by rw [overL_length (by omega)]; simp; omega
  repeat (refine ⟨by first | omega | decide | exact fits64 (by omega) (by omega) | kernel_rfl | (intros; omega), ?_⟩)
  refine ⟨by rw [overL_length (by rw [e7]; omega), e7]; omega, ?_⟩
  rw [del_take (by omega) (by omega)]
theorem CloneT_is (t : Bool) (l : List Bool) (hl : l.length ≤ 1048576) : Is prog fid_slices_Clone_bool_bool [.s t 1 (encT l)] (.ow true 1 (encT l)) := by
  refine MCall.run mixed get_slices_Clone_bool_bool ok_slices_Clone_bool_bool (Nat.le_of_ble_eq_true rfl) (by decide) ?_
  unfold mc_slices_Clone_bool_bool
  simp (config := { maxSteps := 10000000, implicitDefEqProofs := false }) only [go_sem, ↓reduceIte, Nat.reduceAdd, Nat.reduceMul, Nat.reduceEqDiff, Nat.reduceSub, Nat.reduceLT, reduceCtorEq, Nat.reduceLeDiff, Nat.reduceBEq, mwp_draw]
  exact ⟨fun h => by rw [h], by omega⟩
theorem ovOK_T : OvOK prog fid_slices_overlaps_bool := by
  obtain ⟨inf, hi⟩ := Option.isSome_iff_exists.1 (show (prog.info? ove_slices_overlaps_bool).isSome = true by kernel_rfl)
  exact ⟨_, ovT_slices_overlaps_bool, ovR_slices_overlaps_bool, ove_slices_overlaps_bool, inf, get_slices_overlaps_bool, by kernel_rfl, by kernel_rfl, by kernel_rfl, by kernel_rfl, by kernel_rfl, hi⟩
theorem overR_encT (a b : List Bool) (i : Nat) : overR (encT a) i (encT b) = encT (overL a i b) := by
  simp only [overR, overL, encT_take, encT_drop, encT_length, encT_app]
theorem ins_newT {l : List Bool} {i : Nat} (e : Bool) (hi : i < l.length) : overL (overL (l.take i ++ List.replicate (l.length + 1 - i) false) i [e]) (i + 1) (l.drop i) = l.take i ++ e :: l.drop i := by
  have h1 : (l.take i).length = i := by simp; omega
  have e1 : List.replicate (l.length + 1 - i) (false : Bool) = [false] ++ List.replicate (l.length - i) false := by
    rw [show l.length + 1 - i = (l.length - i) + 1 by omega, List.replicate_succ]; rfl
  rw [e1, overL_mid (b := [e]) (z := [false]) h1 rfl]
  have e2 : l.take i ++ ([e] ++ List.replicate (l.length - i) (false : Bool)) = (l.take i ++ [e]) ++ (List.replicate (l.length - i) false ++ []) := by simp
  rw [e2, overL_mid (by simp; omega) (by simp)]
  simp
theorem ins_oldT {l : List Bool} {i : Nat} (e : Bool) (hi : i < l.length) : overL (overL l (i + 1) (l.drop i)) i [e] = l.take i ++ e :: l.drop i := by
  have h1 : (l.take i).length = i := by simp; omega
  have e1 : overL l (i + 1) (l.drop i) = l.take i ++ ([l[i]] ++ l.drop i) := by
    unfold overL
    rw [List.drop_eq_nil_of_le (show l.length ≤ i + 1 + (l.drop i).length by simp; omega), List.append_nil, take_snoc (List.getElem?_eq_getElem hi), List.append_assoc]
  rw [e1, overL_mid (b := [e]) (z := [l[i]]) h1 rfl]; rfl
theorem ins_lengthT {l : List Bool} {i : Nat} (e : Bool) (hi : i ≤ l.length) : (l.take i ++ e :: l.drop i).length = l.length + 1 := by simp; omega
theorem InsertT_is (l : List Bool) (i : Nat) (e : Bool) (t t' : Bool) (hi : i ≤ l.length) (hl : l.length ≤ 1048576) :
    Is prog fid_slices_Insert_bool_bool [.ow t 1 (encT l), .i .i64 i, .ow t' 1 (encT [e])] (.ow true 1 (encT (l.take i ++ e :: l.drop i))) := by
  refine MCall.run mixed get_slices_Insert_bool_bool ok_slices_Insert_bool_bool (Nat.le_of_ble_eq_true rfl) (by decide) ?_
  unfold mc_slices_Insert_bool_bool
  simp (config := { maxSteps := 10000000, implicitDefEqProofs := false }) only [go_sem, ↓reduceIte, Nat.reduceAdd, Nat.reduceMul, Nat.reduceEqDiff, Nat.reduceSub, Nat.reduceLT, reduceCtorEq, Nat.reduceLeDiff, Nat.reduceBEq]
  refine ⟨by omega, hi, fun h => by omega, fun _ => ⟨fun h => ?_, fun h => ⟨fits64 (by omega) (by omega), by omega, fun c hc _ => ⟨fun h1 => ?_, fun h1 => ?_⟩⟩⟩⟩
  · obtain rfl : i = l.length := by omega
    refine ⟨by omega, ?_⟩
    rw [List.take_length, List.drop_length]
  · have e1 : ((l.length : Int) + 1 - (i : Int)).toNat = l.length + 1 - i := by omega
    have e2 : min 1 (i + (l.length + 1 - i) - i) = 1 := by omega
    have e3 : ((i : Int) + 1).toNat = i + 1 := by omega
    have e4 : min (l.length - i) (i + (l.length + 1 - i) - (i + 1)) = l.length - i := by omega
    have e5 : (i + (l.length - i) ≤ l.length) = True := eq_true (by omega)
    have e6 : (l.drop i).take (l.length - i) = l.drop i := List.take_of_length_le (by simp)
    simp only [e1, e2, e3, e4]
    simp (config := { maxSteps := 10000000, implicitDefEqProofs := false }) only [go_sem, ↓reduceIte, Nat.reduceAdd, Nat.reduceMul, Nat.reduceEqDiff, Nat.reduceSub, Nat.reduceLT, reduceCtorEq, Nat.reduceLeDiff, Nat.reduceBEq, mwp_draw, e1, e2, e3, e4, e5, e6, overR_encT]
    refine ⟨by omega, by omega, by omega, by omega, fits64 (by omega) (by omega), fits64 (by omega) (by omega), by omega, by omega, by omega, by omega, by omega, by omega, by simp; omega, fits64 (by omega) (by omega), by omega, by omega, by omega, by omega, by omega, by omega, ?_, by kernel_rfl, ?_⟩
    · rw [overL_length (by simp; omega)]; simp; omega
    · have h5 : i + (l.length + 1 - i) = (l.take i ++ e :: l.drop i).length := by rw [ins_lengthT e hi]; omega
      rw [ins_newT e (by omega), h5, List.take_length]
      exact ⟨Nat.le_refl _, rfl⟩
  · have e1 : ((l.length : Int) + 1).toNat = l.length + 1 := by omega
    have e3 : ((i : Int) + 1).toNat = i + 1 := by omega
    have e4 : min (l.length + 1 - i) (l.length + 1 - (i + 1)) = l.length - i := by omega
    have e2 : min 1 (l.length + 1 - i) = 1 := by omega
    have e5 : (l.length - i ≤ l.length + 1 - i) = True := eq_true (by omega)
    have e7 : (i + (l.length - i) ≤ l.length) = True := eq_true (by omega)
    have e6 : (l.drop i).take (l.length - i) = l.drop i := List.take_of_length_le (by simp)
    simp only [e1, e2, e3, e4]
    simp (config := { maxSteps := 10000000, implicitDefEqProofs := false }) only [go_sem, ↓reduceIte, Nat.reduceAdd, Nat.reduceMul, Nat.reduceEqDiff, Nat.reduceSub, Nat.reduceLT, reduceCtorEq, Nat.reduceLeDiff, Nat.reduceBEq, mwp_draw, e1, e2, e3, e4, e5, e6, e7, overR_encT]
    refine ⟨fits64 (by omega) (by omega), by omega, by omega, by omega, fits64 (by omega) (by omega), by omega, by omega, by omega, by omega, ovOK_T, by omega, by omega, by decide, fits64 (by omega) (by omega), by omega, by omega, by omega, by omega, by omega, by omega, by omega, by omega, by omega, by kernel_rfl, by omega, by omega, ?_, ?_⟩
    · rw [overL_length (by omega)]; omega
    · rw [ins_oldT e (by omega), ← ins_lengthT e hi, List.take_length]
      exact ⟨Nat.le_refl _, rfl⟩
theorem DeleteT_is (l : List Bool) (i : Nat) (t : Bool) (hi : i < l.length) (hl : l.length ≤ 1048576) :
    Is prog fid_slices_Delete_bool_bool [.ow t 1 (encT l), .i .i64 i, .i .i64 ((i : Int) + 1)] (.ow true 1 (encT (l.take i ++ l.drop (i + 1)))) := by
  refine MCall.run mixed get_slices_Delete_bool_bool ok_slices_Delete_bool_bool (Nat.le_of_ble_eq_true rfl) (by decide) ?_
  unfold mc_slices_Delete_bool_bool
  have e1 : ((i : Int) + 1).toNat = i + 1 := by omega
  have e2 : ((i : Int) = (i : Int) + 1) = False := eq_false (by omega)
  have e3 : (i + 1 + (l.length - (i + 1)) ≤ l.length) = True := eq_true (by omega)
  have e4 : (l.drop (i + 1)).take (l.length - (i + 1)) = l.drop (i + 1) := List.take_of_length_le (by simp)
  have e5 : (encT (l.drop (i + 1))).length = l.length - (i + 1) := by simp [encT]
  have e6 : i + (l.length - (i + 1)) ≤ l.length := by omega
  simp (config := { maxSteps := 10000000, implicitDefEqProofs := false }) only [go_sem, ↓reduceIte, Nat.reduceAdd, Nat.reduceMul, Nat.reduceEqDiff, Nat.reduceSub, Nat.reduceLT, reduceCtorEq, Nat.reduceLeDiff, Nat.reduceBEq, mwp_draw, e1, e2, e3, e4, e5, overR_encT]
  have e7 : (overL l i (l.drop (i + 1))).length = l.length := by rw [overL_length (by omega)]; simp; omega
  repeat (refine ⟨by first | omega | decide | exact fits64 (by omega) (by omega) | kernel_rfl | (intros; omega), ?_⟩)
  refine ⟨by rw [overL_length (by rw [e7]; omega), e7]; omega, ?_⟩
  rw [del_take (by omega) (by omega)]
end Go.Fw
