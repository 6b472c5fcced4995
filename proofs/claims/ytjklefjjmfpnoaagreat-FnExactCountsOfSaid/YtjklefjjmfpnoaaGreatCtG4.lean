/-
  Graphs: edges put in, cut out.
-/
import Derived.Test.YtjklefjjmfpnoaaGreatCtG3
import Derived.Test.YtjklefjjmfpnoaaGreatCtGv
namespace Go.Fw
set_option linter.unusedSimpArgs false
set_option linter.unusedVariables false
set_option maxRecDepth 100000
set_option maxHeartbeats 4000000
open Go.Proofs.Tryz (prog)
open Go.Pl

theorem ovOK_E : OvOK prog fid_slices_overlaps_impl_Edge := by
  obtain ⟨inf, hi⟩ := Option.isSome_iff_exists.1 (show (prog.info? ove_slices_overlaps_impl_Edge).isSome = true by kernel_rfl)
  exact ⟨_, ovT_slices_overlaps_impl_Edge, ovR_slices_overlaps_impl_Edge, ove_slices_overlaps_impl_Edge, inf, get_slices_overlaps_impl_Edge, by kernel_rfl, by kernel_rfl, by kernel_rfl, by kernel_rfl, by kernel_rfl, hi⟩
/-- Elements put over others from a place on. -/
def overL {α : Type} (a : List α) (i : Nat) (b : List α) : List α := a.take i ++ b ++ a.drop (i + b.length)
theorem overR_encE (a b : List E) (i : Nat) : overR (encE a) i (encE b) = encE (overL a i b) := by
  simp only [overR, overL, encE_take, encE_drop, encE_length, encE_app]
theorem overL_length {α : Type} {a b : List α} {i : Nat} (h : i ≤ a.length) : (overL a i b).length = max a.length (i + b.length) := by simp [overL]; omega
theorem overL_mid {α : Type} {x y b : List α} {i : Nat} {z : List α} (hx : x.length = i) (hz : z.length = b.length) : overL (x ++ (z ++ y)) i b = x ++ (b ++ y) := by
  subst hx
  simp only [overL, List.take_left', List.append_assoc]
  rw [← hz, ← List.drop_drop, List.drop_left, List.drop_left]
theorem ins_new {l : List E} {i : Nat} (e : E) (hi : i < l.length) : overL (overL (l.take i ++ List.replicate (l.length + 1 - i) (0, 0)) i [e]) (i + 1) (l.drop i) = l.take i ++ e :: l.drop i := by
  have h1 : (l.take i).length = i := by simp; omega
  have e1 : List.replicate (l.length + 1 - i) ((0, 0) : E) = [(0, 0)] ++ List.replicate (l.length - i) (0, 0) := by
    rw [show l.length + 1 - i = (l.length - i) + 1 by omega, List.replicate_succ]; rfl
  rw [e1, overL_mid (b := [e]) (z := [(0, 0)]) h1 rfl]
  have e2 : l.take i ++ ([e] ++ List.replicate (l.length - i) ((0, 0) : E)) = (l.take i ++ [e]) ++ (List.replicate (l.length - i) (0, 0) ++ []) := by simp
  rw [e2, overL_mid (by simp; omega) (by simp)]
  simp
theorem ins_old {l : List E} {i : Nat} (e : E) (hi : i < l.length) : overL (overL l (i + 1) (l.drop i)) i [e] = l.take i ++ e :: l.drop i := by
  have h1 : (l.take i).length = i := by simp; omega
  have e1 : overL l (i + 1) (l.drop i) = l.take i ++ ([l[i]] ++ l.drop i) := by
    unfold overL
    rw [List.drop_eq_nil_of_le (show l.length ≤ i + 1 + (l.drop i).length by simp; omega), List.append_nil, take_snoc (List.getElem?_eq_getElem hi), List.append_assoc]
  rw [e1, overL_mid (b := [e]) (z := [l[i]]) h1 rfl]; rfl
theorem ins_length {l : List E} {i : Nat} (e : E) (hi : i ≤ l.length) : (l.take i ++ e :: l.drop i).length = l.length + 1 := by simp; omega
theorem InsertE_is (l : List E) (i : Nat) (e : E) (t t' : Bool) (hi : i ≤ l.length) (hl : l.length ≤ 1048576) :
    Is prog fid_slices_Insert_impl_Edge_impl_Edge [.ow t 2 (encE l), .i .i64 i, .ow t' 2 (encE [e])] (.ow true 2 (encE (l.take i ++ e :: l.drop i))) := by
  refine MCall.run mixed get_slices_Insert_impl_Edge_impl_Edge ok_slices_Insert_impl_Edge_impl_Edge (Nat.le_of_ble_eq_true rfl) (by decide) ?_
  unfold mc_slices_Insert_impl_Edge_impl_Edge
  simp (maxSteps := 9999999) -implicitDefEqProofs only [go_sem]
  refine ⟨by omega, hi, fun h => by omega, fun _ => ⟨fun h => ?_, fun h => ⟨fits64 (by omega) (by omega), by omega, fun c hc _ => ⟨fun h1 => ?_, fun h1 => ?_⟩⟩⟩⟩
  · obtain rfl : i = l.length := by omega
    refine ⟨by omega, ?_⟩
    rw [List.take_length, List.drop_length]
  · have e1 : ((l.length : Int) + 1 - (i : Int)).toNat = l.length + 1 - i := by omega
    have e2 : min 1 (i + (l.length + 1 - i) - i) = 1 := by omega
    have e3 : ((i : Int) + 1).toNat = i + 1 := by omega
    have e4 : min (l.length - i) (i + (l.length + 1 - i) - (i + 1)) = l.length - i := by omega
    have e5 : (i + (l.length - i) ≤ l.length) = True := eq_true (by omega)
    have e6 : (l.drop i).take (l.length - i) = l.drop i := List.take_of_length_le (by simp)
    simp only [e1, e2, e3, e4]
    simp (maxSteps := 9999999) -implicitDefEqProofs only [go_sem, mwp_draw, e1, e2, e3, e4, e5, e6, overR_encE]
    refine ⟨by omega, by omega, by omega, by omega, fits64 (by omega) (by omega), fits64 (by omega) (by omega), by omega, by omega, by omega, by omega, by omega, by omega, by simp; omega, fits64 (by omega) (by omega), by omega, by omega, by omega, by omega, by omega, by omega, ?_, by kernel_rfl, ?_⟩
    · rw [overL_length (by simp; omega)]; simp; omega
    · have h5 : i + (l.length + 1 - i) = (l.take i ++ e :: l.drop i).length := by rw [ins_length e hi]; omega
      rw [ins_new e (by omega), h5, List.take_length]
      exact ⟨Nat.le_refl _, rfl⟩
  · have e1 : ((l.length : Int) + 1).toNat = l.length + 1 := by omega
    have e3 : ((i : Int) + 1).toNat = i + 1 := by omega
    have e4 : min (l.length + 1 - i) (l.length + 1 - (i + 1)) = l.length - i := by omega
    have e2 : min 1 (l.length + 1 - i) = 1 := by omega
    have e5 : (l.length - i ≤ l.length + 1 - i) = True := eq_true (by omega)
    have e7 : (i + (l.length - i) ≤ l.length) = True := eq_true (by omega)
    have e6 : (l.drop i).take (l.length - i) = l.drop i := List.take_of_length_le (by simp)
    simp only [e1, e2, e3, e4]
    simp (maxSteps := 9999999) -implicitDefEqProofs only [go_sem, mwp_draw, e1, e2, e3, e4, e5, e6, e7, overR_encE]
    refine ⟨fits64 (by omega) (by omega), by omega, by omega, by omega, fits64 (by omega) (by omega), by omega, by omega, by omega, by omega, ovOK_E, by omega, by omega, by decide, fits64 (by omega) (by omega), by omega, by omega, by omega, by omega, by omega, by omega, by omega, by omega, by omega, by kernel_rfl, by omega, by omega, ?_, ?_⟩
    · rw [overL_length (by omega)]; omega
    · rw [ins_old e (by omega), ← ins_length e hi, List.take_length]
      exact ⟨Nat.le_refl _, rfl⟩
theorem fitsU64 {n : Int} (h1 : 0 ≤ n) (h2 : n ≤ 9223372036854775807) : Fits .u64 n := by
  have e1 : (2 : Int) ^ (64 : Nat) = 18446744073709551616 := by decide
  simp only [Fits, IntKind.wrap, IntKind.bits, IntKind.signed, e1, Bool.false_and, Bool.false_eq_true, if_false]
  omega
theorem sorted_take {l : List E} (hs : l.Pairwise eLt) {m : Nat} {x : E} (hx : l[m]? = some x) : ∀ y ∈ l.take (m + 1), y = x ∨ eLt y x := by
  intro y hy
  obtain ⟨hm, rfl⟩ := List.getElem?_eq_some_iff.1 hx
  obtain ⟨k, hk, rfl⟩ := List.mem_iff_getElem.1 hy
  simp at hk
  by_cases e : k = m
  · subst e; left; simp
  · right; simp only [List.getElem_take]; exact List.pairwise_iff_getElem.1 hs k m (by omega) hm (by omega)
theorem sorted_drop {l : List E} (hs : l.Pairwise eLt) {m : Nat} {x : E} (hx : l[m]? = some x) : ∀ y ∈ l.drop m, y = x ∨ eLt x y := by
  intro y hy
  obtain ⟨hm, rfl⟩ := List.getElem?_eq_some_iff.1 hx
  obtain ⟨k, hk, rfl⟩ := List.mem_iff_getElem.1 hy
  simp at hk
  simp only [List.getElem_drop]
  by_cases e : k = 0
  · subst e; left; simp
  · right; exact List.pairwise_iff_getElem.1 hs m (m + k) hm (by omega) (by omega)
/-- The comparison of edges as a function value. -/
def cmpD (xs : List FV) : Prop := ∃ a b : E, xs = [.g [.i .i64 a.1, .i .i64 a.2], .g [.i .i64 b.1, .i .i64 b.2]]
def cmpF : List FV → FV
  | [.g [.i _ a, .i _ b], .g [.i _ c, .i _ d]] => .c (.i .i64 (cmpE (a, b) (c, d)))
  | _ => default
theorem fnOk_cmp {s : MS} : FnOk prog s fid_impl_compareEdges [] [] cmpD cmpF := by
  refine ⟨⟨_, get_impl_compareEdges, by kernel_rfl, by kernel_rfl⟩, fun xs hx ⟨a, b, hxs⟩ => ?_⟩
  subst hxs
  refine (compareEdges_is a b).mono fun o r hr => ?_
  rw [hr.2]
  exact ⟨rfl, rfl⟩
theorem BinarySearch_is (t : Bool) (l : List E) (e : E) (hs : l.Pairwise eLt) (hl : l.length ≤ 1048576) :
    Is prog fid_slices_BinarySearchFunc_impl_Edge_impl_Edge_impl_Edge [.s t 2 (encE l), Ed1 e, .fn cmpD cmpF] (.tup [.i .i64 (posE l e), .b (decide (e ∈ l))]) := by
  refine MCall.run mixed get_slices_BinarySearchFunc_impl_Edge_impl_Edge_impl_Edge ok_slices_BinarySearchFunc_impl_Edge_impl_Edge_impl_Edge (Nat.le_of_ble_eq_true rfl) (by decide) ?_
  unfold mc_slices_BinarySearchFunc_impl_Edge_impl_Edge_impl_Edge
  simp (maxSteps := 9999999) -implicitDefEqProofs only [go_sem, mwp_draw]
  refine mwp_loopk (X := Nat × Nat) (fun x => ⟨[(0, .s t 2 (encE l)), (2, .fn cmpD cmpF), (4, .pr 0 0 0), (8, .i .i64 l.length), (9, .i .i64 x.1), (10, .i .i64 x.2)], [(0, .box [.i .i64 e.1, .i .i64 e.2])], 1⟩)
    (fun x => x.1 ≤ x.2 ∧ x.2 ≤ l.length ∧ (∀ y ∈ l.take x.1, eLt y e) ∧ ∀ y ∈ l.drop x.2, ¬ eLt y e) (fun x => x.2 - x.1) (0, l.length) (by rfl) (by simp) ?_
  rintro ⟨i, j⟩ ⟨h1, h2, h3, h4⟩ K kN kE kR
  simp only at h1 h2 h3 h4
  have hpos : i = j → posE l e = i := fun q => posE_unique (by omega) h3 fun x hx => h4 x (by
    subst q
    have : (l.drop i)[0]? = some x := by simpa using hx
    exact List.mem_of_getElem? this)
  have hm : ((i : Int) + j).fdiv (2 ^ min (Int.toNat 1) 64) = (((i + j) / 2 : Nat) : Int) := by
    have e1 : ((2 : Int) ^ min (Int.toNat 1) 64) = 2 := by decide
    rw [e1, Int.fdiv_eq_ediv_of_nonneg _ (by omega)]; omega
  simp (maxSteps := 9999999) -implicitDefEqProofs only [go_sem, mwp_draw]
  refine ⟨fun q => ?_, fun q => kE _ _ ?_⟩
  · simp only [hm]
    refine ⟨fits64 (by omega) (by omega), ?_, by omega, fits64 (by omega) (by omega), by omega, by omega, fun x hx => ⟨⟨x, e, rfl⟩, ?_⟩⟩
    · exact fitsU64 (by omega) (by omega)
    · have hx' : l[(i + j) / 2]? = some x := by rw [Int.toNat_natCast] at hx; exact hx
      simp only [cmpF]
      simp (maxSteps := 9999999) -implicitDefEqProofs only [go_sem, mwp_draw]
      refine ⟨by kernel_rfl, fun q2 => ?_, fun q2 => ?_⟩
      · have q3 : eLt x e := cmpE_lt.1 q2
        refine ⟨fits64 (by omega) (by omega), kN _ ((i + j) / 2 + 1, j) (by rfl) ⟨by simp only; omega, h2, fun y hy => ?_, h4⟩ (by simp only; omega)⟩
        rcases sorted_take hs hx' y hy with rfl | h
        · exact q3
        · exact eLt_trans h q3
      · have q3 : ¬ eLt x e := fun h => q2 (cmpE_lt.2 h)
        refine kN _ (i, (i + j) / 2) (by rfl) ⟨by simp only; omega, by simp only; omega, h3, fun y hy => ?_⟩ (by simp only; omega)
        rcases sorted_drop hs hx' y hy with rfl | h
        · exact q3
        · exact fun k => q3 (eLt_trans h k)
  · obtain rfl : i = j := by omega
    simp (maxSteps := 9999999) -implicitDefEqProofs only [go_sem]
    have hp := hpos rfl
    have hmem : ∀ x, l[i]? = some x → (decide (cmpE x e = 0) = decide (e ∈ l)) := fun x hx => by
      refine decide_eq_decide.2 ?_
      rw [cmpE_eq]
      refine ⟨fun k => k ▸ List.mem_of_getElem? hx, fun k => ?_⟩
      rw [← List.take_append_drop i l, List.mem_append] at k
      rcases k with k | k
      · exact absurd (h3 e k) (eLt_irrefl e)
      · rcases sorted_drop hs hx e k with k | k
        · exact k.symm
        · exact absurd k (h4 x (by
            have : (l.drop i)[0]? = some x := by simpa using hx
            exact List.mem_of_getElem? this))
    by_cases c : (i : Int) < l.length
    · simp (maxSteps := 9999999) -implicitDefEqProofs only [go_sem, mwp_draw, c]
      refine ⟨by omega, fun x hx => ⟨⟨x, e, rfl⟩, ?_⟩⟩
      simp only [cmpF]
      simp (maxSteps := 9999999) -implicitDefEqProofs only [go_sem, mwp_draw, c]
      refine ⟨by kernel_rfl, ?_⟩
      rw [hp]
      exact congrArg (fun b => MV.tup [.i .i64 i, .b b]) (hmem x hx)
    · simp (maxSteps := 9999999) -implicitDefEqProofs only [go_sem, mwp_draw, c]
      refine ⟨by kernel_rfl, ?_⟩
      rw [hp]
      refine congrArg (fun b => MV.tup [.i .i64 i, .b b]) (decide_eq_false fun k => ?_).symm
      rw [← List.take_of_length_le (show l.length ≤ i by omega)] at k
      exact eLt_irrefl e (h3 e k)
end Go.Fw
