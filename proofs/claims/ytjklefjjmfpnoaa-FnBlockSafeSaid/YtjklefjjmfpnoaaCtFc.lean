/-
  A list, the other way round; the way back through a search by levels.
-/
import Derived.Test.YtjklefjjmfpnoaaCtNe
import Derived.Test.YtjklefjjmfpnoaaPlFb
namespace Go.Fw
set_option linter.unusedSimpArgs false
set_option linter.unusedVariables false
set_option maxRecDepth 100000
set_option maxHeartbeats 4000000
open Go.Proofs.Try (prog)
open Go.Pl

/-- The first i and the last i have changed places. -/
def Rvd (l m : List Int) (i : Nat) : Prop := m.length = l.length ∧ ∀ k, k < l.length → m[k]? = if k < i ∨ l.length - 1 - k < i then l[l.length - 1 - k]? else l[k]?
theorem Rvd.init (l : List Int) : Rvd l l 0 := ⟨rfl, fun k hk => by simp⟩
theorem Rvd.step {l m : List Int} {i j : Nat} {a b : Int} (h : Rvd l m i) (hj : j + 1 + i = l.length) (hij : i < j) (ha : m[i]? = some a) (hb : m[j]? = some b) : Rvd l ((m.set i b).set j a) (i + 1) := by
  obtain ⟨h1, h2⟩ := h
  refine ⟨by simp [h1], fun k hk => ?_⟩
  have qa := h2 i (by omega)
  have qb := h2 j (by omega)
  rw [if_neg (by omega)] at qa qb
  rw [List.getElem?_set, List.getElem?_set, List.length_set]
  by_cases e1 : j = k
  · subst e1
    rw [if_pos rfl, if_pos (by omega), if_pos (by omega), show l.length - 1 - j = i by omega, ← qa, ha]
  · rw [if_neg e1]
    by_cases e2 : i = k
    · subst e2
      rw [if_pos rfl, if_pos (by omega), if_pos (by omega), show l.length - 1 - i = j by omega, ← qb, hb]
    · rw [if_neg e2, h2 k hk]
      by_cases e3 : k < i ∨ l.length - 1 - k < i
      · rw [if_pos e3, if_pos (by omega)]
      · rw [if_neg e3, if_neg (by omega)]
theorem Rvd.done {l m : List Int} {i : Nat} (h : Rvd l m i) (hi : l.length ≤ 2 * i + 1) : m = l.reverse := by
  obtain ⟨h1, h2⟩ := h
  refine List.ext_getElem? fun k => ?_
  by_cases hk : k < l.length
  · rw [h2 k hk, List.getElem?_reverse hk]
    by_cases e : k < i ∨ l.length - 1 - k < i
    · rw [if_pos e]
    · rw [if_neg e, show l.length - 1 - k = k by omega]
  · rw [List.getElem?_eq_none (by omega), List.getElem?_eq_none (by simp; omega)]
theorem Reverse_is (t : Bool) (l : List Int) (hl : l.length ≤ 100000) :
    MCall prog fid_slices_Reverse_int_int [.ow t 1 (encI l)] (fun o r => o = [.ow true 1 (encI l.reverse)] ∧ r = .tup []) := by
  refine MCall.run mixed get_slices_Reverse_int_int ok_slices_Reverse_int_int (Nat.le_of_ble_eq_true rfl) (by decide) ?_
  unfold mc_slices_Reverse_int_int
  simp (maxSteps := 9999999) -implicitDefEqProofs only [go_sem, mwp_draw]
  repeat (refine ⟨by first | omega | decide | exact fits64 (by omega) (by omega) | kernel_rfl | (intros; omega), ?_⟩)
  refine mwp_loopk (X := Nat × Int × List Int) (fun x => ⟨[(0, .sr 0 0 l.length), (2, .i .i64 x.1), (3, .i .i64 x.2.1)], [(0, .arr t 1 (encI x.2.2))], 1⟩)
    (fun x => x.1 ≤ l.length ∧ x.2.1 = (l.length : Int) - 1 - x.1 ∧ Rvd l x.2.2 x.1) (fun x => l.length - x.1) (0, (l.length : Int) - 1, l) (by kernel_rfl) ⟨Nat.zero_le _, by simp, Rvd.init l⟩ ?_
  rintro ⟨i, j, m⟩ ⟨h1, h2, h3⟩ K kN kE kR
  simp only at h1 h2 h3 ⊢
  have lm := h3.1
  by_cases hij : (i : Int) < j
  · obtain ⟨a, ha⟩ : ∃ a, m[i]? = some a := ⟨_, List.getElem?_eq_getElem (by omega)⟩
    obtain ⟨b, hb⟩ : ∃ b, m[j.toNat]? = some b := ⟨_, List.getElem?_eq_getElem (by omega)⟩
    have ga := goneR ha
    have gb := goneR hb
    have gc := goneR (show (m.set i b)[j.toNat]? = some b by rw [List.getElem?_set_ne (by omega)]; exact hb)
    have nx := h3.step (j := j.toNat) (by omega) (by omega) ha hb
    have c1 : ((i : Int) < j) = True := eq_true hij
    have c2 : (0 ≤ j) = True := eq_true (by omega)
    have c3 : (j < (l.length : Int)) = True := eq_true (by omega)
    have c4 : (j.toNat < l.length) = True := eq_true (by omega)
    have c5 : ((i : Int) < l.length) = True := eq_true (by omega)
    have c6 : (i < l.length) = True := eq_true (by omega)
    have c7 : (0 ≤ (i : Int)) = True := eq_true (by omega)
    simp (maxSteps := 9999999) -implicitDefEqProofs only [go_sem, mwp_draw, lm, c1, c2, c3, c4, c5, c6, c7, ↓ga, ↓gb, ↓gc]
    repeat (refine ⟨by first | omega | decide | exact fits64 (by omega) (by omega) | kernel_rfl | (intros; omega), ?_⟩)
    exact kN _ (i + 1, j - 1, (m.set i b).set j.toNat a) (by kernel_rfl) ⟨by simp only; omega, by simp only; omega, nx⟩ (by simp only; omega)
  · have c1 : ((i : Int) < j) = False := eq_false hij
    have e := h3.done (by omega)
    subst e
    simp (maxSteps := 9999999) -implicitDefEqProofs only [go_sem, mwp_draw, c1]
    refine kE _ _ ?_
    clear kN kE kR
    have tk : l.reverse.take l.length = l.reverse := List.take_of_length_le (by omega)
    simp (maxSteps := 9999999) -implicitDefEqProofs only [go_sem, mwp_draw, lm, tk]
    first | done | rfl
theorem way_no (t : Bool) (fr : List Int) (x y : Int) (h0 : 0 ≤ y) (h1 : y < fr.length) (hf : nth fr y < 0) (hl : fr.length ≤ 100000) : Is prog fid_impl_way [.s t 1 (encI fr), .i .i64 x, .i .i64 y] (.tup [.ow true 1 [], .b false]) := by
  refine MCall.run mixed get_impl_way ok_impl_way (Nat.le_of_ble_eq_true rfl) (by decide) ?_
  unfold mc_impl_way
  have g := goneR (nth_some ⟨h0, h1⟩)
  have c1 : (0 ≤ y) = True := eq_true h0
  have c2 : (y < (fr.length : Int)) = True := eq_true h1
  have c3 : (y.toNat < fr.length) = True := eq_true (by omega)
  have c4 : (nth fr y < 0) = True := eq_true hf
  simp (maxSteps := 9999999) -implicitDefEqProofs only [go_sem, mwp_draw, c1, c2, c3, c4, ↓g]
  repeat (refine ⟨by first | omega | decide | exact fits64 (by omega) (by omega) | kernel_rfl | (intros; omega), ?_⟩)
  first | done | rfl
theorem way_is (t : Bool) {n : Int} {es : List E} {u : Un} {x y : Int} {od fr : List Int} {i : Nat} (hn : n ≤ 16) (h : BF n es u x od fr i) (hy : y ∈ od) :
    MCall prog fid_impl_way [.s t 1 (encI fr), .i .i64 x, .i .i64 y] (fun o r => o = [.u, .u, .u] ∧ ∃ L, r = .tup [.ow true 1 (encI L), .b true] ∧ WI n fr od x y L x) := by
  refine MCall.run mixed get_impl_way ok_impl_way (Nat.le_of_ble_eq_true rfl) (by decide) ?_
  unfold mc_impl_way
  have fl := h.len
  have ry := h.rng y hy
  have g := goneR (nth_some (l := fr) (x := y) ⟨ry.1, by omega⟩)
  have c1 : (0 ≤ y) = True := eq_true ry.1
  have c2 : (y < (fr.length : Int)) = True := eq_true (by omega)
  have c3 : (y.toNat < fr.length) = True := eq_true (by omega)
  have c4 : (nth fr y < 0) = False := eq_false (by have := (h.mem y ry.1 ry.2).2 hy; omega)
  simp (maxSteps := 9999999) -implicitDefEqProofs only [go_sem, mwp_draw, c1, c2, c3, c4, ↓g]
  repeat (refine ⟨by first | omega | decide | exact fits64 (by omega) (by omega) | kernel_rfl | (intros; omega), ?_⟩)
  refine mwp_loopk (X := List Int × Int) (fun z => ⟨[(0, .s t 1 (encI fr)), (1, .i .i64 x), (2, .i .i64 z.2), (8, .sr 0 0 z.1.length)], [(0, .arr true 1 (encI z.1))], 1⟩)
    (fun z => WI n fr od x y z.1.reverse z.2) (fun z => rk od z.2) ([y], y) (by kernel_rfl) (WI.init h hy) ?_
  rintro ⟨out, cur⟩ w K kN kE kR
  simp only at w ⊢
  have wl := w.le
  rw [List.length_reverse] at wl
  by_cases hx : cur = x
  · subst hx
    have v := eq_true (rfl : cur = cur)
    simp (maxSteps := 9999999) -implicitDefEqProofs only [go_sem, mwp_draw]
    refine kE _ _ ?_
    clear kN kE kR
    simp (maxSteps := 9999999) -implicitDefEqProofs only [go_sem, mwp_draw]
    refine callK_det (Reverse_is _ out (by omega)) ?_
    have e1 : out.reverse.length = out.length := List.length_reverse
    have tk : out.reverse.take out.length = out.reverse := List.take_of_length_le (by omega)
    simp (maxSteps := 9999999) -implicitDefEqProofs only [go_sem, mwp_draw, e1, tk]
    first | exact ⟨out.reverse, rfl, w⟩ | exact ⟨Nat.le_refl _, out.reverse, rfl, w⟩
  · have v := eq_false hx
    have rc := h.rng cur (w.cur_in h)
    have gc := goneR (nth_some (l := fr) (x := cur) ⟨rc.1, by omega⟩)
    obtain ⟨w', hr⟩ := w.go h hx
    have d1 : (0 ≤ cur) = True := eq_true rc.1
    have d2 : (cur < (fr.length : Int)) = True := eq_true (by omega)
    have d3 : (cur.toNat < fr.length) = True := eq_true (by omega)
    simp (maxSteps := 9999999) -implicitDefEqProofs only [go_sem, mwp_draw, v, d1, d2, d3, ↓gc]
    repeat (refine ⟨by first | omega | decide | exact fits64 (by omega) (by omega) | kernel_rfl | (intros; omega), ?_⟩)
    exact kN _ (out ++ [nth fr cur], nth fr cur) (by rw [List.length_append]; kernel_rfl) (by simp only [List.reverse_append]; exact w') hr
end Go.Fw
