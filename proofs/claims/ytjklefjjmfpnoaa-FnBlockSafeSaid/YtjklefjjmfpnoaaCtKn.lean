/-
  Lists of lists of integers, as rows; how many parts a graph has.
-/
import Derived.Test.YtjklefjjmfpnoaaCtH
import Derived.Test.YtjklefjjmfpnoaaCtG8
import Derived.Test.YtjklefjjmfpnoaaPlF
namespace Go.Fw
set_option linter.unusedSimpArgs false
set_option linter.unusedVariables false
set_option maxRecDepth 100000
set_option maxHeartbeats 4000000
open Go.Proofs.Try (prog)
open Go.Pl

def encN (l : List (List Int)) : List (List D) := l.map fun es => [D.a 1 (encI es)]
theorem getK_encN {l : List (List Int)} {i : Nat} {K : List D → Prop} : getK (encN l) i K = ∀ x, l[i]? = some x → K [D.a 1 (encI x)] := getK_map
theorem encN_length (l : List (List Int)) : (encN l).length = l.length := by simp [encN]
theorem encN_take (l : List (List Int)) (m : Nat) : (encN l).take m = encN (l.take m) := by simp [encN]
theorem encN_drop (l : List (List Int)) (m : Nat) : (encN l).drop m = encN (l.drop m) := by simp [encN]
theorem encN_snoc (l : List (List Int)) (es : List Int) : encN l ++ [[D.a 1 (encI es)]] = encN (l ++ [es]) := by simp [encN]
attribute [go_sem] getK_encN encN_length encN_take encN_drop encN_snoc
theorem goneN {α : Type} {l : List α} {i : Nat} {x : α} (hx : l[i]? = some x) : ∀ P : α → Prop, (∀ z, l[i]? = some z → P z) ↔ P x := fun P => ⟨fun h => h x hx, fun h z hz => by rw [hx] at hz; cases hz; exact h⟩

theorem dyLists_is (t t' : Bool) (l m : List (List Int)) (hl : l.length ≤ 1000000) (hx : ∀ x ∈ l, x.length ≤ 1000000) : Is prog fid_laws_dyLists [.s t 1 (encN l), .s t' 1 (encN m)] (.b (decide (l = m))) := by
  refine MCall.run mixed get_laws_dyLists ok_laws_dyLists (Nat.le_of_ble_eq_true rfl) (by decide) ?_
  unfold mc_laws_dyLists
  simp (maxSteps := 9999999) -implicitDefEqProofs only [go_sem, mwp_draw]
  refine ⟨fun h => mvb (eq_len h).symm, fun h => ?_⟩
  refine mwp_loopk (X := Nat) (fun i => ⟨[(0, .s t 1 (encN l)), (1, .s t' 1 (encN m)), (5, .i .i64 i)], [], 0⟩) (fun i => i ≤ l.length ∧ l.take i = m.take i) (fun i => l.length - i) 0 rfl (by simp) ?_
  rintro i ⟨h1, h2⟩ K kN kE kR
  by_cases hi : i < l.length
  · obtain ⟨x, hx'⟩ : ∃ x, l[i]? = some x := ⟨_, List.getElem?_eq_getElem hi⟩
    obtain ⟨y, hy⟩ : ∃ y, m[i]? = some y := ⟨_, List.getElem?_eq_getElem (by omega)⟩
    have gx := goneN hx'
    have gy := goneN hy
    have c1 : ((i : Int) < l.length) = True := eq_true (by omega)
    have c2 : (i < l.length) = True := eq_true hi
    have c3 : ((i : Int) < m.length) = True := eq_true (by omega)
    have c4 : (i < m.length) = True := eq_true (by omega)
    simp (maxSteps := 9999999) -implicitDefEqProofs only [go_sem, mwp_draw, c1, c2, c3, c4, ↓gx, ↓gy]
    repeat (refine ⟨by first | omega | decide | exact fits64 (by omega) (by omega) | kernel_rfl | (intros; omega), ?_⟩)
    refine callK_is (dyInts_is _ _ x y (by have := hx x (List.mem_of_getElem? hx'); omega)) ?_
    by_cases q : x = y
    · have e : (x = y) = True := eq_true q
      simp (maxSteps := 9999999) -implicitDefEqProofs only [go_sem, mwp_draw, e]
      repeat (refine ⟨by first | omega | decide | exact fits64 (by omega) (by omega) | kernel_rfl | (intros; omega), ?_⟩)
      exact kN _ (i + 1) (by kernel_rfl) ⟨by omega, eq_step h2 hx' hy (by simpa using q)⟩ (by omega)
    · have e : (x = y) = False := eq_false q
      simp (maxSteps := 9999999) -implicitDefEqProofs only [go_sem, mwp_draw, e]
      repeat (refine ⟨by first | omega | decide | exact fits64 (by omega) (by omega) | kernel_rfl | (intros; omega), ?_⟩)
      refine kR _ ?_
      simp (maxSteps := 9999999) -implicitDefEqProofs only [go_sem, mwp_draw]
      exact mvb (eq_ne hx' hy (by simpa using q)).symm
  · have c1 : ((i : Int) < l.length) = False := eq_false (by omega)
    simp (maxSteps := 9999999) -implicitDefEqProofs only [go_sem, mwp_draw, c1]
    refine kE _ _ ?_
    simp (maxSteps := 9999999) -implicitDefEqProofs only [go_sem, mwp_draw]
    obtain rfl : i = l.length := by omega
    exact mvb (eq_end (by omega) h2).symm

theorem pcL_pcN {n : Int} {es : List E} (l : List Int) (hl : l = labL n es) : ∀ k : Nat, k ≤ l.length → pcL l k = (((List.range k).countP fun i : Nat => decide (nth (labL n es) i = i) : Nat) : Int)
  | 0, _ => by simp [pcL]
  | k + 1, hk => by
    have ih := pcL_pcN l hl k (by omega)
    have e : l[k]? = some (nth (labL n es) (k : Int)) := by
      have := nth_some (l := labL n es) (x := (k : Int)) ⟨by omega, by rw [← hl]; omega⟩
      rw [← hl] at this ⊢; simpa using this
    rw [pcL, ih, List.range_succ, List.countP_append, e]
    by_cases q : nth (labL n es) (k : Int) = k
    · simp [q]
    · simp [q]
theorem pcB_pcN {n : Int} {es : List E} (h : gvB n es = true) : pcB n es = (pc n es : Int) := by
  have e : labV n es = labL n es := by unfold labV; rw [if_pos h]
  unfold pcB pc
  rw [e, pcL_pcN (labL n es) rfl _ (Nat.le_refl _), labL_length]
theorem pcB_rng {n : Int} {es : List E} : 0 ≤ pcB n es ∧ pcB n es ≤ 16 := by
  have := pcL_rng (labV n es) (labV n es).length
  have := labV_len (n := n) (es := es)
  unfold pcB; omega
end Go.Fw
