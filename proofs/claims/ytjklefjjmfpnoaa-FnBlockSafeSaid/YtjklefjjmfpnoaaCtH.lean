/-
  The laws' small helpers: whole numbers in slices.
-/
import Derived.Test.YtjklefjjmfpnoaaCtD
import Derived.Test.YtjklefjjmfpnoaaCf
namespace Go.Fw
set_option linter.unusedSimpArgs false
set_option linter.unusedVariables false
set_option maxRecDepth 100000
set_option maxHeartbeats 4000000
open Go.Proofs.Try (prog)

def szM (l : List Int) (left : Int) : Int := if left - l.length < 0 then -1 else left - l.length
theorem eqIntS_is (t t' : Bool) (l m : List Int) (hl : l.length ≤ 2000000) : Is prog fid_laws_eqIntS [.s t 1 (encI l), .s t' 1 (encI m)] (.b (decide (l = m))) := by
  refine MCall.run mixed get_laws_eqIntS ok_laws_eqIntS (Nat.le_of_ble_eq_true rfl) (by decide) ?_
  unfold mc_laws_eqIntS
  simp (maxSteps := 9999999) -implicitDefEqProofs only [go_sem, mwp_draw]
  refine ⟨fun h => mvb (eq_len h).symm, fun h => ?_⟩
  refine mwp_loopk (X := Nat) (fun i => ⟨[(0, .s t 1 (encI l)), (1, .s t' 1 (encI m)), (5, .i .i64 i)], [], 0⟩) (fun i => i ≤ l.length ∧ l.take i = m.take i) (fun i => l.length - i) 0 rfl (by simp) ?_
  rintro i ⟨h1, h2⟩ K kN kE kR
  simp (maxSteps := 9999999) -implicitDefEqProofs only [go_sem, mwp_draw]
  refine ⟨fun h3 => ⟨by omega, h3, fun x hx => ⟨by omega, by omega, fun y hy => ⟨by kernel_rfl, fun h4 => kR _ ?_, fun h4 => ⟨fits64 (by omega) (by omega), kN _ (i + 1) (by rfl) ⟨by omega, eq_step h2 hx hy h4⟩ (by omega)⟩⟩⟩⟩, fun h3 => kE _ _ ?_⟩
  · simp (maxSteps := 9999999) -implicitDefEqProofs only [go_sem, mwp_draw]
    exact mvb (eq_ne hx hy h4).symm
  · simp (maxSteps := 9999999) -implicitDefEqProofs only [go_sem, mwp_draw]
    obtain rfl : i = l.length := by omega
    exact mvb (eq_end (by omega) h2).symm
def markI (n : Nat) (k : Int) : List Int := (List.range n).map fun i : Nat => k + i
theorem markI_length (n : Nat) (k : Int) : (markI n k).length = n := by simp [markI]
theorem markI_take (n : Nat) (k : Int) : (markI n k).take n = markI n k := List.take_of_length_le (by rw [markI_length]; omega)
theorem markI_get {n : Nat} {k : Int} {i : Nat} (h : i < n) : (markI n k)[i]? = some (k + i) := by simp [markI, h]
theorem markIntS_is (t : Bool) (l : List Int) (k : Int) (hk : 0 ≤ k ∧ k ≤ 10000000) (hl : l.length ≤ 1048576) :
    MCall prog fid_laws_markIntS [.ow t 1 (encI l), .i .i64 k] (fun o r => o = [.ow true 1 (encI (markI l.length k)), .u] ∧ r = .i .i64 (k + l.length)) := by
  refine MCall.run mixed get_laws_markIntS ok_laws_markIntS (Nat.le_of_ble_eq_true rfl) (by decide) ?_
  unfold mc_laws_markIntS
  simp (maxSteps := 9999999) -implicitDefEqProofs only [go_sem, mwp_draw]
  refine mwp_loopk (X := Nat × List Int) (fun x => ⟨[(0, .sr 0 0 l.length), (1, .i .i64 (k + x.1)), (5, .i .i64 x.1)], [(0, .arr t 1 (encI x.2))], 1⟩)
    (fun x => x.1 ≤ l.length ∧ x.2.length = l.length ∧ x.2.take x.1 = (markI l.length k).take x.1) (fun x => l.length - x.1) (0, l) (by simp; rfl) (by simp) ?_
  rintro ⟨i, m⟩ ⟨h1, h2, h3⟩ K kN kE kR
  simp only at h1 h2 h3
  simp (maxSteps := 9999999) -implicitDefEqProofs only [go_sem, mwp_draw]
  refine ⟨fun h4 => ⟨by omega, h4, by omega, fun x hx => ⟨fits64 (by omega) (by omega), fits64 (by omega) (by omega), ?_⟩⟩, fun h4 => kE _ _ ?_⟩
  · rw [show k + (i : Int) + 1 = k + ((i + 1 : Nat) : Int) by omega]
    refine kN _ (i + 1, m.set i (k + i)) (by rfl) ⟨by omega, by simp [h2], take_set_next (by rw [h2, markI_length]) h3 (markI_get (by omega))⟩ (by simp only; omega)
  · obtain rfl : i = l.length := by omega
    obtain rfl : m = markI l.length k := by
      rw [List.take_of_length_le (by omega), List.take_of_length_le (by rw [markI_length]; omega)] at h3; exact h3
    simp (maxSteps := 9999999) -implicitDefEqProofs only [go_sem, mwp_draw, markI_length, markI_take]
theorem heldIntS_is (t : Bool) (n : Nat) (k : Int) (hk : 0 ≤ k ∧ k ≤ 10000000) (hl : n ≤ 1048576) :
    Is prog fid_laws_heldIntS [.s t 1 (encI (markI n k)), .i .i64 k] (.i .i64 (k + n)) := by
  refine MCall.run mixed get_laws_heldIntS ok_laws_heldIntS (Nat.le_of_ble_eq_true rfl) (by decide) ?_
  unfold mc_laws_heldIntS
  simp (maxSteps := 9999999) -implicitDefEqProofs only [go_sem, mwp_draw]
  refine mwp_loopk (X := Nat) (fun x => ⟨[(0, .s t 1 (encI (markI n k))), (1, .i .i64 (k + x)), (5, .i .i64 x)], [], 0⟩)
    (fun x => x ≤ n) (fun x => n - x) 0 (by simp; rfl) (by simp) ?_
  rintro i h1 K kN kE kR
  simp (maxSteps := 9999999) -implicitDefEqProofs only [go_sem, mwp_draw, markI_length]
  refine ⟨fun h3 => ⟨by omega, h3, fun x hx => ?_⟩, fun h3 => kE _ _ ?_⟩
  · rw [markI_get (by omega)] at hx
    cases hx
    simp (maxSteps := 9999999) -implicitDefEqProofs only [go_sem, mwp_draw]
    refine ⟨fits64 (by omega) (by omega), fits64 (by omega) (by omega), kN _ (i + 1) ?_ (by omega) (by omega)⟩
    rw [show k + (i : Int) + 1 = k + ((i + 1 : Nat) : Int) by omega]
    rfl
  · simp (maxSteps := 9999999) -implicitDefEqProofs only [go_sem, mwp_draw]
    exact mvi (by omega)
theorem dyInts_is (t t' : Bool) (l m : List Int) (hl : l.length ≤ 2000000) : Is prog fid_laws_dyInts [.s t 1 (encI l), .s t' 1 (encI m)] (.b (decide (l = m))) := by
  refine MCall.run mixed get_laws_dyInts ok_laws_dyInts (Nat.le_of_ble_eq_true rfl) (by decide) ?_
  unfold mc_laws_dyInts
  simp (maxSteps := 9999999) -implicitDefEqProofs only [go_sem, mwp_draw]
  refine ⟨fun h => mvb (eq_len h).symm, fun h => ?_⟩
  refine mwp_loopk (X := Nat) (fun i => ⟨[(0, .s t 1 (encI l)), (1, .s t' 1 (encI m)), (5, .i .i64 i)], [], 0⟩) (fun i => i ≤ l.length ∧ l.take i = m.take i) (fun i => l.length - i) 0 rfl (by simp) ?_
  rintro i ⟨h1, h2⟩ K kN kE kR
  simp (maxSteps := 9999999) -implicitDefEqProofs only [go_sem, mwp_draw]
  refine ⟨fun h3 => ⟨by omega, h3, fun x hx => ⟨by omega, by omega, fun y hy => ⟨by kernel_rfl, fun h4 => kR _ ?_, fun h4 => ⟨fits64 (by omega) (by omega), kN _ (i + 1) (by rfl) ⟨by omega, eq_step h2 hx hy h4⟩ (by omega)⟩⟩⟩⟩, fun h3 => kE _ _ ?_⟩
  · simp (maxSteps := 9999999) -implicitDefEqProofs only [go_sem, mwp_draw]
    exact mvb (eq_ne hx hy h4).symm
  · simp (maxSteps := 9999999) -implicitDefEqProofs only [go_sem, mwp_draw]
    obtain rfl : i = l.length := by omega
    exact mvb (eq_end (by omega) h2).symm
theorem in_step {α : Type} {l : List α} {i : Nat} {x : α} {n : α} (h : n ∉ l.take i) (hx : l[i]? = some x) (e : ¬ x = n) : n ∉ l.take (i + 1) := by
  rw [List.take_add_one, hx]; simp [h, Ne.symm e]
theorem dyIn_is (t : Bool) (l : List Int) (n : Int) (hl : l.length ≤ 2000000) : Is prog fid_laws_dyIn [.s t 1 (encI l), .i .i64 n] (.b (decide (n ∈ l))) := by
  refine MCall.run mixed get_laws_dyIn ok_laws_dyIn (Nat.le_of_ble_eq_true rfl) (by decide) ?_
  unfold mc_laws_dyIn
  simp (maxSteps := 9999999) -implicitDefEqProofs only [go_sem, mwp_draw]
  refine mwp_loopk (X := Nat) (fun i => ⟨[(0, .s t 1 (encI l)), (1, .i .i64 n), (5, .i .i64 i)], [], 0⟩) (fun i => i ≤ l.length ∧ n ∉ l.take i) (fun i => l.length - i) 0 rfl (by simp) ?_
  rintro i ⟨h1, h2⟩ K kN kE kR
  simp (maxSteps := 9999999) -implicitDefEqProofs only [go_sem, mwp_draw]
  refine ⟨fun h3 => ⟨by omega, h3, fun x hx => ⟨fun h4 => kR _ ?_, fun h4 => ⟨fits64 (by omega) (by omega), kN _ (i + 1) (by rfl) ⟨by omega, in_step h2 hx h4⟩ (by omega)⟩⟩⟩, fun h3 => kE _ _ ?_⟩
  · simp (maxSteps := 9999999) -implicitDefEqProofs only [go_sem, mwp_draw]
    exact mvb (decide_eq_true (h4 ▸ List.mem_of_getElem? hx)).symm
  · simp (maxSteps := 9999999) -implicitDefEqProofs only [go_sem, mwp_draw]
    obtain rfl : i = l.length := by omega
    rw [List.take_length] at h2
    exact mvb (decide_eq_false h2).symm
end Go.Fw
