/-
  The laws' small helpers: turns, events.
-/
import Derived.Test.YtjklefjjmfpnoaaGreatCtHg
namespace Go.Fw
set_option linter.unusedSimpArgs false
set_option linter.unusedVariables false
set_option maxRecDepth 100000
set_option maxHeartbeats 4000000
open Go.Proofs.Tryz (prog)
open Go.Pl

theorem szTurnS_is (t : Bool) (l : List E) (left : Int) (h0 : 0 ≤ left ∧ left ≤ 1048576) (hl : l.length ≤ 9223372036854775807) :
    Is prog fid_laws_szTurnS [.s t 2 (encE l), .i .i64 left] (.i .i64 (szN l.length left)) := by
  refine MCall.run mixed get_laws_szTurnS ok_laws_szTurnS (Nat.le_of_ble_eq_true rfl) (by decide) ?_
  unfold mc_laws_szTurnS
  simp (maxSteps := 9999999) -implicitDefEqProofs only [go_sem, mwp_draw]
  exact ⟨fits64 (by omega) (by omega), fun h => mvi (by rw [szN, if_pos h]), fun h => mvi (by rw [szN, if_neg h])⟩
theorem toTurn_is (e : E) : Is prog fid_laws_toTurn [Ed1 e] (Ed1 e) := by
  refine MCall.run mixed get_laws_toTurn ok_laws_toTurn (Nat.le_of_ble_eq_true rfl) (by decide) ?_
  unfold mc_laws_toTurn
  simp (maxSteps := 9999999) -implicitDefEqProofs only [go_sem, mwp_draw]
  refine callK_is (toEdge_is e) ?_
  simp (maxSteps := 9999999) -implicitDefEqProofs only [go_sem, mwp_draw]
theorem toTurnS_is (t : Bool) (l : List E) (hl : l.length ≤ 1048576) : Is prog fid_laws_toTurnS [.s t 2 (encE l)] (.ow true 2 (encE l)) := by
  refine MCall.run mixed get_laws_toTurnS ok_laws_toTurnS (Nat.le_of_ble_eq_true rfl) (by decide) ?_
  unfold mc_laws_toTurnS
  simp (maxSteps := 9999999) -implicitDefEqProofs only [go_sem, mwp_draw]
  refine ⟨by omega, by omega, ?_⟩
  refine mwp_loopk (X := Nat × List E) (fun x => ⟨[(0, .s t 2 (encE l)), (3, .sr 0 0 l.length), (4, .i .i64 x.1)], [(0, .arr true 2 (encE x.2))], 1⟩)
    (fun x => x.1 ≤ l.length ∧ x.2.length = l.length ∧ x.2.take x.1 = l.take x.1) (fun x => l.length - x.1) (0, List.replicate l.length (0, 0)) rfl (by simp) ?_
  rintro ⟨i, m⟩ ⟨h1, h2, h3⟩ K kN kE kR
  simp only at h1 h2 h3
  simp (maxSteps := 9999999) -implicitDefEqProofs only [go_sem, mwp_draw]
  refine ⟨fun h => ⟨by omega, h, fun x hx => ?_⟩, fun h => kE _ _ ?_⟩
  · refine callK_is (toTurn_is x) ?_
    simp (maxSteps := 9999999) -implicitDefEqProofs only [go_sem, mwp_draw]
    refine ⟨by omega, h, by omega, fun _ _ => ⟨fits64 (by omega) (by omega), kN _ (i + 1, m.set i x) (by rfl) ⟨by omega, by simp [h2], take_set_next h2 h3 hx⟩ (by simp only; omega)⟩⟩
  · obtain rfl : i = l.length := by omega
    obtain rfl : m = l := by rw [List.take_length, ← h2, List.take_length] at h3; exact h3
    simp (maxSteps := 9999999) -implicitDefEqProofs only [go_sem, mwp_draw]
theorem eqTurn_is (a b : E) : Is prog fid_laws_eqTurn [Ed1 a, Ed1 b] (.b (decide (a = b))) := by
  refine MCall.run mixed get_laws_eqTurn ok_laws_eqTurn (Nat.le_of_ble_eq_true rfl) (by decide) ?_
  unfold mc_laws_eqTurn
  simp (maxSteps := 9999999) -implicitDefEqProofs only [go_sem, mwp_draw]
  refine callK_is (eqEdge_is a b) ?_
  cases h : decide (a = b)
  · simp (maxSteps := 9999999) -implicitDefEqProofs only [go_sem, mwp_draw]
  · simp (maxSteps := 9999999) -implicitDefEqProofs only [go_sem, mwp_draw]
theorem eqTurnS_is (t t' : Bool) (l m : List E) (hl : l.length ≤ 2000000) : Is prog fid_laws_eqTurnS [.s t 2 (encE l), .s t' 2 (encE m)] (.b (decide (l = m))) := by
  refine MCall.run mixed get_laws_eqTurnS ok_laws_eqTurnS (Nat.le_of_ble_eq_true rfl) (by decide) ?_
  unfold mc_laws_eqTurnS
  simp (maxSteps := 9999999) -implicitDefEqProofs only [go_sem, mwp_draw]
  refine ⟨fun h => mvb (eq_len h).symm, fun h => ?_⟩
  refine mwp_loopk (X := Nat) (fun i => ⟨[(0, .s t 2 (encE l)), (1, .s t' 2 (encE m)), (5, .i .i64 i)], [], 0⟩) (fun i => i ≤ l.length ∧ l.take i = m.take i) (fun i => l.length - i) 0 rfl (by simp) ?_
  rintro i ⟨h1, h2⟩ K kN kE kR
  simp (maxSteps := 9999999) -implicitDefEqProofs only [go_sem, mwp_draw]
  refine ⟨fun h3 => ⟨by omega, h3, fun x hx => ⟨by omega, by omega, fun y hy => ?_⟩⟩, fun h3 => kE _ _ ?_⟩
  · refine callK_is (eqTurn_is x y) ?_
    simp (maxSteps := 9999999) -implicitDefEqProofs only [go_sem, mwp_draw]
    refine ⟨by kernel_rfl, fun h4 => kR _ ?_, fun h4 => ⟨fits64 (by omega) (by omega), kN _ (i + 1) (by rfl) ⟨by omega, eq_step h2 hx hy h4⟩ (by omega)⟩⟩
    simp (maxSteps := 9999999) -implicitDefEqProofs only [go_sem, mwp_draw]
    exact mvb (eq_ne hx hy h4).symm
  · simp (maxSteps := 9999999) -implicitDefEqProofs only [go_sem, mwp_draw]
    obtain rfl : i = l.length := by omega
    exact mvb (eq_end (by omega) h2).symm
theorem markTurnS_is (t : Bool) (l : List E) (k : Int) (hk : 0 ≤ k ∧ k ≤ 10000000) (hl : l.length ≤ 1048576) :
    MCall prog fid_laws_markTurnS [.ow t 2 (encE l), .i .i64 k] (fun o r => o = [.ow true 2 (encE (markE l.length k)), .u] ∧ r = .i .i64 (k + 2 * l.length)) := by
  refine MCall.run mixed get_laws_markTurnS ok_laws_markTurnS (Nat.le_of_ble_eq_true rfl) (by decide) ?_
  unfold mc_laws_markTurnS
  simp (maxSteps := 9999999) -implicitDefEqProofs only [go_sem, mwp_draw]
  refine mwp_loopk (X := Nat × List E) (fun x => ⟨[(0, .sr 0 0 l.length), (1, .i .i64 (k + 2 * x.1)), (5, .i .i64 x.1)], [(0, .arr t 2 (encE x.2))], 1⟩)
    (fun x => x.1 ≤ l.length ∧ x.2.length = l.length ∧ x.2.take x.1 = (markE l.length k).take x.1) (fun x => l.length - x.1) (0, l) (by simp; rfl) (by simp) ?_
  rintro ⟨i, m⟩ ⟨h1, h2, h3⟩ K kN kE kR
  simp only at h1 h2 h3
  simp (maxSteps := 9999999) -implicitDefEqProofs only [go_sem, mwp_draw]
  refine ⟨fun h4 => ⟨by omega, h4, by omega, fun x hx => ?_⟩, fun h4 => kE _ _ ?_⟩
  · refine ⟨fits64 (by omega) (by omega), by omega, h4, by omega, ?_⟩
    rintro y ⟨_, rfl⟩
    refine ⟨fits64 (by omega) (by omega), fits64 (by omega) (by omega), ?_⟩
    rw [show k + 2 * (i : Int) + 1 + 1 = k + 2 * ((i + 1 : Nat) : Int) by omega]
    refine kN _ (i + 1, m.set i (k + 2 * i, k + 2 * i + 1)) (by rfl) ⟨by omega, by simp [h2], take_set_next (by rw [h2, markE_length]) h3 (markE_get (by omega))⟩ (by simp only; omega)
  · obtain rfl : i = l.length := by omega
    obtain rfl : m = markE l.length k := by
      rw [List.take_of_length_le (by omega), List.take_of_length_le (by rw [markE_length]; omega)] at h3; exact h3
    simp (maxSteps := 9999999) -implicitDefEqProofs only [go_sem, mwp_draw, markE_length, markE_take]

/-- Events. -/
abbrev Ev1 (e : V3) : MV := .agg [.i .i64 e.1, .i .i64 e.2.1.1, .i .i64 e.2.1.2, .b e.2.2]
theorem ev_eq {a b : V3} : a = b ↔ a.1 = b.1 ∧ a.2.1 = b.2.1 ∧ a.2.2 = b.2.2 := by
  constructor
  · rintro rfl; exact ⟨rfl, rfl, rfl⟩
  · rintro ⟨h1, h2, h3⟩; exact Prod.ext h1 (Prod.ext h2 h3)
def markV (n : Nat) (k : Int) : List V3 := (List.range n).map fun i : Nat => (k + 4 * i, (k + 4 * i + 1, k + 4 * i + 1 + 1), decide ((k + 4 * i + 1 + 1 + 1).tmod 3 = 0))
theorem markV_length (n : Nat) (k : Int) : (markV n k).length = n := by simp [markV]
theorem markV_take (n : Nat) (k : Int) : (markV n k).take n = markV n k := List.take_of_length_le (by rw [markV_length]; omega)
theorem markV_get {n : Nat} {k : Int} {i : Nat} (h : i < n) : (markV n k)[i]? = some (k + 4 * i, (k + 4 * i + 1, k + 4 * i + 1 + 1), decide ((k + 4 * i + 1 + 1 + 1).tmod 3 = 0)) := by simp [markV, h]
end Go.Fw
