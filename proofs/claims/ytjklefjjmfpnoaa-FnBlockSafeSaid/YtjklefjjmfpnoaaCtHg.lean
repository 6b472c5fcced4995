/-
  The laws' small helpers: edges, graphs.
-/
import Derived.Test.YtjklefjjmfpnoaaCtH
import Derived.Test.YtjklefjjmfpnoaaCtG
namespace Go.Fw
set_option linter.unusedSimpArgs false
set_option linter.unusedVariables false
set_option maxRecDepth 100000
set_option maxHeartbeats 4000000
open Go.Proofs.Try (prog)
open Go.Pl

def szN (n : Nat) (left : Int) : Int := if left - n < 0 then -1 else left - n
theorem szN_get {n : Nat} {left : Int} (h0 : 0 ≤ left ∧ left ≤ 1048576) (h : ¬ szN n left < 0) : n ≤ 1048576 ∧ szN n left = left - n := by
  unfold szN at h ⊢
  split at h
  · omega
  · rename_i h2; rw [if_neg h2]; omega
theorem szN_rng {n : Nat} {left : Int} (h0 : 0 ≤ left ∧ left ≤ 1048576) : -1 ≤ szN n left ∧ szN n left ≤ 1048576 := by unfold szN; split <;> omega
theorem szEdgeS_is (t : Bool) (l : List E) (left : Int) (h0 : 0 ≤ left ∧ left ≤ 1048576) (hl : l.length ≤ 9223372036854775807) :
    Is prog fid_laws_szEdgeS [.s t 2 (encE l), .i .i64 left] (.i .i64 (szN l.length left)) := by
  refine MCall.run mixed get_laws_szEdgeS ok_laws_szEdgeS (Nat.le_of_ble_eq_true rfl) (by decide) ?_
  unfold mc_laws_szEdgeS
  simp (maxSteps := 9999999) -implicitDefEqProofs only [go_sem, mwp_draw]
  exact ⟨fits64 (by omega) (by omega), fun h => mvi (by rw [szN, if_pos h]), fun h => mvi (by rw [szN, if_neg h])⟩
theorem toEdge_is (e : E) : Is prog fid_laws_toEdge [Ed1 e] (Ed1 e) := by
  refine MCall.run mixed get_laws_toEdge ok_laws_toEdge (Nat.le_of_ble_eq_true rfl) (by decide) ?_
  unfold mc_laws_toEdge
  simp (maxSteps := 9999999) -implicitDefEqProofs only [go_sem, mwp_draw]
theorem toEdgeS_is (t : Bool) (l : List E) (hl : l.length ≤ 1048576) : Is prog fid_laws_toEdgeS [.s t 2 (encE l)] (.ow true 2 (encE l)) := by
  refine MCall.run mixed get_laws_toEdgeS ok_laws_toEdgeS (Nat.le_of_ble_eq_true rfl) (by decide) ?_
  unfold mc_laws_toEdgeS
  simp (maxSteps := 9999999) -implicitDefEqProofs only [go_sem, mwp_draw]
  refine ⟨by omega, by omega, ?_⟩
  refine mwp_loopk (X := Nat × List E) (fun x => ⟨[(0, .s t 2 (encE l)), (3, .sr 0 0 l.length), (4, .i .i64 x.1)], [(0, .arr true 2 (encE x.2))], 1⟩)
    (fun x => x.1 ≤ l.length ∧ x.2.length = l.length ∧ x.2.take x.1 = l.take x.1) (fun x => l.length - x.1) (0, List.replicate l.length (0, 0)) rfl (by simp) ?_
  rintro ⟨i, m⟩ ⟨h1, h2, h3⟩ K kN kE kR
  simp only at h1 h2 h3
  simp (maxSteps := 9999999) -implicitDefEqProofs only [go_sem, mwp_draw]
  refine ⟨fun h => ⟨by omega, h, fun x hx => ?_⟩, fun h => kE _ _ ?_⟩
  · refine callK_is (toEdge_is x) ?_
    simp (maxSteps := 9999999) -implicitDefEqProofs only [go_sem, mwp_draw]
    refine ⟨by omega, h, by omega, fun _ _ => ⟨fits64 (by omega) (by omega), kN _ (i + 1, m.set i x) (by rfl) ⟨by omega, by simp [h2], take_set_next h2 h3 hx⟩ (by simp only; omega)⟩⟩
  · obtain rfl : i = l.length := by omega
    obtain rfl : m = l := by rw [List.take_length, ← h2, List.take_length] at h3; exact h3
    simp (maxSteps := 9999999) -implicitDefEqProofs only [go_sem, mwp_draw]
theorem eqEdge_is (a b : E) : Is prog fid_laws_eqEdge [Ed1 a, Ed1 b] (.b (decide (a = b))) := by
  refine MCall.run mixed get_laws_eqEdge ok_laws_eqEdge (Nat.le_of_ble_eq_true rfl) (by decide) ?_
  unfold mc_laws_eqEdge
  simp (maxSteps := 9999999) -implicitDefEqProofs only [go_sem, mwp_draw]
  have e : a = b ↔ a.1 = b.1 ∧ a.2 = b.2 := Prod.ext_iff
  simp only [e]
  exact ⟨fun h => mvb (by simp [h]), fun h => ⟨fun h2 => mvb (by simp [h2]), fun h2 => mvb (by simp [h, h2])⟩⟩
theorem eqEdgeS_is (t t' : Bool) (l m : List E) (hl : l.length ≤ 2000000) : Is prog fid_laws_eqEdgeS [.s t 2 (encE l), .s t' 2 (encE m)] (.b (decide (l = m))) := by
  refine MCall.run mixed get_laws_eqEdgeS ok_laws_eqEdgeS (Nat.le_of_ble_eq_true rfl) (by decide) ?_
  unfold mc_laws_eqEdgeS
  simp (maxSteps := 9999999) -implicitDefEqProofs only [go_sem, mwp_draw]
  refine ⟨fun h => mvb (eq_len h).symm, fun h => ?_⟩
  refine mwp_loopk (X := Nat) (fun i => ⟨[(0, .s t 2 (encE l)), (1, .s t' 2 (encE m)), (5, .i .i64 i)], [], 0⟩) (fun i => i ≤ l.length ∧ l.take i = m.take i) (fun i => l.length - i) 0 rfl (by simp) ?_
  rintro i ⟨h1, h2⟩ K kN kE kR
  simp (maxSteps := 9999999) -implicitDefEqProofs only [go_sem, mwp_draw]
  refine ⟨fun h3 => ⟨by omega, h3, fun x hx => ⟨by omega, by omega, fun y hy => ?_⟩⟩, fun h3 => kE _ _ ?_⟩
  · refine callK_is (eqEdge_is x y) ?_
    simp (maxSteps := 9999999) -implicitDefEqProofs only [go_sem, mwp_draw]
    refine ⟨by kernel_rfl, fun h4 => kR _ ?_, fun h4 => ⟨fits64 (by omega) (by omega), kN _ (i + 1) (by rfl) ⟨by omega, eq_step h2 hx hy h4⟩ (by omega)⟩⟩
    simp (maxSteps := 9999999) -implicitDefEqProofs only [go_sem, mwp_draw]
    exact mvb (eq_ne hx hy h4).symm
  · simp (maxSteps := 9999999) -implicitDefEqProofs only [go_sem, mwp_draw]
    obtain rfl : i = l.length := by omega
    exact mvb (eq_end (by omega) h2).symm

def markE (n : Nat) (k : Int) : List E := (List.range n).map fun i : Nat => (k + 2 * i, k + 2 * i + 1)
theorem markE_length (n : Nat) (k : Int) : (markE n k).length = n := by simp [markE]
theorem markE_take (n : Nat) (k : Int) : (markE n k).take n = markE n k := List.take_of_length_le (by rw [markE_length]; omega)
theorem markE_get {n : Nat} {k : Int} {i : Nat} (h : i < n) : (markE n k)[i]? = some (k + 2 * i, k + 2 * i + 1) := by simp [markE, h]
theorem markEdgeS_is (t : Bool) (l : List E) (k : Int) (hk : 0 ≤ k ∧ k ≤ 10000000) (hl : l.length ≤ 1048576) :
    MCall prog fid_laws_markEdgeS [.ow t 2 (encE l), .i .i64 k] (fun o r => o = [.ow true 2 (encE (markE l.length k)), .u] ∧ r = .i .i64 (k + 2 * l.length)) := by
  refine MCall.run mixed get_laws_markEdgeS ok_laws_markEdgeS (Nat.le_of_ble_eq_true rfl) (by decide) ?_
  unfold mc_laws_markEdgeS
  simp (maxSteps := 9999999) -implicitDefEqProofs only [go_sem, mwp_draw]
  refine mwp_loopk (X := Nat × List E) (fun x => ⟨[(0, .sr 0 0 l.length), (1, .i .i64 (k + 2 * x.1)), (5, .i .i64 x.1)], [(0, .arr t 2 (encE x.2))], 1⟩)
    (fun x => x.1 ≤ l.length ∧ x.2.length = l.length ∧ x.2.take x.1 = (markE l.length k).take x.1) (fun x => l.length - x.1) (0, l) (by simp; rfl) (by simp) ?_
  rintro ⟨i, m⟩ ⟨h1, h2, h3⟩ K kN kE kR
  simp only at h1 h2 h3
  simp (maxSteps := 9999999) -implicitDefEqProofs only [go_sem, mwp_draw]
  refine ⟨fun h4 => ⟨by omega, h4, by omega, fun x hx => ?_⟩, fun h4 => kE _ _ ?_⟩
  · refine ⟨fits64 (by omega) (by omega), by omega, h4, by omega, ?_⟩
    rintro y ⟨_, rfl⟩
    refine ⟨fits64 (by omega) (by omega), fits64 (by omega) (by omega), ?_⟩
    rw [show k + 2 * (i : Int) + 1 + 1 = k + 2 * ((i + 1 : Nat) : Int) by omega]
    refine kN _ (i + 1, m.set i (k + 2 * i, k + 2 * i + 1)) (by rfl) ⟨by omega, by simp [h2], take_set_next (by rw [h2, markE_length]) h3 (markE_get (by omega))⟩ (by simp only; omega)
  · obtain rfl : i = l.length := by omega
    obtain rfl : m = markE l.length k := by
      rw [List.take_of_length_le (by omega), List.take_of_length_le (by rw [markE_length]; omega)] at h3; exact h3
    simp (maxSteps := 9999999) -implicitDefEqProofs only [go_sem, mwp_draw, markE_length, markE_take]
theorem heldEdgeS_is (t : Bool) (n : Nat) (k : Int) (hk : 0 ≤ k ∧ k ≤ 10000000) (hl : n ≤ 1048576) :
    Is prog fid_laws_heldEdgeS [.s t 2 (encE (markE n k)), .i .i64 k] (.i .i64 (k + 2 * n)) := by
  refine MCall.run mixed get_laws_heldEdgeS ok_laws_heldEdgeS (Nat.le_of_ble_eq_true rfl) (by decide) ?_
  unfold mc_laws_heldEdgeS
  simp (maxSteps := 9999999) -implicitDefEqProofs only [go_sem, mwp_draw]
  refine mwp_loopk (X := Nat) (fun x => ⟨[(0, .s t 2 (encE (markE n k))), (1, .i .i64 (k + 2 * x)), (5, .i .i64 x)], [], 0⟩)
    (fun x => x ≤ n) (fun x => n - x) 0 (by simp; rfl) (by simp) ?_
  rintro i h1 K kN kE kR
  simp (maxSteps := 9999999) -implicitDefEqProofs only [go_sem, mwp_draw, markE_length]
  refine ⟨fun h3 => ⟨by omega, h3, fun x hx => ?_⟩, fun h3 => kE _ _ ?_⟩
  · rw [markE_get (by omega)] at hx
    cases hx
    simp (maxSteps := 9999999) -implicitDefEqProofs only [go_sem, mwp_draw]
    refine ⟨fits64 (by omega) (by omega), by omega, h3, fun x hx => ?_⟩
    rw [markE_get (by omega)] at hx
    cases hx
    refine ⟨fun q => absurd rfl q, fun _ => ⟨fits64 (by omega) (by omega), fits64 (by omega) (by omega), kN _ (i + 1) ?_ (by omega) (by omega)⟩⟩
    rw [show k + 2 * (i : Int) + 1 + 1 = k + 2 * ((i + 1 : Nat) : Int) by omega]
    rfl
  · simp (maxSteps := 9999999) -implicitDefEqProofs only [go_sem, mwp_draw]
    exact mvi (by omega)
theorem szGraph_is (t : Bool) (n : Int) (es : List E) (left : Int) (h0 : 0 ≤ left ∧ left ≤ 1048576) (hl : es.length ≤ 9223372036854775807) : Is prog fid_laws_szGraph [Gr t n es, .i .i64 left] (.i .i64 (szN es.length left)) := by
  refine MCall.run mixed get_laws_szGraph ok_laws_szGraph (Nat.le_of_ble_eq_true rfl) (by decide) ?_
  unfold mc_laws_szGraph
  simp (maxSteps := 9999999) -implicitDefEqProofs only [go_sem, mwp_draw]
  refine callK_is (szEdgeS_is _ es left h0 hl) ?_
  have := szN_rng (n := es.length) h0
  simp (maxSteps := 9999999) -implicitDefEqProofs only [go_sem, mwp_draw]
  exact fun h => mvi (by omega)
theorem toGraph_is (t : Bool) (n : Int) (es : List E) (hl : es.length ≤ 1048576) : Is prog fid_laws_toGraph [Gr t n es] (.agg [.i .i64 n, .ow true 2 (encE es)]) := by
  refine MCall.run mixed get_laws_toGraph ok_laws_toGraph (Nat.le_of_ble_eq_true rfl) (by decide) ?_
  unfold mc_laws_toGraph
  simp (maxSteps := 9999999) -implicitDefEqProofs only [go_sem, mwp_draw]
  refine callK_is (toEdgeS_is _ es hl) ?_
  simp (maxSteps := 9999999) -implicitDefEqProofs only [go_sem, mwp_draw]
theorem eqGraph_is (t t' : Bool) (n n' : Int) (es es' : List E) (hl : es.length ≤ 2000000) : Is prog fid_laws_eqGraph [Gr t n es, Gr t' n' es'] (.b (decide (n = n') && decide (es = es'))) := by
  refine MCall.run mixed get_laws_eqGraph ok_laws_eqGraph (Nat.le_of_ble_eq_true rfl) (by decide) ?_
  unfold mc_laws_eqGraph
  simp (maxSteps := 9999999) -implicitDefEqProofs only [go_sem, mwp_draw]
  refine ⟨fun h => mvb (by simp [h]), fun h => callK_is (eqEdgeS_is _ _ es es' hl) ?_⟩
  simp (maxSteps := 9999999) -implicitDefEqProofs only [go_sem, mwp_draw]
  refine ⟨fun h2 => mvb (by simp [h2]), fun h2 => mvb (by simp [h, h2])⟩
theorem markGraph_is (t : Bool) (n : Int) (es : List E) (k : Int) (hk : 0 ≤ k ∧ k ≤ 10000000) (hl : es.length ≤ 1048576) :
    MCall prog fid_laws_markGraph [.agg [.i .i64 n, .ow t 2 (encE es)], .i .i64 k] (fun o r => o = [.agg [.i .i64 n, .ow true 2 (encE (markE es.length k))], .u] ∧ r = .i .i64 (k + 2 * es.length)) := by
  refine MCall.run mixed get_laws_markGraph ok_laws_markGraph (Nat.le_of_ble_eq_true rfl) (by decide) ?_
  unfold mc_laws_markGraph
  simp (maxSteps := 9999999) -implicitDefEqProofs only [go_sem, mwp_draw]
  refine callK_det (markEdgeS_is _ es k hk hl) ?_
  simp (maxSteps := 9999999) -implicitDefEqProofs only [go_sem, mwp_draw, markE_length, markE_take]
theorem heldGraph_is (t : Bool) (n : Int) (m : Nat) (k : Int) (hk : 0 ≤ k ∧ k ≤ 10000000) (hl : m ≤ 1048576) :
    Is prog fid_laws_heldGraph [Gr t n (markE m k), .i .i64 k] (.i .i64 (k + 2 * m)) := by
  refine MCall.run mixed get_laws_heldGraph ok_laws_heldGraph (Nat.le_of_ble_eq_true rfl) (by decide) ?_
  unfold mc_laws_heldGraph
  simp (maxSteps := 9999999) -implicitDefEqProofs only [go_sem, mwp_draw]
  refine callK_is (heldEdgeS_is _ m k hk hl) ?_
  simp (maxSteps := 9999999) -implicitDefEqProofs only [go_sem, mwp_draw]
  exact fun h => by omega
end Go.Fw
