/-
  Counts are the reference's.
-/
import Derived.Test.YtjklefjjmfpnoaaGreatCtHt
import Derived.Test.YtjklefjjmfpnoaaGreatCtCtN
import Derived.Test.YtjklefjjmfpnoaaGreatCtRow
import Derived.Test.YtjklefjjmfpnoaaGreatKFnExactCountsOf
namespace Go.Fw
set_option linter.unusedSimpArgs false
set_option linter.unusedVariables false
set_option maxRecDepth 100000
set_option maxHeartbeats 4000000
open Go.Proofs.Tryz (prog)
open Go.Pl

theorem FnExactCountsOf_is (n : Int) (es ts : List E) (hl0 : es.length ≤ 9223372036854775807) (hl1 : ts.length ≤ 9223372036854775807) : Is prog fid_laws_FnExactCountsOf [Gr false n es, .s false 2 (encE ts)] (.b true) := by
  have vl : runB n es ts = true → (csV n es ts).length ≤ 61 := fun h => by have := csV_len (n := n) (es := es) (ts := ts); have := runB_len h; omega
  have vc := fun c (hc : c ∈ csV n es ts) => csV_each (n := n) (es := es) (ts := ts) hc
  have v0 := csV_no (n := n) (es := es) (ts := ts)
  refine MCall.run mixed get_laws_FnExactCountsOf ok_laws_FnExactCountsOf (Nat.le_of_ble_eq_true rfl) (by decide) ?_
  unfold mc_laws_FnExactCountsOf
  simp (maxSteps := 9999999) -implicitDefEqProofs only [go_sem, mwp_draw]
  refine callK_is (szGraph_is _ n es 1048576 (by omega) hl0) ?_
  simp (maxSteps := 9999999) -implicitDefEqProofs only [go_sem, mwp_draw]
  refine fun hs0 => ?_
  obtain ⟨g0, q0⟩ := szN_get (by omega) hs0
  rw [q0]
  refine callK_is (szTurnS_is _ ts (1048576 - es.length) (by omega) hl1) ?_
  simp (maxSteps := 9999999) -implicitDefEqProofs only [go_sem, mwp_draw]
  refine fun hs1 => ?_
  obtain ⟨g1, q1⟩ := szN_get (by omega) hs1
  refine callK_is (toGraph_is _ n es g0) ?_
  simp (maxSteps := 9999999) -implicitDefEqProofs only [go_sem, mwp_draw]
  try refine ⟨by kernel_rfl, ?_⟩
  refine callK_is (toTurnS_is _ ts g1) ?_
  simp (maxSteps := 9999999) -implicitDefEqProofs only [go_sem, mwp_draw]
  try refine ⟨by kernel_rfl, ?_⟩
  refine callK_is (CountsOfS_is _ _ n es ts (by omega) (by omega)) ?_
  have hI := fun t t' => CountsOf_is t t' n es ts (by omega) (by omega)
  generalize csV n es ts = L at *
  simp (maxSteps := 9999999) -implicitDefEqProofs only [go_sem, mwp_draw]
  try refine ⟨by kernel_rfl, ?_⟩
  refine callK_is (toGraph_is _ n es g0) ?_
  simp (maxSteps := 9999999) -implicitDefEqProofs only [go_sem, mwp_draw]
  try refine ⟨by kernel_rfl, ?_⟩
  refine callK_is (toTurnS_is _ ts g1) ?_
  simp (maxSteps := 9999999) -implicitDefEqProofs only [go_sem, mwp_draw]
  try refine ⟨by kernel_rfl, ?_⟩
  refine callK_any (hI _ _) ?_
  have e1 : L.take L.length = L := List.take_length
  have rl := mkR_length L 1
  rintro o r ⟨rfl, ⟨hg, rfl⟩ | ⟨hg, hs, rfl⟩⟩
  · obtain rfl := v0 hg
    rw [hg]
    simp (maxSteps := 9999999) -implicitDefEqProofs only [go_sem, mwp_draw, encN_nil]
    have b0 : ((1 : Int) < 0) = False := eq_false (by omega)
    refine callK_is (eqIntSS0_is _ _) ?_
    simp (maxSteps := 9999999) -implicitDefEqProofs only [go_sem, mwp_draw, encN_nil]
    try refine ⟨by kernel_rfl, ?_⟩
    refine callK_is (toGraph_is _ n es g0) ?_
    simp (maxSteps := 9999999) -implicitDefEqProofs only [go_sem, mwp_draw]
    try refine ⟨by kernel_rfl, ?_⟩
    refine callK_is (eqGraph_is _ _ _ _ _ _ (by omega)) ?_
    simp (maxSteps := 9999999) -implicitDefEqProofs only [go_sem, mwp_draw]
    try refine ⟨by kernel_rfl, ?_⟩
    refine callK_is (toTurnS_is _ ts g1) ?_
    simp (maxSteps := 9999999) -implicitDefEqProofs only [go_sem, mwp_draw]
    try refine ⟨by kernel_rfl, ?_⟩
    refine callK_is (eqTurnS_is _ _ _ _ (by omega)) ?_
    simp (maxSteps := 9999999) -implicitDefEqProofs only [go_sem, mwp_draw]
    try refine ⟨by kernel_rfl, ?_⟩
    refine callK_det (markGraph_is _ n es 1 (by omega) (by omega)) ?_
    simp (maxSteps := 9999999) -implicitDefEqProofs only [go_sem, mwp_draw, markE_length, markE_take, encN_nil]
    try refine ⟨by kernel_rfl, ?_⟩
    have b2 : ((1 : Int) + 2 * es.length + 2 * ts.length < 0) = False := eq_false (by omega)
    refine callK_det (markTurnS_is _ ts (1 + 2 * es.length) (by omega) (by omega)) ?_
    simp (maxSteps := 9999999) -implicitDefEqProofs only [go_sem, mwp_draw, markE_length, markE_take, encN_nil, b2]
    try refine ⟨by kernel_rfl, ?_⟩
    refine callK_is (eqIntSS0_is _ _) ?_
    simp (maxSteps := 9999999) -implicitDefEqProofs only [go_sem, mwp_draw, encN_nil]
    try refine ⟨by kernel_rfl, ?_⟩
    refine callK_det (markIntSS0_is _ 1) ?_
    simp (maxSteps := 9999999) -implicitDefEqProofs only [go_sem, mwp_draw, encN_nil]
    try refine ⟨by kernel_rfl, ?_⟩
    refine callK_is (heldIntSS0_is _ 1 (by omega)) ?_
    simp (maxSteps := 9999999) -implicitDefEqProofs only [go_sem, mwp_draw, encN_nil, b0]
    try refine ⟨by kernel_rfl, ?_⟩
    refine callK_is (toGraph_is _ n es g0) ?_
    simp (maxSteps := 9999999) -implicitDefEqProofs only [go_sem, mwp_draw]
    try refine ⟨by kernel_rfl, ?_⟩
    refine callK_is (toTurnS_is _ ts g1) ?_
    simp (maxSteps := 9999999) -implicitDefEqProofs only [go_sem, mwp_draw]
    try refine ⟨by kernel_rfl, ?_⟩
    refine callK_any (hI _ _) ?_
    rintro o r ⟨rfl, hr⟩
    obtain rfl : r = .tup [.ow true 1 [], .b false] := by rcases hr with ⟨_, h⟩ | ⟨h, _⟩; exact h; rw [hg] at h; cases h
    simp (maxSteps := 9999999) -implicitDefEqProofs only [go_sem, mwp_draw, encN_nil]
    try refine ⟨by kernel_rfl, ?_⟩
    refine callK_is (eqIntSS0_is _ _) ?_
    simp (maxSteps := 9999999) -implicitDefEqProofs only [go_sem, mwp_draw, encN_nil]
    try refine ⟨by kernel_rfl, ?_⟩
    refine callK_is (heldIntSS0_is _ 1 (by omega)) ?_
    simp (maxSteps := 9999999) -implicitDefEqProofs only [go_sem, mwp_draw, encN_nil, b0]
    try refine ⟨by kernel_rfl, ?_⟩
    first | done | (show _ = true; kernel_rfl) | exact ⟨by kernel_rfl, rfl⟩
  · have vl := vl hg
    have kl := mkK_le L 1 (fun c hc => by have := vc c hc; omega)
    have b1 : (mkK L 1 < 0) = False := eq_false (by omega)
    rw [hg]
    simp (maxSteps := 9999999) -implicitDefEqProofs only [go_sem, mwp_draw]
    refine callK_is (eqIntSS_is _ _ L L (by omega) (fun c hc => by have := vc c hc; omega)) ?_
    simp (maxSteps := 9999999) -implicitDefEqProofs only [go_sem, mwp_draw, rl]
    try refine ⟨by kernel_rfl, ?_⟩
    refine callK_is (toGraph_is _ n es g0) ?_
    simp (maxSteps := 9999999) -implicitDefEqProofs only [go_sem, mwp_draw]
    try refine ⟨by kernel_rfl, ?_⟩
    refine callK_is (eqGraph_is _ _ _ _ _ _ (by omega)) ?_
    simp (maxSteps := 9999999) -implicitDefEqProofs only [go_sem, mwp_draw]
    try refine ⟨by kernel_rfl, ?_⟩
    refine callK_is (toTurnS_is _ ts g1) ?_
    simp (maxSteps := 9999999) -implicitDefEqProofs only [go_sem, mwp_draw]
    try refine ⟨by kernel_rfl, ?_⟩
    refine callK_is (eqTurnS_is _ _ _ _ (by omega)) ?_
    simp (maxSteps := 9999999) -implicitDefEqProofs only [go_sem, mwp_draw]
    try refine ⟨by kernel_rfl, ?_⟩
    refine callK_det (markGraph_is _ n es 1 (by omega) (by omega)) ?_
    simp (maxSteps := 9999999) -implicitDefEqProofs only [go_sem, mwp_draw, markE_length, markE_take, encN_nil]
    try refine ⟨by kernel_rfl, ?_⟩
    have b2 : ((1 : Int) + 2 * es.length + 2 * ts.length < 0) = False := eq_false (by omega)
    refine callK_det (markTurnS_is _ ts (1 + 2 * es.length) (by omega) (by omega)) ?_
    simp (maxSteps := 9999999) -implicitDefEqProofs only [go_sem, mwp_draw, markE_length, markE_take, encN_nil, b2]
    try refine ⟨by kernel_rfl, ?_⟩
    refine callK_is (eqIntSS_is _ _ L L (by omega) (fun c hc => by have := vc c hc; omega)) ?_
    simp (maxSteps := 9999999) -implicitDefEqProofs only [go_sem, mwp_draw, rl]
    try refine ⟨by kernel_rfl, ?_⟩
    refine callK_det (markIntSS_is hs L 1 (by omega) (by omega) (fun c hc => by have := vc c hc; omega)) ?_
    simp (maxSteps := 9999999) -implicitDefEqProofs only [go_sem, mwp_draw, rl, e1]
    try refine ⟨by kernel_rfl, ?_⟩
    refine callK_is (heldIntSS_is _ L 1 (by omega) (by omega) (fun c hc => by have := vc c hc; omega)) ?_
    simp (maxSteps := 9999999) -implicitDefEqProofs only [go_sem, mwp_draw, rl, e1, b1]
    try refine ⟨by kernel_rfl, ?_⟩
    refine callK_is (toGraph_is _ n es g0) ?_
    simp (maxSteps := 9999999) -implicitDefEqProofs only [go_sem, mwp_draw]
    try refine ⟨by kernel_rfl, ?_⟩
    refine callK_is (toTurnS_is _ ts g1) ?_
    simp (maxSteps := 9999999) -implicitDefEqProofs only [go_sem, mwp_draw]
    try refine ⟨by kernel_rfl, ?_⟩
    refine callK_any (hI _ _) ?_
    rintro o r ⟨rfl, hr⟩
    obtain ⟨hs', rfl⟩ : ∃ hs', r = .tup [.on hs' 1 (rwI L), .b true] := by rcases hr with ⟨h, _⟩ | ⟨_, h⟩; rw [hg] at h; cases h; exact h
    simp (maxSteps := 9999999) -implicitDefEqProofs only [go_sem, mwp_draw]
    try refine ⟨by kernel_rfl, ?_⟩
    refine callK_is (eqIntSS_is _ _ L L (by omega) (fun c hc => by have := vc c hc; omega)) ?_
    simp (maxSteps := 9999999) -implicitDefEqProofs only [go_sem, mwp_draw, rl]
    try refine ⟨by kernel_rfl, ?_⟩
    refine callK_is (heldIntSS_is _ L 1 (by omega) (by omega) (fun c hc => by have := vc c hc; omega)) ?_
    simp (maxSteps := 9999999) -implicitDefEqProofs only [go_sem, mwp_draw, rl, e1, b1]
    try refine ⟨by kernel_rfl, ?_⟩
    first | done | (show _ = true; kernel_rfl) | exact ⟨by kernel_rfl, rfl⟩
theorem FnExactCountsOf_row (m0 : List MV) (h0 : msOK [.sc (.i .i64), .sl [.i .i64, .i .i64]] m0) (m1 : List (List D)) (h1 : ∀ r ∈ m1, rowOK [.i .i64, .i .i64] r) (b1 : m1.length ≤ maxLen) : Is prog fid_laws_FnExactCountsOf [.agg m0, .s false 2 m1] (.b true) := by
  obtain ⟨n0, l0, rfl, b0⟩ := gr_row h0
  obtain ⟨l1, rfl, _⟩ := rows_two h1
  rw [List.length_map] at b1
  exact FnExactCountsOf_is n0 l0 l1 (Nat.le_trans b0 (by decide)) (Nat.le_trans b1 (by decide))
end Go.Fw
