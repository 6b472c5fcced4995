/-
  The law on blocks: a graph of one block is safe.
-/
import Derived.Test.YtjklefjjmfpnoaaCtDt
import Derived.Test.YtjklefjjmfpnoaaCtCn
import Derived.Test.YtjklefjjmfpnoaaCtFh
import Derived.Test.YtjklefjjmfpnoaaCtBl
import Derived.Test.YtjklefjjmfpnoaaPlC5
import Derived.Test.YtjklefjjmfpnoaaCtRow
import Derived.Test.YtjklefjjmfpnoaaKFnBlockSafe
namespace Go.Fw
set_option linter.unusedSimpArgs false
set_option linter.unusedVariables false
set_option maxRecDepth 100000
set_option maxHeartbeats 4000000
open Go.Proofs.Try (prog)
open Go.Pl

theorem conn_of {n : Int} {es : List E} (hg : gvB n es = true) (hp : pcB n es = 1) : ∀ x y, 0 ≤ x → x < n → 0 ≤ y → y < n → Rch es x y := by
  have hv := gvB_iff.1 hg
  rw [pcB_pcN hg] at hp
  exact fun x y x0 x1 y0 y1 => pc_one hv.2.2.2.1 (by omega) x0 x1 y0 y1
theorem safe_iff {n : Int} {es : List E} (hg : gvB n es = true) : safeB n es = true ↔ pcB n es = 1 ∧ ∀ e ∈ es, Rch (butE es e) e.1 e.2 := by
  have hv := gvB_iff.1 hg
  unfold safeB brV brL
  rw [if_pos hg, Bool.and_eq_true, decide_eq_true_eq, decide_eq_true_eq, List.length_eq_zero_iff, List.filter_eq_nil_iff]
  refine and_congr_right fun _ => forall_congr' fun e => forall_congr' fun he => ?_
  rw [brB_rch hv he]
  exact Classical.not_not
theorem one_iff {n : Int} {es : List E} (hg : gvB n es = true) : oneB n es = true ↔ pcB n es = 1 ∧ ∀ x y z, Adj es x y → Adj es x z → Rch (aloL es x) y z := by
  have hv := gvB_iff.1 hg
  have hn := hv.1
  unfold oneB cnV cnL
  rw [if_pos hg, Bool.and_eq_true, decide_eq_true_eq, decide_eq_true_eq, List.length_eq_zero_iff, List.filter_eq_nil_iff]
  refine and_congr_right fun _ => ?_
  constructor
  · intro h x y z ay az
    have rx := nbr_rng hv.2.2.2.1 ay
    refine Classical.byContradiction fun q => h x (mem_upsI.2 ⟨rx.1, by omega⟩) ((cnB_iff hv).2 ⟨y, z, ay, az, q⟩)
  · intro h x _ hc
    obtain ⟨y, z, ay, az, q⟩ := (cnB_iff hv).1 hc
    exact q (h x y z ay az)
theorem one_gv {n : Int} {es : List E} (h : oneB n es = true) : gvB n es = true := by
  cases hg : gvB n es with
  | true => rfl
  | false =>
    unfold oneB pcB labV at h
    rw [hg] at h
    simp [pcL] at h
theorem DrawIsOneBlock_is (t : Bool) (b : List Int) (hb : Byt b) : MCall prog fid_spec_DrawIsOneBlock [.s t 1 (encB b)] DrW := by
  refine MCall.run mixed get_spec_DrawIsOneBlock ok_spec_DrawIsOneBlock (Nat.le_of_ble_eq_true rfl) (by decide) ?_
  unfold mc_spec_DrawIsOneBlock
  simp (maxSteps := 9999999) -implicitDefEqProofs only [go_sem, mwp_draw]
  refine callK_any (DrawIsSafeGraph_is _ b hb) ?_
  rintro o r ⟨rfl, n, es, rfl, w1, w2, w3⟩
  simp (maxSteps := 9999999) -implicitDefEqProofs only [go_sem, mwp_draw]
  exact ⟨rfl, n, es, rfl, w1, w2, w3⟩
theorem FnBlockSafe_is (t : Bool) (b : List Int) (hb : Byt b) : Is prog fid_laws_FnBlockSafe [.s t 1 (encB b)] (.b true) := by
  refine MCall.run mixed get_laws_FnBlockSafe ok_laws_FnBlockSafe (Nat.le_of_ble_eq_true rfl) (by decide) ?_
  unfold mc_laws_FnBlockSafe
  by_cases hl : 1048576 < b.length
  · have c0 : ((1048576 : Int) < b.length) = True := eq_true (by omega)
    simp (maxSteps := 9999999) -implicitDefEqProofs only [go_sem, mwp_draw, c0]
  have c0 : ((1048576 : Int) < b.length) = False := eq_false (by omega)
  simp (maxSteps := 9999999) -implicitDefEqProofs only [go_sem, mwp_draw, c0]
  refine callK_any (DrawIsOneBlock_is _ b hb) ?_
  rintro o r ⟨rfl, n, es, rfl, w1, w2, w3⟩
  simp (maxSteps := 9999999) -implicitDefEqProofs only [go_sem, mwp_draw]
  have hO := fun u => IsOneBlock_is u n es (by omega)
  have hO' := fun u => IsOneBlockS_is u n es (by omega)
  cases hw : oneB n es with
  | false =>
    rw [hw] at hO hO'
    refine callK_is (hO _) ?_
    simp (maxSteps := 9999999) -implicitDefEqProofs only [go_sem, mwp_draw]
    refine callK_is (hO' _) ?_
    simp (maxSteps := 9999999) -implicitDefEqProofs only [go_sem, mwp_draw, beq_true, beq_false]
    refine callK_is (hO' _) ?_
    simp (maxSteps := 9999999) -implicitDefEqProofs only [go_sem, mwp_draw, beq_true, beq_false]
    first | done | (show _ = true; kernel_rfl) | exact ⟨by kernel_rfl, rfl⟩
  | true =>
    rw [hw] at hO hO'
    by_cases h3 : n < 3
    · have c1 := eq_true h3
      refine callK_is (hO _) ?_
      simp (maxSteps := 9999999) -implicitDefEqProofs only [go_sem, mwp_draw]
      refine callK_is (hO' _) ?_
      simp (maxSteps := 9999999) -implicitDefEqProofs only [go_sem, mwp_draw, beq_true, beq_false, c1]
      refine callK_is (hO' _) ?_
      simp (maxSteps := 9999999) -implicitDefEqProofs only [go_sem, mwp_draw, beq_true, beq_false]
      first | done | (show _ = true; kernel_rfl) | exact ⟨by kernel_rfl, rfl⟩
    · have c1 := eq_false h3
      have hg := one_gv hw
      have hv := gvB_iff.1 hg
      have hE := hv.2.2.2.1
      obtain ⟨hp, hcut⟩ := (one_iff hg).1 hw
      have co := conn_of hg hp
      have hb2 := no_bridge hE (by omega) co hcut
      have hs : safeB n es = true := (safe_iff hg).2 ⟨hp, hb2⟩
      have hS := fun u => IsSafeGraph_is u n es (by omega)
      rw [hs] at hS
      have hwk : wkB n es = true := by simp [wkB, hg]; omega
      obtain ⟨e0, h0⟩ : ∃ e0, es[0]? = some e0 := by
        cases es with
        | nil =>
          have := rch_same (es := []) (S := fun v => decide (v = 0)) (by simp) (co 0 1 (by omega) (by omega) (by omega) (by omega))
          simp at this
        | cons e r => exact ⟨e, rfl⟩
      have e0m := hE e0 (List.mem_of_getElem? h0)
      have hc0 : ∀ e ∈ es, Rch es e0.1 e.1 := fun e he => by
        have := hE e he
        unfold EIn at this e0m
        exact co _ _ (by omega) (by omega) (by omega) (by omega)
      refine callK_is (hO _) ?_
      simp (maxSteps := 9999999) -implicitDefEqProofs only [go_sem, mwp_draw]
      refine callK_is (hO' _) ?_
      simp (maxSteps := 9999999) -implicitDefEqProofs only [go_sem, mwp_draw, beq_true, beq_false, c1]
      refine callK_any (WeakestCut_is _ n es (by omega)) ?_
      rintro o r ⟨rfl, hr⟩
      obtain ⟨m, rfl, m2⟩ : ∃ m : Nat, r = .tup [.i .i64 m, .b true] ∧ 2 ≤ m := by
        rcases hr with ⟨h, _⟩ | ⟨_, m, h, _, ⟨x, y, x0, x1, y0, y1, hne, ⟨⟨S, sx, sy, e⟩, _⟩⟩, _⟩
        · rw [hwk] at h; cases h
        · exact ⟨m, h, by rw [e]; exact two_cross (n := n) (co x y x0 x1 y0 y1) hb2 sx sy⟩
      have c2 : ((2 : Int) ≤ m) = True := eq_true (by omega)
      simp (maxSteps := 9999999) -implicitDefEqProofs only [go_sem, mwp_draw]
      refine callK_is (hS _) ?_
      simp (maxSteps := 9999999) -implicitDefEqProofs only [go_sem, mwp_draw]
      refine callK_any (BlocksOf_is _ n es hv hcut h0 hc0) ?_
      rintro o r ⟨rfl, bl, rfl⟩
      simp (maxSteps := 9999999) -implicitDefEqProofs only [go_sem, mwp_draw, c2]
      first | done | (show _ = true; kernel_rfl) | exact ⟨by kernel_rfl, rfl⟩
theorem FnBlockSafe_row (m : List (List D)) (h : ∀ r ∈ m, rowOK [.i .u8] r) (_ : m.length ≤ maxLen) : Is prog fid_laws_FnBlockSafe [.s false 1 m] (.b true) := by
  obtain ⟨b, rfl, hb⟩ := rows_bytes h
  exact FnBlockSafe_is _ b hb
end Go.Fw
