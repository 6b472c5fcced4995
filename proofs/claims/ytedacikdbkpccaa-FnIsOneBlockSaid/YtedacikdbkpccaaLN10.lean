/-
  The law on blocks: they have one round chain.
-/
import Derived.Test.YtedacikdbkpccaaCtDs
import Derived.Test.YtedacikdbkpccaaCtCn
import Derived.Test.YtedacikdbkpccaaPlC5
import Derived.Test.YtedacikdbkpccaaCtRow
import Derived.Test.YtedacikdbkpccaaKFnIsOneBlock
namespace Go.Fw
set_option linter.unusedSimpArgs false
set_option linter.unusedVariables false
set_option maxRecDepth 100000
set_option maxHeartbeats 4000000
open Go.Proofs.Try (prog)
open Go.Pl

theorem conn_of {n : Int} {es : List E} (hg : gvB n es = true) (hp : pcB n es = 1) : ∀ x y, 0 ≤ x → x < n → 0 ≤ y → y < n → Rch es x y := by
  have hv := gvB_iff.1 hg
  rw [pcB_pcN hg] at hp
  exact fun x y x0 x1 y0 y1 => pc_one hv.2.2.2.1 (by omega) x0 x1 y0 y1
theorem safe_iff {n : Int} {es : List E} (hg : gvB n es = true) : safeB n es = true ↔ pcB n es = 1 ∧ ∀ e ∈ es, Rch (butE es e) e.1 e.2 := by
  have hv := gvB_iff.1 hg
  unfold safeB brV brL
  rw [if_pos hg, Bool.and_eq_true, decide_eq_true_eq, decide_eq_true_eq, List.length_eq_zero_iff, List.filter_eq_nil_iff]
  refine and_congr_right fun _ => forall_congr' fun e => forall_congr' fun he => ?_
  rw [brB_rch hv he]
  exact Classical.not_not
theorem one_iff {n : Int} {es : List E} (hg : gvB n es = true) : oneB n es = true ↔ pcB n es = 1 ∧ ∀ x y z, Adj es x y → Adj es x z → Rch (aloL es x) y z := by
  have hv := gvB_iff.1 hg
  have hn := hv.1
  unfold oneB cnV cnL
  rw [if_pos hg, Bool.and_eq_true, decide_eq_true_eq, decide_eq_true_eq, List.length_eq_zero_iff, List.filter_eq_nil_iff]
  refine and_congr_right fun _ => ?_
  constructor
  · intro h x y z ay az
    have rx := nbr_rng hv.2.2.2.1 ay
    refine Classical.byContradiction fun q => h x (mem_upsI.2 ⟨rx.1, by omega⟩) ((cnB_iff hv).2 ⟨y, z, ay, az, q⟩)
  · intro h x _ hc
    obtain ⟨y, z, ay, az, q⟩ := (cnB_iff hv).1 hc
    exact q (h x y z ay az)
/-- How many chains are round: one alone, the first. -/
theorem rdL_one {L : List (List Int)} {c0 : List Int} (h0 : L[0]? = some c0) (r0 : rdB c0 = true) : (rdL L L.length).length = 1 ↔ ∀ j c, 0 < j → L[j]? = some c → rdB c = false := by
  have go : ∀ i, 1 ≤ i → i ≤ L.length → 1 ≤ (rdL L i).length ∧ ((rdL L i).length = 1 ↔ ∀ j c, 0 < j → j < i → L[j]? = some c → rdB c = false) := by
    intro i
    induction i with
    | zero => intro h; omega
    | succ i ih =>
      intro _ hi
      by_cases q : i = 0
      · subst q
        have e : rdL L (0 + 1) = [0] := by rw [rdL_next h0, r0]; rfl
        rw [e]
        exact ⟨by simp, by simp; intro j c h1 h2; omega⟩
      · obtain ⟨i1, i2⟩ := ih (by omega) (by omega)
        obtain ⟨c, hc⟩ : ∃ c, L[i]? = some c := ⟨_, List.getElem?_eq_getElem (by omega)⟩
        rw [rdL_next hc]
        cases r : rdB c with
        | false =>
          simp only [Bool.false_eq_true, if_false, List.append_nil]
          refine ⟨i1, i2.trans ⟨fun h j d a b hd => ?_, fun h j d a b hd => h j d a (by omega) hd⟩⟩
          by_cases e : j = i
          · subst e; rw [hc] at hd; cases hd; exact r
          · exact h j d a (by omega) hd
        | true =>
          simp only [if_true, List.length_append, List.length_singleton]
          refine ⟨by omega, ⟨fun h => by omega, fun h => ?_⟩⟩
          have := h i c (by omega) (by omega) hc
          rw [r] at this; cases this
  have hl := (List.getElem?_eq_some_iff.1 h0).1
  rw [(go L.length (by omega) (Nat.le_refl _)).2]
  exact ⟨fun h j c a hc => h j c a (List.getElem?_eq_some_iff.1 hc).1 hc, fun h j c a _ hc => h j c a hc⟩
theorem rdB_form {u e : Int} {ws : List Int} : rdB (u :: (ws ++ [e])) = decide (u = e) := by
  have a : nth (u :: (ws ++ [e])) 0 = u := by simp [nth]
  have b : nth (u :: (ws ++ [e])) (((u :: (ws ++ [e])).length - 1 : Nat) : Int) = e := by simp [nth]
  unfold rdB
  rw [a, b]
theorem block_iff {n : Int} {es : List E} (hg : gvB n es = true) (hn : 3 ≤ n) : oneB n es = (safeB n es && decide ((rdL (chV n es) (chV n es).length).length = 1)) := by
  have hv := gvB_iff.1 hg
  have hE := hv.2.2.2.1
  have h := srch_nf hE (by omega : 0 ≤ n)
  have ev : chV n es = chainsL n es (srch n es).1 := by unfold chV; rw [if_pos hg]
  rw [ev]
  rw [Bool.eq_iff_iff, Bool.and_eq_true, decide_eq_true_eq, one_iff hg, safe_iff hg]
  generalize (srch n es).1 = s at *
  constructor
  · rintro ⟨hp, hc⟩
    have co := conn_of hg hp
    have hb := no_bridge hE hn co hc
    have hS := h.safe hE (by omega) co hb
    obtain ⟨b, b0⟩ := h.some_back hS (by omega)
    obtain ⟨ws, c0⟩ := h.first_round hE b0
    refine ⟨⟨hp, hb⟩, (rdL_one c0 (by rw [rdB_form]; simp)).2 fun j c hj hcj => ?_⟩
    obtain ⟨cl, ch⟩ := h.chains hE
    have lj := (List.getElem?_eq_some_iff.1 hcj).1
    obtain ⟨d, hd⟩ : ∃ d, (backL n es s)[j]? = some d := ⟨_, List.getElem?_eq_getElem (by omega)⟩
    obtain ⟨ws', e, h1, h2⟩ := ch j d hd
    rw [hcj] at h1; cases h1
    rw [rdB_form, decide_eq_false_iff_not]
    intro q
    subst q
    obtain ⟨y, z, ay, az, nr⟩ := h.round_cut hE hS hj hd h2
    exact nr (hc _ y z ay az)
  · rintro ⟨⟨hp, hb⟩, h1⟩
    refine ⟨hp, fun x y z ay az => Classical.byContradiction fun nr => ?_⟩
    have co := conn_of hg hp
    have hS := h.safe hE (by omega) co hb
    obtain ⟨b, b0⟩ := h.some_back hS (by omega)
    obtain ⟨ws, c0⟩ := h.first_round hE b0
    obtain ⟨j, d, ws', hj, _, hc⟩ := h.cut_round hE hS ay az nr
    have := (rdL_one c0 (by rw [rdB_form]; simp)).1 h1 j _ hj hc
    rw [rdB_form] at this; simp at this
theorem DrawIsOneBlock_is (t : Bool) (b : List Int) (hb : Byt b) : MCall prog fid_spec_DrawIsOneBlock [.s t 1 (encB b)] DrW := by
  refine MCall.run mixed get_spec_DrawIsOneBlock ok_spec_DrawIsOneBlock (Nat.le_of_ble_eq_true rfl) (by decide) ?_
  unfold mc_spec_DrawIsOneBlock
  simp (maxSteps := 9999999) -implicitDefEqProofs only [go_sem, mwp_draw]
  refine callK_any (DrawIsSafeGraph_is _ b hb) ?_
  rintro o r ⟨rfl, n, es, rfl, w1, w2, w3⟩
  simp (maxSteps := 9999999) -implicitDefEqProofs only [go_sem, mwp_draw]
  exact ⟨rfl, n, es, rfl, w1, w2, w3⟩
theorem FnIsOneBlock_is (t : Bool) (b : List Int) (hb : Byt b) : Is prog fid_laws_FnIsOneBlock [.s t 1 (encB b)] (.b true) := by
  refine MCall.run mixed get_laws_FnIsOneBlock ok_laws_FnIsOneBlock (Nat.le_of_ble_eq_true rfl) (by decide) ?_
  unfold mc_laws_FnIsOneBlock
  by_cases hl : 1048576 < b.length
  · have c0 : ((1048576 : Int) < b.length) = True := eq_true (by omega)
    simp (maxSteps := 9999999) -implicitDefEqProofs only [go_sem, mwp_draw, c0]
  have c0 : ((1048576 : Int) < b.length) = False := eq_false (by omega)
  simp (maxSteps := 9999999) -implicitDefEqProofs only [go_sem, mwp_draw, c0]
  refine callK_any (DrawIsOneBlock_is _ b hb) ?_
  rintro o r ⟨rfl, n, es, rfl, w1, w2, w3⟩
  simp (maxSteps := 9999999) -implicitDefEqProofs only [go_sem, mwp_draw]
  have hO := fun u => IsOneBlock_is u n es (by omega)
  have hO' := fun u => IsOneBlockS_is u n es (by omega)
  have hG := fun u => GraphValid_is u n es (by omega)
  have hS := fun u => IsSafeGraph_is u n es (by omega)
  have hR := fun u => RoundChains_is u n es (by omega)
  have bi := fun h1 h2 => block_iff (n := n) (es := es) h1 h2
  have rl := rdL_len (L := chV n es) (i := (chV n es).length)
  generalize rdL (chV n es) (chV n es).length = R at *
  cases hg : gvB n es with
  | false =>
    rw [hg] at hG
    generalize oneB n es = w at *
    cases w
    all_goals
      refine callK_is (hO _) ?_
      simp (maxSteps := 9999999) -implicitDefEqProofs only [go_sem, mwp_draw]
      refine callK_is (hO' _) ?_
      simp (maxSteps := 9999999) -implicitDefEqProofs only [go_sem, mwp_draw, beq_true, beq_false]
      refine callK_is (hG _) ?_
      simp (maxSteps := 9999999) -implicitDefEqProofs only [go_sem, mwp_draw, beq_true, beq_false]
      refine callK_is (hO' _) ?_
      simp (maxSteps := 9999999) -implicitDefEqProofs only [go_sem, mwp_draw, beq_true, beq_false]
  | true =>
    rw [hg] at hG
    by_cases h3 : n < 3
    · have c1 := eq_true h3
      generalize oneB n es = w at *
      cases w
      all_goals
        refine callK_is (hO _) ?_
        simp (maxSteps := 9999999) -implicitDefEqProofs only [go_sem, mwp_draw]
        refine callK_is (hO' _) ?_
        simp (maxSteps := 9999999) -implicitDefEqProofs only [go_sem, mwp_draw, beq_true, beq_false]
        refine callK_is (hG _) ?_
        simp (maxSteps := 9999999) -implicitDefEqProofs only [go_sem, mwp_draw, beq_true, beq_false, c1]
        refine callK_is (hO' _) ?_
        simp (maxSteps := 9999999) -implicitDefEqProofs only [go_sem, mwp_draw, beq_true, beq_false]
    · have c1 := eq_false h3
      have bi' := bi hg (by omega)
      cases hw : safeB n es with
      | false =>
        rw [hw, Bool.false_and] at bi'
        rw [bi'] at hO hO'
        rw [hw] at hS
        refine callK_is (hO _) ?_
        simp (maxSteps := 9999999) -implicitDefEqProofs only [go_sem, mwp_draw]
        refine callK_is (hO' _) ?_
        simp (maxSteps := 9999999) -implicitDefEqProofs only [go_sem, mwp_draw, beq_true, beq_false]
        refine callK_is (hG _) ?_
        simp (maxSteps := 9999999) -implicitDefEqProofs only [go_sem, mwp_draw, beq_true, beq_false, c1]
        refine callK_is (hS _) ?_
        simp (maxSteps := 9999999) -implicitDefEqProofs only [go_sem, mwp_draw, beq_true, beq_false]
      | true =>
        rw [hw, Bool.true_and] at bi'
        rw [hw] at hS
        by_cases q : R.length = 1
        · rw [decide_eq_true q] at bi'
          rw [bi'] at hO hO'
          have c2 : ((R.length : Int) = 1) = True := eq_true (by omega)
          refine callK_is (hO _) ?_
          simp (maxSteps := 9999999) -implicitDefEqProofs only [go_sem, mwp_draw]
          refine callK_is (hO' _) ?_
          simp (maxSteps := 9999999) -implicitDefEqProofs only [go_sem, mwp_draw, beq_true, beq_false]
          refine callK_is (hG _) ?_
          simp (maxSteps := 9999999) -implicitDefEqProofs only [go_sem, mwp_draw, beq_true, beq_false, c1]
          refine callK_is (hS _) ?_
          simp (maxSteps := 9999999) -implicitDefEqProofs only [go_sem, mwp_draw, beq_true, beq_false]
          refine callK_is (hR _) ?_
          simp (maxSteps := 9999999) -implicitDefEqProofs only [go_sem, mwp_draw, beq_true, beq_false, c2]
        · rw [decide_eq_false q] at bi'
          rw [bi'] at hO hO'
          have c2 : ((R.length : Int) = 1) = False := eq_false (by omega)
          refine callK_is (hO _) ?_
          simp (maxSteps := 9999999) -implicitDefEqProofs only [go_sem, mwp_draw]
          refine callK_is (hO' _) ?_
          simp (maxSteps := 9999999) -implicitDefEqProofs only [go_sem, mwp_draw, beq_true, beq_false]
          refine callK_is (hG _) ?_
          simp (maxSteps := 9999999) -implicitDefEqProofs only [go_sem, mwp_draw, beq_true, beq_false, c1]
          refine callK_is (hS _) ?_
          simp (maxSteps := 9999999) -implicitDefEqProofs only [go_sem, mwp_draw, beq_true, beq_false]
          refine callK_is (hR _) ?_
          simp (maxSteps := 9999999) -implicitDefEqProofs only [go_sem, mwp_draw, beq_true, beq_false, c2]
theorem FnIsOneBlock_row (m : List (List D)) (h : ∀ r ∈ m, rowOK [.i .u8] r) (_ : m.length ≤ maxLen) : Is prog fid_laws_FnIsOneBlock [.s false 1 m] (.b true) := by
  obtain ⟨b, rfl, hb⟩ := rows_bytes h
  exact FnIsOneBlock_is _ b hb
end Go.Fw
