/-
  Graphs: the least node of each part.
-/
import Derived.Test.YtjklefjjmfpnoaaCtGv
import Derived.Test.YtjklefjjmfpnoaaPlG2
namespace Go.Fw
set_option linter.unusedSimpArgs false
set_option linter.unusedVariables false
set_option maxRecDepth 100000
set_option maxHeartbeats 4000000
open Go.Proofs.Try (prog)
open Go.Pl

/-- A graph whose edges are between its nodes. -/
def GE (n : Int) (es : List E) : Prop := 0 ≤ n ∧ n ≤ 16 ∧ es.length ≤ 1048576 ∧ ∀ e ∈ es, EIn n e
theorem GE_of {n : Int} {es : List E} (h : GV n es) : GE n es := ⟨by have := h.1; omega, h.2.1, by have := h.2.2.1; omega, h.2.2.2.1⟩
theorem parts_is (t : Bool) (n : Int) (es : List E) (hg : GE n es) : Is prog fid_impl_Graph_parts [Gr t n es] (.ow true 1 (encI (labL n es))) := by
  obtain ⟨g1, g2, g3, g4⟩ := hg
  refine MCall.run mixed get_impl_Graph_parts ok_impl_Graph_parts (Nat.le_of_ble_eq_true rfl) (by decide) ?_
  unfold mc_impl_Graph_parts
  simp (maxSteps := 9999999) -implicitDefEqProofs only [go_sem, mwp_draw]
  refine mwp_loopk (X := Nat) (fun i => ⟨[(1, .pr 0 0 0), (3, .sr 1 0 (ups i).length), (10, .i .i64 n), (11, .i .i64 i)], [(0, .box [.i .i64 n, .s t 2 (encE es)]), (1, .arr true 1 (encI (ups i)))], 2⟩)
    (fun i => (i : Int) ≤ n) (fun i => (n - i).toNat) 0 (by rfl) (by simp; omega) ?_
  rintro i h1 K kN kE kR
  have hul := ups_length i
  simp (maxSteps := 9999999) -implicitDefEqProofs only [go_sem, mwp_draw]
  refine ⟨fun h4 => ⟨by omega, fits64 (by omega) (by omega), kN _ (i + 1) (by rw [ups_succ]; simp; rfl) (by omega) (by omega)⟩, fun h4 => kE _ _ ?_⟩
  obtain rfl : n = i := by omega
  clear kN kE kR
  simp (maxSteps := 9999999) -implicitDefEqProofs only [go_sem, mwp_draw]
  refine mwp_loopk (X := Nat) (fun k => ⟨[(1, .pr 0 0 0), (3, .sr 1 0 i), (20, .i .i64 i), (21, .i .i64 k)], [(0, .box [.i .i64 i, .s t 2 (encE es)]), (1, .arr true 1 (encI (rounds es k (ups i))))], 2⟩)
    (fun k => k ≤ i) (fun k => i - k) 0 (by simp [hul]; rfl) (by simp) ?_
  rintro k h2 K kN kE kR
  have hrl : (rounds es k (ups i)).length = i := by rw [rounds_length, ups_length]
  simp (maxSteps := 9999999) -implicitDefEqProofs only [go_sem, mwp_draw]
  refine ⟨fun h4 => ?_, fun h4 => kE _ _ ?_⟩
  · refine mwp_loopk (X := Nat) (fun j => ⟨[(1, .pr 0 0 0), (3, .sr 1 0 i), (20, .i .i64 i), (21, .i .i64 k), (24, .s t 2 (encE es)), (25, .i .i64 es.length), (26, .i .i64 j)], [(0, .box [.i .i64 i, .s t 2 (encE es)]), (1, .arr true 1 (encI ((es.take j).foldl relax (rounds es k (ups i)))))], 2⟩)
      (fun j => j ≤ es.length) (fun j => es.length - j) 0 (by rfl) (by simp) ?_
    rintro j h5 L lN lE lR
    have hfl : ((es.take j).foldl relax (rounds es k (ups i))).length = i := by rw [foldl_relax_length, hrl]
    generalize hout : (es.take j).foldl relax (rounds es k (ups i)) = out at hfl
    simp (maxSteps := 9999999) -implicitDefEqProofs only [go_sem, mwp_draw]
    refine ⟨fun h6 => ⟨by omega, h6, fun e he => ?_⟩, fun h6 => lE _ _ ?_⟩
    · have hen := g4 e (List.mem_of_getElem? he)
      unfold EIn at hen
      have n1 : out[e.1.toNat]? = some (nth out e.1) := nth_some (by omega)
      have n2 : out[e.2.toNat]? = some (nth out e.2) := nth_some (by omega)
      simp only [n1, n2, Option.some.injEq, forall_eq']
      refine ⟨by omega, by omega, by omega, by omega, by omega, by omega, by kernel_rfl, ?_⟩
      simp (maxSteps := 9999999) -implicitDefEqProofs only [go_sem, mwp_draw]
      refine ⟨by omega, by omega, by omega, by omega, by omega, by omega, fun x hx => ⟨by kernel_rfl, fits64 (by omega) (by omega), ?_⟩⟩
      exact lN _ (j + 1) (by rw [foldl_snoc relax he, hout]; rfl) (by omega) (by omega)
    · simp (maxSteps := 9999999) -implicitDefEqProofs only [go_sem, mwp_draw]
      obtain rfl : j = es.length := by omega
      rw [List.take_length] at hout
      exact ⟨fits64 (by omega) (by omega), kN _ (k + 1) (by rw [← hout]; rfl) (by omega) (by omega)⟩
  · obtain rfl : k = i := by omega
    simp (maxSteps := 9999999) -implicitDefEqProofs only [go_sem, mwp_draw]
    rw [List.take_of_length_le (by omega)]
    exact ⟨by omega, by simp [labL]⟩
theorem l2Labels_is (t : Bool) (n : Int) (es : List E) (hg : GE n es) : Is prog fid_spec_l2Labels [Gr t n es] (.ow true 1 (encI (labL n es))) := by
  obtain ⟨g1, g2, g3, g4⟩ := hg
  refine MCall.run mixed get_spec_l2Labels ok_spec_l2Labels (Nat.le_of_ble_eq_true rfl) (by decide) ?_
  unfold mc_spec_l2Labels
  simp (maxSteps := 9999999) -implicitDefEqProofs only [go_sem, mwp_draw]
  refine mwp_loopk (X := Nat) (fun i => ⟨[(1, .pr 0 0 0), (3, .sr 1 0 (ups i).length), (4, .i .i64 i)], [(0, .box [.i .i64 n, .s t 2 (encE es)]), (1, .arr true 1 (encI (ups i)))], 2⟩)
    (fun i => (i : Int) ≤ n) (fun i => (n - i).toNat) 0 (by rfl) (by simp; omega) ?_
  rintro i h1 K kN kE kR
  have hul := ups_length i
  simp (maxSteps := 9999999) -implicitDefEqProofs only [go_sem, mwp_draw]
  refine ⟨fun h4 => ⟨by omega, fits64 (by omega) (by omega), kN _ (i + 1) (by rw [ups_succ]; simp; rfl) (by omega) (by omega)⟩, fun h4 => kE _ _ ?_⟩
  obtain rfl : n = i := by omega
  clear kN kE kR
  simp (maxSteps := 9999999) -implicitDefEqProofs only [go_sem, mwp_draw]
  refine mwp_loopk (X := Bool × List Int) (fun x => ⟨[(1, .pr 0 0 0), (3, .sr 1 0 i), (5, .b x.1)], [(0, .box [.i .i64 i, .s t 2 (encE es)]), (1, .arr true 1 (encI x.2))], 2⟩)
    (fun x => x.2.length = i ∧ (∀ y : Int, 0 ≤ y → y < i → Rch es y (nth x.2 y)) ∧ (∀ y : Int, 0 ≤ y → y < i → nth x.2 y ≤ y) ∧ (x.1 = false → ∀ e ∈ es, nth x.2 e.1 = nth x.2 e.2)) (fun x => 2 * sumN x.2 + x.1.toNat)
    (true, ups i) (by simp [hul]; rfl) ⟨hul, fun y a b => by rw [nth_ups a b]; exact .refl, fun y a b => by rw [nth_ups a b]; omega, by simp⟩ ?_
  rintro ⟨again, out0⟩ ⟨k1, k2, k3, k4⟩ K kN kE kR
  simp only at k1 k2 k3 k4
  cases again
  · simp (maxSteps := 9999999) -implicitDefEqProofs only [go_sem, mwp_draw]
    refine kE _ _ ?_
    simp (maxSteps := 9999999) -implicitDefEqProofs only [go_sem, mwp_draw]
    have hlab : IsLab i es out0 := IsLab.of_fix g4 k1 k2 k3 (k4 rfl)
    have h2 := labL_is (n := (i : Int)) (es := es) (by omega) g4
    rw [Int.toNat_natCast] at h2
    rw [hlab.unique h2, List.take_of_length_le (by rw [h2.len]; omega)]
    exact ⟨by rw [h2.len]; omega, rfl⟩
  · simp (maxSteps := 9999999) -implicitDefEqProofs only [go_sem, mwp_draw]
    refine mwp_loopk (X := Nat × Bool × List Int) (fun x => ⟨[(1, .pr 0 0 0), (3, .sr 1 0 i), (5, .b x.2.1), (6, .i .i64 x.1)], [(0, .box [.i .i64 i, .s t 2 (encE es)]), (1, .arr true 1 (encI x.2.2))], 2⟩)
      (fun x => x.1 ≤ es.length ∧ x.2.2 = (es.take x.1).foldl relax out0 ∧ (x.2.1 = false → x.2.2 = out0 ∧ ∀ e ∈ es.take x.1, nth out0 e.1 = nth out0 e.2) ∧ (x.2.1 = true → sumN x.2.2 < sumN out0)) (fun x => es.length - x.1)
      (0, false, out0) (by rfl) (by simp) ?_
    rintro ⟨j, ag, out⟩ ⟨m1, m2, m3, m4⟩ L lN lE lR
    simp only at m1 m2 m3 m4
    have hfl : out.length = i := by rw [m2, foldl_relax_length, k1]
    simp (maxSteps := 9999999) -implicitDefEqProofs only [go_sem, mwp_draw]
    refine ⟨fun h6 => ?_, fun h6 => lE _ _ ?_⟩
    · obtain ⟨e, he⟩ : ∃ e, es[j]? = some e := ⟨es[j], by simp⟩
      have hem := List.mem_of_getElem? he
      have hen := g4 e hem
      unfold EIn at hen
      have n1 : out[e.1.toNat]? = some (nth out e.1) := nth_some (by omega)
      have n2 : out[e.2.toNat]? = some (nth out e.2) := nth_some (by omega)
      have hfo : (es.take (j + 1)).foldl relax out0 = relax out e := by rw [foldl_snoc relax he, ← m2]
      have hle : sumN out ≤ sumN out0 := by
        cases ag
        · rw [(m3 rfl).1]; exact Nat.le_refl _
        · have := m4 rfl; omega
      have hge : 0 ≤ nth out e.1 ∧ 0 ≤ nth out e.2 := by
        have ho := roundL_own (n := i) (fs := es) (es := es.take j) (fun d hd => g4 d (List.mem_of_mem_take hd)) (fun d hd => List.mem_of_mem_take hd) k1 k2
        have e1 : roundL (es.take j) out0 = out := m2.symm
        rw [e1] at ho
        exact ⟨((ho e.1 (by omega) (by omega)).rng g4 (by omega)).1, ((ho e.2 (by omega) (by omega)).rng g4 (by omega)).1⟩
      simp only [he, n1, n2, Option.some.injEq, forall_eq']
      refine ⟨by omega, h6, by omega, by omega, by omega, by omega, h6, by omega, by omega, by omega, fun q => ?_, fun q => ⟨fun q2 => ?_, fun q2 => ?_⟩⟩
      · refine ⟨by omega, h6, by omega, by omega, by omega, ?_⟩
        have hlt := sumN_set_lt n2 hge.1 q
        exact ⟨fun q2 => by omega, fun _ => ⟨fits64 (by omega) (by omega), lN _ (j + 1, true, out.set e.2.toNat (nth out e.1)) (by rfl) ⟨by simp only; omega, by simp only; rw [hfo, relax_left (by omega) q], fun q3 => (by cases q3), fun _ => (by simp only; omega)⟩ (by simp only; omega)⟩⟩
      · refine ⟨by omega, h6, by omega, by omega, by omega, ?_⟩
        have hlt := sumN_set_lt n1 hge.2 q2
        exact ⟨fits64 (by omega) (by omega), lN _ (j + 1, true, out.set e.1.toNat (nth out e.2)) (by rfl) ⟨by simp only; omega, by simp only; rw [hfo, relax_right (by omega) (by omega) q2 (by omega)], fun q3 => (by cases q3), fun _ => (by simp only; omega)⟩ (by simp only; omega)⟩
      · have heq : nth out e.1 = nth out e.2 := by omega
        refine ⟨fits64 (by omega) (by omega), lN _ (j + 1, ag, out) (by rfl) ⟨by simp only; omega, by simp only; rw [hfo, relax_same (by omega) (by omega) heq], fun q3 => ⟨(m3 q3).1, fun d hd => ?_⟩, m4⟩ (by simp only; omega)⟩
        rw [take_snoc he] at hd
        rcases List.mem_append.1 hd with hd | hd
        · exact (m3 q3).2 d hd
        · simp at hd; subst hd; rw [← (m3 q3).1]; exact heq
    · simp (maxSteps := 9999999) -implicitDefEqProofs only [go_sem, mwp_draw]
      obtain rfl : j = es.length := by omega
      rw [List.take_length] at m2 m3
      have ho : out = roundL es out0 := m2
      refine kN _ (ag, out) (by rfl) ⟨hfl, ?_, ?_, fun q => ?_⟩ ?_
      · rw [ho]; exact roundL_own g4 (fun _ h => h) k1 k2
      · intro y a b
        rw [ho]
        exact Int.le_trans (roundL_le g4 a k1) (k3 y a b)
      · obtain ⟨e1, e2⟩ := m3 q
        simp only [e1]; exact e2
      · simp only
        cases ag
        · rw [(m3 rfl).1]; simp
        · have := m4 rfl; simp; omega
end Go.Fw
