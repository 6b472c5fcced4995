/-
  Cuts: the draw, the law of the other side.
-/
import Derived.Test.YtjklefjjmfpnoaaCtM
import Derived.Test.YtjklefjjmfpnoaaCtJ2
import Derived.Test.YtjklefjjmfpnoaaFyA
import Derived.Test.YtjklefjjmfpnoaaCf
namespace Go.Fw
set_option linter.unusedSimpArgs false
set_option linter.unusedVariables false
set_option maxRecDepth 100000
set_option maxHeartbeats 4000000
open Go.Proofs.Try (prog)
open Go.Pl

theorem l10Draw_is (c : List Int) (p : Int) (hb : Byt c) (hc : c.length ≤ 2000) (hp : 0 ≤ p ∧ p ≤ 1000000) :
    MCall prog fid_spec_l10Draw [.pw [.s true 1 (encB c), .i .i64 p]] (DrG c p 200 100 []) := by
  refine MCall.run mixed get_spec_l10Draw ok_spec_l10Draw (Nat.le_of_ble_eq_true rfl) (by decide) ?_
  unfold mc_spec_l10Draw
  simp (maxSteps := 9999999) -implicitDefEqProofs only [go_sem, mwp_draw]
  refine callK_det (num_is _ c p [5, 4, 6, 3, 7] hb hc (by omega) (by decide)) ?_
  have hm := num_mem (p := p) (l := [5, 4, 6, 3, 7]) hb hc (by omega) (by decide)
  generalize numM c p [5, 4, 6, 3, 7] = n at hm
  have hn : 3 ≤ n ∧ n ≤ 7 := by simp at hm; omega
  clear hm
  simp (maxSteps := 9999999) -implicitDefEqProofs only [go_sem, mwp_draw]
  refine callK_det (num_is _ c (p + 1) [9, 7, 12, 5, 3] hb hc (by omega) (by decide)) ?_
  have hm := num_mem (p := p + 1) (l := [9, 7, 12, 5, 3]) hb hc (by omega) (by decide)
  generalize numM c (p + 1) [9, 7, 12, 5, 3] = m0 at hm
  have hm0 : 0 ≤ m0 ∧ m0 ≤ 12 := by simp at hm; omega
  clear hm
  simp (maxSteps := 9999999) -implicitDefEqProofs only [go_sem, mwp_draw]
  refine mwp_loopk (X := Int × Int × List E) (fun x => ⟨[(0, .pr 0 0 0), (2, .pr 1 0 0), (3, .pr 2 0 0), (4, .i .i64 x.1)],
      match x.2.2 with
      | [] => [(0, .box [.s true 1 (encB c), .i .i64 x.2.1]), (1, .box [.i .i64 0, .nl 2]), (2, .box [.i .i64 n, .nl 2])]
      | _ :: _ => [(0, .box [.s true 1 (encB c), .i .i64 x.2.1]), (1, .box [.i .i64 0, .nl 2]), (2, .box [.i .i64 n, .sr 3 0 x.2.2.length]), (3, .arr true 2 (encE x.2.2))],
      match x.2.2 with | [] => 3 | _ :: _ => 4⟩)
    (fun x => 0 ≤ x.1 ∧ p + 2 ≤ x.2.1 ∧ x.2.1 + 2 * x.1 ≤ p + 100 ∧ x.2.2.length + x.1 ≤ 60) (fun x => x.1.toNat) (m0, p + 1 + 1, []) (by rfl) (by simp only [List.length_nil]; omega) ?_
  rintro ⟨m, q, fs⟩ ⟨g1, g2, g3, g4⟩ K kN kE kR
  simp only at g1 g2 g3 g4
  cases fs with
  | nil =>
    simp (maxSteps := 9999999) -implicitDefEqProofs only [go_sem, mwp_draw]
    refine ⟨fun d1 => ?_, fun d1 => kE _ _ ?_⟩
    · refine callK_det (pick_is c q n hb hc (by omega) (by omega)) ?_
      generalize pickM c q n = a
      simp (maxSteps := 9999999) -implicitDefEqProofs only [go_sem, mwp_draw]
      refine callK_det (pick_is c (q + 1) n hb hc (by omega) (by omega)) ?_
      generalize pickM c (q + 1) n = b
      have go : ∀ es' : List E, es'.length ≤ (([] : List E)).length + 1 → (0 ≤ m - 1 ∧ p + 2 ≤ q + 1 + 1 ∧ q + 1 + 1 + 2 * (m - 1) ≤ p + 100 ∧ es'.length + (m - 1) ≤ 60) := fun es' h => by
        simp only [List.length_cons, List.length_nil] at g4 h ⊢; omega
      by_cases ab : a = b
      · have b0 : (a = b) = True := eq_true ab
        simp (maxSteps := 9999999) -implicitDefEqProofs only [go_sem, mwp_draw, b0]
        exact ⟨by kernel_rfl, fits64 (by omega) (by omega), kN _ (m - 1, q + 1 + 1, ([] : List E)) (by rfl) (go (([] : List E)) (by omega)) (by simp only; omega)⟩
      · have b0 : (a = b) = False := eq_false ab
        simp (maxSteps := 9999999) -implicitDefEqProofs only [go_sem, mwp_draw, b0]
        refine callK_is (l1Edge_is a b) ?_
        simp (maxSteps := 9999999) -implicitDefEqProofs only [go_sem, mwp_draw, b0]
        refine callK_is (l1Find_is _ (([] : List E)) _ (by simp only [List.length_cons, List.length_nil] at g4 ⊢; omega)) ?_
        by_cases fd : idxE (([] : List E)) ((edgN a b).1, (edgN a b).2) < 0
        · simp (maxSteps := 9999999) -implicitDefEqProofs only [go_sem, mwp_draw, b0, fd]
          refine ⟨by kernel_rfl, callK_is (l1Edge_is a b) ?_⟩
          simp (maxSteps := 9999999) -implicitDefEqProofs only [go_sem, mwp_draw, b0]
          refine callK_is (l1Put_is _ (([] : List E)) _ (by simp only [List.length_cons, List.length_nil] at g4 ⊢; omega)) ?_
          obtain ⟨d', r', hd⟩ := putS_ne (([] : List E)) ((edgN a b).1, (edgN a b).2)
          have hlen := putS_len (([] : List E)) ((edgN a b).1, (edgN a b).2)
          rw [hd] at hlen ⊢
          simp (maxSteps := 9999999) -implicitDefEqProofs only [go_sem, mwp_draw]
          exact ⟨by kernel_rfl, fits64 (by omega) (by omega), kN _ (m - 1, q + 1 + 1, d' :: r') (by rfl) (go (d' :: r') (by omega)) (by simp only; omega)⟩
        · simp (maxSteps := 9999999) -implicitDefEqProofs only [go_sem, mwp_draw, b0, fd]
          exact ⟨by kernel_rfl, fits64 (by omega) (by omega), kN _ (m - 1, q + 1 + 1, ([] : List E)) (by rfl) (go (([] : List E)) (by omega)) (by simp only; omega)⟩
    · simp (maxSteps := 9999999) -implicitDefEqProofs only [go_sem, mwp_draw]
      exact ⟨q, n, ([] : List E), rfl, rfl, by omega, by omega, by omega, by omega, by simp only [List.length_cons, List.length_nil] at g4 ⊢; omega⟩
  | cons e2 r2 =>
    simp (maxSteps := 9999999) -implicitDefEqProofs only [go_sem, mwp_draw]
    refine ⟨fun d1 => ?_, fun d1 => kE _ _ ?_⟩
    · refine callK_det (pick_is c q n hb hc (by omega) (by omega)) ?_
      generalize pickM c q n = a
      simp (maxSteps := 9999999) -implicitDefEqProofs only [go_sem, mwp_draw]
      refine callK_det (pick_is c (q + 1) n hb hc (by omega) (by omega)) ?_
      generalize pickM c (q + 1) n = b
      have go : ∀ es' : List E, es'.length ≤ (e2 :: r2).length + 1 → (0 ≤ m - 1 ∧ p + 2 ≤ q + 1 + 1 ∧ q + 1 + 1 + 2 * (m - 1) ≤ p + 100 ∧ es'.length + (m - 1) ≤ 60) := fun es' h => by
        simp only [List.length_cons, List.length_nil] at g4 h ⊢; omega
      by_cases ab : a = b
      · have b0 : (a = b) = True := eq_true ab
        simp (maxSteps := 9999999) -implicitDefEqProofs only [go_sem, mwp_draw, b0]
        exact ⟨by kernel_rfl, fits64 (by omega) (by omega), kN _ (m - 1, q + 1 + 1, e2 :: r2) (by rfl) (go (e2 :: r2) (by omega)) (by simp only; omega)⟩
      · have b0 : (a = b) = False := eq_false ab
        simp (maxSteps := 9999999) -implicitDefEqProofs only [go_sem, mwp_draw, b0]
        refine callK_is (l1Edge_is a b) ?_
        simp (maxSteps := 9999999) -implicitDefEqProofs only [go_sem, mwp_draw, b0]
        refine callK_is (l1Find_is _ (e2 :: r2) _ (by simp only [List.length_cons, List.length_nil] at g4 ⊢; omega)) ?_
        by_cases fd : idxE (e2 :: r2) ((edgN a b).1, (edgN a b).2) < 0
        · simp (maxSteps := 9999999) -implicitDefEqProofs only [go_sem, mwp_draw, b0, fd]
          refine ⟨by kernel_rfl, callK_is (l1Edge_is a b) ?_⟩
          simp (maxSteps := 9999999) -implicitDefEqProofs only [go_sem, mwp_draw, b0]
          refine callK_is (l1Put_is _ (e2 :: r2) _ (by simp only [List.length_cons, List.length_nil] at g4 ⊢; omega)) ?_
          obtain ⟨d', r', hd⟩ := putS_ne (e2 :: r2) ((edgN a b).1, (edgN a b).2)
          have hlen := putS_len (e2 :: r2) ((edgN a b).1, (edgN a b).2)
          rw [hd] at hlen ⊢
          simp (maxSteps := 9999999) -implicitDefEqProofs only [go_sem, mwp_draw]
          exact ⟨by kernel_rfl, fits64 (by omega) (by omega), kN _ (m - 1, q + 1 + 1, d' :: r') (by rfl) (go (d' :: r') (by omega)) (by simp only; omega)⟩
        · simp (maxSteps := 9999999) -implicitDefEqProofs only [go_sem, mwp_draw, b0, fd]
          exact ⟨by kernel_rfl, fits64 (by omega) (by omega), kN _ (m - 1, q + 1 + 1, e2 :: r2) (by rfl) (go (e2 :: r2) (by omega)) (by simp only; omega)⟩
    · simp (maxSteps := 9999999) -implicitDefEqProofs only [go_sem, mwp_draw]
      exact ⟨q, n, e2 :: r2, rfl, rfl, by omega, by omega, by omega, by omega, by simp only [List.length_cons, List.length_nil] at g4 ⊢; omega⟩

/-- The other side. -/
def oth (l : List Int) (k : Nat) : List Int := ((List.range k).map fun (j : Nat) => (j : Int)).filter fun x => !decide (x ∈ l)
theorem oth_succ (l : List Int) (k : Nat) : oth l (k + 1) = if ((k : Int) ∈ l) then oth l k else oth l k ++ [(k : Int)] := by
  unfold oth
  rw [List.range_succ, List.map_append, List.filter_append]
  by_cases h : (k : Int) ∈ l <;> simp [h]
theorem oth_len (l : List Int) (k : Nat) : (oth l k).length ≤ k := by
  unfold oth; exact Nat.le_trans (List.length_filter_le _ _) (by simp)
theorem mem_oth {l : List Int} {k : Nat} {x : Int} : x ∈ oth l k ↔ (0 ≤ x ∧ x < k) ∧ x ∉ l := by
  simp only [oth, List.mem_filter, List.mem_map, List.mem_range, Bool.not_eq_true', decide_eq_false_iff_not]
  constructor
  · rintro ⟨⟨j, hj, rfl⟩, h⟩; exact ⟨by omega, h⟩
  · rintro ⟨h, h2⟩; exact ⟨⟨x.toNat, by omega, by omega⟩, h2⟩
theorem oth_nodup (l : List Int) (k : Nat) : (oth l k).Nodup := by
  unfold oth
  refine List.Nodup.sublist List.filter_sublist ?_
  rw [List.nodup_iff_pairwise_ne, List.pairwise_map]
  refine List.Pairwise.imp ?_ List.nodup_range
  intro a b h q; exact h (by omega)
theorem oth_ok {n : Int} {es : List E} {l : List Int} (h : sdB n es l = true) : sdB n es (oth l n.toNat) = true ∧ cszV n es (oth l n.toNat) = cszV n es l := by
  have h' := h
  simp only [sdB, Bool.and_eq_true, decide_eq_true_eq] at h'
  have hg := gvB_iff.1 h'.1
  have a : sdB n es (oth l n.toNat) = true := sdB_tt h'.1 ⟨fun x hx => by have := (mem_oth.1 hx).1; omega, oth_nodup l _⟩
  refine ⟨a, ?_⟩
  unfold cszV
  rw [a, h]
  simp only [if_true]
  have : es.filter (ovP (oth l n.toNat)) = es.filter (ovP l) := List.filter_congr fun e he => by
    have := hg.2.2.2.1 e he
    unfold EIn at this
    unfold ovP
    have m1 : e.1 ∈ oth l n.toNat ↔ ¬ e.1 ∈ l := by rw [mem_oth]; exact ⟨fun q => q.2, fun q => ⟨by omega, q⟩⟩
    have m2 : e.2 ∈ oth l n.toNat ↔ ¬ e.2 ∈ l := by rw [mem_oth]; exact ⟨fun q => q.2, fun q => ⟨by omega, q⟩⟩
    by_cases q1 : e.1 ∈ l <;> by_cases q2 : e.2 ∈ l <;> simp [m1, m2, q1, q2]
  rw [this]
theorem rows_bytes {rows : List (List D)} (h : ∀ r ∈ rows, rowOK [.i .u8] r) : ∃ b, rows = encB b ∧ Byt b := by
  obtain ⟨l, h1, h2⟩ := rows_int h
  exact ⟨l, h1, fun n hn => wf_u8 (h2 n hn)⟩
end Go.Fw
