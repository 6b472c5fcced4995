/-
  Rooted trees: the draws.
-/
import Derived.Test.YtbolckhedohecabCt12b
namespace Go.Fw
set_option linter.unusedSimpArgs false
set_option linter.unusedVariables false
set_option maxRecDepth 100000
set_option maxHeartbeats 4000000
open Go.Proofs.Try (prog)
open Go.Pl

theorem l12Draw_any (t : Bool) (b : List Int) (hb : Byt b) : MCall prog fid_spec_l12Draw [.s t 1 (encB b)]
    (fun o r => o = [.u] ∧ ∃ ps ws, r = .agg [.ow true 1 (encI ps), .ow true 1 (encI ws)] ∧ 1 ≤ ps.length ∧ ps.length ≤ 16 ∧ ws.length ≤ 16) := by
  refine MCall.run mixed get_spec_l12Draw ok_spec_l12Draw (Nat.le_of_ble_eq_true rfl) (by decide) ?_
  unfold mc_spec_l12Draw
  have hb' := byt_take hb 2000
  have hl' : (b.take 2000).length ≤ 2000 := by simp; omega
  simp (config := { maxSteps := 10000000, implicitDefEqProofs := false }) only [go_sem, ↓reduceIte, Nat.reduceAdd, Nat.reduceMul, Nat.reduceEqDiff, Nat.reduceSub, Nat.reduceLT, reduceCtorEq, Nat.reduceLeDiff, Nat.reduceBEq, mwp_draw]
  refine callK_is (l14Open_is b) ?_
  simp (config := { maxSteps := 10000000, implicitDefEqProofs := false }) only [go_sem, ↓reduceIte, Nat.reduceAdd, Nat.reduceMul, Nat.reduceEqDiff, Nat.reduceSub, Nat.reduceLT, reduceCtorEq, Nat.reduceLeDiff, Nat.reduceBEq, mwp_draw]
  refine callK_det (num_is _ _ _ [6, 5, 8, 4, 3, 10, 1] hb' hl' (by omega) (by decide)) ?_
  have m1 := num_mem (p := 0) (l := [6, 5, 8, 4, 3, 10, 1]) hb' hl' (by omega) (by decide)
  generalize numM (b.take 2000) 0 _ = n at m1
  have hn : 1 ≤ n ∧ n ≤ 10 := by simp at m1; omega
  generalize b.take 2000 = c at hb' hl'
  simp (config := { maxSteps := 10000000, implicitDefEqProofs := false }) only [go_sem, ↓reduceIte, Nat.reduceAdd, Nat.reduceMul, Nat.reduceEqDiff, Nat.reduceSub, Nat.reduceLT, reduceCtorEq, Nat.reduceLeDiff, Nat.reduceBEq, mwp_draw]
  refine mwp_loopk (X := Nat × Int × List Int × List Int)
    (fun x => ⟨[(2, .pr 0 0 0), (3, .pr 1 0 0), (4, .i .i64 n), (5, .pr 2 0 0), (6, .i .i64 x.1)],
      match x.1 with
      | 0 => [(0, .box [.nl 1, .nl 1]), (1, .box [.s false 1 (encB c), .i .i64 x.2.1]), (2, .box [.nl 1, .nl 1])]
      | _ + 1 => [(0, .box [.nl 1, .nl 1]), (1, .box [.s false 1 (encB c), .i .i64 x.2.1]), (2, .box [.sr 3 0 x.2.2.1.length, .sr 4 0 x.2.2.2.length]), (3, .arr true 1 (encI x.2.2.1)), (4, .arr true 1 (encI x.2.2.2))],
      match x.1 with | 0 => 3 | _ + 1 => 5⟩)
    (fun x => x.1 ≤ n ∧ x.2.2.1.length = x.1 ∧ x.2.2.2.length = x.1 ∧ 0 ≤ x.2.1 ∧ x.2.1 ≤ 1 + 10 * x.1) (fun x => (n - x.1).toNat) (0, 1, [], []) (by rfl) (by simp; omega) ?_
  rintro ⟨i, p, ps, ws⟩ ⟨h1, h2, h3, h4, h5⟩ K kN kE kR
  simp only at h1 h2 h3 h4 h5
  cases i with
  | zero =>
    simp (config := { maxSteps := 10000000, implicitDefEqProofs := false }) only [go_sem, ↓reduceIte, Nat.reduceAdd, Nat.reduceMul, Nat.reduceEqDiff, Nat.reduceSub, Nat.reduceLT, reduceCtorEq, Nat.reduceLeDiff, Nat.reduceBEq, mwp_draw]
    refine ⟨fun q => ⟨by omega, by omega, fun q' => absurd q' (by omega), fun _ => ⟨fits64 (by omega) (by omega), kN _ (1, p, [-1], [0]) (by rfl) ⟨by simp; omega, rfl, rfl, h4, by simp; omega⟩ (by simp; omega)⟩⟩, fun q => by omega⟩
  | succ i =>
    simp (config := { maxSteps := 10000000, implicitDefEqProofs := false }) only [go_sem, ↓reduceIte, Nat.reduceAdd, Nat.reduceMul, Nat.reduceEqDiff, Nat.reduceSub, Nat.reduceLT, reduceCtorEq, Nat.reduceLeDiff, Nat.reduceBEq, mwp_draw]
    refine ⟨fun q => ⟨by omega, by omega, fun _ => ?_, fun q' => absurd q' (by omega)⟩, fun q => kE _ _ ?_⟩
    · refine callK_det (pick_is c p 5 hb' hl' (by omega) (by omega)) ?_
      have hp1 := pick_rng (b := c) (p := p + 1) (i + 1 : Nat) hb' hl' (by omega)
      simp (config := { maxSteps := 10000000, implicitDefEqProofs := false }) only [go_sem, ↓reduceIte, Nat.reduceAdd, Nat.reduceMul, Nat.reduceEqDiff, Nat.reduceSub, Nat.reduceLT, reduceCtorEq, Nat.reduceLeDiff, Nat.reduceBEq, mwp_draw]
      refine ⟨fun q1 => ?_, fun q1 => ?_⟩
      · refine callK_det (pick_is c (p + 1) (i + 1 : Nat) hb' hl' (by omega) (by omega)) ?_
        simp (config := { maxSteps := 10000000, implicitDefEqProofs := false }) only [go_sem, ↓reduceIte, Nat.reduceAdd, Nat.reduceMul, Nat.reduceEqDiff, Nat.reduceSub, Nat.reduceLT, reduceCtorEq, Nat.reduceLeDiff, Nat.reduceBEq, mwp_draw]
        refine ⟨by omega, by omega, by omega, fun x hx => ⟨by kernel_rfl, ?_⟩⟩
        refine callK_det (num_is _ c (p + 1 + 1) [1, 5, 3, 0, 20] hb' hl' (by omega) (by decide)) ?_
        simp (config := { maxSteps := 10000000, implicitDefEqProofs := false }) only [go_sem, ↓reduceIte, Nat.reduceAdd, Nat.reduceMul, Nat.reduceEqDiff, Nat.reduceSub, Nat.reduceLT, reduceCtorEq, Nat.reduceLeDiff, Nat.reduceBEq, mwp_draw]
        refine ⟨by omega, by omega, by omega, fun y hy => ⟨by kernel_rfl, ?_⟩⟩
        refine ⟨fits64 (by omega) (by omega), kN _ (i + 1 + 1, p + 1 + 1 + 1, (ps ++ [-1]).set (i + 1) (pickM c (p + 1) (i + 1 : Nat)), (ws ++ [0]).set (i + 1) (numM c (p + 1 + 1) [1, 5, 3, 0, 20])) (by simp; rfl) ⟨by simp; omega, by simp; omega, by simp; omega, by simp; omega, by simp; omega⟩ (by simp; omega)⟩
      · refine ⟨fits64 (by omega) (by omega), kN _ (i + 1 + 1, p + 1, ps ++ [-1], ws ++ [0]) (by simp; rfl) ⟨by simp; omega, by simp; omega, by simp; omega, by simp; omega, by simp; omega⟩ (by simp; omega)⟩
    · clear kR kN
      simp (config := { maxSteps := 10000000, implicitDefEqProofs := false }) only [go_sem, ↓reduceIte, Nat.reduceAdd, Nat.reduceMul, Nat.reduceEqDiff, Nat.reduceSub, Nat.reduceLT, reduceCtorEq, Nat.reduceLeDiff, Nat.reduceBEq, mwp_draw]
      refine callK_det (pick_is c p 24 hb' hl' (by omega) (by omega)) ?_
      have hpn := pick_rng (b := c) (p := p + 1) n hb' hl' (by omega)
      have hpm := hpn.2 (by omega)
      simp (config := { maxSteps := 10000000, implicitDefEqProofs := false }) only [go_sem, ↓reduceIte, Nat.reduceAdd, Nat.reduceMul, Nat.reduceEqDiff, Nat.reduceSub, Nat.reduceLT, reduceCtorEq, Nat.reduceLeDiff, Nat.reduceBEq, mwp_draw]
      refine ⟨fun q1 => ?_, fun q1 => ⟨fun q2 => ?_, fun q2 => ⟨fun q3 => ?_, fun q3 => ?_⟩⟩⟩
      · refine callK_det (pick_is c (p + 1) n hb' hl' (by omega) (by omega)) ?_
        simp (config := { maxSteps := 10000000, implicitDefEqProofs := false }) only [go_sem, ↓reduceIte, Nat.reduceAdd, Nat.reduceMul, Nat.reduceEqDiff, Nat.reduceSub, Nat.reduceLT, reduceCtorEq, Nat.reduceLeDiff, Nat.reduceBEq, mwp_draw]
        refine ⟨fits64 (by omega) (by omega), callK_det (num_is _ c (p + 1 + 1) [-2, 0, 16, n - 1] hb' hl' (by omega) (by simp)) ?_⟩
        simp (config := { maxSteps := 10000000, implicitDefEqProofs := false }) only [go_sem, ↓reduceIte, Nat.reduceAdd, Nat.reduceMul, Nat.reduceEqDiff, Nat.reduceSub, Nat.reduceLT, reduceCtorEq, Nat.reduceLeDiff, Nat.reduceBEq, mwp_draw]
        exact ⟨by omega, by omega, by omega, fun x hx => ⟨by kernel_rfl, _, ws, rfl, by simp; omega, by simp; omega, by omega⟩⟩
      · refine callK_det (pick_is c (p + 1) n hb' hl' (by omega) (by omega)) ?_
        simp (config := { maxSteps := 10000000, implicitDefEqProofs := false }) only [go_sem, ↓reduceIte, Nat.reduceAdd, Nat.reduceMul, Nat.reduceEqDiff, Nat.reduceSub, Nat.reduceLT, reduceCtorEq, Nat.reduceLeDiff, Nat.reduceBEq, mwp_draw]
        refine callK_det (num_is _ c (p + 1 + 1) [-1, 1000, 1] hb' hl' (by omega) (by decide)) ?_
        simp (config := { maxSteps := 10000000, implicitDefEqProofs := false }) only [go_sem, ↓reduceIte, Nat.reduceAdd, Nat.reduceMul, Nat.reduceEqDiff, Nat.reduceSub, Nat.reduceLT, reduceCtorEq, Nat.reduceLeDiff, Nat.reduceBEq, mwp_draw]
        exact ⟨by omega, by omega, by omega, fun x hx => ⟨by kernel_rfl, ps, _, rfl, by omega, by omega, by simp; omega⟩⟩
      · exact ⟨fits64 (by omega) (by omega), by omega, by omega, by omega, by omega, ps, _, rfl, by omega, by omega, by simp; omega⟩
      · exact ⟨ps, ws, rfl, by omega, by omega, by omega⟩
end Go.Fw
