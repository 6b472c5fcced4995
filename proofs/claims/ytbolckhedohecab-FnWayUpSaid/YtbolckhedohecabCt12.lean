/-
  Rooted trees: the program's and the reference's functions.
-/
import Derived.Test.YtbolckhedohecabCtH
import Derived.Test.YtbolckhedohecabPlR
namespace Go.Fw
set_option linter.unusedSimpArgs false
set_option linter.unusedVariables false
set_option maxRecDepth 100000
set_option maxHeartbeats 4000000
open Go.Proofs.Try (prog)
open Go.Pl

abbrev Rt (t t' : Bool) (ps ws : List Int) : MV := .agg [.s t 1 (encI ps), .s t' 1 (encI ws)]
def wayL (ps : List Int) (node : Int) : List Int := if endsM ps ps.length node then upL ps ps.length node else []

theorem wayUp_is (t t' : Bool) (ps ws : List Int) (node : Int) (hp : Pts ps) (hn : -1 ≤ node ∧ node < ps.length) (hl : ps.length ≤ 1048576) :
    Is prog fid_impl_Rooted_wayUp [Rt t t' ps ws, .i .i64 node] (.tup [.ow true 1 (encI (wayL ps node)), .b (endsM ps ps.length node)]) := by
  refine MCall.run mixed get_impl_Rooted_wayUp ok_impl_Rooted_wayUp (Nat.le_of_ble_eq_true rfl) (by decide) ?_
  unfold mc_impl_Rooted_wayUp
  simp (config := { maxSteps := 10000000, implicitDefEqProofs := false }) only [go_sem, ↓reduceIte, Nat.reduceAdd, Nat.reduceMul, Nat.reduceEqDiff, Nat.reduceSub, Nat.reduceLT, reduceCtorEq, Nat.reduceLeDiff, Nat.reduceBEq, mwp_draw]
  refine mwp_loopk (X := Int × List Int) (fun x => ⟨[(1, .i .i64 x.1), (2, .pr 0 0 0), (6, .sr 1 0 x.2.length)], [(0, .box [.s t 1 (encI ps), .s t' 1 (encI ws)]), (1, .arr true 1 (encI x.2))], 2⟩)
    (fun x => -1 ≤ x.1 ∧ x.1 < ps.length ∧ x.2.length ≤ ps.length ∧ endsM ps (ps.length - x.2.length) x.1 = endsM ps ps.length node ∧ x.2 ++ upL ps (ps.length - x.2.length) x.1 = upL ps ps.length node) (fun x => ps.length - x.2.length) (node, []) (by rfl) ⟨hn.1, hn.2, by simp, rfl, rfl⟩ ?_
  rintro ⟨n, out⟩ ⟨h1, h2, h3, h4, h5⟩ K kN kE kR
  simp only at h1 h2 h3 h4 h5
  simp (config := { maxSteps := 10000000, implicitDefEqProofs := false }) only [go_sem, ↓reduceIte, Nat.reduceAdd, Nat.reduceMul, Nat.reduceEqDiff, Nat.reduceSub, Nat.reduceLT, reduceCtorEq, Nat.reduceLeDiff, Nat.reduceBEq, mwp_draw]
  refine ⟨fun p1 => ⟨fun p2 => kR _ ?_, fun p2 => ⟨by omega, by omega, by omega, fun x hx => ⟨by kernel_rfl, ?_⟩⟩⟩, fun p1 => kE _ _ ?_⟩
  · simp (config := { maxSteps := 10000000, implicitDefEqProofs := false }) only [go_sem, ↓reduceIte, Nat.reduceAdd, Nat.reduceMul, Nat.reduceEqDiff, Nat.reduceSub, Nat.reduceLT, reduceCtorEq, Nat.reduceLeDiff, Nat.reduceBEq, mwp_draw]
    rw [show ps.length - out.length = 0 by omega] at h4
    simp only [endsM] at h4
    have e : endsM ps ps.length node = false := by rw [← h4]; exact decide_eq_false (by omega)
    simp [wayL, e]
    rfl
  · have e1 : ps.length - out.length = (ps.length - (out.length + 1)) + 1 := by omega
    have e2 : par ps n = x := by simp [par, hx]
    rw [e1] at h4 h5
    simp only [endsM, upL, e2] at h4 h5
    rw [if_neg (by omega)] at h5
    have hx' := par_rng hp (a := n) (by omega)
    rw [e2] at hx'
    refine kN _ (x, out ++ [n]) (by simp; rfl) ⟨hx'.1, hx'.2, by simp; omega, ?_, ?_⟩ (by simp; omega)
    · simp only [List.length_append, List.length_cons, List.length_nil, Nat.zero_add]
      rw [← h4]; simp; omega
    · simp only [List.length_append, List.length_cons, List.length_nil, Nat.zero_add, List.append_assoc, List.cons_append, List.nil_append]
      exact h5
  · simp (config := { maxSteps := 10000000, implicitDefEqProofs := false }) only [go_sem, ↓reduceIte, Nat.reduceAdd, Nat.reduceMul, Nat.reduceEqDiff, Nat.reduceSub, Nat.reduceLT, reduceCtorEq, Nat.reduceLeDiff, Nat.reduceBEq, mwp_draw]
    have hneg : n < 0 := by omega
    have e : endsM ps ps.length node = true := by rw [← h4]; cases (ps.length - out.length) <;> simp [endsM, hneg]
    have e2 : out = upL ps ps.length node := by rw [← h5]; cases (ps.length - out.length) <;> simp [upL, hneg]
    simp [wayL, e, e2]

theorem RootedValid_is (t t' : Bool) (ps ws : List Int) (hl : ps.length ≤ 1048576) (hl' : ws.length ≤ 1048576) :
    Is prog fid_impl_RootedValid [Rt t t' ps ws] (.b (rootedOK ps ws)) := by
  refine MCall.run mixed get_impl_RootedValid ok_impl_RootedValid (Nat.le_of_ble_eq_true rfl) (by decide) ?_
  unfold mc_impl_RootedValid
  simp (config := { maxSteps := 10000000, implicitDefEqProofs := false }) only [go_sem, ↓reduceIte, Nat.reduceAdd, Nat.reduceMul, Nat.reduceEqDiff, Nat.reduceSub, Nat.reduceLT, reduceCtorEq, Nat.reduceLeDiff, Nat.reduceBEq, mwp_draw]
  have no : ¬ (1 ≤ ps.length ∧ ps.length ≤ 16 ∧ ws.length = ps.length) → MV.b false = MV.b (rootedOK ps ws) := fun h => by
    have : sizeOK ps ws = false := decide_eq_false h
    simp [rootedOK, this]
  refine ⟨fun p1 => ⟨fun p2 => ⟨fun p3 => no (by omega), fun p3 => ?_⟩, fun p2 => no (by omega)⟩, fun p1 => no (by omega)⟩
  have hsz : sizeOK ps ws = true := decide_eq_true (by omega)
  have noc : cellsOK ps ws ps.length = false → MV.b false = MV.b (rootedOK ps ws) := fun h => by simp [rootedOK, h]
  refine mwp_loopk (X := Nat) (fun i => ⟨[(1, .pr 0 0 0), (3, .i .i64 ps.length), (26, .s t 1 (encI ps)), (27, .i .i64 ps.length), (28, .i .i64 i)], [(0, .box [.s t 1 (encI ps), .s t' 1 (encI ws)])], 1⟩)
    (fun i => i ≤ ps.length ∧ cellsOK ps ws i = true) (fun i => ps.length - i) 0 (by rfl) ⟨Nat.zero_le _, rfl⟩ ?_
  rintro i ⟨h1, h2⟩ K kN kE kR
  simp (config := { maxSteps := 10000000, implicitDefEqProofs := false }) only [go_sem, ↓reduceIte, Nat.reduceAdd, Nat.reduceMul, Nat.reduceEqDiff, Nat.reduceSub, Nat.reduceLT, reduceCtorEq, Nat.reduceLeDiff, Nat.reduceBEq, mwp_draw]
  refine ⟨fun h3 => ⟨by omega, h3, fun x hx => ?_⟩, fun h3 => kE _ _ ?_⟩
  · have hi : i < ps.length := by omega
    obtain ⟨y, hy⟩ : ∃ y, ws[i]? = some y := ⟨ws[i], by simp⟩
    have bad : cellOK ps.length x y = false → ∀ nx, K .ret ⟨[(2, .b false)], [(0, .box [.s t 1 (encI ps), .s t' 1 (encI ws)])], nx⟩ := fun h nx => kR _ (by
      simp (config := { maxSteps := 10000000, implicitDefEqProofs := false }) only [go_sem, ↓reduceIte, Nat.reduceAdd, Nat.reduceMul, Nat.reduceEqDiff, Nat.reduceSub, Nat.reduceLT, reduceCtorEq, Nat.reduceLeDiff, Nat.reduceBEq, mwp_draw]
      exact noc (cellsOK_no hi (by simpa [hx, hy] using h)))
    have good : cellOK ps.length x y = true → ∀ nx, K .normal ⟨[(1, .pr 0 0 0), (3, .i .i64 ps.length), (26, .s t 1 (encI ps)), (27, .i .i64 ps.length), (28, .i .i64 (i + 1))], [(0, .box [.s t 1 (encI ps), .s t' 1 (encI ws)])], nx⟩ :=
      fun h nx => kN _ (i + 1) (by rfl) ⟨by omega, by simp only [cellsOK, h2, hx, hy, Option.getD_some, h, Bool.and_self]⟩ (by omega)
    simp only [hy, Option.some.injEq, forall_eq']
    repeat' (first | apply And.intro | intro _ | omega | exact fits64 (by omega) (by omega) | exact bad (decide_eq_false (by omega)) _ | exact good (decide_eq_true (by omega)) _)
  · obtain rfl : i = ps.length := by omega
    simp (config := { maxSteps := 10000000, implicitDefEqProofs := false }) only [go_sem, ↓reduceIte, Nat.reduceAdd, Nat.reduceMul, Nat.reduceEqDiff, Nat.reduceSub, Nat.reduceLT, reduceCtorEq, Nat.reduceLeDiff, Nat.reduceBEq, mwp_draw]
    have hp := pts_of h2
    refine mwp_loopk (X := Nat) (fun i => ⟨[(1, .pr 0 0 0), (71, .i .i64 ps.length), (72, .i .i64 i)], [(0, .box [.s t 1 (encI ps), .s t' 1 (encI ws)])], 1⟩)
      (fun i => i ≤ ps.length ∧ endsAll ps ps.length i = true) (fun i => ps.length - i) 0 (by rfl) ⟨Nat.zero_le _, rfl⟩ ?_
    rintro i ⟨h4, h5⟩ K kN kE kR
    simp (config := { maxSteps := 10000000, implicitDefEqProofs := false }) only [go_sem, ↓reduceIte, Nat.reduceAdd, Nat.reduceMul, Nat.reduceEqDiff, Nat.reduceSub, Nat.reduceLT, reduceCtorEq, Nat.reduceLeDiff, Nat.reduceBEq, mwp_draw]
    refine ⟨fun h6 => callK_is (wayUp_is _ _ ps ws i hp (by omega) hl) ?_, fun h6 => kE _ _ ?_⟩
    · cases h : endsM ps ps.length i
      · simp (config := { maxSteps := 10000000, implicitDefEqProofs := false }) only [go_sem, ↓reduceIte, Nat.reduceAdd, Nat.reduceMul, Nat.reduceEqDiff, Nat.reduceSub, Nat.reduceLT, reduceCtorEq, Nat.reduceLeDiff, Nat.reduceBEq, mwp_draw, h]
        refine kR _ ?_
        simp (config := { maxSteps := 10000000, implicitDefEqProofs := false }) only [go_sem, ↓reduceIte, Nat.reduceAdd, Nat.reduceMul, Nat.reduceEqDiff, Nat.reduceSub, Nat.reduceLT, reduceCtorEq, Nat.reduceLeDiff, Nat.reduceBEq, mwp_draw]
        simp [rootedOK, endsAll_no (show i < ps.length by omega) h]
      · simp (config := { maxSteps := 10000000, implicitDefEqProofs := false }) only [go_sem, ↓reduceIte, Nat.reduceAdd, Nat.reduceMul, Nat.reduceEqDiff, Nat.reduceSub, Nat.reduceLT, reduceCtorEq, Nat.reduceLeDiff, Nat.reduceBEq, mwp_draw, h]
        exact ⟨fits64 (by omega) (by omega), kN _ (i + 1) (by rfl) ⟨by omega, by simp [endsAll, h5, h]⟩ (by omega)⟩
    · obtain rfl : i = ps.length := by omega
      simp (config := { maxSteps := 10000000, implicitDefEqProofs := false }) only [go_sem, ↓reduceIte, Nat.reduceAdd, Nat.reduceMul, Nat.reduceEqDiff, Nat.reduceSub, Nat.reduceLT, reduceCtorEq, Nat.reduceLeDiff, Nat.reduceBEq, mwp_draw]
      simp [rootedOK, hsz, h2, h5]
theorem RootedValidS_is (t t' : Bool) (ps ws : List Int) (hl : ps.length ≤ 1048576) (hl' : ws.length ≤ 1048576) :
    Is prog fid_spec_RootedValid [Rt t t' ps ws] (.b (rootedOK ps ws)) := by
  refine MCall.run mixed get_spec_RootedValid ok_spec_RootedValid (Nat.le_of_ble_eq_true rfl) (by decide) ?_
  unfold mc_spec_RootedValid
  simp (config := { maxSteps := 10000000, implicitDefEqProofs := false }) only [go_sem, ↓reduceIte, Nat.reduceAdd, Nat.reduceMul, Nat.reduceEqDiff, Nat.reduceSub, Nat.reduceLT, reduceCtorEq, Nat.reduceLeDiff, Nat.reduceBEq, mwp_draw]
  have no : ¬ (1 ≤ ps.length ∧ ps.length ≤ 16 ∧ ws.length = ps.length) → MV.b false = MV.b (rootedOK ps ws) := fun h => by
    have : sizeOK ps ws = false := decide_eq_false h
    simp [rootedOK, this]
  refine ⟨fun p1 => ⟨fun p2 => ⟨fun p3 => no (by omega), fun p3 => ?_⟩, fun p2 => no (by omega)⟩, fun p1 => no (by omega)⟩
  have hsz : sizeOK ps ws = true := decide_eq_true (by omega)
  have noc : cellsOK ps ws ps.length = false → MV.b false = MV.b (rootedOK ps ws) := fun h => by simp [rootedOK, h]
  refine mwp_loopk (X := Nat) (fun i => ⟨[(1, .pr 0 0 0), (3, .i .i64 ps.length), (4, .i .i64 i)], [(0, .box [.s t 1 (encI ps), .s t' 1 (encI ws)])], 1⟩)
    (fun i => i ≤ ps.length ∧ cellsOK ps ws i = true) (fun i => ps.length - i) 0 (by rfl) ⟨Nat.zero_le _, rfl⟩ ?_
  rintro i ⟨h1, h2⟩ K kN kE kR
  simp (config := { maxSteps := 10000000, implicitDefEqProofs := false }) only [go_sem, ↓reduceIte, Nat.reduceAdd, Nat.reduceMul, Nat.reduceEqDiff, Nat.reduceSub, Nat.reduceLT, reduceCtorEq, Nat.reduceLeDiff, Nat.reduceBEq, mwp_draw]
  refine ⟨fun h3 => ?_, fun h3 => kE _ _ ?_⟩
  · have hi : i < ps.length := by omega
    obtain ⟨x, hx⟩ : ∃ x, ps[i]? = some x := ⟨ps[i], by simp⟩
    obtain ⟨y, hy⟩ : ∃ y, ws[i]? = some y := ⟨ws[i], by simp⟩
    have bad : cellOK ps.length x y = false → ∀ nx, K .ret ⟨[(2, .b false)], [(0, .box [.s t 1 (encI ps), .s t' 1 (encI ws)])], nx⟩ := fun h nx => kR _ (by
      simp (config := { maxSteps := 10000000, implicitDefEqProofs := false }) only [go_sem, ↓reduceIte, Nat.reduceAdd, Nat.reduceMul, Nat.reduceEqDiff, Nat.reduceSub, Nat.reduceLT, reduceCtorEq, Nat.reduceLeDiff, Nat.reduceBEq, mwp_draw]
      exact noc (cellsOK_no hi (by simpa [hx, hy] using h)))
    have good : cellOK ps.length x y = true → ∀ nx, K .normal ⟨[(1, .pr 0 0 0), (3, .i .i64 ps.length), (4, .i .i64 (i + 1))], [(0, .box [.s t 1 (encI ps), .s t' 1 (encI ws)])], nx⟩ :=
      fun h nx => kN _ (i + 1) (by rfl) ⟨by omega, by simp only [cellsOK, h2, hx, hy, Option.getD_some, h, Bool.and_self]⟩ (by omega)
    simp only [hx, hy, Option.some.injEq, forall_eq']
    repeat' (first | apply And.intro | intro _ | omega | exact fits64 (by omega) (by omega) | exact bad (decide_eq_false (by omega)) _ | exact good (decide_eq_true (by omega)) _)
  · obtain rfl : i = ps.length := by omega
    simp (config := { maxSteps := 10000000, implicitDefEqProofs := false }) only [go_sem, ↓reduceIte, Nat.reduceAdd, Nat.reduceMul, Nat.reduceEqDiff, Nat.reduceSub, Nat.reduceLT, reduceCtorEq, Nat.reduceLeDiff, Nat.reduceBEq, mwp_draw]
    have hp := pts_of h2
    refine mwp_loopk (X := Nat) (fun i => ⟨[(1, .pr 0 0 0), (3, .i .i64 ps.length), (5, .i .i64 i)], [(0, .box [.s t 1 (encI ps), .s t' 1 (encI ws)])], 1⟩)
      (fun i => i ≤ ps.length ∧ endsAll ps (ps.length + 1) i = true) (fun i => ps.length - i) 0 (by rfl) ⟨Nat.zero_le _, rfl⟩ ?_
    rintro i ⟨h4, h5⟩ K kN kE kR
    simp (config := { maxSteps := 10000000, implicitDefEqProofs := false }) only [go_sem, ↓reduceIte, Nat.reduceAdd, Nat.reduceMul, Nat.reduceEqDiff, Nat.reduceSub, Nat.reduceLT, reduceCtorEq, Nat.reduceLeDiff, Nat.reduceBEq, mwp_draw]
    refine ⟨fun h6 => ?_, fun h6 => kE _ _ ?_⟩
    · refine mwp_loopk (X := Nat × Int) (fun x => ⟨[(1, .pr 0 0 0), (3, .i .i64 ps.length), (5, .i .i64 i), (6, .i .i64 x.2), (7, .i .i64 x.1)], [(0, .box [.s t 1 (encI ps), .s t' 1 (encI ws)])], 1⟩)
        (fun x => x.1 ≤ ps.length + 1 ∧ -1 ≤ x.2 ∧ x.2 < ps.length ∧ endsM ps (ps.length + 1 - x.1) x.2 = endsM ps (ps.length + 1) i) (fun x => ps.length + 1 - x.1) (0, (i : Int)) (by rfl) ⟨Nat.zero_le _, by show (-1 : Int) ≤ i; omega, h6, rfl⟩ ?_
      rintro ⟨k, at'⟩ ⟨h7, h8, h9, h10⟩ L lN lE lR
      simp only at h7 h8 h9 h10
      simp (config := { maxSteps := 10000000, implicitDefEqProofs := false }) only [go_sem, ↓reduceIte, Nat.reduceAdd, Nat.reduceMul, Nat.reduceEqDiff, Nat.reduceSub, Nat.reduceLT, reduceCtorEq, Nat.reduceLeDiff, Nat.reduceBEq, mwp_draw]
      have fin : endsM ps (ps.length + 1) i = decide (at' < 0) → L (.exit 4) ⟨[(88, .b false), (1, .pr 0 0 0), (3, .i .i64 ps.length), (5, .i .i64 i), (6, .i .i64 at'), (7, .i .i64 k)], [(0, .box [.s t 1 (encI ps), .s t' 1 (encI ws)])], 449⟩ := fun hk => lE _ _ (by
        simp (config := { maxSteps := 10000000, implicitDefEqProofs := false }) only [go_sem, ↓reduceIte, Nat.reduceAdd, Nat.reduceMul, Nat.reduceEqDiff, Nat.reduceSub, Nat.reduceLT, reduceCtorEq, Nat.reduceLeDiff, Nat.reduceBEq, mwp_draw]
        refine ⟨fun q => kR _ ?_, fun q => ⟨fits64 (by omega) (by omega), kN _ (i + 1) (by rfl) ⟨by omega, ?_⟩ (by omega)⟩⟩
        · simp (config := { maxSteps := 10000000, implicitDefEqProofs := false }) only [go_sem, ↓reduceIte, Nat.reduceAdd, Nat.reduceMul, Nat.reduceEqDiff, Nat.reduceSub, Nat.reduceLT, reduceCtorEq, Nat.reduceLeDiff, Nat.reduceBEq, mwp_draw]
          have e : endsM ps (ps.length + 1) i = false := by rw [hk]; exact decide_eq_false (by omega)
          have e2 : endsM ps ps.length i = false := by
            cases h : endsM ps ps.length i with
            | false => rfl
            | true => rw [ends_mono (by omega) h] at e; cases e
          simp [rootedOK, endsAll_no (show i < ps.length by omega) e2]
        · have e : endsM ps (ps.length + 1) i = true := by rw [hk]; exact decide_eq_true (by omega)
          simp [endsAll, h5, e])
      refine ⟨fun q => ⟨fun q2 => ⟨q2, h9, fun x hx => ⟨fits64 (by omega) (by omega), ?_⟩⟩, fun q2 => fin ?_⟩, fun q => fin ?_⟩
      · have e1 : ps.length + 1 - k = (ps.length + 1 - (k + 1)) + 1 := by omega
        have e2 : par ps at' = x := by simp [par, hx]
        have hx' := par_rng hp (a := at') (by omega)
        rw [e2] at hx'
        refine lN _ (k + 1, x) (by rfl) ⟨by omega, hx'.1, hx'.2, ?_⟩ (by simp only; omega)
        rw [e1, show endsM ps (ps.length + 1 - (k + 1) + 1) at' = (decide (at' < 0) || endsM ps (ps.length + 1 - (k + 1)) (par ps at')) from rfl, e2, decide_eq_false (show ¬ at' < 0 by omega), Bool.false_or] at h10
        exact h10
      · rw [← h10]
        have hneg : at' < 0 := by omega
        cases (ps.length + 1 - k) <;> simp [endsM, hneg]
      · rw [← h10, show ps.length + 1 - k = 0 by omega]
        rfl
    · obtain rfl : i = ps.length := by omega
      simp (config := { maxSteps := 10000000, implicitDefEqProofs := false }) only [go_sem, ↓reduceIte, Nat.reduceAdd, Nat.reduceMul, Nat.reduceEqDiff, Nat.reduceSub, Nat.reduceLT, reduceCtorEq, Nat.reduceLeDiff, Nat.reduceBEq, mwp_draw]
      rw [endsAll_succ h2 _ (Nat.le_refl _)] at h5
      simp [rootedOK, hsz, h2, h5]

theorem upL_ne {ps : List Int} {a : Int} (h : 0 ≤ a) {f : Nat} (hf : 0 < f) : upL ps f a ≠ [] := by
  cases f with
  | zero => omega
  | succ f => simp only [upL]; rw [if_neg (by omega)]; simp

theorem l12Up_is (t t' : Bool) (ps ws : List Int) (node : Int) (hp : Pts ps) (hn : -1 ≤ node ∧ node < ps.length) (hl : ps.length ≤ 1048576) (he : endsM ps ps.length node = true) :
    Is prog fid_spec_l12Up [Rt t t' ps ws, .i .i64 node] (.ow true 1 (encI (wayL ps node))) := by
  refine MCall.run mixed get_spec_l12Up ok_spec_l12Up (Nat.le_of_ble_eq_true rfl) (by decide) ?_
  unfold mc_spec_l12Up
  simp (config := { maxSteps := 10000000, implicitDefEqProofs := false }) only [go_sem, ↓reduceIte, Nat.reduceAdd, Nat.reduceMul, Nat.reduceEqDiff, Nat.reduceSub, Nat.reduceLT, reduceCtorEq, Nat.reduceLeDiff, Nat.reduceBEq, mwp_draw]
  refine mwp_loopk (X := Int × List Int × Nat) (fun x => ⟨[(2, .pr 0 0 0), (5, .sr 1 0 x.2.1.length), (6, .i .i64 x.1)], [(0, .box [.s t 1 (encI ps), .s t' 1 (encI ws)]), (1, .arr true 1 (encI x.2.1))], 2⟩)
    (fun x => -1 ≤ x.1 ∧ x.1 < ps.length ∧ x.2.1.length + x.2.2 = ps.length ∧ endsM ps x.2.2 x.1 = true ∧ x.2.1 ++ upL ps x.2.2 x.1 = upL ps ps.length node) (fun x => x.2.2) (node, [], ps.length) (by rfl) ⟨hn.1, hn.2, by simp, he, rfl⟩ ?_
  rintro ⟨n, out, f⟩ ⟨h1, h2, h3, h4, h5⟩ K kN kE kR
  simp only at h1 h2 h3 h4 h5
  simp (config := { maxSteps := 10000000, implicitDefEqProofs := false }) only [go_sem, ↓reduceIte, Nat.reduceAdd, Nat.reduceMul, Nat.reduceEqDiff, Nat.reduceSub, Nat.reduceLT, reduceCtorEq, Nat.reduceLeDiff, Nat.reduceBEq, mwp_draw]
  refine ⟨fun p1 => ?_, fun p1 => kE _ _ ?_⟩
  · cases f with
    | zero => simp [endsM] at h4; omega
    | succ f =>
      refine ⟨by omega, p1, h2, fun x hx => ?_⟩
      have e2 : par ps n = x := by simp [par, hx]
      have hx' := par_rng hp (a := n) (by omega)
      rw [e2] at hx'
      simp only [endsM, upL, e2, decide_eq_false (show ¬ n < 0 by omega), Bool.false_or] at h4 h5
      rw [if_neg (by omega)] at h5
      exact kN _ (x, out ++ [n], f) (by simp; rfl) ⟨hx'.1, hx'.2, by simp; omega, h4, by simpa using h5⟩ (by simp)
  · simp (config := { maxSteps := 10000000, implicitDefEqProofs := false }) only [go_sem, ↓reduceIte, Nat.reduceAdd, Nat.reduceMul, Nat.reduceEqDiff, Nat.reduceSub, Nat.reduceLT, reduceCtorEq, Nat.reduceLeDiff, Nat.reduceBEq, mwp_draw]
    have hneg : n < 0 := by omega
    have e2 : out = upL ps ps.length node := by rw [← h5]; cases f <;> simp [upL, hneg]
    simp [wayL, he, e2]

/-- A node of valid rooted trees. -/
def nodeOK (ps ws : List Int) (node : Int) : Bool := rootedOK ps ws && decide (0 ≤ node) && decide (node < ps.length)
theorem nodeOK_get {ps ws : List Int} {node : Int} (h : nodeOK ps ws node = true) : Pts ps ∧ ws.length = ps.length ∧ 0 ≤ node ∧ node < ps.length ∧ ps.length ≤ 16 ∧ endsM ps ps.length node = true := by
  simp only [nodeOK, rootedOK, sizeOK, Bool.and_eq_true, decide_eq_true_eq] at h
  obtain ⟨⟨⟨⟨h1, h2⟩, h3⟩, h4⟩, h5⟩ := h
  refine ⟨pts_of h2, h1.2.2, h4, h5, h1.2.1, ?_⟩
  have := endsAll_get h3 (show node.toNat < ps.length by omega)
  rwa [show ((node.toNat : Nat) : Int) = node by omega] at this

theorem hasNode_is (t t' : Bool) (ps ws : List Int) (node : Int) (hl : ps.length ≤ 1048576) (hl' : ws.length ≤ 1048576) :
    Is prog fid_impl_Rooted_hasNode [Rt t t' ps ws, .i .i64 node] (.b (nodeOK ps ws node)) := by
  refine MCall.run mixed get_impl_Rooted_hasNode ok_impl_Rooted_hasNode (Nat.le_of_ble_eq_true rfl) (by decide) ?_
  unfold mc_impl_Rooted_hasNode
  simp (config := { maxSteps := 10000000, implicitDefEqProofs := false }) only [go_sem, ↓reduceIte, Nat.reduceAdd, Nat.reduceMul, Nat.reduceEqDiff, Nat.reduceSub, Nat.reduceLT, reduceCtorEq, Nat.reduceLeDiff, Nat.reduceBEq, mwp_draw]
  refine callK_is (RootedValid_is _ _ ps ws hl hl') ?_
  cases h : rootedOK ps ws
  · simp (config := { maxSteps := 10000000, implicitDefEqProofs := false }) only [go_sem, ↓reduceIte, Nat.reduceAdd, Nat.reduceMul, Nat.reduceEqDiff, Nat.reduceSub, Nat.reduceLT, reduceCtorEq, Nat.reduceLeDiff, Nat.reduceBEq, mwp_draw]
    simp [nodeOK, h]
  · simp (config := { maxSteps := 10000000, implicitDefEqProofs := false }) only [go_sem, ↓reduceIte, Nat.reduceAdd, Nat.reduceMul, Nat.reduceEqDiff, Nat.reduceSub, Nat.reduceLT, reduceCtorEq, Nat.reduceLeDiff, Nat.reduceBEq, mwp_draw]
    refine ⟨fun p1 => mvb ?_, fun p1 => mvb ?_⟩ <;> simp [nodeOK, h, p1]
theorem l12Node_is (t t' : Bool) (ps ws : List Int) (node : Int) (hl : ps.length ≤ 1048576) (hl' : ws.length ≤ 1048576) :
    Is prog fid_spec_l12Node [Rt t t' ps ws, .i .i64 node] (.b (nodeOK ps ws node)) := by
  refine MCall.run mixed get_spec_l12Node ok_spec_l12Node (Nat.le_of_ble_eq_true rfl) (by decide) ?_
  unfold mc_spec_l12Node
  simp (config := { maxSteps := 10000000, implicitDefEqProofs := false }) only [go_sem, ↓reduceIte, Nat.reduceAdd, Nat.reduceMul, Nat.reduceEqDiff, Nat.reduceSub, Nat.reduceLT, reduceCtorEq, Nat.reduceLeDiff, Nat.reduceBEq, mwp_draw]
  refine callK_is (RootedValidS_is _ _ ps ws hl hl') ?_
  cases h : rootedOK ps ws
  · simp (config := { maxSteps := 10000000, implicitDefEqProofs := false }) only [go_sem, ↓reduceIte, Nat.reduceAdd, Nat.reduceMul, Nat.reduceEqDiff, Nat.reduceSub, Nat.reduceLT, reduceCtorEq, Nat.reduceLeDiff, Nat.reduceBEq, mwp_draw]
    simp [nodeOK, h]
  · simp (config := { maxSteps := 10000000, implicitDefEqProofs := false }) only [go_sem, ↓reduceIte, Nat.reduceAdd, Nat.reduceMul, Nat.reduceEqDiff, Nat.reduceSub, Nat.reduceLT, reduceCtorEq, Nat.reduceLeDiff, Nat.reduceBEq, mwp_draw]
    refine ⟨fun p1 => mvb ?_, fun p1 => mvb ?_⟩ <;> simp [nodeOK, h, p1]

/-- The way up, the root. -/
def wayN (ps ws : List Int) (node : Int) : List Int := if nodeOK ps ws node then wayL ps node else []
def rootN (ps ws : List Int) (node : Int) : Int := if nodeOK ps ws node then (wayL ps node).getLast?.getD 0 else 0
theorem wayL_ne {ps ws : List Int} {node : Int} (h : nodeOK ps ws node = true) : wayL ps node ≠ [] ∧ (wayL ps node).length ≤ 16 := by
  obtain ⟨h1, h2, h3, h4, h5, h6⟩ := nodeOK_get h
  simp only [wayL, h6, if_true]
  have := upL_length ps ps.length node
  exact ⟨upL_ne h3 (by omega), by omega⟩
theorem last_get {l : List Int} (h : l ≠ []) : l[l.length - 1]? = some (l.getLast?.getD 0) := by
  rw [List.getLast?_eq_getElem?]
  have : l.length - 1 < l.length := by have := List.length_pos_iff.2 h; omega
  simp [this]

theorem WayUp_is (t t' : Bool) (ps ws : List Int) (node : Int) (hl : ps.length ≤ 1048576) (hl' : ws.length ≤ 1048576) :
    Is prog fid_impl_WayUp [Rt t t' ps ws, .i .i64 node] (.tup [.ow true 1 (encI (wayN ps ws node)), .b (nodeOK ps ws node)]) := by
  refine MCall.run mixed get_impl_WayUp ok_impl_WayUp (Nat.le_of_ble_eq_true rfl) (by decide) ?_
  unfold mc_impl_WayUp
  simp (config := { maxSteps := 10000000, implicitDefEqProofs := false }) only [go_sem, ↓reduceIte, Nat.reduceAdd, Nat.reduceMul, Nat.reduceEqDiff, Nat.reduceSub, Nat.reduceLT, reduceCtorEq, Nat.reduceLeDiff, Nat.reduceBEq, mwp_draw]
  refine callK_is (hasNode_is _ _ ps ws node hl hl') ?_
  cases h : nodeOK ps ws node
  · simp (config := { maxSteps := 10000000, implicitDefEqProofs := false }) only [go_sem, ↓reduceIte, Nat.reduceAdd, Nat.reduceMul, Nat.reduceEqDiff, Nat.reduceSub, Nat.reduceLT, reduceCtorEq, Nat.reduceLeDiff, Nat.reduceBEq, mwp_draw]
    simp [wayN, h, encI]
  · simp (config := { maxSteps := 10000000, implicitDefEqProofs := false }) only [go_sem, ↓reduceIte, Nat.reduceAdd, Nat.reduceMul, Nat.reduceEqDiff, Nat.reduceSub, Nat.reduceLT, reduceCtorEq, Nat.reduceLeDiff, Nat.reduceBEq, mwp_draw]
    obtain ⟨h1, h2, h3, h4, h5, h6⟩ := nodeOK_get h
    refine callK_is (wayUp_is _ _ ps ws node h1 (by omega) hl) ?_
    simp (config := { maxSteps := 10000000, implicitDefEqProofs := false }) only [go_sem, ↓reduceIte, Nat.reduceAdd, Nat.reduceMul, Nat.reduceEqDiff, Nat.reduceSub, Nat.reduceLT, reduceCtorEq, Nat.reduceLeDiff, Nat.reduceBEq, mwp_draw]
    simp [wayN, h, h6]
theorem WayUpS_is (t t' : Bool) (ps ws : List Int) (node : Int) (hl : ps.length ≤ 1048576) (hl' : ws.length ≤ 1048576) :
    Is prog fid_spec_WayUp [Rt t t' ps ws, .i .i64 node] (.tup [.ow true 1 (encI (wayN ps ws node)), .b (nodeOK ps ws node)]) := by
  refine MCall.run mixed get_spec_WayUp ok_spec_WayUp (Nat.le_of_ble_eq_true rfl) (by decide) ?_
  unfold mc_spec_WayUp
  simp (config := { maxSteps := 10000000, implicitDefEqProofs := false }) only [go_sem, ↓reduceIte, Nat.reduceAdd, Nat.reduceMul, Nat.reduceEqDiff, Nat.reduceSub, Nat.reduceLT, reduceCtorEq, Nat.reduceLeDiff, Nat.reduceBEq, mwp_draw]
  refine callK_is (l12Node_is _ _ ps ws node hl hl') ?_
  cases h : nodeOK ps ws node
  · simp (config := { maxSteps := 10000000, implicitDefEqProofs := false }) only [go_sem, ↓reduceIte, Nat.reduceAdd, Nat.reduceMul, Nat.reduceEqDiff, Nat.reduceSub, Nat.reduceLT, reduceCtorEq, Nat.reduceLeDiff, Nat.reduceBEq, mwp_draw]
    simp [wayN, h, encI]
  · simp (config := { maxSteps := 10000000, implicitDefEqProofs := false }) only [go_sem, ↓reduceIte, Nat.reduceAdd, Nat.reduceMul, Nat.reduceEqDiff, Nat.reduceSub, Nat.reduceLT, reduceCtorEq, Nat.reduceLeDiff, Nat.reduceBEq, mwp_draw]
    obtain ⟨h1, h2, h3, h4, h5, h6⟩ := nodeOK_get h
    refine callK_is (l12Up_is _ _ ps ws node h1 (by omega) hl h6) ?_
    simp (config := { maxSteps := 10000000, implicitDefEqProofs := false }) only [go_sem, ↓reduceIte, Nat.reduceAdd, Nat.reduceMul, Nat.reduceEqDiff, Nat.reduceSub, Nat.reduceLT, reduceCtorEq, Nat.reduceLeDiff, Nat.reduceBEq, mwp_draw]
    simp [wayN, h]
theorem root_is (t t' : Bool) (ps ws : List Int) (node : Int) (hl : ps.length ≤ 1048576) (h : nodeOK ps ws node = true) :
    Is prog fid_impl_Rooted_root [Rt t t' ps ws, .i .i64 node] (.i .i64 (rootN ps ws node)) := by
  refine MCall.run mixed get_impl_Rooted_root ok_impl_Rooted_root (Nat.le_of_ble_eq_true rfl) (by decide) ?_
  unfold mc_impl_Rooted_root
  simp (config := { maxSteps := 10000000, implicitDefEqProofs := false }) only [go_sem, ↓reduceIte, Nat.reduceAdd, Nat.reduceMul, Nat.reduceEqDiff, Nat.reduceSub, Nat.reduceLT, reduceCtorEq, Nat.reduceLeDiff, Nat.reduceBEq, mwp_draw]
  obtain ⟨h1, h2, h3, h4, h5, h6⟩ := nodeOK_get h
  obtain ⟨g1, g2⟩ := wayL_ne h
  have g3 := List.length_pos_iff.2 g1
  refine callK_is (wayUp_is _ _ ps ws node h1 (by omega) hl) ?_
  simp (config := { maxSteps := 10000000, implicitDefEqProofs := false }) only [go_sem, ↓reduceIte, Nat.reduceAdd, Nat.reduceMul, Nat.reduceEqDiff, Nat.reduceSub, Nat.reduceLT, reduceCtorEq, Nat.reduceLeDiff, Nat.reduceBEq, mwp_draw]
  have e : ((wayL ps node).length - 1 : Int).toNat = (wayL ps node).length - 1 := by omega
  refine ⟨fits64 (by omega) (by omega), by omega, by omega, by omega, fun x hx => ?_⟩
  rw [e, last_get g1] at hx
  cases hx
  simp [rootN, h]
theorem RootOf_is (t t' : Bool) (ps ws : List Int) (node : Int) (hl : ps.length ≤ 1048576) (hl' : ws.length ≤ 1048576) :
    Is prog fid_impl_RootOf [Rt t t' ps ws, .i .i64 node] (.tup [.i .i64 (rootN ps ws node), .b (nodeOK ps ws node)]) := by
  refine MCall.run mixed get_impl_RootOf ok_impl_RootOf (Nat.le_of_ble_eq_true rfl) (by decide) ?_
  unfold mc_impl_RootOf
  simp (config := { maxSteps := 10000000, implicitDefEqProofs := false }) only [go_sem, ↓reduceIte, Nat.reduceAdd, Nat.reduceMul, Nat.reduceEqDiff, Nat.reduceSub, Nat.reduceLT, reduceCtorEq, Nat.reduceLeDiff, Nat.reduceBEq, mwp_draw]
  refine callK_is (hasNode_is _ _ ps ws node hl hl') ?_
  cases h : nodeOK ps ws node
  · simp (config := { maxSteps := 10000000, implicitDefEqProofs := false }) only [go_sem, ↓reduceIte, Nat.reduceAdd, Nat.reduceMul, Nat.reduceEqDiff, Nat.reduceSub, Nat.reduceLT, reduceCtorEq, Nat.reduceLeDiff, Nat.reduceBEq, mwp_draw]
    simp [rootN, h]
  · simp (config := { maxSteps := 10000000, implicitDefEqProofs := false }) only [go_sem, ↓reduceIte, Nat.reduceAdd, Nat.reduceMul, Nat.reduceEqDiff, Nat.reduceSub, Nat.reduceLT, reduceCtorEq, Nat.reduceLeDiff, Nat.reduceBEq, mwp_draw]
    refine callK_is (root_is _ _ ps ws node hl h) ?_
    simp (config := { maxSteps := 10000000, implicitDefEqProofs := false }) only [go_sem, ↓reduceIte, Nat.reduceAdd, Nat.reduceMul, Nat.reduceEqDiff, Nat.reduceSub, Nat.reduceLT, reduceCtorEq, Nat.reduceLeDiff, Nat.reduceBEq, mwp_draw]
def szR (ps ws : List Int) (left : Int) : Int := if szM ps left < 0 then -1 else szM ws (szM ps left)
theorem szR_get {ps ws : List Int} {left : Int} (h0 : 0 ≤ left ∧ left ≤ 1048576) (h : ¬ szR ps ws left < 0) : ps.length ≤ 1048576 ∧ ws.length ≤ 1048576 := by
  unfold szR at h
  split at h
  · omega
  · rename_i h2
    unfold szM at h h2
    split at h2
    · omega
    · simp only [if_neg h2] at h; split at h <;> omega
end Go.Fw
