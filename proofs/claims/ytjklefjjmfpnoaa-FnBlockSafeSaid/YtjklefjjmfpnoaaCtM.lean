/-
  Graphs: the draws.
-/
import Derived.Test.YtjklefjjmfpnoaaCtD
import Derived.Test.YtjklefjjmfpnoaaCtJ
namespace Go.Fw
set_option linter.unusedSimpArgs false
set_option linter.unusedVariables false
set_option maxRecDepth 100000
set_option maxHeartbeats 4000000
open Go.Proofs.Try (prog)
open Go.Pl

theorem byt_take2 {b : List Int} (h : Byt b) (n : Nat) : Byt (b.take n) := fun x hx => h x (List.mem_of_mem_take hx)
theorem l1Copy_is (t : Bool) (n : Int) (es : List E) (hl : es.length ≤ 1048576) : Is prog fid_spec_l1Copy [Gr t n es] (.agg [.i .i64 n, .ow true 2 (encE es)]) := by
  refine MCall.run mixed get_spec_l1Copy ok_spec_l1Copy (Nat.le_of_ble_eq_true rfl) (by decide) ?_
  unfold mc_spec_l1Copy
  simp (maxSteps := 9999999) -implicitDefEqProofs only [go_sem, mwp_draw]
  refine ⟨by omega, ?_⟩
  first | (show _ = true; kernel_rfl) | (refine ⟨by kernel_rfl, ?_⟩; simp)
/-- A graph that is drawn. -/
def DrG (c : List Int) (p : Int) (k : Int) (m : Nat) (us : List MV) (o : List MV) (r : MV) : Prop := ∃ p' n es, o = .pw [.s true 1 (encB c), .i .i64 p'] :: us ∧ r = .agg [.i .i64 n, .ow true 2 (encE es)] ∧ p ≤ p' ∧ p' ≤ p + k ∧ -1 ≤ n ∧ n ≤ 17 ∧ es.length ≤ m
theorem l1Wrong_is (c : List Int) (p : Int) (t : Bool) (n : Int) (es : List E) (hb : Byt c) (hc : c.length ≤ 2000) (hp : 0 ≤ p ∧ p ≤ 100000000) (hl : es.length ≤ 10000) (hn : -1 ≤ n ∧ n ≤ 17) :
    MCall prog fid_spec_l1Wrong [.pw [.s true 1 (encB c), .i .i64 p], Gr t n es] (DrG c p 10 (es.length + 1) [.u]) := by
  refine MCall.run mixed get_spec_l1Wrong ok_spec_l1Wrong (Nat.le_of_ble_eq_true rfl) (by decide) ?_
  unfold mc_spec_l1Wrong
  simp (maxSteps := 9999999) -implicitDefEqProofs only [go_sem, mwp_draw]
  refine callK_is (l1Copy_is _ n es (by omega)) ?_
  simp (maxSteps := 9999999) -implicitDefEqProofs only [go_sem, mwp_draw]
  refine callK_det (pick_is c p 16 hb hc (by omega) (by omega)) ?_
  have ret : ∀ p' n' es', p ≤ p' → p' ≤ p + 10 → -1 ≤ n' → n' ≤ 17 → es'.length ≤ es.length + 1 → DrG c p 10 (es.length + 1) [.u] [.pw [.s true 1 (encB c), .i .i64 p'], .u] (.agg [.i .i64 n', .ow true 2 (encE es')]) := fun p' n' es' a1 a2 a3 a4 a5 => ⟨p', n', es', rfl, rfl, a1, a2, a3, a4, a5⟩
  simp (maxSteps := 9999999) -implicitDefEqProofs only [go_sem, mwp_draw]
  refine ⟨fun q1 => ⟨fun q2 => ret _ _ _ (by omega) (by omega) (by omega) (by omega) (by omega), fun q2 => ?_⟩, fun q1 => ret _ _ _ (by omega) (by omega) (by omega) (by omega) (by omega)⟩
  refine callK_det (pick_is c (p + 1) es.length hb hc (by omega) (by omega)) ?_
  have r1 := pick_rng (b := c) (p := p + 1) es.length hb hc (by omega)
  generalize pickM c (p + 1) es.length = k at r1
  have r2 := r1.2 (by omega)
  simp (maxSteps := 9999999) -implicitDefEqProofs only [go_sem, mwp_draw]
  refine callK_det (pick_is c (p + 1 + 1) 5 hb hc (by omega) (by omega)) ?_
  generalize pickM c (p + 1 + 1) 5 = m
  by_cases w0 : m = 0
  · have b0 : (m = 0) = True := eq_true w0
    simp (maxSteps := 9999999) -implicitDefEqProofs only [go_sem, mwp_draw, b0]
    refine callK_det (num_is _ c (p + 1 + 1 + 1) [16, -1, 0] hb hc (by omega) (by decide)) ?_
    generalize numM c (p + 1 + 1 + 1) [16, -1, 0] = v
    simp (maxSteps := 9999999) -implicitDefEqProofs only [go_sem, mwp_draw, b0]
    exact ⟨by omega, by omega, by omega, fun x hx => ⟨by kernel_rfl, ret _ _ (es.set k.toNat (x.1, v)) (by omega) (by omega) (by omega) (by omega) (by simp)⟩⟩
  have b0 : (m = 0) = False := eq_false w0
  by_cases w1 : m = 1
  · have b1 : (m = 1) = True := eq_true w1
    simp (maxSteps := 9999999) -implicitDefEqProofs only [go_sem, mwp_draw, b0, b1]
    refine callK_det (num_is _ c (p + 1 + 1 + 1) [0, 17, 1] hb hc (by omega) (by decide)) ?_
    have hm := num_mem (p := p + 1 + 1 + 1) (l := [0, 17, 1]) hb hc (by omega) (by decide)
    generalize numM c (p + 1 + 1 + 1) [0, 17, 1] = v at hm
    have hv : 0 ≤ v ∧ v ≤ 17 := by simp at hm; omega
    simp (maxSteps := 9999999) -implicitDefEqProofs only [go_sem, mwp_draw, b0, b1]
    exact ret _ _ _ (by omega) (by omega) (by omega) (by omega) (by omega)
  have b1 : (m = 1) = False := eq_false w1
  by_cases w2 : m = 2
  · have b2 : (m = 2) = True := eq_true w2
    simp (maxSteps := 9999999) -implicitDefEqProofs only [go_sem, mwp_draw, b0, b1, b2]
    exact ⟨by omega, by omega, by omega, fun x hx => ⟨by omega, by kernel_rfl, ret _ _ (es ++ [x]) (by omega) (by omega) (by omega) (by omega) (by simp)⟩⟩
  have b2 : (m = 2) = False := eq_false w2
  simp (maxSteps := 9999999) -implicitDefEqProofs only [go_sem, mwp_draw, b0, b1, b2]
  exact ret _ _ _ (by omega) (by omega) (by omega) (by omega) (by omega)
theorem putS_len (es : List E) (e : E) : (putS es e).length = es.length + 1 := putS_length es e
theorem putS_ne (es : List E) (e : E) : ∃ d r, putS es e = d :: r := by
  have h := putS_length es e
  cases q : putS es e with
  | nil => rw [q] at h; simp at h
  | cons d r => exact ⟨d, r, rfl⟩
/-! Graphs that are drawn. -/
theorem l5Small_is (c : List Int) (p : Int) (hb : Byt c) (hc : c.length ≤ 2000) (hp : 0 ≤ p ∧ p ≤ 1000000) :
    MCall prog fid_spec_l5Small [.pw [.s true 1 (encB c), .i .i64 p]] (DrG c p 200 100 []) := by
  refine MCall.run mixed get_spec_l5Small ok_spec_l5Small (Nat.le_of_ble_eq_true rfl) (by decide) ?_
  unfold mc_spec_l5Small
  simp (maxSteps := 9999999) -implicitDefEqProofs only [go_sem, mwp_draw]
  refine callK_det (num_is _ c p [5, 6, 4, 7, 3] hb hc (by omega) (by decide)) ?_
  have hm := num_mem (p := p) (l := [5, 6, 4, 7, 3]) hb hc (by omega) (by decide)
  generalize numM c p [5, 6, 4, 7, 3] = n at hm
  have hn : 3 ≤ n ∧ n ≤ 7 := by simp at hm; omega
  clear hm
  simp (maxSteps := 9999999) -implicitDefEqProofs only [go_sem, mwp_draw]
  refine mwp_loopk (X := Nat × Int × List E) (fun x => ⟨[(0, .pr 0 0 0), (2, .pr 1 0 0), (3, .pr 2 0 0), (4, .i .i64 ((x.1 + 1 : Nat) : Int))],
      match x.2.2 with
      | [] => [(0, .box [.s true 1 (encB c), .i .i64 x.2.1]), (1, .box [.i .i64 0, .nl 2]), (2, .box [.i .i64 n, .nl 2])]
      | _ :: _ => [(0, .box [.s true 1 (encB c), .i .i64 x.2.1]), (1, .box [.i .i64 0, .nl 2]), (2, .box [.i .i64 n, .sr 3 0 x.2.2.length]), (3, .arr true 2 (encE x.2.2))],
      match x.2.2 with | [] => 3 | _ :: _ => 4⟩)
    (fun x => x.1 + 1 ≤ n ∧ p + 1 ≤ x.2.1 ∧ x.2.1 ≤ p + 1 + 2 * x.1 ∧ x.2.2.length ≤ x.1) (fun x => (n - x.1).toNat) (0, p + 1, []) (by rfl) (by simp; omega) ?_
  rintro ⟨i, q, es⟩ ⟨h1, h2, h3, h4⟩ K kN kE kR
  simp only at h1 h2 h3 h4
  cases es with
  | nil =>
    simp (maxSteps := 9999999) -implicitDefEqProofs only [go_sem, mwp_draw]
    refine ⟨fun c1 => ?_, fun c1 => kE _ _ ?_⟩
    · refine callK_det (pick_is c q 5 hb hc (by omega) (by omega)) ?_
      simp (maxSteps := 9999999) -implicitDefEqProofs only [go_sem, mwp_draw]
      refine ⟨fun c2 => ?_, fun c2 => ⟨fits64 (by omega) (by omega), kN _ (i + 1, q + 1, ([] : List E)) (by rfl) ⟨by simp only; omega, by simp only; omega, by simp only; omega, by simp only [List.length_cons, List.length_nil] at h4 ⊢; omega⟩ (by simp only; omega)⟩⟩
      refine callK_det (pick_is c (q + 1) (i + 1 : Nat) hb hc (by omega) (by omega)) ?_
      generalize pickM c (q + 1) (i + 1 : Nat) = v
      simp (maxSteps := 9999999) -implicitDefEqProofs only [go_sem, mwp_draw]
      refine callK_is (l1Edge_is v (i + 1 : Nat)) ?_
      simp (maxSteps := 9999999) -implicitDefEqProofs only [go_sem, mwp_draw]
      refine callK_is (l1Put_is _ (([] : List E)) _ (by simp only [List.length_cons, List.length_nil] at h4 ⊢; omega)) ?_
      obtain ⟨d', r', hd⟩ := putS_ne (([] : List E)) (edgN v (i + 1 : Nat))
      have hlen := putS_len (([] : List E)) (edgN v (i + 1 : Nat))
      rw [hd] at hlen ⊢
      simp (maxSteps := 9999999) -implicitDefEqProofs only [go_sem, mwp_draw]
      exact ⟨by kernel_rfl, fits64 (by omega) (by omega), kN _ (i + 1, q + 1 + 1, d' :: r') (by rfl) ⟨by simp only; omega, by simp only; omega, by simp only; omega, by simp only [List.length_cons, List.length_nil] at hlen h4 ⊢; omega⟩ (by simp only; omega)⟩
    · clear kN kR
      simp (maxSteps := 9999999) -implicitDefEqProofs only [go_sem, mwp_draw]
      refine callK_det (num_is _ c q [2, 1, 3, 0, 4] hb hc (by omega) (by decide)) ?_
      have hm := num_mem (p := q) (l := [2, 1, 3, 0, 4]) hb hc (by omega) (by decide)
      generalize numM c q [2, 1, 3, 0, 4] = m0 at hm
      have hm0 : 0 ≤ m0 ∧ m0 ≤ 4 := by simp at hm; omega
      clear hm
      simp (maxSteps := 9999999) -implicitDefEqProofs only [go_sem, mwp_draw]
      refine mwp_loopk (X := Int × Int × List E) (fun x => ⟨[(0, .pr 0 0 0), (2, .pr 1 0 0), (3, .pr 2 0 0), (5, .i .i64 x.1)],
          match x.2.2 with
          | [] => [(0, .box [.s true 1 (encB c), .i .i64 x.2.1]), (1, .box [.i .i64 0, .nl 2]), (2, .box [.i .i64 n, .nl 2])]
          | _ :: _ => [(0, .box [.s true 1 (encB c), .i .i64 x.2.1]), (1, .box [.i .i64 0, .nl 2]), (2, .box [.i .i64 n, .sr 3 0 x.2.2.length]), (3, .arr true 2 (encE x.2.2))],
          match x.2.2 with | [] => 3 | _ :: _ => 4⟩)
        (fun x => 0 ≤ x.1 ∧ p + 1 ≤ x.2.1 ∧ x.2.1 + 2 * x.1 ≤ p + 100 ∧ x.2.2.length + x.1 ≤ 60) (fun x => x.1.toNat) (m0, q + 1, ([] : List E)) (by rfl) (by simp only [List.length_cons, List.length_nil] at h4 ⊢; omega) ?_
      rintro ⟨m, q2, fs⟩ ⟨g1, g2, g3, g4⟩ K' kN' kE' kR'
      simp only at g1 g2 g3 g4
      cases fs with
      | nil =>
        simp (maxSteps := 9999999) -implicitDefEqProofs only [go_sem, mwp_draw]
        refine ⟨fun d1 => ?_, fun d1 => kE' _ _ ?_⟩
        · refine callK_det (pick_is c q2 n hb hc (by omega) (by omega)) ?_
          generalize pickM c q2 n = a
          simp (maxSteps := 9999999) -implicitDefEqProofs only [go_sem, mwp_draw]
          refine callK_det (pick_is c (q2 + 1) n hb hc (by omega) (by omega)) ?_
          generalize pickM c (q2 + 1) n = b
          have go : ∀ es' : List E, es'.length ≤ (([] : List E)).length + 1 → (0 ≤ m - 1 ∧ p + 1 ≤ q2 + 1 + 1 ∧ q2 + 1 + 1 + 2 * (m - 1) ≤ p + 100 ∧ es'.length + (m - 1) ≤ 60) := fun es' => fun h => by
            simp only [List.length_cons, List.length_nil] at g4 h ⊢; omega
          by_cases ab : a = b
          · have b0 : (a = b) = True := eq_true ab
            simp (maxSteps := 9999999) -implicitDefEqProofs only [go_sem, mwp_draw, b0]
            exact ⟨by kernel_rfl, fits64 (by omega) (by omega), kN' _ (m - 1, q2 + 1 + 1, ([] : List E)) (by rfl) (go (([] : List E)) (by omega)) (by simp only; omega)⟩
          · have b0 : (a = b) = False := eq_false ab
            simp (maxSteps := 9999999) -implicitDefEqProofs only [go_sem, mwp_draw, b0]
            refine callK_is (l1Edge_is a b) ?_
            simp (maxSteps := 9999999) -implicitDefEqProofs only [go_sem, mwp_draw, b0]
            refine callK_is (l1Find_is _ (([] : List E)) _ (by simp only [List.length_cons, List.length_nil] at g4 ⊢; omega)) ?_
            by_cases fd : idxE (([] : List E)) ((edgN a b).1, (edgN a b).2) < 0
            · simp (maxSteps := 9999999) -implicitDefEqProofs only [go_sem, mwp_draw, b0, fd]
              refine ⟨by kernel_rfl, callK_is (l1Edge_is a b) ?_⟩
              simp (maxSteps := 9999999) -implicitDefEqProofs only [go_sem, mwp_draw, b0]
              refine callK_is (l1Put_is _ (([] : List E)) _ (by simp only [List.length_cons, List.length_nil] at g4 ⊢; omega)) ?_
              obtain ⟨d', r', hd⟩ := putS_ne (([] : List E)) ((edgN a b).1, (edgN a b).2)
              have hlen := putS_len (([] : List E)) ((edgN a b).1, (edgN a b).2)
              rw [hd] at hlen ⊢
              simp (maxSteps := 9999999) -implicitDefEqProofs only [go_sem, mwp_draw]
              exact ⟨by kernel_rfl, fits64 (by omega) (by omega), kN' _ (m - 1, q2 + 1 + 1, d' :: r') (by rfl) (go (d' :: r') (by omega)) (by simp only; omega)⟩
            · simp (maxSteps := 9999999) -implicitDefEqProofs only [go_sem, mwp_draw, b0, fd]
              exact ⟨by kernel_rfl, fits64 (by omega) (by omega), kN' _ (m - 1, q2 + 1 + 1, ([] : List E)) (by rfl) (go (([] : List E)) (by omega)) (by simp only; omega)⟩
        · clear kN' kR'
          simp (maxSteps := 9999999) -implicitDefEqProofs only [go_sem, mwp_draw]
          refine callK_any (l1Wrong_is c q2 _ n (([] : List E)) hb hc (by omega) (by simp only [List.length_cons, List.length_nil] at g4 ⊢; omega) (by omega)) ?_
          rintro o r0 ⟨p', n', es', rfl, rfl, w1, w2, w3, w4, w5⟩
          simp (maxSteps := 9999999) -implicitDefEqProofs only [go_sem, mwp_draw]
          exact ⟨p', n', es', rfl, rfl, by omega, by omega, w3, w4, by simp only [List.length_cons, List.length_nil] at g4 w5 ⊢; omega⟩
      | cons e2 r2 =>
        simp (maxSteps := 9999999) -implicitDefEqProofs only [go_sem, mwp_draw]
        refine ⟨fun d1 => ?_, fun d1 => kE' _ _ ?_⟩
        · refine callK_det (pick_is c q2 n hb hc (by omega) (by omega)) ?_
          generalize pickM c q2 n = a
          simp (maxSteps := 9999999) -implicitDefEqProofs only [go_sem, mwp_draw]
          refine callK_det (pick_is c (q2 + 1) n hb hc (by omega) (by omega)) ?_
          generalize pickM c (q2 + 1) n = b
          have go : ∀ es' : List E, es'.length ≤ (e2 :: r2).length + 1 → (0 ≤ m - 1 ∧ p + 1 ≤ q2 + 1 + 1 ∧ q2 + 1 + 1 + 2 * (m - 1) ≤ p + 100 ∧ es'.length + (m - 1) ≤ 60) := fun es' => fun h => by
            simp only [List.length_cons, List.length_nil] at g4 h ⊢; omega
          by_cases ab : a = b
          · have b0 : (a = b) = True := eq_true ab
            simp (maxSteps := 9999999) -implicitDefEqProofs only [go_sem, mwp_draw, b0]
            exact ⟨by kernel_rfl, fits64 (by omega) (by omega), kN' _ (m - 1, q2 + 1 + 1, e2 :: r2) (by rfl) (go (e2 :: r2) (by omega)) (by simp only; omega)⟩
          · have b0 : (a = b) = False := eq_false ab
            simp (maxSteps := 9999999) -implicitDefEqProofs only [go_sem, mwp_draw, b0]
            refine callK_is (l1Edge_is a b) ?_
            simp (maxSteps := 9999999) -implicitDefEqProofs only [go_sem, mwp_draw, b0]
            refine callK_is (l1Find_is _ (e2 :: r2) _ (by simp only [List.length_cons, List.length_nil] at g4 ⊢; omega)) ?_
            by_cases fd : idxE (e2 :: r2) ((edgN a b).1, (edgN a b).2) < 0
            · simp (maxSteps := 9999999) -implicitDefEqProofs only [go_sem, mwp_draw, b0, fd]
              refine ⟨by kernel_rfl, callK_is (l1Edge_is a b) ?_⟩
              simp (maxSteps := 9999999) -implicitDefEqProofs only [go_sem, mwp_draw, b0]
              refine callK_is (l1Put_is _ (e2 :: r2) _ (by simp only [List.length_cons, List.length_nil] at g4 ⊢; omega)) ?_
              obtain ⟨d', r', hd⟩ := putS_ne (e2 :: r2) ((edgN a b).1, (edgN a b).2)
              have hlen := putS_len (e2 :: r2) ((edgN a b).1, (edgN a b).2)
              rw [hd] at hlen ⊢
              simp (maxSteps := 9999999) -implicitDefEqProofs only [go_sem, mwp_draw]
              exact ⟨by kernel_rfl, fits64 (by omega) (by omega), kN' _ (m - 1, q2 + 1 + 1, d' :: r') (by rfl) (go (d' :: r') (by omega)) (by simp only; omega)⟩
            · simp (maxSteps := 9999999) -implicitDefEqProofs only [go_sem, mwp_draw, b0, fd]
              exact ⟨by kernel_rfl, fits64 (by omega) (by omega), kN' _ (m - 1, q2 + 1 + 1, e2 :: r2) (by rfl) (go (e2 :: r2) (by omega)) (by simp only; omega)⟩
        · clear kN' kR'
          simp (maxSteps := 9999999) -implicitDefEqProofs only [go_sem, mwp_draw]
          refine callK_any (l1Wrong_is c q2 _ n (e2 :: r2) hb hc (by omega) (by simp only [List.length_cons, List.length_nil] at g4 ⊢; omega) (by omega)) ?_
          rintro o r0 ⟨p', n', es', rfl, rfl, w1, w2, w3, w4, w5⟩
          simp (maxSteps := 9999999) -implicitDefEqProofs only [go_sem, mwp_draw]
          exact ⟨p', n', es', rfl, rfl, by omega, by omega, w3, w4, by simp only [List.length_cons, List.length_nil] at g4 w5 ⊢; omega⟩
  | cons d r =>
    simp (maxSteps := 9999999) -implicitDefEqProofs only [go_sem, mwp_draw]
    refine ⟨fun c1 => ?_, fun c1 => kE _ _ ?_⟩
    · refine callK_det (pick_is c q 5 hb hc (by omega) (by omega)) ?_
      simp (maxSteps := 9999999) -implicitDefEqProofs only [go_sem, mwp_draw]
      refine ⟨fun c2 => ?_, fun c2 => ⟨fits64 (by omega) (by omega), kN _ (i + 1, q + 1, d :: r) (by rfl) ⟨by simp only; omega, by simp only; omega, by simp only; omega, by simp only [List.length_cons, List.length_nil] at h4 ⊢; omega⟩ (by simp only; omega)⟩⟩
      refine callK_det (pick_is c (q + 1) (i + 1 : Nat) hb hc (by omega) (by omega)) ?_
      generalize pickM c (q + 1) (i + 1 : Nat) = v
      simp (maxSteps := 9999999) -implicitDefEqProofs only [go_sem, mwp_draw]
      refine callK_is (l1Edge_is v (i + 1 : Nat)) ?_
      simp (maxSteps := 9999999) -implicitDefEqProofs only [go_sem, mwp_draw]
      refine callK_is (l1Put_is _ (d :: r) _ (by simp only [List.length_cons, List.length_nil] at h4 ⊢; omega)) ?_
      obtain ⟨d', r', hd⟩ := putS_ne (d :: r) (edgN v (i + 1 : Nat))
      have hlen := putS_len (d :: r) (edgN v (i + 1 : Nat))
      rw [hd] at hlen ⊢
      simp (maxSteps := 9999999) -implicitDefEqProofs only [go_sem, mwp_draw]
      exact ⟨by kernel_rfl, fits64 (by omega) (by omega), kN _ (i + 1, q + 1 + 1, d' :: r') (by rfl) ⟨by simp only; omega, by simp only; omega, by simp only; omega, by simp only [List.length_cons, List.length_nil] at hlen h4 ⊢; omega⟩ (by simp only; omega)⟩
    · clear kN kR
      simp (maxSteps := 9999999) -implicitDefEqProofs only [go_sem, mwp_draw]
      refine callK_det (num_is _ c q [2, 1, 3, 0, 4] hb hc (by omega) (by decide)) ?_
      have hm := num_mem (p := q) (l := [2, 1, 3, 0, 4]) hb hc (by omega) (by decide)
      generalize numM c q [2, 1, 3, 0, 4] = m0 at hm
      have hm0 : 0 ≤ m0 ∧ m0 ≤ 4 := by simp at hm; omega
      clear hm
      simp (maxSteps := 9999999) -implicitDefEqProofs only [go_sem, mwp_draw]
      refine mwp_loopk (X := Int × Int × List E) (fun x => ⟨[(0, .pr 0 0 0), (2, .pr 1 0 0), (3, .pr 2 0 0), (5, .i .i64 x.1)],
          match x.2.2 with
          | [] => [(0, .box [.s true 1 (encB c), .i .i64 x.2.1]), (1, .box [.i .i64 0, .nl 2]), (2, .box [.i .i64 n, .nl 2])]
          | _ :: _ => [(0, .box [.s true 1 (encB c), .i .i64 x.2.1]), (1, .box [.i .i64 0, .nl 2]), (2, .box [.i .i64 n, .sr 3 0 x.2.2.length]), (3, .arr true 2 (encE x.2.2))],
          match x.2.2 with | [] => 3 | _ :: _ => 4⟩)
        (fun x => 0 ≤ x.1 ∧ p + 1 ≤ x.2.1 ∧ x.2.1 + 2 * x.1 ≤ p + 100 ∧ x.2.2.length + x.1 ≤ 60) (fun x => x.1.toNat) (m0, q + 1, d :: r) (by rfl) (by simp only [List.length_cons, List.length_nil] at h4 ⊢; omega) ?_
      rintro ⟨m, q2, fs⟩ ⟨g1, g2, g3, g4⟩ K' kN' kE' kR'
      simp only at g1 g2 g3 g4
      cases fs with
      | nil =>
        simp (maxSteps := 9999999) -implicitDefEqProofs only [go_sem, mwp_draw]
        refine ⟨fun d1 => ?_, fun d1 => kE' _ _ ?_⟩
        · refine callK_det (pick_is c q2 n hb hc (by omega) (by omega)) ?_
          generalize pickM c q2 n = a
          simp (maxSteps := 9999999) -implicitDefEqProofs only [go_sem, mwp_draw]
          refine callK_det (pick_is c (q2 + 1) n hb hc (by omega) (by omega)) ?_
          generalize pickM c (q2 + 1) n = b
          have go : ∀ es' : List E, es'.length ≤ (([] : List E)).length + 1 → (0 ≤ m - 1 ∧ p + 1 ≤ q2 + 1 + 1 ∧ q2 + 1 + 1 + 2 * (m - 1) ≤ p + 100 ∧ es'.length + (m - 1) ≤ 60) := fun es' => fun h => by
            simp only [List.length_cons, List.length_nil] at g4 h ⊢; omega
          by_cases ab : a = b
          · have b0 : (a = b) = True := eq_true ab
            simp (maxSteps := 9999999) -implicitDefEqProofs only [go_sem, mwp_draw, b0]
            exact ⟨by kernel_rfl, fits64 (by omega) (by omega), kN' _ (m - 1, q2 + 1 + 1, ([] : List E)) (by rfl) (go (([] : List E)) (by omega)) (by simp only; omega)⟩
          · have b0 : (a = b) = False := eq_false ab
            simp (maxSteps := 9999999) -implicitDefEqProofs only [go_sem, mwp_draw, b0]
            refine callK_is (l1Edge_is a b) ?_
            simp (maxSteps := 9999999) -implicitDefEqProofs only [go_sem, mwp_draw, b0]
            refine callK_is (l1Find_is _ (([] : List E)) _ (by simp only [List.length_cons, List.length_nil] at g4 ⊢; omega)) ?_
            by_cases fd : idxE (([] : List E)) ((edgN a b).1, (edgN a b).2) < 0
            · simp (maxSteps := 9999999) -implicitDefEqProofs only [go_sem, mwp_draw, b0, fd]
              refine ⟨by kernel_rfl, callK_is (l1Edge_is a b) ?_⟩
              simp (maxSteps := 9999999) -implicitDefEqProofs only [go_sem, mwp_draw, b0]
              refine callK_is (l1Put_is _ (([] : List E)) _ (by simp only [List.length_cons, List.length_nil] at g4 ⊢; omega)) ?_
              obtain ⟨d', r', hd⟩ := putS_ne (([] : List E)) ((edgN a b).1, (edgN a b).2)
              have hlen := putS_len (([] : List E)) ((edgN a b).1, (edgN a b).2)
              rw [hd] at hlen ⊢
              simp (maxSteps := 9999999) -implicitDefEqProofs only [go_sem, mwp_draw]
              exact ⟨by kernel_rfl, fits64 (by omega) (by omega), kN' _ (m - 1, q2 + 1 + 1, d' :: r') (by rfl) (go (d' :: r') (by omega)) (by simp only; omega)⟩
            · simp (maxSteps := 9999999) -implicitDefEqProofs only [go_sem, mwp_draw, b0, fd]
              exact ⟨by kernel_rfl, fits64 (by omega) (by omega), kN' _ (m - 1, q2 + 1 + 1, ([] : List E)) (by rfl) (go (([] : List E)) (by omega)) (by simp only; omega)⟩
        · clear kN' kR'
          simp (maxSteps := 9999999) -implicitDefEqProofs only [go_sem, mwp_draw]
          refine callK_any (l1Wrong_is c q2 _ n (([] : List E)) hb hc (by omega) (by simp only [List.length_cons, List.length_nil] at g4 ⊢; omega) (by omega)) ?_
          rintro o r0 ⟨p', n', es', rfl, rfl, w1, w2, w3, w4, w5⟩
          simp (maxSteps := 9999999) -implicitDefEqProofs only [go_sem, mwp_draw]
          exact ⟨p', n', es', rfl, rfl, by omega, by omega, w3, w4, by simp only [List.length_cons, List.length_nil] at g4 w5 ⊢; omega⟩
      | cons e2 r2 =>
        simp (maxSteps := 9999999) -implicitDefEqProofs only [go_sem, mwp_draw]
        refine ⟨fun d1 => ?_, fun d1 => kE' _ _ ?_⟩
        · refine callK_det (pick_is c q2 n hb hc (by omega) (by omega)) ?_
          generalize pickM c q2 n = a
          simp (maxSteps := 9999999) -implicitDefEqProofs only [go_sem, mwp_draw]
          refine callK_det (pick_is c (q2 + 1) n hb hc (by omega) (by omega)) ?_
          generalize pickM c (q2 + 1) n = b
          have go : ∀ es' : List E, es'.length ≤ (e2 :: r2).length + 1 → (0 ≤ m - 1 ∧ p + 1 ≤ q2 + 1 + 1 ∧ q2 + 1 + 1 + 2 * (m - 1) ≤ p + 100 ∧ es'.length + (m - 1) ≤ 60) := fun es' => fun h => by
            simp only [List.length_cons, List.length_nil] at g4 h ⊢; omega
          by_cases ab : a = b
          · have b0 : (a = b) = True := eq_true ab
            simp (maxSteps := 9999999) -implicitDefEqProofs only [go_sem, mwp_draw, b0]
            exact ⟨by kernel_rfl, fits64 (by omega) (by omega), kN' _ (m - 1, q2 + 1 + 1, e2 :: r2) (by rfl) (go (e2 :: r2) (by omega)) (by simp only; omega)⟩
          · have b0 : (a = b) = False := eq_false ab
            simp (maxSteps := 9999999) -implicitDefEqProofs only [go_sem, mwp_draw, b0]
            refine callK_is (l1Edge_is a b) ?_
            simp (maxSteps := 9999999) -implicitDefEqProofs only [go_sem, mwp_draw, b0]
            refine callK_is (l1Find_is _ (e2 :: r2) _ (by simp only [List.length_cons, List.length_nil] at g4 ⊢; omega)) ?_
            by_cases fd : idxE (e2 :: r2) ((edgN a b).1, (edgN a b).2) < 0
            · simp (maxSteps := 9999999) -implicitDefEqProofs only [go_sem, mwp_draw, b0, fd]
              refine ⟨by kernel_rfl, callK_is (l1Edge_is a b) ?_⟩
              simp (maxSteps := 9999999) -implicitDefEqProofs only [go_sem, mwp_draw, b0]
              refine callK_is (l1Put_is _ (e2 :: r2) _ (by simp only [List.length_cons, List.length_nil] at g4 ⊢; omega)) ?_
              obtain ⟨d', r', hd⟩ := putS_ne (e2 :: r2) ((edgN a b).1, (edgN a b).2)
              have hlen := putS_len (e2 :: r2) ((edgN a b).1, (edgN a b).2)
              rw [hd] at hlen ⊢
              simp (maxSteps := 9999999) -implicitDefEqProofs only [go_sem, mwp_draw]
              exact ⟨by kernel_rfl, fits64 (by omega) (by omega), kN' _ (m - 1, q2 + 1 + 1, d' :: r') (by rfl) (go (d' :: r') (by omega)) (by simp only; omega)⟩
            · simp (maxSteps := 9999999) -implicitDefEqProofs only [go_sem, mwp_draw, b0, fd]
              exact ⟨by kernel_rfl, fits64 (by omega) (by omega), kN' _ (m - 1, q2 + 1 + 1, e2 :: r2) (by rfl) (go (e2 :: r2) (by omega)) (by simp only; omega)⟩
        · clear kN' kR'
          simp (maxSteps := 9999999) -implicitDefEqProofs only [go_sem, mwp_draw]
          refine callK_any (l1Wrong_is c q2 _ n (e2 :: r2) hb hc (by omega) (by simp only [List.length_cons, List.length_nil] at g4 ⊢; omega) (by omega)) ?_
          rintro o r0 ⟨p', n', es', rfl, rfl, w1, w2, w3, w4, w5⟩
          simp (maxSteps := 9999999) -implicitDefEqProofs only [go_sem, mwp_draw]
          exact ⟨p', n', es', rfl, rfl, by omega, by omega, w3, w4, by simp only [List.length_cons, List.length_nil] at g4 w5 ⊢; omega⟩
/-- A graph that is drawn, its edges between its nodes. -/
def DrS (c : List Int) (p : Int) (o : List MV) (r : MV) : Prop := ∃ p' n es, o = [.pw [.s true 1 (encB c), .i .i64 p']] ∧ r = .agg [.i .i64 n, .ow true 2 (encE es)] ∧ p ≤ p' ∧ p' ≤ p + 200 ∧ 1 ≤ n ∧ n ≤ 16 ∧ es.length ≤ 60 ∧ ∀ e ∈ es, EIn n e
theorem putS_ein {n : Int} {e : E} (he : EIn n e) : ∀ {l : List E}, (∀ x ∈ l, EIn n x) → ∀ x ∈ putS l e, EIn n x
  | [], _, x, hx => by simp [putS] at hx; subst hx; exact he
  | y :: r, h, x, hx => by
    unfold putS at hx
    split at hx
    · rcases List.mem_cons.1 hx with rfl | hx
      · exact he
      · exact h x hx
    · rcases List.mem_cons.1 hx with rfl | hx
      · exact h _ (by simp)
      · exact putS_ein he (fun z hz => h z (List.mem_cons_of_mem _ hz)) x hx
theorem edgN_ein {n a b : Int} (ha : 0 ≤ a ∧ a < n) (hb : 0 ≤ b ∧ b < n) (h : ¬ a = b) : EIn n (edgN a b) := by unfold EIn edgN; simp only; omega
theorem l1DrawE_is (c : List Int) (p : Int) (hb : Byt c) (hc : c.length ≤ 2000) (hp : 0 ≤ p ∧ p ≤ 1000000) :
    MCall prog fid_spec_l1Draw [.pw [.s true 1 (encB c), .i .i64 p]] (DrS c p) := by
  refine MCall.run mixed get_spec_l1Draw ok_spec_l1Draw (Nat.le_of_ble_eq_true rfl) (by decide) ?_
  unfold mc_spec_l1Draw
  simp (maxSteps := 9999999) -implicitDefEqProofs only [go_sem, mwp_draw]
  refine callK_det (num_is _ c p [6, 5, 7, 4, 8, 10, 3, 1, 16] hb hc (by omega) (by decide)) ?_
  have hm := num_mem (p := p) (l := [6, 5, 7, 4, 8, 10, 3, 1, 16]) hb hc (by omega) (by decide)
  generalize numM c p [6, 5, 7, 4, 8, 10, 3, 1, 16] = n at hm
  have hn : 1 ≤ n ∧ n ≤ 16 := by simp at hm; omega
  clear hm
  simp (maxSteps := 9999999) -implicitDefEqProofs only [go_sem, mwp_draw]
  refine mwp_loopk (X := Nat × Int × List E) (fun x => ⟨[(0, .pr 0 0 0), (2, .pr 1 0 0), (3, .pr 2 0 0), (4, .i .i64 ((x.1 + 1 : Nat) : Int))],
      match x.2.2 with
      | [] => [(0, .box [.s true 1 (encB c), .i .i64 x.2.1]), (1, .box [.i .i64 0, .nl 2]), (2, .box [.i .i64 n, .nl 2])]
      | _ :: _ => [(0, .box [.s true 1 (encB c), .i .i64 x.2.1]), (1, .box [.i .i64 0, .nl 2]), (2, .box [.i .i64 n, .sr 3 0 x.2.2.length]), (3, .arr true 2 (encE x.2.2))],
      match x.2.2 with | [] => 3 | _ :: _ => 4⟩)
    (fun x => x.1 + 1 ≤ n ∧ p + 1 ≤ x.2.1 ∧ x.2.1 ≤ p + 1 + 2 * x.1 ∧ x.2.2.length ≤ x.1 ∧ ∀ e ∈ x.2.2, EIn n e) (fun x => (n - x.1).toNat) (0, p + 1, []) (by rfl) (⟨by simp only; omega, by simp only; omega, by simp only; omega, by simp, by simp⟩) ?_
  rintro ⟨i, q, es⟩ ⟨h1, h2, h3, h4, h5⟩ K kN kE kR
  simp only at h1 h2 h3 h4 h5
  cases es with
  | nil =>
    simp (maxSteps := 9999999) -implicitDefEqProofs only [go_sem, mwp_draw]
    refine ⟨fun c1 => ?_, fun c1 => kE _ _ ?_⟩
    · refine callK_det (pick_is c q 4 hb hc (by omega) (by omega)) ?_
      simp (maxSteps := 9999999) -implicitDefEqProofs only [go_sem, mwp_draw]
      refine ⟨fun c2 => ?_, fun c2 => ⟨fits64 (by omega) (by omega), kN _ (i + 1, q + 1, ([] : List E)) (by rfl) ⟨by simp only; omega, by simp only; omega, by simp only; omega, by simp only [List.length_cons, List.length_nil] at h4 ⊢; omega, h5⟩ (by simp only; omega)⟩⟩
      refine callK_det (pick_is c (q + 1) (i + 1 : Nat) hb hc (by omega) (by omega)) ?_
      have rv := pick_rng (b := c) (p := q + 1) (i + 1 : Nat) hb hc (by omega)
      generalize pickM c (q + 1) (i + 1 : Nat) = v at rv ⊢
      simp (maxSteps := 9999999) -implicitDefEqProofs only [go_sem, mwp_draw]
      refine callK_is (l1Edge_is v (i + 1 : Nat)) ?_
      simp (maxSteps := 9999999) -implicitDefEqProofs only [go_sem, mwp_draw]
      refine callK_is (l1Put_is _ (([] : List E)) _ (by simp only [List.length_cons, List.length_nil] at h4 ⊢; omega)) ?_
      obtain ⟨d', r', hd⟩ := putS_ne (([] : List E)) (edgN v (i + 1 : Nat))
      have hlen := putS_len (([] : List E)) (edgN v (i + 1 : Nat))
      have hE : ∀ e ∈ d' :: r', EIn n e := fun e he => by rw [← hd] at he; exact putS_ein (edgN_ein (by omega) (by omega) (by omega)) h5 e he
      rw [hd] at hlen ⊢
      simp (maxSteps := 9999999) -implicitDefEqProofs only [go_sem, mwp_draw]
      exact ⟨by kernel_rfl, fits64 (by omega) (by omega), kN _ (i + 1, q + 1 + 1, d' :: r') (by rfl) ⟨by simp only; omega, by simp only; omega, by simp only; omega, by simp only [List.length_cons, List.length_nil] at hlen h4 ⊢; omega, hE⟩ (by simp only; omega)⟩
    · clear kN kR
      simp (maxSteps := 9999999) -implicitDefEqProofs only [go_sem, mwp_draw]
      refine callK_det (num_is _ c q [2, 1, 3, 0, 5, 8] hb hc (by omega) (by decide)) ?_
      have hm := num_mem (p := q) (l := [2, 1, 3, 0, 5, 8]) hb hc (by omega) (by decide)
      generalize numM c q [2, 1, 3, 0, 5, 8] = m0 at hm
      have hm0 : 0 ≤ m0 ∧ m0 ≤ 8 := by simp at hm; omega
      clear hm
      simp (maxSteps := 9999999) -implicitDefEqProofs only [go_sem, mwp_draw]
      refine mwp_loopk (X := Int × Int × List E) (fun x => ⟨[(0, .pr 0 0 0), (2, .pr 1 0 0), (3, .pr 2 0 0), (5, .i .i64 x.1)],
          match x.2.2 with
          | [] => [(0, .box [.s true 1 (encB c), .i .i64 x.2.1]), (1, .box [.i .i64 0, .nl 2]), (2, .box [.i .i64 n, .nl 2])]
          | _ :: _ => [(0, .box [.s true 1 (encB c), .i .i64 x.2.1]), (1, .box [.i .i64 0, .nl 2]), (2, .box [.i .i64 n, .sr 3 0 x.2.2.length]), (3, .arr true 2 (encE x.2.2))],
          match x.2.2 with | [] => 3 | _ :: _ => 4⟩)
        (fun x => 0 ≤ x.1 ∧ p + 1 ≤ x.2.1 ∧ x.2.1 + 2 * x.1 ≤ p + 100 ∧ x.2.2.length + x.1 ≤ 60 ∧ ∀ e ∈ x.2.2, EIn n e) (fun x => x.1.toNat) (m0, q + 1, ([] : List E)) (by rfl) (⟨by simp only; omega, by simp only; omega, by simp only; omega, by simp only [List.length_cons, List.length_nil] at h4 ⊢; omega, h5⟩) ?_
      rintro ⟨m, q2, fs⟩ ⟨g1, g2, g3, g4, g5⟩ K' kN' kE' kR'
      simp only at g1 g2 g3 g4 g5
      cases fs with
      | nil =>
        simp (maxSteps := 9999999) -implicitDefEqProofs only [go_sem, mwp_draw]
        refine ⟨fun d1 => ?_, fun d1 => kE' _ _ ?_⟩
        · refine callK_det (pick_is c q2 n hb hc (by omega) (by omega)) ?_
          have ra := pick_rng (b := c) (p := q2) n hb hc (by omega)
          generalize pickM c q2 n = a at ra ⊢
          simp (maxSteps := 9999999) -implicitDefEqProofs only [go_sem, mwp_draw]
          refine callK_det (pick_is c (q2 + 1) n hb hc (by omega) (by omega)) ?_
          have rb := pick_rng (b := c) (p := q2 + 1) n hb hc (by omega)
          generalize pickM c (q2 + 1) n = b at rb ⊢
          have go : ∀ es' : List E, es'.length ≤ (([] : List E)).length + 1 → (∀ e ∈ es', EIn n e) → (0 ≤ m - 1 ∧ p + 1 ≤ q2 + 1 + 1 ∧ q2 + 1 + 1 + 2 * (m - 1) ≤ p + 100 ∧ es'.length + (m - 1) ≤ 60 ∧ ∀ e ∈ es', EIn n e) := fun es' => fun h hE => ⟨by simp only [List.length_cons, List.length_nil] at g4 h ⊢; omega, by omega, by omega, by simp only [List.length_cons, List.length_nil] at g4 h ⊢; omega, hE⟩
          by_cases ab : a = b
          · have b0 : (a = b) = True := eq_true ab
            simp (maxSteps := 9999999) -implicitDefEqProofs only [go_sem, mwp_draw, b0]
            exact ⟨by kernel_rfl, fits64 (by omega) (by omega), kN' _ (m - 1, q2 + 1 + 1, ([] : List E)) (by rfl) (go (([] : List E)) (by omega) g5) (by simp only; omega)⟩
          · have b0 : (a = b) = False := eq_false ab
            simp (maxSteps := 9999999) -implicitDefEqProofs only [go_sem, mwp_draw, b0]
            refine callK_is (l1Edge_is a b) ?_
            simp (maxSteps := 9999999) -implicitDefEqProofs only [go_sem, mwp_draw, b0]
            refine callK_is (l1Find_is _ (([] : List E)) _ (by simp only [List.length_cons, List.length_nil] at g4 ⊢; omega)) ?_
            by_cases fd : idxE (([] : List E)) ((edgN a b).1, (edgN a b).2) < 0
            · simp (maxSteps := 9999999) -implicitDefEqProofs only [go_sem, mwp_draw, b0, fd]
              refine ⟨by kernel_rfl, callK_is (l1Edge_is a b) ?_⟩
              simp (maxSteps := 9999999) -implicitDefEqProofs only [go_sem, mwp_draw, b0]
              refine callK_is (l1Put_is _ (([] : List E)) _ (by simp only [List.length_cons, List.length_nil] at g4 ⊢; omega)) ?_
              obtain ⟨d', r', hd⟩ := putS_ne (([] : List E)) ((edgN a b).1, (edgN a b).2)
              have hlen := putS_len (([] : List E)) ((edgN a b).1, (edgN a b).2)
              have hE : ∀ e ∈ d' :: r', EIn n e := fun e he => by rw [← hd] at he; exact putS_ein (edgN_ein (by omega) (by omega) ab) g5 e he
              rw [hd] at hlen ⊢
              simp (maxSteps := 9999999) -implicitDefEqProofs only [go_sem, mwp_draw]
              exact ⟨by kernel_rfl, fits64 (by omega) (by omega), kN' _ (m - 1, q2 + 1 + 1, d' :: r') (by rfl) (go (d' :: r') (by omega) hE) (by simp only; omega)⟩
            · simp (maxSteps := 9999999) -implicitDefEqProofs only [go_sem, mwp_draw, b0, fd]
              exact ⟨by kernel_rfl, fits64 (by omega) (by omega), kN' _ (m - 1, q2 + 1 + 1, ([] : List E)) (by rfl) (go (([] : List E)) (by omega) g5) (by simp only; omega)⟩
        · clear kN' kR'
          simp (maxSteps := 9999999) -implicitDefEqProofs only [go_sem, mwp_draw]
          exact ⟨q2, n, ([] : List E), rfl, rfl, by omega, by omega, by omega, by omega, by simp only [List.length_cons, List.length_nil] at g4 ⊢; omega, g5⟩
      | cons e2 r2 =>
        simp (maxSteps := 9999999) -implicitDefEqProofs only [go_sem, mwp_draw]
        refine ⟨fun d1 => ?_, fun d1 => kE' _ _ ?_⟩
        · refine callK_det (pick_is c q2 n hb hc (by omega) (by omega)) ?_
          have ra := pick_rng (b := c) (p := q2) n hb hc (by omega)
          generalize pickM c q2 n = a at ra ⊢
          simp (maxSteps := 9999999) -implicitDefEqProofs only [go_sem, mwp_draw]
          refine callK_det (pick_is c (q2 + 1) n hb hc (by omega) (by omega)) ?_
          have rb := pick_rng (b := c) (p := q2 + 1) n hb hc (by omega)
          generalize pickM c (q2 + 1) n = b at rb ⊢
          have go : ∀ es' : List E, es'.length ≤ (e2 :: r2).length + 1 → (∀ e ∈ es', EIn n e) → (0 ≤ m - 1 ∧ p + 1 ≤ q2 + 1 + 1 ∧ q2 + 1 + 1 + 2 * (m - 1) ≤ p + 100 ∧ es'.length + (m - 1) ≤ 60 ∧ ∀ e ∈ es', EIn n e) := fun es' => fun h hE => ⟨by simp only [List.length_cons, List.length_nil] at g4 h ⊢; omega, by omega, by omega, by simp only [List.length_cons, List.length_nil] at g4 h ⊢; omega, hE⟩
          by_cases ab : a = b
          · have b0 : (a = b) = True := eq_true ab
            simp (maxSteps := 9999999) -implicitDefEqProofs only [go_sem, mwp_draw, b0]
            exact ⟨by kernel_rfl, fits64 (by omega) (by omega), kN' _ (m - 1, q2 + 1 + 1, e2 :: r2) (by rfl) (go (e2 :: r2) (by omega) g5) (by simp only; omega)⟩
          · have b0 : (a = b) = False := eq_false ab
            simp (maxSteps := 9999999) -implicitDefEqProofs only [go_sem, mwp_draw, b0]
            refine callK_is (l1Edge_is a b) ?_
            simp (maxSteps := 9999999) -implicitDefEqProofs only [go_sem, mwp_draw, b0]
            refine callK_is (l1Find_is _ (e2 :: r2) _ (by simp only [List.length_cons, List.length_nil] at g4 ⊢; omega)) ?_
            by_cases fd : idxE (e2 :: r2) ((edgN a b).1, (edgN a b).2) < 0
            · simp (maxSteps := 9999999) -implicitDefEqProofs only [go_sem, mwp_draw, b0, fd]
              refine ⟨by kernel_rfl, callK_is (l1Edge_is a b) ?_⟩
              simp (maxSteps := 9999999) -implicitDefEqProofs only [go_sem, mwp_draw, b0]
              refine callK_is (l1Put_is _ (e2 :: r2) _ (by simp only [List.length_cons, List.length_nil] at g4 ⊢; omega)) ?_
              obtain ⟨d', r', hd⟩ := putS_ne (e2 :: r2) ((edgN a b).1, (edgN a b).2)
              have hlen := putS_len (e2 :: r2) ((edgN a b).1, (edgN a b).2)
              have hE : ∀ e ∈ d' :: r', EIn n e := fun e he => by rw [← hd] at he; exact putS_ein (edgN_ein (by omega) (by omega) ab) g5 e he
              rw [hd] at hlen ⊢
              simp (maxSteps := 9999999) -implicitDefEqProofs only [go_sem, mwp_draw]
              exact ⟨by kernel_rfl, fits64 (by omega) (by omega), kN' _ (m - 1, q2 + 1 + 1, d' :: r') (by rfl) (go (d' :: r') (by omega) hE) (by simp only; omega)⟩
            · simp (maxSteps := 9999999) -implicitDefEqProofs only [go_sem, mwp_draw, b0, fd]
              exact ⟨by kernel_rfl, fits64 (by omega) (by omega), kN' _ (m - 1, q2 + 1 + 1, e2 :: r2) (by rfl) (go (e2 :: r2) (by omega) g5) (by simp only; omega)⟩
        · clear kN' kR'
          simp (maxSteps := 9999999) -implicitDefEqProofs only [go_sem, mwp_draw]
          exact ⟨q2, n, e2 :: r2, rfl, rfl, by omega, by omega, by omega, by omega, by simp only [List.length_cons, List.length_nil] at g4 ⊢; omega, g5⟩
  | cons d r =>
    simp (maxSteps := 9999999) -implicitDefEqProofs only [go_sem, mwp_draw]
    refine ⟨fun c1 => ?_, fun c1 => kE _ _ ?_⟩
    · refine callK_det (pick_is c q 4 hb hc (by omega) (by omega)) ?_
      simp (maxSteps := 9999999) -implicitDefEqProofs only [go_sem, mwp_draw]
      refine ⟨fun c2 => ?_, fun c2 => ⟨fits64 (by omega) (by omega), kN _ (i + 1, q + 1, d :: r) (by rfl) ⟨by simp only; omega, by simp only; omega, by simp only; omega, by simp only [List.length_cons, List.length_nil] at h4 ⊢; omega, h5⟩ (by simp only; omega)⟩⟩
      refine callK_det (pick_is c (q + 1) (i + 1 : Nat) hb hc (by omega) (by omega)) ?_
      have rv := pick_rng (b := c) (p := q + 1) (i + 1 : Nat) hb hc (by omega)
      generalize pickM c (q + 1) (i + 1 : Nat) = v at rv ⊢
      simp (maxSteps := 9999999) -implicitDefEqProofs only [go_sem, mwp_draw]
      refine callK_is (l1Edge_is v (i + 1 : Nat)) ?_
      simp (maxSteps := 9999999) -implicitDefEqProofs only [go_sem, mwp_draw]
      refine callK_is (l1Put_is _ (d :: r) _ (by simp only [List.length_cons, List.length_nil] at h4 ⊢; omega)) ?_
      obtain ⟨d', r', hd⟩ := putS_ne (d :: r) (edgN v (i + 1 : Nat))
      have hlen := putS_len (d :: r) (edgN v (i + 1 : Nat))
      have hE : ∀ e ∈ d' :: r', EIn n e := fun e he => by rw [← hd] at he; exact putS_ein (edgN_ein (by omega) (by omega) (by omega)) h5 e he
      rw [hd] at hlen ⊢
      simp (maxSteps := 9999999) -implicitDefEqProofs only [go_sem, mwp_draw]
      exact ⟨by kernel_rfl, fits64 (by omega) (by omega), kN _ (i + 1, q + 1 + 1, d' :: r') (by rfl) ⟨by simp only; omega, by simp only; omega, by simp only; omega, by simp only [List.length_cons, List.length_nil] at hlen h4 ⊢; omega, hE⟩ (by simp only; omega)⟩
    · clear kN kR
      simp (maxSteps := 9999999) -implicitDefEqProofs only [go_sem, mwp_draw]
      refine callK_det (num_is _ c q [2, 1, 3, 0, 5, 8] hb hc (by omega) (by decide)) ?_
      have hm := num_mem (p := q) (l := [2, 1, 3, 0, 5, 8]) hb hc (by omega) (by decide)
      generalize numM c q [2, 1, 3, 0, 5, 8] = m0 at hm
      have hm0 : 0 ≤ m0 ∧ m0 ≤ 8 := by simp at hm; omega
      clear hm
      simp (maxSteps := 9999999) -implicitDefEqProofs only [go_sem, mwp_draw]
      refine mwp_loopk (X := Int × Int × List E) (fun x => ⟨[(0, .pr 0 0 0), (2, .pr 1 0 0), (3, .pr 2 0 0), (5, .i .i64 x.1)],
          match x.2.2 with
          | [] => [(0, .box [.s true 1 (encB c), .i .i64 x.2.1]), (1, .box [.i .i64 0, .nl 2]), (2, .box [.i .i64 n, .nl 2])]
          | _ :: _ => [(0, .box [.s true 1 (encB c), .i .i64 x.2.1]), (1, .box [.i .i64 0, .nl 2]), (2, .box [.i .i64 n, .sr 3 0 x.2.2.length]), (3, .arr true 2 (encE x.2.2))],
          match x.2.2 with | [] => 3 | _ :: _ => 4⟩)
        (fun x => 0 ≤ x.1 ∧ p + 1 ≤ x.2.1 ∧ x.2.1 + 2 * x.1 ≤ p + 100 ∧ x.2.2.length + x.1 ≤ 60 ∧ ∀ e ∈ x.2.2, EIn n e) (fun x => x.1.toNat) (m0, q + 1, d :: r) (by rfl) (⟨by simp only; omega, by simp only; omega, by simp only; omega, by simp only [List.length_cons, List.length_nil] at h4 ⊢; omega, h5⟩) ?_
      rintro ⟨m, q2, fs⟩ ⟨g1, g2, g3, g4, g5⟩ K' kN' kE' kR'
      simp only at g1 g2 g3 g4 g5
      cases fs with
      | nil =>
        simp (maxSteps := 9999999) -implicitDefEqProofs only [go_sem, mwp_draw]
        refine ⟨fun d1 => ?_, fun d1 => kE' _ _ ?_⟩
        · refine callK_det (pick_is c q2 n hb hc (by omega) (by omega)) ?_
          have ra := pick_rng (b := c) (p := q2) n hb hc (by omega)
          generalize pickM c q2 n = a at ra ⊢
          simp (maxSteps := 9999999) -implicitDefEqProofs only [go_sem, mwp_draw]
          refine callK_det (pick_is c (q2 + 1) n hb hc (by omega) (by omega)) ?_
          have rb := pick_rng (b := c) (p := q2 + 1) n hb hc (by omega)
          generalize pickM c (q2 + 1) n = b at rb ⊢
          have go : ∀ es' : List E, es'.length ≤ (([] : List E)).length + 1 → (∀ e ∈ es', EIn n e) → (0 ≤ m - 1 ∧ p + 1 ≤ q2 + 1 + 1 ∧ q2 + 1 + 1 + 2 * (m - 1) ≤ p + 100 ∧ es'.length + (m - 1) ≤ 60 ∧ ∀ e ∈ es', EIn n e) := fun es' => fun h hE => ⟨by simp only [List.length_cons, List.length_nil] at g4 h ⊢; omega, by omega, by omega, by simp only [List.length_cons, List.length_nil] at g4 h ⊢; omega, hE⟩
          by_cases ab : a = b
          · have b0 : (a = b) = True := eq_true ab
            simp (maxSteps := 9999999) -implicitDefEqProofs only [go_sem, mwp_draw, b0]
            exact ⟨by kernel_rfl, fits64 (by omega) (by omega), kN' _ (m - 1, q2 + 1 + 1, ([] : List E)) (by rfl) (go (([] : List E)) (by omega) g5) (by simp only; omega)⟩
          · have b0 : (a = b) = False := eq_false ab
            simp (maxSteps := 9999999) -implicitDefEqProofs only [go_sem, mwp_draw, b0]
            refine callK_is (l1Edge_is a b) ?_
            simp (maxSteps := 9999999) -implicitDefEqProofs only [go_sem, mwp_draw, b0]
            refine callK_is (l1Find_is _ (([] : List E)) _ (by simp only [List.length_cons, List.length_nil] at g4 ⊢; omega)) ?_
            by_cases fd : idxE (([] : List E)) ((edgN a b).1, (edgN a b).2) < 0
            · simp (maxSteps := 9999999) -implicitDefEqProofs only [go_sem, mwp_draw, b0, fd]
              refine ⟨by kernel_rfl, callK_is (l1Edge_is a b) ?_⟩
              simp (maxSteps := 9999999) -implicitDefEqProofs only [go_sem, mwp_draw, b0]
              refine callK_is (l1Put_is _ (([] : List E)) _ (by simp only [List.length_cons, List.length_nil] at g4 ⊢; omega)) ?_
              obtain ⟨d', r', hd⟩ := putS_ne (([] : List E)) ((edgN a b).1, (edgN a b).2)
              have hlen := putS_len (([] : List E)) ((edgN a b).1, (edgN a b).2)
              have hE : ∀ e ∈ d' :: r', EIn n e := fun e he => by rw [← hd] at he; exact putS_ein (edgN_ein (by omega) (by omega) ab) g5 e he
              rw [hd] at hlen ⊢
              simp (maxSteps := 9999999) -implicitDefEqProofs only [go_sem, mwp_draw]
              exact ⟨by kernel_rfl, fits64 (by omega) (by omega), kN' _ (m - 1, q2 + 1 + 1, d' :: r') (by rfl) (go (d' :: r') (by omega) hE) (by simp only; omega)⟩
            · simp (maxSteps := 9999999) -implicitDefEqProofs only [go_sem, mwp_draw, b0, fd]
              exact ⟨by kernel_rfl, fits64 (by omega) (by omega), kN' _ (m - 1, q2 + 1 + 1, ([] : List E)) (by rfl) (go (([] : List E)) (by omega) g5) (by simp only; omega)⟩
        · clear kN' kR'
          simp (maxSteps := 9999999) -implicitDefEqProofs only [go_sem, mwp_draw]
          exact ⟨q2, n, ([] : List E), rfl, rfl, by omega, by omega, by omega, by omega, by simp only [List.length_cons, List.length_nil] at g4 ⊢; omega, g5⟩
      | cons e2 r2 =>
        simp (maxSteps := 9999999) -implicitDefEqProofs only [go_sem, mwp_draw]
        refine ⟨fun d1 => ?_, fun d1 => kE' _ _ ?_⟩
        · refine callK_det (pick_is c q2 n hb hc (by omega) (by omega)) ?_
          have ra := pick_rng (b := c) (p := q2) n hb hc (by omega)
          generalize pickM c q2 n = a at ra ⊢
          simp (maxSteps := 9999999) -implicitDefEqProofs only [go_sem, mwp_draw]
          refine callK_det (pick_is c (q2 + 1) n hb hc (by omega) (by omega)) ?_
          have rb := pick_rng (b := c) (p := q2 + 1) n hb hc (by omega)
          generalize pickM c (q2 + 1) n = b at rb ⊢
          have go : ∀ es' : List E, es'.length ≤ (e2 :: r2).length + 1 → (∀ e ∈ es', EIn n e) → (0 ≤ m - 1 ∧ p + 1 ≤ q2 + 1 + 1 ∧ q2 + 1 + 1 + 2 * (m - 1) ≤ p + 100 ∧ es'.length + (m - 1) ≤ 60 ∧ ∀ e ∈ es', EIn n e) := fun es' => fun h hE => ⟨by simp only [List.length_cons, List.length_nil] at g4 h ⊢; omega, by omega, by omega, by simp only [List.length_cons, List.length_nil] at g4 h ⊢; omega, hE⟩
          by_cases ab : a = b
          · have b0 : (a = b) = True := eq_true ab
            simp (maxSteps := 9999999) -implicitDefEqProofs only [go_sem, mwp_draw, b0]
            exact ⟨by kernel_rfl, fits64 (by omega) (by omega), kN' _ (m - 1, q2 + 1 + 1, e2 :: r2) (by rfl) (go (e2 :: r2) (by omega) g5) (by simp only; omega)⟩
          · have b0 : (a = b) = False := eq_false ab
            simp (maxSteps := 9999999) -implicitDefEqProofs only [go_sem, mwp_draw, b0]
            refine callK_is (l1Edge_is a b) ?_
            simp (maxSteps := 9999999) -implicitDefEqProofs only [go_sem, mwp_draw, b0]
            refine callK_is (l1Find_is _ (e2 :: r2) _ (by simp only [List.length_cons, List.length_nil] at g4 ⊢; omega)) ?_
            by_cases fd : idxE (e2 :: r2) ((edgN a b).1, (edgN a b).2) < 0
            · simp (maxSteps := 9999999) -implicitDefEqProofs only [go_sem, mwp_draw, b0, fd]
              refine ⟨by kernel_rfl, callK_is (l1Edge_is a b) ?_⟩
              simp (maxSteps := 9999999) -implicitDefEqProofs only [go_sem, mwp_draw, b0]
              refine callK_is (l1Put_is _ (e2 :: r2) _ (by simp only [List.length_cons, List.length_nil] at g4 ⊢; omega)) ?_
              obtain ⟨d', r', hd⟩ := putS_ne (e2 :: r2) ((edgN a b).1, (edgN a b).2)
              have hlen := putS_len (e2 :: r2) ((edgN a b).1, (edgN a b).2)
              have hE : ∀ e ∈ d' :: r', EIn n e := fun e he => by rw [← hd] at he; exact putS_ein (edgN_ein (by omega) (by omega) ab) g5 e he
              rw [hd] at hlen ⊢
              simp (maxSteps := 9999999) -implicitDefEqProofs only [go_sem, mwp_draw]
              exact ⟨by kernel_rfl, fits64 (by omega) (by omega), kN' _ (m - 1, q2 + 1 + 1, d' :: r') (by rfl) (go (d' :: r') (by omega) hE) (by simp only; omega)⟩
            · simp (maxSteps := 9999999) -implicitDefEqProofs only [go_sem, mwp_draw, b0, fd]
              exact ⟨by kernel_rfl, fits64 (by omega) (by omega), kN' _ (m - 1, q2 + 1 + 1, e2 :: r2) (by rfl) (go (e2 :: r2) (by omega) g5) (by simp only; omega)⟩
        · clear kN' kR'
          simp (maxSteps := 9999999) -implicitDefEqProofs only [go_sem, mwp_draw]
          exact ⟨q2, n, e2 :: r2, rfl, rfl, by omega, by omega, by omega, by omega, by simp only [List.length_cons, List.length_nil] at g4 ⊢; omega, g5⟩
theorem l1Draw_is (c : List Int) (p : Int) (hb : Byt c) (hc : c.length ≤ 2000) (hp : 0 ≤ p ∧ p ≤ 1000000) :
    MCall prog fid_spec_l1Draw [.pw [.s true 1 (encB c), .i .i64 p]] (DrG c p 200 100 []) :=
  (l1DrawE_is c p hb hc hp).mono fun o r ⟨p', n, es, h1, h2, h3, h4, h5, h6, h7, _⟩ => ⟨p', n, es, h1, h2, h3, h4, by omega, by omega, by omega⟩
end Go.Fw
