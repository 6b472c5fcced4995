/-
  The reference's flows: has, without, step.
-/
import Derived.Test.YtjklefjjmfpnoaaCtG
import Derived.Test.YtjklefjjmfpnoaaCtNe
import Derived.Test.YtjklefjjmfpnoaaPlFb
namespace Go.Fw
set_option linter.unusedSimpArgs false
set_option linter.unusedVariables false
set_option maxRecDepth 100000
set_option maxHeartbeats 4000000
open Go.Proofs.Try (prog)
open Go.Pl

theorem l10Has_is (t t' : Bool) (ps : List (Int × Int)) (a b : Int) (hl : ps.length ≤ 100000) :
    Is prog fid_spec_l10Has [.agg [.s t 1 (encI (ps.map Prod.fst)), .s t' 1 (encI (ps.map Prod.snd))], .i .i64 a, .i .i64 b] (.b (un ps a b)) := by
  refine MCall.run mixed get_spec_l10Has ok_spec_l10Has (Nat.le_of_ble_eq_true rfl) (by decide) ?_
  unfold mc_spec_l10Has
  simp (maxSteps := 9999999) -implicitDefEqProofs only [go_sem, mwp_draw]
  refine mwp_loopk (X := Nat) (fun i => ⟨[(1, .i .i64 a), (2, .i .i64 b), (3, .pr 0 0 0), (7, .i .i64 i)], [(0, .box [.s t 1 (encI (ps.map Prod.fst)), .s t' 1 (encI (ps.map Prod.snd))])], 1⟩)
    (fun i => i ≤ ps.length ∧ (a, b) ∉ ps.take i) (fun i => ps.length - i) 0 (by kernel_rfl) ⟨Nat.zero_le _, by simp⟩ ?_
  rintro i ⟨h1, h2⟩ K kN kE kR
  have lm1 : (ps.map Prod.fst).length = ps.length := List.length_map _
  have lm2 : (ps.map Prod.snd).length = ps.length := List.length_map _
  by_cases hi : i < ps.length
  · obtain ⟨p, hp⟩ : ∃ p, ps[i]? = some p := ⟨_, List.getElem?_eq_getElem hi⟩
    have ga := goneR (show (ps.map Prod.fst)[i]? = some p.1 by simp [hp])
    have gb := goneR (show (ps.map Prod.snd)[i]? = some p.2 by simp [hp])
    have c1 : ((i : Int) < ps.length) = True := eq_true (by omega)
    have c2 : (i < ps.length) = True := eq_true hi
    have tk : ps.take (i + 1) = ps.take i ++ [p] := by rw [List.take_add_one, hp]; rfl
    by_cases e1 : p.1 = a
    · by_cases e2 : p.2 = b
      · have hm : (a, b) ∈ ps := by rw [← e1, ← e2]; exact List.mem_of_getElem? hp
        have v1 := eq_true e1
        have v2 := eq_true e2
        have hu : un ps a b = true := by simp [un, hm]
        rw [hu] at kR
        simp (maxSteps := 9999999) -implicitDefEqProofs only [go_sem, mwp_draw, lm1, lm2, c1, c2, v1, v2, ↓ga, ↓gb]
        repeat (refine ⟨by first | omega | decide | exact fits64 (by omega) (by omega) | kernel_rfl | (intros; omega), ?_⟩)
        refine kR _ ?_
        simp (maxSteps := 9999999) -implicitDefEqProofs only [go_sem, mwp_draw]
      · have v1 := eq_true e1
        have v2 := eq_false e2
        simp (maxSteps := 9999999) -implicitDefEqProofs only [go_sem, mwp_draw, lm1, lm2, c1, c2, v1, v2, ↓ga, ↓gb]
        repeat (refine ⟨by first | omega | decide | exact fits64 (by omega) (by omega) | kernel_rfl | (intros; omega), ?_⟩)
        exact kN _ (i + 1) (by kernel_rfl) ⟨by omega, by rw [tk]; simp only [List.mem_append, List.mem_singleton, not_or]; exact ⟨h2, fun e => e2 (by rw [← e])⟩⟩ (by omega)
    · have v1 := eq_false e1
      simp (maxSteps := 9999999) -implicitDefEqProofs only [go_sem, mwp_draw, lm1, lm2, c1, c2, v1, ↓ga, ↓gb]
      repeat (refine ⟨by first | omega | decide | exact fits64 (by omega) (by omega) | kernel_rfl | (intros; omega), ?_⟩)
      exact kN _ (i + 1) (by kernel_rfl) ⟨by omega, by rw [tk]; simp only [List.mem_append, List.mem_singleton, not_or]; exact ⟨h2, fun e => e1 (by rw [← e])⟩⟩ (by omega)
  · obtain rfl : i = ps.length := by omega
    rw [List.take_length] at h2
    have hu : un ps a b = false := by simp [un, h2]
    have c1 : ((ps.length : Int) < ps.length) = False := eq_false (by omega)
    simp (maxSteps := 9999999) -implicitDefEqProofs only [go_sem, mwp_draw, lm1, lm2, c1]
    refine kE _ _ ?_
    rw [hu]
    clear kN kE kR
    simp (maxSteps := 9999999) -implicitDefEqProofs only [go_sem, mwp_draw]
theorem l10Without_is (t t' : Bool) (ps : List (Int × Int)) (a b : Int) (hl : ps.length ≤ 100000) :
    Is prog fid_spec_l10Without [.agg [.s t 1 (encI (ps.map Prod.fst)), .s t' 1 (encI (ps.map Prod.snd))], .i .i64 a, .i .i64 b]
      (.agg [.ow true 1 (encI ((wo1 ps a b).map Prod.fst)), .ow true 1 (encI ((wo1 ps a b).map Prod.snd))]) := by
  refine MCall.run mixed get_spec_l10Without ok_spec_l10Without (Nat.le_of_ble_eq_true rfl) (by decide) ?_
  unfold mc_spec_l10Without
  simp (maxSteps := 9999999) -implicitDefEqProofs only [go_sem, mwp_draw]
  refine mwp_loopk (X := Nat × List (Int × Int)) (fun x => ⟨[(1, .i .i64 a), (2, .i .i64 b), (3, .pr 0 0 0), (6, .pr 1 0 0), (7, .pr 2 0 0), (8, .i .i64 x.1)],
      match x.2 with
      | [] => [(0, .box [.s t 1 (encI (ps.map Prod.fst)), .s t' 1 (encI (ps.map Prod.snd))]), (1, .box [.nl 1, .nl 1]), (2, .box [.nl 1, .nl 1])]
      | c :: r => [(0, .box [.s t 1 (encI (ps.map Prod.fst)), .s t' 1 (encI (ps.map Prod.snd))]), (1, .box [.nl 1, .nl 1]), (2, .box [.sr 3 0 (c :: r).length, .sr 4 0 (c :: r).length]), (3, .arr true 1 (encI ((c :: r).map Prod.fst))), (4, .arr true 1 (encI ((c :: r).map Prod.snd)))],
      match x.2 with | [] => 3 | _ :: _ => 5⟩)
    (fun x => x.1 ≤ ps.length ∧ x.2 = wo1 (ps.take x.1) a b) (fun x => ps.length - x.1) (0, []) (by kernel_rfl) ⟨Nat.zero_le _, by simp [wo1]⟩ ?_
  rintro ⟨i, w⟩ ⟨h1, h2⟩ K kN kE kR
  simp only at h1 h2 ⊢
  have lm1 : (ps.map Prod.fst).length = ps.length := List.length_map _
  have lm2 : (ps.map Prod.snd).length = ps.length := List.length_map _
  have wl : w.length ≤ 100000 := by have := wo1_len (ps.take i) a b; rw [← h2, List.length_take] at this; omega
  by_cases hi : i < ps.length
  · obtain ⟨p, hp⟩ : ∃ p, ps[i]? = some p := ⟨_, List.getElem?_eq_getElem hi⟩
    have ga := goneR (show (ps.map Prod.fst)[i]? = some p.1 by simp [hp])
    have gb := goneR (show (ps.map Prod.snd)[i]? = some p.2 by simp [hp])
    have c1 : ((i : Int) < ps.length) = True := eq_true (by omega)
    have c2 : (i < ps.length) = True := eq_true hi
    have c3 : (0 ≤ (i : Int)) = True := eq_true (by omega)
    have nx := wo1_next hp a b
    rw [← h2] at nx
    by_cases e : p = (a, b)
    · rw [if_pos e] at nx
      have v1 : (p.1 = a) = True := eq_true (by rw [e])
      have v2 : (p.2 = b) = True := eq_true (by rw [e])
      cases w with
      | nil =>
        simp (maxSteps := 9999999) -implicitDefEqProofs only [go_sem, mwp_draw, lm1, lm2, c1, c2, c3, v1, v2, ↓ga, ↓gb]
        repeat (refine ⟨by first | omega | decide | exact fits64 (by omega) (by omega) | kernel_rfl | (intros; omega), ?_⟩)
        exact kN _ (i + 1, []) (by kernel_rfl) ⟨by simp only; omega, nx.symm⟩ (by simp only; omega)
      | cons c r =>
        simp (maxSteps := 9999999) -implicitDefEqProofs only [go_sem, mwp_draw, lm1, lm2, c1, c2, c3, v1, v2, ↓ga, ↓gb]
        repeat (refine ⟨by first | omega | decide | exact fits64 (by omega) (by omega) | kernel_rfl | (intros; omega), ?_⟩)
        exact kN _ (i + 1, c :: r) (by kernel_rfl) ⟨by simp only; omega, nx.symm⟩ (by simp only; omega)
    · rw [if_neg e] at nx
      by_cases e1 : p.1 = a
      · have v1 := eq_true e1
        have v2 : (p.2 = b) = False := eq_false fun e2 => e (Prod.ext e1 e2)
        cases w with
        | nil =>
          simp (maxSteps := 9999999) -implicitDefEqProofs only [go_sem, mwp_draw, lm1, lm2, c1, c2, c3, v1, v2, ↓ga, ↓gb]
          repeat (refine ⟨by first | omega | decide | exact fits64 (by omega) (by omega) | kernel_rfl | (intros; omega), ?_⟩)
          exact kN _ (i + 1, [p]) (by kernel_rfl) ⟨by simp only; omega, nx.symm⟩ (by simp only; omega)
        | cons c r =>
          simp only [List.length_cons] at wl
          have lr1 : (r.map Prod.fst).length = r.length := List.length_map _
          have lr2 : (r.map Prod.snd).length = r.length := List.length_map _
          have tk1 : (r.map Prod.fst).take r.length = r.map Prod.fst := List.take_of_length_le (by omega)
          have tk2 : (r.map Prod.snd).take r.length = r.map Prod.snd := List.take_of_length_le (by omega)
          simp (maxSteps := 9999999) -implicitDefEqProofs only [go_sem, mwp_draw, lm1, lm2, c1, c2, c3, v1, v2, lr1, lr2, tk1, tk2, ↓ga, ↓gb]
          repeat (refine ⟨by first | omega | decide | exact fits64 (by omega) (by omega) | kernel_rfl | (intros; omega), ?_⟩)
          exact kN _ (i + 1, c :: r ++ [p]) (by simp only [List.cons_append, List.length_cons, List.length_append, List.map_cons, List.map_append, List.map_nil, List.length_nil]; kernel_rfl) ⟨by simp only; omega, nx.symm⟩ (by simp only; omega)
      · have v1 := eq_false e1
        cases w with
        | nil =>
          simp (maxSteps := 9999999) -implicitDefEqProofs only [go_sem, mwp_draw, lm1, lm2, c1, c2, c3, v1, ↓ga, ↓gb]
          repeat (refine ⟨by first | omega | decide | exact fits64 (by omega) (by omega) | kernel_rfl | (intros; omega), ?_⟩)
          exact kN _ (i + 1, [p]) (by kernel_rfl) ⟨by simp only; omega, nx.symm⟩ (by simp only; omega)
        | cons c r =>
          simp only [List.length_cons] at wl
          have lr1 : (r.map Prod.fst).length = r.length := List.length_map _
          have lr2 : (r.map Prod.snd).length = r.length := List.length_map _
          have tk1 : (r.map Prod.fst).take r.length = r.map Prod.fst := List.take_of_length_le (by omega)
          have tk2 : (r.map Prod.snd).take r.length = r.map Prod.snd := List.take_of_length_le (by omega)
          simp (maxSteps := 9999999) -implicitDefEqProofs only [go_sem, mwp_draw, lm1, lm2, c1, c2, c3, v1, lr1, lr2, tk1, tk2, ↓ga, ↓gb]
          repeat (refine ⟨by first | omega | decide | exact fits64 (by omega) (by omega) | kernel_rfl | (intros; omega), ?_⟩)
          exact kN _ (i + 1, c :: r ++ [p]) (by simp only [List.cons_append, List.length_cons, List.length_append, List.map_cons, List.map_append, List.map_nil, List.length_nil]; kernel_rfl) ⟨by simp only; omega, nx.symm⟩ (by simp only; omega)
  · obtain rfl : i = ps.length := by omega
    rw [List.take_length] at h2
    have c1 : ((ps.length : Int) < ps.length) = False := eq_false (by omega)
    cases w with
    | nil =>
      simp (maxSteps := 9999999) -implicitDefEqProofs only [go_sem, mwp_draw, lm1, lm2, c1]
      refine kE _ _ ?_
      rw [← h2]
      clear kN kE kR
      simp (maxSteps := 9999999) -implicitDefEqProofs only [go_sem, mwp_draw]
      first | done | rfl
    | cons c r =>
      simp (maxSteps := 9999999) -implicitDefEqProofs only [go_sem, mwp_draw, lm1, lm2, c1]
      refine kE _ _ ?_
      rw [← h2]
      clear kN kE kR
      have lr1 : (r.map Prod.fst).length = r.length := List.length_map _
      have lr2 : (r.map Prod.snd).length = r.length := List.length_map _
      have tk1 : (r.map Prod.fst).take r.length = r.map Prod.fst := List.take_of_length_le (by omega)
      have tk2 : (r.map Prod.snd).take r.length = r.map Prod.snd := List.take_of_length_le (by omega)
      simp (maxSteps := 9999999) -implicitDefEqProofs only [go_sem, mwp_draw, lr1, lr2, tk1, tk2]
      repeat (refine ⟨by first | omega | decide | exact fits64 (by omega) (by omega) | kernel_rfl | (intros; omega), ?_⟩)
      first | done | rfl
theorem l10Step_is (t t' : Bool) (ps : List (Int × Int)) (a b : Int) (hl : ps.length ≤ 10000) :
    Is prog fid_spec_l10Step [.agg [.s t 1 (encI (ps.map Prod.fst)), .s t' 1 (encI (ps.map Prod.snd))], .i .i64 a, .i .i64 b]
      (.agg [.ow true 1 (encI ((stp ps a b).map Prod.fst)), .ow true 1 (encI ((stp ps a b).map Prod.snd))]) := by
  refine MCall.run mixed get_spec_l10Step ok_spec_l10Step (Nat.le_of_ble_eq_true rfl) (by decide) ?_
  unfold mc_spec_l10Step
  simp (maxSteps := 9999999) -implicitDefEqProofs only [go_sem, mwp_draw]
  refine callK_is (l10Has_is _ _ ps b a (by omega)) ?_
  by_cases h : (b, a) ∈ ps
  · have hu : un ps b a = true := by simp [un, h]
    have hs : stp ps a b = wo1 ps b a := if_pos h
    rw [hu, hs]
    simp (maxSteps := 9999999) -implicitDefEqProofs only [go_sem, mwp_draw]
    refine callK_is (l10Without_is _ _ ps b a (by omega)) ?_
    simp (maxSteps := 9999999) -implicitDefEqProofs only [go_sem, mwp_draw]
    repeat (refine ⟨by first | omega | decide | exact fits64 (by omega) (by omega) | kernel_rfl | (intros; omega), ?_⟩)
    first | done | rfl
  · have hu : un ps b a = false := by simp [un, h]
    have hs : stp ps a b = wo1 ps a b ++ [(a, b)] := if_neg h
    rw [hu, hs]
    simp (maxSteps := 9999999) -implicitDefEqProofs only [go_sem, mwp_draw]
    refine callK_is (l10Without_is _ _ ps a b (by omega)) ?_
    have wl := wo1_len ps a b
    generalize wo1 ps a b = w at *
    have l1 : (w.map Prod.fst).length = w.length := List.length_map _
    have l2 : (w.map Prod.snd).length = w.length := List.length_map _
    have tk1 : (w.map Prod.fst).take w.length = w.map Prod.fst := List.take_of_length_le (by omega)
    have tk2 : (w.map Prod.snd).take w.length = w.map Prod.snd := List.take_of_length_le (by omega)
    have m1 : (w ++ [(a, b)]).map Prod.fst = w.map Prod.fst ++ [a] := by simp
    have m2 : (w ++ [(a, b)]).map Prod.snd = w.map Prod.snd ++ [b] := by simp
    have tk3 : (w.map Prod.fst ++ [a]).take (w.length + 1) = w.map Prod.fst ++ [a] := List.take_of_length_le (by simp)
    have tk4 : (w.map Prod.snd ++ [b]).take (w.length + 1) = w.map Prod.snd ++ [b] := List.take_of_length_le (by simp)
    rw [m1, m2]
    simp (maxSteps := 9999999) -implicitDefEqProofs only [go_sem, mwp_draw, l1, l2, tk1, tk2, tk3, tk4]
    repeat (refine ⟨by first | omega | decide | exact fits64 (by omega) (by omega) | kernel_rfl | (intros; omega), ?_⟩)
    first | done | omega | rfl
end Go.Fw
