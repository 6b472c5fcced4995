/-
  Forests, one after the other: the program's (in memory of their own) and the reference's.
-/
import Derived.Test.YtjklefjjmfpnoaaCtG5
import Derived.Test.YtjklefjjmfpnoaaCtG8
import Derived.Test.YtjklefjjmfpnoaaPlFo
import Derived.Test.YtjklefjjmfpnoaaCtNeE
namespace Go.Fw
set_option linter.unusedSimpArgs false
set_option linter.unusedVariables false
set_option maxRecDepth 100000
set_option maxHeartbeats 4000000
open Go.Proofs.Try (prog)
open Go.Pl

def fsB (n : Int) (es : List E) (k : Int) : Bool := gvB n es && decide (0 ≤ k) && decide (k ≤ 40)
def fsV (n : Int) (es : List E) (k : Int) : List (List E) := if fsB n es k then frs n k.toNat es else []
theorem fsB_no {n : Int} {es : List E} {k : Int} (h : gvB n es = false ∨ k < 0 ∨ 40 < k) : fsB n es k = false := by
  unfold fsB
  rcases h with h | h | h
  · simp [h]
  · have : ¬ 0 ≤ k := by omega
    simp [this]
  · have : ¬ k ≤ 40 := by omega
    simp [this]
theorem fsB_yes {n : Int} {es : List E} {k : Int} (h1 : gvB n es = true) (h2 : ¬ k < 0) (h3 : ¬ 40 < k) : fsB n es k = true := by
  have a : 0 ≤ k := by omega
  have b : k ≤ 40 := by omega
  simp [fsB, h1, a, b]
theorem ForestsOf1_is (t : Bool) (e : E) (f : List E) (hl : f.length ≤ 1048576) : Is prog fid_impl_ForestsOf_1 [Ed1 e, .pd t [.a 2 (encE f)] 0] (.b (decide (e ∈ f))) := by
  refine MCall.run mixed get_impl_ForestsOf_1 ok_impl_ForestsOf_1 (Nat.le_of_ble_eq_true rfl) (by decide) ?_
  unfold mc_impl_ForestsOf_1
  simp (maxSteps := 9999999) -implicitDefEqProofs only [go_sem, mwp_draw]
  refine callK_is (ContainsE_is _ f e hl) ?_
  simp (maxSteps := 9999999) -implicitDefEqProofs only [go_sem, mwp_draw]
theorem caps_f {s : MS} {b j : Nat} {w : Bool} {F : List E} (h1 : s.obj b = some (.box [.sr j 0 F.length])) (h2 : s.obj j = some (.fz w 2 (encE F))) : mapO (closeM s false) [.pr b 0 0] = some [.pd false [.a 2 (encE F)] 0] := by
  have e : (encE F).take F.length = encE F := List.take_of_length_le (by rw [encE_length]; exact Nat.le_refl _)
  simp [mapO, closeM, closeC, closeD, h1, h2, encE_length, e]
theorem caps_al {s : MS} {b j nid i : Nat} {hs : List Value} {L : List (List (List D))} {F : List E} (h1 : s.obj b = some (.box [.sr j 0 F.length])) (h2 : s.obj j = some (.al (some nid) i)) (h3 : s.obj nid = some (.nst hs 2 L)) (h4 : L[i]? = some (encE F)) :
    mapO (closeM s false) [.pr b 0 0] = some [.pd false [.a 2 (encE F)] 0] := by
  simp [mapO, closeM, closeC, closeD, h1, h2, h3, h4, encE_length]
theorem ForestsOf_is (t : Bool) (n : Int) (es : List E) (k : Int) (hl : es.length ≤ 1048576) :
    MCall prog fid_impl_ForestsOf [Gr t n es, .i .i64 k] (fun o r => o = [.u, .u] ∧ ((fsB n es k = false ∧ r = .tup [.ow true 1 [], .b false]) ∨ (fsB n es k = true ∧ ∃ hs, r = .tup [.on hs 2 (rwE (fsV n es k)), .b true]))) := by
  refine MCall.run mixed get_impl_ForestsOf ok_impl_ForestsOf (Nat.le_of_ble_eq_true rfl) (by decide) ?_
  unfold mc_impl_ForestsOf
  simp (maxSteps := 9999999) -implicitDefEqProofs only [go_sem, mwp_draw]
  refine callK_is (GraphValid_is _ n es hl) ?_
  cases h : gvB n es
  · have q := fsB_no (k := k) (.inl h)
    simp (maxSteps := 9999999) -implicitDefEqProofs only [go_sem, mwp_draw, q]
    first | done | exact .inl trivial | simp
  · by_cases h2 : k < 0
    · have q := fsB_no (n := n) (es := es) (k := k) (.inr (.inl h2))
      have c2 : (k < 0) = True := eq_true h2
      simp (maxSteps := 9999999) -implicitDefEqProofs only [go_sem, mwp_draw, q, c2]
      first | done | exact .inl trivial | simp
    by_cases h3 : 40 < k
    · have q := fsB_no (n := n) (es := es) (k := k) (.inr (.inr h3))
      have c2 : (k < 0) = False := eq_false h2
      have c3 : (40 < k) = True := eq_true h3
      have c4 : (k ≤ 40) = False := eq_false (by omega)
      simp (maxSteps := 9999999) -implicitDefEqProofs only [go_sem, mwp_draw, q, c2, c3, c4]
      first | done | exact .inl trivial | simp
    · have q := fsB_yes h h2 (by omega)
      have hv : fsV n es k = frs n k.toNat es := by simp [fsV, q]
      have c2 : (k < 0) = False := eq_false h2
      have c3 : (40 < k) = False := eq_false h3
      have c4 : (k ≤ 40) = True := eq_true (by omega)
      rw [q, hv]
      simp (maxSteps := 9999999) -implicitDefEqProofs only [go_sem, mwp_draw, c2, c3, c4]
      refine mwp_loopk (X := Nat × List Value) (fun x => ⟨[(2, .pr 0 0 0), (6, .sr 1 0 x.1), (20, .i .i64 k), (21, .i .i64 x.1)],
          match x.1 with
          | 0 => [(0, .box [.i .i64 n, .s t 2 (encE es)]), (1, .nst x.2 2 (rwE (frs n 0 es)))]
          | i + 1 => [(0, .box [.i .i64 n, .sr 2 0 (rsts n (i + 1) es).length]), (1, .nst x.2 2 (rwE (frs n (i + 1) es))), (2, .arr true 2 (encE (rsts n (i + 1) es)))],
          match x.1 with | 0 => 2 | _ + 1 => 3⟩)
        (fun x => x.1 ≤ k.toNat) (fun x => k.toNat - x.1) (0, []) (by rfl) (Nat.zero_le _) ?_
      rintro ⟨i, hs⟩ h3 K kN kE kR
      simp only at h3 ⊢
      have hg := gvB_iff.1 (gv_rsts (k := i) h)
      have hgl := hg.2.2.1
      have hfl := forest_len (n := n) (es := rsts n i es)
      have hlen : (frs n i es).length = i := frs_length
      cases i with
      | zero =>
        simp (maxSteps := 9999999) -implicitDefEqProofs only [go_sem, mwp_draw]
        refine ⟨fun c => ?_, fun c => kE _ _ ?_⟩
        · refine callK_is (forest_is _ n (rsts n 0 es) (GE_of hg)) ?_
          simp (maxSteps := 9999999) -implicitDefEqProofs only [go_sem, mwp_draw, hlen]
          repeat (refine ⟨by first | omega | decide | exact fits64 (by omega) (by omega) | kernel_rfl | (intros; omega), ?_⟩)
          intro hd
          refine ⟨tdm (rsts n 0 es), tst (fun x => decide (x ∈ forest n (rsts n 0 es))), fnOk_tst rfl (caps_al rfl rfl rfl (by simp [rwE, hlen])) ⟨_, get_impl_ForestsOf_1, by kernel_rfl, by kernel_rfl⟩ (fun a ha => ForestsOf1_is _ a (forest n (rsts n 0 es)) (by omega)), ?_⟩
          refine callK_is (without_is _ n (rsts n 0 es) _ _ _ (tests_tst (rsts n 0 es) _) (by omega)) ?_
          simp (maxSteps := 9999999) -implicitDefEqProofs only [go_sem, mwp_draw]
          exact ⟨fits64 (by omega) (by omega), kN _ (0 + 1, hs ++ [hd]) (by rfl) (by simp only; omega) (by simp only; omega)⟩
        · have e : k.toNat = 0 := by omega
          rw [e]
          simp (maxSteps := 9999999) -implicitDefEqProofs only [go_sem, mwp_draw, hlen]
          repeat (refine ⟨by first | omega | decide | exact fits64 (by omega) (by omega) | kernel_rfl | (intros; omega), ?_⟩)
          first | done | trivial | exact .inr ⟨_, rfl⟩ | exact ⟨_, rfl⟩ | simp
      | succ i =>
        simp (maxSteps := 9999999) -implicitDefEqProofs only [go_sem, mwp_draw]
        refine ⟨fun c => ?_, fun c => kE _ _ ?_⟩
        · refine callK_is (forest_is _ n (rsts n (i + 1) es) (GE_of hg)) ?_
          simp (maxSteps := 9999999) -implicitDefEqProofs only [go_sem, mwp_draw, hlen]
          repeat (refine ⟨by first | omega | decide | exact fits64 (by omega) (by omega) | kernel_rfl | (intros; omega), ?_⟩)
          intro hd
          refine ⟨tdm (rsts n (i + 1) es), tst (fun x => decide (x ∈ forest n (rsts n (i + 1) es))), fnOk_tst rfl (caps_al rfl rfl rfl (by simp [rwE, hlen])) ⟨_, get_impl_ForestsOf_1, by kernel_rfl, by kernel_rfl⟩ (fun a ha => ForestsOf1_is _ a (forest n (rsts n (i + 1) es)) (by omega)), ?_⟩
          refine callK_is (without_is _ n (rsts n (i + 1) es) _ _ _ (tests_tst (rsts n (i + 1) es) _) (by omega)) ?_
          simp (maxSteps := 9999999) -implicitDefEqProofs only [go_sem, mwp_draw]
          exact ⟨fits64 (by omega) (by omega), kN _ ((i + 1) + 1, hs ++ [hd]) (by rfl) (by simp only; omega) (by simp only; omega)⟩
        · have e : k.toNat = (i + 1) := by omega
          rw [e]
          simp (maxSteps := 9999999) -implicitDefEqProofs only [go_sem, mwp_draw, hlen]
          repeat (refine ⟨by first | omega | decide | exact fits64 (by omega) (by omega) | kernel_rfl | (intros; omega), ?_⟩)
          first | done | trivial | exact .inr ⟨_, rfl⟩ | exact ⟨_, rfl⟩ | simp
theorem ForestsOfS_is (t : Bool) (n : Int) (es : List E) (k : Int) (hl : es.length ≤ 1048576) :
    Is prog fid_spec_ForestsOf [Gr t n es, .i .i64 k] (.tup [.ow true 1 (encF (fsV n es k)), .b (fsB n es k)]) := by
  refine MCall.run mixed get_spec_ForestsOf ok_spec_ForestsOf (Nat.le_of_ble_eq_true rfl) (by decide) ?_
  unfold mc_spec_ForestsOf
  simp (maxSteps := 9999999) -implicitDefEqProofs only [go_sem, mwp_draw]
  refine callK_is (GraphValidS_is _ n es hl) ?_
  cases h : gvB n es
  · have q := fsB_no (k := k) (.inl h)
    simp (maxSteps := 9999999) -implicitDefEqProofs only [go_sem, mwp_draw, q]
    simp [fsV, q, encF]
  · by_cases h2 : k < 0
    · have q := fsB_no (n := n) (es := es) (k := k) (.inr (.inl h2))
      have c2 : (k < 0) = True := eq_true h2
      simp (maxSteps := 9999999) -implicitDefEqProofs only [go_sem, mwp_draw, q, c2]
      simp [fsV, q, encF]
    by_cases h3 : 40 < k
    · have q := fsB_no (n := n) (es := es) (k := k) (.inr (.inr h3))
      have c2 : (k < 0) = False := eq_false h2
      have c3 : (40 < k) = True := eq_true h3
      have c4 : (k ≤ 40) = False := eq_false (by omega)
      simp (maxSteps := 9999999) -implicitDefEqProofs only [go_sem, mwp_draw, q, c2, c3, c4]
      simp [fsV, q, encF]
    · have q := fsB_yes h h2 (by omega)
      have hv : fsV n es k = frs n k.toNat es := by simp [fsV, q]
      have c2 : (k < 0) = False := eq_false h2
      have c3 : (40 < k) = False := eq_false h3
      have c4 : (k ≤ 40) = True := eq_true (by omega)
      rw [q, hv]
      simp (maxSteps := 9999999) -implicitDefEqProofs only [go_sem, mwp_draw, c2, c3, c4]
      refine mwp_loopk (X := Nat × Bool) (fun x => match x.2 with
          | false => ⟨[(1, .i .i64 k), (2, .pr 0 0 0), (6, .sr 1 0 x.1), (7, .s t 2 (encE es)), (8, .i .i64 x.1)], [(0, .box [.i .i64 n, .s t 2 (encE es)]), (1, .arr true 1 (encF (frs n x.1 es)))], 2⟩
          | true => ⟨[(1, .i .i64 k), (2, .pr 0 0 0), (6, .sr 1 0 x.1), (7, .sr 2 0 (rsts n x.1 es).length), (8, .i .i64 x.1)], [(0, .box [.i .i64 n, .s t 2 (encE es)]), (1, .arr true 1 (encF (frs n x.1 es))), (2, .arr true 2 (encE (rsts n x.1 es)))], 3⟩)
        (fun x => x.1 ≤ k.toNat ∧ (x.2 = false → rsts n x.1 es = es)) (fun x => k.toNat - x.1) (0, false) (by rfl) ⟨Nat.zero_le _, fun _ => rfl⟩ ?_
      rintro ⟨i, w⟩ ⟨h4, h5⟩ K kN kE kR
      simp only at h4 h5
      have hv' := gv_rsts (k := i) h
      have hg := gvB_iff.1 hv'
      have hgl := hg.2.2.1
      have hfl := forest_len (n := n) (es := rsts n i es)
      have hlen : (frs n i es).length = i := frs_length
      have ht : (frs n i es).take i = frs n i es := List.take_of_length_le (by omega)
      cases w with
      | false =>
        have hr := h5 rfl
        rw [hr] at hv' hg hgl hfl
        simp (maxSteps := 9999999) -implicitDefEqProofs only [go_sem, mwp_draw]
        refine ⟨fun c => ?_, fun c => kE _ _ ?_⟩
        · refine callK_is (l2Forest_is _ n es (GE_of hg)) ?_
          have hnx : ∀ {j : Nat} {x : E}, (forest n es)[j]? = some x → (wo es ((forest n es).take j)).filter (fun y => !decide (y = x)) = wo es ((forest n es).take (j + 1)) := fun hx => wo_next hx
          have hfs : frs n (i + 1) es = frs n i es ++ [forest n es] := by rw [frs, hr]
          have hrs : rsts n (i + 1) es = wo es (forest n es) := by rw [rsts, hr, rst]
          generalize forest n es = F at hfl hnx hfs hrs
          simp (maxSteps := 9999999) -implicitDefEqProofs only [go_sem, mwp_draw]
          refine mwp_loopk (X := Nat) (fun j => match j with
              | 0 => ⟨[(1, .i .i64 k), (2, .pr 0 0 0), (6, .sr 1 0 i), (7, .s t 2 (encE es)), (8, .i .i64 i), (9, .sr 2 0 F.length), (10, .i .i64 0)], [(0, .box [.i .i64 n, .s t 2 (encE es)]), (1, .arr true 1 (encF (frs n i es))), (2, .arr true 2 (encE F))], 3⟩
              | j + 1 => ⟨[(1, .i .i64 k), (2, .pr 0 0 0), (6, .sr 1 0 i), (7, .sr 2 0 (wo es (F.take (j + 1))).length), (8, .i .i64 i), (9, .sr 3 0 F.length), (10, .i .i64 (j + 1 : Nat))], [(0, .box [.i .i64 n, .s t 2 (encE es)]), (1, .arr true 1 (encF (frs n i es))), (2, .arr true 2 (encE (wo es (F.take (j + 1))))), (3, .arr true 2 (encE F))], 4⟩)
            (fun j => j ≤ F.length) (fun j => F.length - j) 0 (by rfl) (Nat.zero_le _) ?_
          rintro j h6 K2 kN2 kE2 kR2
          have wl := wo_len (es := es) (f := F.take j)
          cases j with
          | zero =>
            simp (maxSteps := 9999999) -implicitDefEqProofs only [go_sem, mwp_draw]
            refine ⟨fun d => ⟨by omega, by omega, by omega, fun x hx => ?_⟩, fun d => kE2 _ _ ?_⟩
            · refine callK_is (l1Without_is _ es x (by omega)) ?_
              have e := hnx hx
              rw [List.take_zero, wo_nil] at e
              rw [e]
              simp (maxSteps := 9999999) -implicitDefEqProofs only [go_sem, mwp_draw]
              exact ⟨fits64 (by omega) (by omega), kN2 _ 1 (by rfl) (by omega) (by omega)⟩
            · have e : F = [] := List.length_eq_zero_iff.1 (by omega)
              subst e
              rw [wo_nil] at hrs
              simp (maxSteps := 9999999) -implicitDefEqProofs only [go_sem, mwp_draw, ht, hlen]
              have e2 : encF (frs n i es) ++ [[D.a 2 []]] = encF (frs n (i + 1) es) := by rw [hfs]; exact encF_snoc _ []
              rw [e2]
              exact ⟨by omega, fits64 (by omega) (by omega), kN _ (i + 1, false) (by rfl) ⟨by simp only; omega, fun _ => hrs⟩ (by simp only; omega)⟩
          | succ j =>
            simp (maxSteps := 9999999) -implicitDefEqProofs only [go_sem, mwp_draw]
            refine ⟨fun d => ⟨by omega, by omega, by omega, fun x hx => ?_⟩, fun d => kE2 _ _ ?_⟩
            · refine callK_is (l1Without_is _ (wo es (F.take (j + 1))) x (by omega)) ?_
              rw [hnx hx]
              simp (maxSteps := 9999999) -implicitDefEqProofs only [go_sem, mwp_draw]
              exact ⟨fits64 (by omega) (by omega), kN2 _ (j + 1 + 1) (by rfl) (by omega) (by omega)⟩
            · have e : F.take (j + 1) = F := List.take_of_length_le (by omega)
              rw [e]
              simp (maxSteps := 9999999) -implicitDefEqProofs only [go_sem, mwp_draw, ht, hlen]
              rw [← hfs, ← hrs]
              exact ⟨by omega, fits64 (by omega) (by omega), kN _ (i + 1, true) (by rfl) ⟨by simp only; omega, fun q => by cases q⟩ (by simp only; omega)⟩
        · have e : k.toNat = i := by omega
          rw [e]
          simp (maxSteps := 9999999) -implicitDefEqProofs only [go_sem, mwp_draw, ht]
          all_goals first | omega | exact ⟨by omega, rfl⟩
      | true =>
        simp (maxSteps := 9999999) -implicitDefEqProofs only [go_sem, mwp_draw]
        refine ⟨fun c => ?_, fun c => kE _ _ ?_⟩
        · refine callK_is (l2Forest_is _ n (rsts n i es) (GE_of hg)) ?_
          have hnx : ∀ {j : Nat} {x : E}, (forest n (rsts n i es))[j]? = some x → (wo (rsts n i es) ((forest n (rsts n i es)).take j)).filter (fun y => !decide (y = x)) = wo (rsts n i es) ((forest n (rsts n i es)).take (j + 1)) := fun hx => wo_next hx
          have hfs : frs n (i + 1) es = frs n i es ++ [forest n (rsts n i es)] := by rw [frs]
          have hrs : rsts n (i + 1) es = wo (rsts n i es) (forest n (rsts n i es)) := by rw [rsts, rst]
          generalize forest n (rsts n i es) = F at hfl hnx hfs hrs
          generalize rsts n i es = R at *
          simp (maxSteps := 9999999) -implicitDefEqProofs only [go_sem, mwp_draw]
          refine mwp_loopk (X := Nat) (fun j => ⟨[(1, .i .i64 k), (2, .pr 0 0 0), (6, .sr 1 0 i), (7, .sr 2 0 (wo R (F.take j)).length), (8, .i .i64 i), (9, .sr 3 0 F.length), (10, .i .i64 j)], [(0, .box [.i .i64 n, .s t 2 (encE es)]), (1, .arr true 1 (encF (frs n i es))), (2, .arr true 2 (encE (wo R (F.take j)))), (3, .arr true 2 (encE F))], 4⟩)
            (fun j => j ≤ F.length) (fun j => F.length - j) 0 (by rw [List.take_zero, wo_nil]; rfl) (Nat.zero_le _) ?_
          rintro j h6 K2 kN2 kE2 kR2
          have wl := wo_len (es := R) (f := F.take j)
          simp (maxSteps := 9999999) -implicitDefEqProofs only [go_sem, mwp_draw]
          refine ⟨fun d => ⟨by omega, by omega, by omega, fun x hx => ?_⟩, fun d => kE2 _ _ ?_⟩
          · refine callK_is (l1Without_is _ (wo R (F.take j)) x (by omega)) ?_
            rw [hnx hx]
            simp (maxSteps := 9999999) -implicitDefEqProofs only [go_sem, mwp_draw]
            exact ⟨fits64 (by omega) (by omega), kN2 _ (j + 1) (by rfl) (by omega) (by omega)⟩
          · have e : F.take j = F := List.take_of_length_le (by omega)
            rw [e]
            simp (maxSteps := 9999999) -implicitDefEqProofs only [go_sem, mwp_draw, ht, hlen]
            rw [← hfs, ← hrs]
            exact ⟨by omega, fits64 (by omega) (by omega), kN _ (i + 1, true) (by rfl) ⟨by simp only; omega, fun q => by cases q⟩ (by simp only; omega)⟩
        · have e : k.toNat = i := by omega
          rw [e]
          simp (maxSteps := 9999999) -implicitDefEqProofs only [go_sem, mwp_draw, ht]
          all_goals first | omega | exact ⟨by omega, rfl⟩
theorem fsV_len {n : Int} {es : List E} {k : Int} : (fsV n es k).length ≤ 40 := by
  unfold fsV; split
  · rename_i h
    rw [frs_length]
    unfold fsB at h
    simp only [Bool.and_eq_true, decide_eq_true_eq] at h
    omega
  · simp
theorem fsV_each {n : Int} {es : List E} {k : Int} {c : List E} (hc : c ∈ fsV n es k) : c.length ≤ 1000 := by
  unfold fsV at hc; split at hc
  · rename_i h
    have hg : gvB n es = true := by unfold fsB at h; simp only [Bool.and_eq_true] at h; exact h.1.1
    obtain ⟨i, hi⟩ := List.getElem?_of_mem hc
    have hil := (List.getElem?_eq_some_iff.1 hi).1
    rw [frs_length] at hil
    rw [frs_get hil] at hi
    cases hi
    have h1 := forest_len (n := n) (es := rsts n i es)
    have h2 := rsts_len (n := n) (es := es) (k := i)
    have h3 := (gvB_iff.1 hg).2.2.1
    omega
  · simp at hc
theorem fsV_no {n : Int} {es : List E} {k : Int} (h : fsB n es k = false) : fsV n es k = [] := by simp [fsV, h]
end Go.Fw
