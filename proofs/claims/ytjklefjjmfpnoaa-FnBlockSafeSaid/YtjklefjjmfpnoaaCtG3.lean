/-
  Graphs: putting edges, taking them away.
-/
import Derived.Test.YtjklefjjmfpnoaaCtG2
namespace Go.Fw
set_option linter.unusedSimpArgs false
set_option linter.unusedVariables false
set_option maxRecDepth 100000
set_option maxHeartbeats 4000000
open Go.Proofs.Try (prog)
open Go.Pl

/-- An edge put ahead of the first greater one. -/
def putS : List E → E → List E
  | [], e => [e]
  | x :: r, e => if eLt e x then e :: x :: r else x :: putS r e
theorem putS_eq {es : List E} (hs : es.Pairwise eLt) {e : E} (he : e ∉ es) : putS es e = putE es e := by
  induction es with
  | nil => rfl
  | cons x r ih =>
    rw [List.pairwise_cons] at hs
    by_cases h : eLt e x
    · have : posE (x :: r) e = 0 := by simp [posE, eLt_asymm h]
      simp [putS, h, putE, this]
    · have hx : eLt x e := Classical.byContradiction fun k => he (by rw [eLt_total h k]; simp)
      have e1 : posE (x :: r) e = posE r e + 1 := by simp [posE, hx]
      rw [putS, if_neg h, ih hs.2 (fun hm => he (List.mem_cons_of_mem _ hm))]
      simp [putE, e1]
theorem putS_length (es : List E) (e : E) : (putS es e).length = es.length + 1 := by
  induction es with
  | nil => rfl
  | cons x r ih => unfold putS; split <;> simp [ih]
theorem l1Put_is (t : Bool) (l : List E) (e : E) (hl : l.length ≤ 1048576) : Is prog fid_spec_l1Put [.s t 2 (encE l), Ed1 e] (.ow true 2 (encE (putS l e))) := by
  refine MCall.run mixed get_spec_l1Put ok_spec_l1Put (Nat.le_of_ble_eq_true rfl) (by decide) ?_
  unfold mc_spec_l1Put
  simp (maxSteps := 9999999) -implicitDefEqProofs only [go_sem, mwp_draw]
  refine mwp_loopk (X := Nat × Bool × List E) (fun x => ⟨[(0, .s t 2 (encE l)), (3, .pr 0 0 0), (5, .sr 1 0 x.2.2.length), (6, .b x.2.1), (7, .i .i64 x.1)], [(0, .box [.i .i64 e.1, .i .i64 e.2]), (1, .arr true 2 (encE x.2.2))], 2⟩)
    (fun x => x.1 ≤ l.length ∧ x.2.2.length = x.1 + (if x.2.1 then 1 else 0) ∧ x.2.2 ++ (if x.2.1 then l.drop x.1 else putS (l.drop x.1) e) = putS l e) (fun x => l.length - x.1) (0, false, []) (by rfl) (by simp) ?_
  rintro ⟨i, d, out⟩ ⟨h1, h2, h3⟩ K kN kE kR
  simp only at h1 h2 h3
  have hd : ∀ x, l[i]? = some x → l.drop i = x :: l.drop (i + 1) := fun x hx => by
    obtain ⟨hi, rfl⟩ := List.getElem?_eq_some_iff.1 hx
    exact List.drop_eq_getElem_cons hi
  cases d
  · simp only [Bool.false_eq_true, if_false] at h2 h3
    simp (maxSteps := 9999999) -implicitDefEqProofs only [go_sem, mwp_draw]
    refine ⟨fun h4 => ⟨by omega, h4, fun x hx => ?_⟩, fun h4 => kE _ _ ?_⟩
    · refine callK_is (l1Less_is e x) ?_
      rw [hd x hx, putS] at h3
      by_cases c : eLt e x
      · rw [if_pos c] at h3
        simp (maxSteps := 9999999) -implicitDefEqProofs only [go_sem, mwp_draw, c]
        refine ⟨by kernel_rfl, by omega, by omega, h4, fun y hy => ⟨by omega, fits64 (by omega) (by omega), ?_⟩⟩
        obtain rfl : x = y := by rw [hx] at hy; exact Option.some.inj hy
        exact kN _ (i + 1, true, out ++ [e, x]) (by simp; rfl) ⟨by omega, by simp; omega, by simpa using h3⟩ (by simp only; omega)
      · rw [if_neg c] at h3
        simp (maxSteps := 9999999) -implicitDefEqProofs only [go_sem, mwp_draw, c]
        refine ⟨by kernel_rfl, by omega, h4, fun y hy => ⟨by omega, fits64 (by omega) (by omega), ?_⟩⟩
        obtain rfl : x = y := by rw [hx] at hy; exact Option.some.inj hy
        exact kN _ (i + 1, false, out ++ [x]) (by simp; rfl) ⟨by omega, by simp; omega, by simpa using h3⟩ (by simp only; omega)
    · simp (maxSteps := 9999999) -implicitDefEqProofs only [go_sem, mwp_draw]
      refine ⟨by omega, ?_⟩
      rw [List.drop_eq_nil_of_le (by omega), putS] at h3
      rw [← h3]
  · simp only [if_true] at h2 h3
    simp (maxSteps := 9999999) -implicitDefEqProofs only [go_sem, mwp_draw]
    refine ⟨fun h4 => ⟨by kernel_rfl, by omega, h4, fun x hx => ⟨by omega, fits64 (by omega) (by omega), ?_⟩⟩, fun h4 => kE _ _ ?_⟩
    · rw [hd x hx] at h3
      exact kN _ (i + 1, true, out ++ [x]) (by simp; rfl) ⟨by omega, by simp; omega, by simpa using h3⟩ (by simp only; omega)
    · simp (maxSteps := 9999999) -implicitDefEqProofs only [go_sem, mwp_draw]
      rw [List.drop_eq_nil_of_le (by omega), List.append_nil] at h3
      rw [h3]
theorem filter_snoc {α : Type} {p : α → Bool} {l : List α} {i : Nat} {x : α} (hx : l[i]? = some x) : (l.take (i + 1)).filter p = (l.take i).filter p ++ if p x then [x] else [] := by
  rw [take_snoc hx, List.filter_append]; cases h : p x <;> simp [h]
theorem l1Without_is (t : Bool) (l : List E) (e : E) (hl : l.length ≤ 1048576) : Is prog fid_spec_l1Without [.s t 2 (encE l), Ed1 e] (.ow true 2 (encE (l.filter fun x => !decide (x = e)))) := by
  refine MCall.run mixed get_spec_l1Without ok_spec_l1Without (Nat.le_of_ble_eq_true rfl) (by decide) ?_
  unfold mc_spec_l1Without
  simp (maxSteps := 9999999) -implicitDefEqProofs only [go_sem, mwp_draw]
  refine mwp_loopk (X := Nat × List E) (fun x => ⟨[(0, .s t 2 (encE l)), (3, .pr 0 0 0), (5, .sr 1 0 x.2.length), (6, .i .i64 x.1)], [(0, .box [.i .i64 e.1, .i .i64 e.2]), (1, .arr true 2 (encE x.2))], 2⟩)
    (fun x => x.1 ≤ l.length ∧ x.2 = (l.take x.1).filter fun x => !decide (x = e)) (fun x => l.length - x.1) (0, []) (by rfl) (by simp) ?_
  rintro ⟨i, out⟩ ⟨h1, h2⟩ K kN kE kR
  simp only at h1 h2
  have hb : out.length ≤ l.length := by rw [h2]; exact Nat.le_trans (List.length_filter_le _ _) (by simp; omega)
  simp (maxSteps := 9999999) -implicitDefEqProofs only [go_sem, mwp_draw]
  refine ⟨fun h4 => ⟨by omega, h4, fun x hx => ?_⟩, fun h4 => kE _ _ ?_⟩
  · refine ⟨by kernel_rfl, fun h5 => ⟨by omega, h4, fun y hy => ⟨by omega, fits64 (by omega) (by omega), ?_⟩⟩, fun h5 => ⟨fits64 (by omega) (by omega), ?_⟩⟩
    · obtain rfl : x = y := by rw [hx] at hy; exact Option.some.inj hy
      exact kN _ (i + 1, out ++ [x]) (by simp; rfl) ⟨by omega, by simp only [filter_snoc hx, ← h2, h5]; simp⟩ (by simp only; omega)
    · exact kN _ (i + 1, out) (by rfl) ⟨by omega, by simp only [filter_snoc hx, ← h2, h5]; simp⟩ (by simp only; omega)
  · simp (maxSteps := 9999999) -implicitDefEqProofs only [go_sem, mwp_draw]
    obtain rfl : i = l.length := by omega
    rw [List.take_length] at h2
    rw [h2]

/-- A function value that tests edges: what it answers at the edges of a list. -/
def Tests (l : List E) (dom : List FV → Prop) (φ : List FV → FV) (p : E → Bool) : Prop :=
  ∀ e ∈ l, dom [.g [.i .i64 e.1, .i .i64 e.2]] ∧ φ [.g [.i .i64 e.1, .i .i64 e.2]] = .c (.b (p e))
theorem IndexFuncE_is (t : Bool) (l : List E) (dom φ) (p : E → Bool) (hp : Tests l dom φ p) (hl : l.length ≤ 1048576) : Is prog fid_slices_IndexFunc_impl_Edge_impl_Edge [.s t 2 (encE l), .fn dom φ] (.i .i64 (idxP p l)) := by
  refine MCall.run mixed get_slices_IndexFunc_impl_Edge_impl_Edge ok_slices_IndexFunc_impl_Edge_impl_Edge (Nat.le_of_ble_eq_true rfl) (by decide) ?_
  unfold mc_slices_IndexFunc_impl_Edge_impl_Edge
  simp (maxSteps := 9999999) -implicitDefEqProofs only [go_sem, mwp_draw]
  refine mwp_loopk (X := Nat) (fun i => ⟨[(0, .s t 2 (encE l)), (1, .fn dom φ), (7, .i .i64 l.length), (8, .i .i64 i)], [], 0⟩)
    (fun i => i ≤ l.length ∧ (l.take i).findIdx? p = none) (fun i => l.length - i) 0 (by rfl) (by simp) ?_
  rintro i ⟨h1, h2⟩ K kN kE kR
  simp (maxSteps := 9999999) -implicitDefEqProofs only [go_sem, mwp_draw]
  refine ⟨fun h4 => ⟨by omega, h4, fun x hx => ?_⟩, fun h4 => kE _ _ ?_⟩
  · obtain ⟨d1, d2⟩ := hp x (List.mem_of_getElem? hx)
    refine ⟨d1, ?_⟩
    rw [d2]
    cases q : p x
    · simp (maxSteps := 9999999) -implicitDefEqProofs only [go_sem, mwp_draw]
      exact ⟨fits64 (by omega) (by omega), kN _ (i + 1) (by rfl) ⟨by omega, idxP_step h2 hx q⟩ (by omega)⟩
    · simp (maxSteps := 9999999) -implicitDefEqProofs only [go_sem, mwp_draw]
      refine kR _ ?_
      simp (maxSteps := 9999999) -implicitDefEqProofs only [go_sem, mwp_draw]
      exact mvi (idxP_here h2 hx q).symm
  · simp (maxSteps := 9999999) -implicitDefEqProofs only [go_sem, mwp_draw]
    obtain rfl : i = l.length := by omega
    rw [List.take_length] at h2
    exact mvi (idxP_none h2).symm
theorem idxP_some {α : Type} {p : α → Bool} {l : List α} (h : idxP p l ≠ -1) : ∃ i : Nat, idxP p l = i ∧ i < l.length ∧ (∀ x, l[i]? = some x → p x = true) ∧ ∀ x ∈ l.take i, p x = false := by
  unfold idxP at h ⊢
  cases q : l.findIdx? p with
  | none => rw [q] at h; exact absurd rfl h
  | some i =>
    obtain ⟨h1, h2, h3⟩ := List.findIdx?_eq_some_iff_getElem.1 q
    refine ⟨i, rfl, h1, fun x hx => ?_, fun x hx => ?_⟩
    · rw [List.getElem?_eq_getElem h1] at hx; cases hx; exact h2
    · obtain ⟨j, hj, rfl⟩ := List.mem_iff_getElem.1 hx
      simp at hj
      have := h3 j (by omega)
      simpa using this
theorem overR_take {es ys : List (List D)} {off : Nat} (h : off ≤ es.length) : (overR es off ys).take off = es.take off := by
  unfold overR; rw [List.append_assoc, List.take_append_of_le_length (by simp; omega), List.take_take, Nat.min_self]
theorem flat_overR {es ys : List (List D)} {off : Nat} (h1 : Flat es) (h2 : Flat ys) : Flat (overR es off ys) := fun e he => by
  simp only [overR, List.mem_append] at he
  rcases he with (he | he) | he
  · exact h1 e (List.mem_of_mem_take he)
  · exact h2 e he
  · exact h1 e (List.mem_of_mem_drop he)
theorem flat_E (l : List E) : Flat (encE l) := of_eq_true (flat_encE l)
theorem CloneE_is (t : Bool) (l : List E) (hl : l.length ≤ 1048576) : Is prog fid_slices_Clone_impl_Edge_impl_Edge [.s t 2 (encE l)] (.ow true 2 (encE l)) := by
  refine MCall.run mixed get_slices_Clone_impl_Edge_impl_Edge ok_slices_Clone_impl_Edge_impl_Edge (Nat.le_of_ble_eq_true rfl) (by decide) ?_
  unfold mc_slices_Clone_impl_Edge_impl_Edge
  simp (maxSteps := 9999999) -implicitDefEqProofs only [go_sem, mwp_draw]
  exact ⟨fun h => by rw [h], by omega⟩
theorem DeleteFuncE_is (t : Bool) (l : List E) (dom φ) (p : E → Bool) (hp : Tests l dom φ p) (hl : l.length ≤ 1048576) :
    Is prog fid_slices_DeleteFunc_impl_Edge_impl_Edge [.ow t 2 (encE l), .fn dom φ] (.ow true 2 (encE (l.filter fun x => !p x))) := by
  refine MCall.run mixed get_slices_DeleteFunc_impl_Edge_impl_Edge ok_slices_DeleteFunc_impl_Edge_impl_Edge (Nat.le_of_ble_eq_true rfl) (by decide) ?_
  unfold mc_slices_DeleteFunc_impl_Edge_impl_Edge
  simp (maxSteps := 9999999) -implicitDefEqProofs only [go_sem, mwp_draw]
  refine callK_is (IndexFuncE_is _ l dom φ p hp hl) ?_
  simp (maxSteps := 9999999) -implicitDefEqProofs only [go_sem, mwp_draw]
  refine ⟨fun h => ?_, fun h => ?_⟩
  · have h0 : ∀ x ∈ l, p x = false := fun x hx => by
      have hn : ¬ 0 ≤ idxP p l := by omega
      rw [idxP_ge] at hn
      cases q : p x with
      | false => rfl
      | true => exact absurd ⟨x, hx, q⟩ hn
    rw [List.filter_eq_self.2 fun x hx => by simp [h0 x hx]]
  obtain ⟨i0, e0, hi0, hp0, hpre⟩ := idxP_some h
  rw [e0]
  refine ⟨fits64 (by omega) (by omega), ?_⟩
  have hf0 : (l.take (i0 + 1)).filter (fun x => !p x) = l.take i0 := by
    have hx : l[i0]? = some l[i0] := List.getElem?_eq_getElem hi0
    rw [filter_snoc hx, hp0 _ hx]
    simp only [Bool.not_true, Bool.false_eq_true, if_false, List.append_nil]
    exact List.filter_eq_self.2 fun x hx => by simp [hpre x hx]
  refine mwp_loopk (X := Nat × Nat × List E) (fun x => ⟨[(0, .sr 0 0 l.length), (1, .fn dom φ), (5, .i .i64 x.1), (6, .i .i64 x.2.1)], [(0, .arr t 2 (encE x.2.2))], 1⟩)
    (fun x => x.1 < x.2.1 ∧ x.2.1 ≤ l.length ∧ x.2.2.length = l.length ∧ x.2.2.take x.1 = (l.take x.2.1).filter (fun x => !p x) ∧ x.2.2.drop x.2.1 = l.drop x.2.1) (fun x => l.length - x.2.1) (i0, i0 + 1, l) (by simp; rfl) ⟨by simp, by simp only; omega, rfl, hf0.symm, rfl⟩ ?_
  rintro ⟨i, j, m⟩ ⟨h1, h2, h3, h5, h6⟩ K kN kE kR
  simp only at h1 h2 h3 h5 h6
  simp (maxSteps := 9999999) -implicitDefEqProofs only [go_sem, mwp_draw]
  refine ⟨fun h4 => ⟨by omega, h4, by omega, fun x hx => ?_⟩, fun h4 => kE _ _ ?_⟩
  · have hl' : l[j]? = some x := by
      have e1 : (m.drop j)[0]? = (l.drop j)[0]? := by rw [h6]
      simpa [hx] using e1.symm
    obtain ⟨d1, d2⟩ := hp x (List.mem_of_getElem? hl')
    refine ⟨d1, ?_⟩
    rw [d2]
    have hdr : ∀ (m' : List E), m'.drop j = l.drop j → m'.drop (j + 1) = l.drop (j + 1) := fun m' e => by
      rw [← List.drop_drop, ← List.drop_drop, e]
    cases q : p x
    · simp (maxSteps := 9999999) -implicitDefEqProofs only [go_sem, mwp_draw]
      refine ⟨by omega, by omega, by omega, fun y hy => ⟨fits64 (by omega) (by omega), fits64 (by omega) (by omega), ?_⟩⟩
      refine kN _ (i + 1, j + 1, m.set i x) (by simp; rfl) ⟨by simp only; omega, by simp only; omega, by simp [h3], ?_, ?_⟩ (by simp only; omega)
      · simp only
        rw [take_snoc (x := x) (List.getElem?_set_self (by omega)), List.take_set_of_le (Nat.le_refl _), h5, filter_snoc hl', q]; rfl
      · exact hdr _ (by rw [List.drop_set_of_lt h1]; exact h6)
    · simp (maxSteps := 9999999) -implicitDefEqProofs only [go_sem, mwp_draw]
      refine ⟨fits64 (by omega) (by omega), kN _ (i, j + 1, m) (by rfl) ⟨by simp only; omega, by simp only; omega, h3, ?_, hdr _ h6⟩ (by simp only; omega)⟩
      simp only
      rw [h5, filter_snoc hl', q]; simp
  · simp (maxSteps := 9999999) -implicitDefEqProofs only [go_sem, mwp_draw]
    obtain rfl : j = l.length := by omega
    rw [List.take_length] at h5
    refine ⟨by omega, by omega, by omega, by omega, by omega, by omega, .inr (flat_overR (flat_E _) (flat_E _)), by rw [overR_length (by rw [encE_length]; omega)]; simp only [encE_length]; omega, ?_⟩
    rw [overR_take (by rw [encE_length]; omega), encE_take, h5]

/-- A test of edges as a function value. -/
def tst (p : E → Bool) : List FV → FV
  | [.g [.i _ a, .i _ b]] => .c (.b (p (a, b)))
  | _ => default
def tdm (l : List E) (xs : List FV) : Prop := ∃ e ∈ l, xs = [.g [.i .i64 e.1, .i .i64 e.2]]
theorem tests_tst (l : List E) (p : E → Bool) : Tests l (tdm l) (tst p) p := fun e he => ⟨⟨e, he, rfl⟩, rfl⟩
theorem fnOk_tst {s : MS} {f : FuncId} {first caps fs cs : List MV} {l : List E} {p : E → Bool} (h1 : mapO (closeM s false) first = some fs) (h2 : mapO (closeM s false) caps = some cs)
    (hc : Callable prog f) (h : ∀ e ∈ l, Is prog f (fs ++ [Ed1 e] ++ cs) (.b (p e))) : FnOk prog s f first caps (tdm l) (tst p) := by
  unfold FnOk
  rw [h1, h2]
  refine ⟨hc, fun xs hx ⟨e, he, hxs⟩ => ?_⟩
  subst hxs
  refine (h e he).mono fun o r hr => ?_
  rw [hr.2]
  exact ⟨rfl, rfl⟩
/-- Graphs without some edges. -/
theorem without_is (t : Bool) (n : Int) (l : List E) (dom φ) (p : E → Bool) (hp : Tests l dom φ p) (hl : l.length ≤ 1048576) :
    Is prog fid_impl_Graph_without [Gr t n l, .fn dom φ] (.agg [.i .i64 n, .ow true 2 (encE (l.filter fun x => !p x))]) := by
  refine MCall.run mixed get_impl_Graph_without ok_impl_Graph_without (Nat.le_of_ble_eq_true rfl) (by decide) ?_
  unfold mc_impl_Graph_without
  simp (maxSteps := 9999999) -implicitDefEqProofs only [go_sem, mwp_draw]
  refine callK_is (CloneE_is _ l hl) ?_
  simp (maxSteps := 9999999) -implicitDefEqProofs only [go_sem, mwp_draw]
  refine callK_is (DeleteFuncE_is _ l dom φ p hp hl) ?_
  simp (maxSteps := 9999999) -implicitDefEqProofs only [go_sem, mwp_draw]
  show _ = true
  kernel_rfl
theorem edgesBy1_is (a : E) (dom φ) (b : Bool) (h1 : dom [.g [.i .i64 a.1, .i .i64 a.2]]) (h2 : φ [.g [.i .i64 a.1, .i .i64 a.2]] = .c (.b b)) :
    Is prog fid_impl_Graph_edgesBy_1 [Ed1 a, .pf dom φ] (.b (!b)) := by
  refine MCall.run mixed get_impl_Graph_edgesBy_1 ok_impl_Graph_edgesBy_1 (Nat.le_of_ble_eq_true rfl) (by decide) ?_
  unfold mc_impl_Graph_edgesBy_1
  simp (maxSteps := 9999999) -implicitDefEqProofs only [go_sem, mwp_draw]
  refine ⟨h1, ?_⟩
  rw [h2]
theorem edgesBy_is (t : Bool) (n : Int) (l : List E) (dom φ) (p : E → Bool) (hp : Tests l dom φ p) (hl : l.length ≤ 1048576) :
    Is prog fid_impl_Graph_edgesBy [Gr t n l, .fn dom φ] (.ow true 2 (encE (l.filter p))) := by
  refine MCall.run mixed get_impl_Graph_edgesBy ok_impl_Graph_edgesBy (Nat.le_of_ble_eq_true rfl) (by decide) ?_
  unfold mc_impl_Graph_edgesBy
  simp (maxSteps := 9999999) -implicitDefEqProofs only [go_sem, mwp_draw]
  refine ⟨tdm l, tst fun e => !p e, fnOk_tst rfl rfl ⟨_, get_impl_Graph_edgesBy_1, by kernel_rfl, by kernel_rfl⟩ (fun e he => edgesBy1_is e dom φ (p e) (hp e he).1 (hp e he).2), ?_⟩
  refine callK_is (without_is _ n l _ _ _ (tests_tst l _) hl) ?_
  simp (maxSteps := 9999999) -implicitDefEqProofs only [go_sem, mwp_draw]
  simp
theorem cut1_is (a e : E) (t : Bool) : Is prog fid_impl_Graph_cut_1 [Ed1 a, .pd t [.i .i64 e.1, .i .i64 e.2] 0] (.b (decide (a = e))) := by
  refine MCall.run mixed get_impl_Graph_cut_1 ok_impl_Graph_cut_1 (Nat.le_of_ble_eq_true rfl) (by decide) ?_
  unfold mc_impl_Graph_cut_1
  simp (maxSteps := 9999999) -implicitDefEqProofs only [go_sem, mwp_draw]
theorem cut_is (t : Bool) (n : Int) (l : List E) (e : E) (hl : l.length ≤ 1048576) :
    Is prog fid_impl_Graph_cut [Gr t n l, Ed1 e] (.agg [.i .i64 n, .ow true 2 (encE (l.filter fun x => !decide (x = e)))]) := by
  refine MCall.run mixed get_impl_Graph_cut ok_impl_Graph_cut (Nat.le_of_ble_eq_true rfl) (by decide) ?_
  unfold mc_impl_Graph_cut
  simp (maxSteps := 9999999) -implicitDefEqProofs only [go_sem, mwp_draw]
  refine ⟨tdm l, tst fun x => decide (x = e), fnOk_tst rfl rfl ⟨_, get_impl_Graph_cut_1, by kernel_rfl, by kernel_rfl⟩ (fun a ha => cut1_is a e _), ?_⟩
  refine callK_is (without_is _ n l _ _ _ (tests_tst l _) hl) ?_
  simp (maxSteps := 9999999) -implicitDefEqProofs only [go_sem, mwp_draw]
end Go.Fw
