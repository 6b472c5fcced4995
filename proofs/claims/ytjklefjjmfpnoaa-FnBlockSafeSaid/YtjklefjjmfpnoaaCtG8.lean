/-
  Graphs: forests, bridges, the number of parts.
-/
import Derived.Test.YtjklefjjmfpnoaaCtG7
namespace Go.Fw
set_option linter.unusedSimpArgs false
set_option linter.unusedVariables false
set_option maxRecDepth 100000
set_option maxHeartbeats 4000000
open Go.Proofs.Try (prog)
open Go.Pl

theorem bridges_test {n : Int} {es : List E} (t : Bool) (hg : GE n es) {s : MS} {first caps : List MV} (h1 : mapO (closeM s false) first = some [Gr t n es]) (h2 : mapO (closeM s false) caps = some []) :
    FnOk prog s fid_impl_Graph_isBridge first caps (tdm es) (tst (brB n es)) :=
  fnOk_tst h1 h2 ⟨_, get_impl_Graph_isBridge, by kernel_rfl, by kernel_rfl⟩ (fun e he => isBridge_is t n es e hg (hg.2.2.2 e he))
/-- The bridges of a graph. -/
def brL (n : Int) (es : List E) : List E := es.filter (brB n es)
def brV (n : Int) (es : List E) : List E := if gvB n es then brL n es else []
theorem BridgesOf_is (t : Bool) (n : Int) (es : List E) (hl : es.length ≤ 1048576) : Is prog fid_impl_BridgesOf [Gr t n es] (.ow true 2 (encE (brV n es))) := by
  refine MCall.run mixed get_impl_BridgesOf ok_impl_BridgesOf (Nat.le_of_ble_eq_true rfl) (by decide) ?_
  unfold mc_impl_BridgesOf
  simp (maxSteps := 9999999) -implicitDefEqProofs only [go_sem, mwp_draw]
  refine callK_is (GraphValid_is _ n es hl) ?_
  cases h : gvB n es
  · simp (maxSteps := 9999999) -implicitDefEqProofs only [go_sem, mwp_draw]
    simp [brV, h, encE]
  · simp (maxSteps := 9999999) -implicitDefEqProofs only [go_sem, mwp_draw]
    have hg := GE_of (gvB_iff.1 h)
    refine ⟨tdm es, tst (brB n es), bridges_test _ hg rfl rfl, ?_⟩
    refine callK_is (edgesBy_is _ n es _ _ _ (tests_tst es _) hl) ?_
    simp (maxSteps := 9999999) -implicitDefEqProofs only [go_sem, mwp_draw]
    simp [brV, h, brL]
/-- The least nodes of a valid graph's parts; how many parts there are. -/
def labV (n : Int) (es : List E) : List Int := if gvB n es then labL n es else []
def pcL (l : List Int) : Nat → Int
  | 0 => 0
  | i + 1 => pcL l i + if l[i]? = some (i : Int) then 1 else 0
theorem pcL_rng (l : List Int) : ∀ i : Nat, 0 ≤ pcL l i ∧ pcL l i ≤ i
  | 0 => by simp [pcL]
  | i + 1 => by have := pcL_rng l i; simp only [pcL]; split <;> omega
theorem labV_len {n : Int} {es : List E} : (labV n es).length ≤ 16 := by
  unfold labV
  cases h : gvB n es
  · simp
  · simp only [if_true, labL_length]
    have := (gvB_iff.1 h).2.1; omega
def pcB (n : Int) (es : List E) : Int := pcL (labV n es) (labV n es).length
theorem PartsOf_is (t : Bool) (n : Int) (es : List E) (hl : es.length ≤ 1048576) : Is prog fid_impl_PartsOf [Gr t n es] (.ow true 1 (encI (labV n es))) := by
  refine MCall.run mixed get_impl_PartsOf ok_impl_PartsOf (Nat.le_of_ble_eq_true rfl) (by decide) ?_
  unfold mc_impl_PartsOf
  simp (maxSteps := 9999999) -implicitDefEqProofs only [go_sem, mwp_draw]
  refine callK_is (GraphValid_is _ n es hl) ?_
  cases h : gvB n es
  · simp (maxSteps := 9999999) -implicitDefEqProofs only [go_sem, mwp_draw]
    simp [labV, h, encI]
  · simp (maxSteps := 9999999) -implicitDefEqProofs only [go_sem, mwp_draw]
    refine callK_is (parts_is _ n es (GE_of (gvB_iff.1 h))) ?_
    simp (maxSteps := 9999999) -implicitDefEqProofs only [go_sem, mwp_draw]
    simp [labV, h]
theorem PartsOfS_is (t : Bool) (n : Int) (es : List E) (hl : es.length ≤ 1048576) : Is prog fid_spec_PartsOf [Gr t n es] (.ow true 1 (encI (labV n es))) := by
  refine MCall.run mixed get_spec_PartsOf ok_spec_PartsOf (Nat.le_of_ble_eq_true rfl) (by decide) ?_
  unfold mc_spec_PartsOf
  simp (maxSteps := 9999999) -implicitDefEqProofs only [go_sem, mwp_draw]
  refine callK_is (GraphValidS_is _ n es hl) ?_
  cases h : gvB n es
  · simp (maxSteps := 9999999) -implicitDefEqProofs only [go_sem, mwp_draw]
    simp [labV, h, encI]
  · simp (maxSteps := 9999999) -implicitDefEqProofs only [go_sem, mwp_draw]
    refine callK_is (l2Labels_is _ n es (GE_of (gvB_iff.1 h))) ?_
    simp (maxSteps := 9999999) -implicitDefEqProofs only [go_sem, mwp_draw]
    simp [labV, h]
theorem PartCount_is (t : Bool) (n : Int) (es : List E) (hl : es.length ≤ 1048576) : Is prog fid_impl_PartCount [Gr t n es] (.i .i64 (pcB n es)) := by
  refine MCall.run mixed get_impl_PartCount ok_impl_PartCount (Nat.le_of_ble_eq_true rfl) (by decide) ?_
  unfold mc_impl_PartCount
  simp (maxSteps := 9999999) -implicitDefEqProofs only [go_sem, mwp_draw]
  refine callK_is (PartsOf_is _ n es hl) ?_
  have hlen := labV_len (n := n) (es := es)
  unfold pcB
  generalize labV n es = l at hlen
  simp (maxSteps := 9999999) -implicitDefEqProofs only [go_sem, mwp_draw]
  refine mwp_loopk (X := Nat) (fun i => ⟨[(3, .i .i64 (pcL l i)), (7, .sr 0 0 l.length), (8, .i .i64 l.length), (9, .i .i64 i)], [(0, .arr true 1 (encI l))], 1⟩)
    (fun i => i ≤ l.length) (fun i => l.length - i) 0 (by rfl) (by simp) ?_
  rintro i h1 K kN kE kR
  have hr := pcL_rng l i
  simp (maxSteps := 9999999) -implicitDefEqProofs only [go_sem, mwp_draw]
  refine ⟨fun h4 => ⟨by omega, h4, by omega, fun x hx => ⟨fun q => ?_, fun q => ?_⟩⟩, fun h4 => kE _ _ ?_⟩
  · subst q
    exact ⟨fits64 (by omega) (by omega), fits64 (by omega) (by omega), kN _ (i + 1) (by simp only [pcL]; rw [if_pos hx]; rfl) (by omega) (by omega)⟩
  · have : ¬ l[i]? = some (i : Int) := fun k => by rw [hx] at k; cases k; exact q rfl
    exact ⟨fits64 (by omega) (by omega), kN _ (i + 1) (by simp only [pcL]; rw [if_neg this, Int.add_zero]; rfl) (by omega) (by omega)⟩
  · simp (maxSteps := 9999999) -implicitDefEqProofs only [go_sem, mwp_draw]
    obtain rfl : i = l.length := by omega
    rfl
theorem PartCountS_is (t : Bool) (n : Int) (es : List E) (hl : es.length ≤ 1048576) : Is prog fid_spec_PartCount [Gr t n es] (.i .i64 (pcB n es)) := by
  refine MCall.run mixed get_spec_PartCount ok_spec_PartCount (Nat.le_of_ble_eq_true rfl) (by decide) ?_
  unfold mc_spec_PartCount
  simp (maxSteps := 9999999) -implicitDefEqProofs only [go_sem, mwp_draw]
  refine callK_is (PartsOfS_is _ n es hl) ?_
  have hlen := labV_len (n := n) (es := es)
  unfold pcB
  generalize labV n es = l at hlen
  simp (maxSteps := 9999999) -implicitDefEqProofs only [go_sem, mwp_draw]
  refine mwp_loopk (X := Nat) (fun i => ⟨[(3, .i .i64 (pcL l i)), (4, .sr 0 0 l.length), (5, .i .i64 i)], [(0, .arr true 1 (encI l))], 1⟩)
    (fun i => i ≤ l.length) (fun i => l.length - i) 0 (by rfl) (by simp) ?_
  rintro i h1 K kN kE kR
  have hr := pcL_rng l i
  simp (maxSteps := 9999999) -implicitDefEqProofs only [go_sem, mwp_draw]
  refine ⟨fun h4 => ⟨by omega, h4, by omega, fun x hx => ⟨fun q => ?_, fun q => ?_⟩⟩, fun h4 => kE _ _ ?_⟩
  · subst q
    exact ⟨fits64 (by omega) (by omega), fits64 (by omega) (by omega), kN _ (i + 1) (by simp only [pcL]; rw [if_pos hx]; rfl) (by omega) (by omega)⟩
  · have : ¬ l[i]? = some (i : Int) := fun k => by rw [hx] at k; cases k; exact q rfl
    exact ⟨fits64 (by omega) (by omega), kN _ (i + 1) (by simp only [pcL]; rw [if_neg this, Int.add_zero]; rfl) (by omega) (by omega)⟩
  · simp (maxSteps := 9999999) -implicitDefEqProofs only [go_sem, mwp_draw]
    obtain rfl : i = l.length := by omega
    rfl
theorem pcB_ok {n : Int} {es : List E} (h : pcB n es = 1) : gvB n es = true := by
  cases q : gvB n es with
  | true => rfl
  | false => simp [pcB, labV, q, pcL] at h
/-- A graph of one part without bridges. -/
def safeB (n : Int) (es : List E) : Bool := decide (pcB n es = 1) && decide ((brV n es).length = 0)
theorem IsSafeGraph_is (t : Bool) (n : Int) (es : List E) (hl : es.length ≤ 1048576) : Is prog fid_impl_IsSafeGraph [Gr t n es] (.b (safeB n es)) := by
  refine MCall.run mixed get_impl_IsSafeGraph ok_impl_IsSafeGraph (Nat.le_of_ble_eq_true rfl) (by decide) ?_
  unfold mc_impl_IsSafeGraph
  simp (maxSteps := 9999999) -implicitDefEqProofs only [go_sem, mwp_draw]
  refine callK_is (PartCount_is _ n es hl) ?_
  simp (maxSteps := 9999999) -implicitDefEqProofs only [go_sem, mwp_draw]
  refine ⟨fun h => ?_, fun h => mvb (by simp [safeB, h])⟩
  refine callK_is (BridgesOf_is _ n es hl) ?_
  simp (maxSteps := 9999999) -implicitDefEqProofs only [go_sem, mwp_draw]
  exact mvb (by simp [safeB, h])
theorem forL_step {n : Int} {es : List E} {i : Nat} {e : E} (he : es[i]? = some e) (out : List E) : forL n out (es.drop i) = forL n (if jn n out e.1 e.2 then out else out ++ [e]) (es.drop (i + 1)) := by
  obtain ⟨hi, rfl⟩ := List.getElem?_eq_some_iff.1 he
  rw [List.drop_eq_getElem_cons hi, forL]
theorem l2Forest_is (t : Bool) (n : Int) (es : List E) (hg : GE n es) : Is prog fid_spec_l2Forest [.i .i64 n, .s t 2 (encE es)] (.ow true 2 (encE (forest n es))) := by
  obtain ⟨g1, g2, g3, g4⟩ := hg
  refine MCall.run mixed get_spec_l2Forest ok_spec_l2Forest (Nat.le_of_ble_eq_true rfl) (by decide) ?_
  unfold mc_spec_l2Forest
  simp (maxSteps := 9999999) -implicitDefEqProofs only [go_sem, mwp_draw]
  refine mwp_loopk (X := Nat × List E) (fun x => ⟨[(0, .i .i64 n), (1, .s t 2 (encE es)), (5, .sr 0 0 x.2.length), (6, .i .i64 x.1)], [(0, .arr true 2 (encE x.2))], 1⟩)
    (fun x => x.1 ≤ es.length ∧ x.2.length ≤ x.1 ∧ (∀ e ∈ x.2, EIn n e) ∧ forL n x.2 (es.drop x.1) = forest n es) (fun x => es.length - x.1) (0, []) (by rfl) (by simp [forest]) ?_
  rintro ⟨i, out⟩ ⟨h1, h2, h3, h4⟩ K kN kE kR
  simp only at h1 h2 h3 h4
  simp (maxSteps := 9999999) -implicitDefEqProofs only [go_sem, mwp_draw]
  refine ⟨fun h5 => ⟨by omega, h5, fun e he => ⟨by omega, h5, fun e2 he2 => ?_⟩⟩, fun h5 => kE _ _ ?_⟩
  · obtain rfl : e = e2 := by rw [he] at he2; exact Option.some.inj he2
    have hen := g4 e (List.mem_of_getElem? he)
    have hen' := hen
    unfold EIn at hen'
    rw [forL_step he] at h4
    refine callK_is (l2Joined_is _ n out e.1 e.2 ⟨g1, g2, by omega, h3⟩ (by omega) (by omega)) ?_
    cases q : jn n out e.1 e.2
    · rw [q] at h4
      simp (maxSteps := 9999999) -implicitDefEqProofs only [go_sem, mwp_draw]
      refine ⟨by kernel_rfl, ?_⟩
      refine ⟨by omega, h5, fun y hy => ⟨by omega, fits64 (by omega) (by omega), ?_⟩⟩
      obtain rfl : e = y := by rw [he] at hy; exact Option.some.inj hy
      exact kN _ (i + 1, out ++ [e]) (by simp; rfl) ⟨by simp only; omega, by simp; omega, fun d hd => by
        rcases List.mem_append.1 hd with hd | hd
        · exact h3 d hd
        · simp at hd; subst hd; exact hen, by simpa using h4⟩ (by simp only; omega)
    · rw [q] at h4
      simp (maxSteps := 9999999) -implicitDefEqProofs only [go_sem, mwp_draw]
      refine ⟨by kernel_rfl, ?_⟩
      exact ⟨fits64 (by omega) (by omega), kN _ (i + 1, out) (by rfl) ⟨by simp only; omega, by simp only; omega, h3, by simpa using h4⟩ (by simp only; omega)⟩
  · simp (maxSteps := 9999999) -implicitDefEqProofs only [go_sem, mwp_draw]
    rw [List.drop_eq_nil_of_le (by omega), forL] at h4
    rw [h4]
theorem forest_is (t : Bool) (n : Int) (es : List E) (hg : GE n es) : Is prog fid_impl_Graph_forest [Gr t n es] (.ow true 2 (encE (forest n es))) := by
  obtain ⟨g1, g2, g3, g4⟩ := hg
  refine MCall.run mixed get_impl_Graph_forest ok_impl_Graph_forest (Nat.le_of_ble_eq_true rfl) (by decide) ?_
  unfold mc_impl_Graph_forest
  simp (maxSteps := 9999999) -implicitDefEqProofs only [go_sem, mwp_draw]
  refine mwp_loopk (X := Nat × List E) (fun x => ⟨[(3, .pr 0 0 0), (10, .s t 2 (encE es)), (11, .i .i64 es.length), (12, .i .i64 x.1)],
      match x.2 with | [] => [(0, .box [.i .i64 n, .nl 2])] | _ :: _ => [(0, .box [.i .i64 n, .sr 1 0 x.2.length]), (1, .arr true 2 (encE x.2))], match x.2 with | [] => 1 | _ :: _ => 2⟩)
    (fun x => x.1 ≤ es.length ∧ x.2.length ≤ x.1 ∧ (∀ e ∈ x.2, EIn n e) ∧ forL n x.2 (es.drop x.1) = forest n es) (fun x => es.length - x.1) (0, []) (by rfl) (by simp [forest]) ?_
  rintro ⟨i, out⟩ ⟨h1, h2, h3, h4⟩ K kN kE kR
  simp only at h1 h2 h3 h4
  have step : ∀ e, es[i]? = some e → EIn n e ∧ Is prog fid_impl_Graph_connected [Gr false n out, .i .i64 e.1, .i .i64 e.2] (.b (jn n out e.1 e.2)) ∧ Is prog fid_impl_Graph_connected [Gr true n out, .i .i64 e.1, .i .i64 e.2] (.b (jn n out e.1 e.2)) := fun e he => by
    have hen := g4 e (List.mem_of_getElem? he)
    have hen' := hen
    unfold EIn at hen'
    exact ⟨hen, connected_is _ n out e.1 e.2 ⟨g1, g2, by omega, h3⟩ (by omega) (by omega), connected_is _ n out e.1 e.2 ⟨g1, g2, by omega, h3⟩ (by omega) (by omega)⟩
  have good : ∀ e, es[i]? = some e → EIn n e → jn n out e.1 e.2 = false → (i + 1 ≤ es.length ∧ (out ++ [e]).length ≤ i + 1 ∧ (∀ d ∈ out ++ [e], EIn n d) ∧ forL n (out ++ [e]) (es.drop (i + 1)) = forest n es) := fun e he hen q => by
    have := (List.getElem?_eq_some_iff.1 he).1
    rw [forL_step he, q] at h4
    refine ⟨by omega, by simp; omega, fun d hd => ?_, by simpa using h4⟩
    rcases List.mem_append.1 hd with hd | hd
    · exact h3 d hd
    · simp at hd; subst hd; exact hen
  cases out with
  | nil =>
    simp (maxSteps := 9999999) -implicitDefEqProofs only [go_sem, mwp_draw]
    refine ⟨fun h5 => ⟨by omega, h5, fun e he => ?_⟩, fun h5 => kE _ _ ?_⟩
    · obtain ⟨hen, c1, c2⟩ := step e he
      refine callK_is c2 ?_
      cases q : jn n [] e.1 e.2
      · simp (maxSteps := 9999999) -implicitDefEqProofs only [go_sem, mwp_draw]
        refine ⟨by omega, fits64 (by omega) (by omega), kN _ (i + 1, [e]) (by rfl) (good e he hen q) (by simp only; omega)⟩
      · rw [forL_step he, q] at h4
        simp (maxSteps := 9999999) -implicitDefEqProofs only [go_sem, mwp_draw]
        exact ⟨fits64 (by omega) (by omega), kN _ (i + 1, []) (by rfl) ⟨by simp only; omega, by simp, h3, by simpa using h4⟩ (by simp only; omega)⟩
    · simp (maxSteps := 9999999) -implicitDefEqProofs only [go_sem, mwp_draw]
      rw [List.drop_eq_nil_of_le (by omega), forL] at h4
      rw [← h4]; rfl
  | cons d r =>
    simp (maxSteps := 9999999) -implicitDefEqProofs only [go_sem, mwp_draw]
    refine ⟨fun h5 => ⟨by omega, h5, fun e he => ?_⟩, fun h5 => kE _ _ ?_⟩
    · obtain ⟨hen, c1, c2⟩ := step e he
      refine callK_is c1 ?_
      cases q : jn n (d :: r) e.1 e.2
      · simp (maxSteps := 9999999) -implicitDefEqProofs only [go_sem, mwp_draw]
        have h2' : r.length + 1 ≤ i := h2
        refine ⟨by omega, fits64 (by omega) (by omega), kN _ (i + 1, d :: (r ++ [e])) (by simp; rfl) (good e he hen q) (by simp only; omega)⟩
      · rw [forL_step he, q] at h4
        simp (maxSteps := 9999999) -implicitDefEqProofs only [go_sem, mwp_draw]
        exact ⟨fits64 (by omega) (by omega), kN _ (i + 1, d :: r) (by rfl) ⟨by simp only; omega, by simp at h2 ⊢; omega, h3, by simpa using h4⟩ (by simp only; omega)⟩
    · simp (maxSteps := 9999999) -implicitDefEqProofs only [go_sem, mwp_draw]
      rw [List.drop_eq_nil_of_le (by omega), forL] at h4
      rw [h4]
end Go.Fw
