/-
  Chains: the edges between neighbours in a list of nodes.
-/
import Derived.Test.YtjklefjjmfpnoaaCtG3
namespace Go.Fw
set_option linter.unusedSimpArgs false
set_option linter.unusedVariables false
set_option maxRecDepth 100000
set_option maxHeartbeats 4000000
open Go.Proofs.Try (prog)
open Go.Pl

/-- Tests of integers. -/
def tsI (p : Int → Bool) : List FV → FV
  | [.c (.i _ a)] => .c (.b (p a))
  | _ => default
def tdI (l : List Int) (xs : List FV) : Prop := ∃ x ∈ l, xs = [.c (.i .i64 x)]
theorem fnOk_tsI {s : MS} {f : FuncId} {first caps fs cs : List MV} {l : List Int} {p : Int → Bool} (h1 : mapO (closeM s false) first = some fs) (h2 : mapO (closeM s false) caps = some cs)
    (hc : Callable prog f) (h : ∀ x ∈ l, Is prog f (fs ++ [.i .i64 x] ++ cs) (.b (p x))) : FnOk prog s f first caps (tdI l) (tsI p) := by
  unfold FnOk
  rw [h1, h2]
  refine ⟨hc, fun xs hx ⟨e, he, hxs⟩ => ?_⟩
  subst hxs
  refine (h e he).mono fun o r hr => ?_
  rw [hr.2]
  exact ⟨rfl, rfl⟩
theorem IndexFuncI_is (t : Bool) (l : List Int) (p : Int → Bool) (hl : l.length ≤ 1048576) : Is prog fid_slices_IndexFunc_int_int [.s t 1 (encI l), .fn (tdI l) (tsI p)] (.i .i64 (idxP p l)) := by
  refine MCall.run mixed get_slices_IndexFunc_int_int ok_slices_IndexFunc_int_int (Nat.le_of_ble_eq_true rfl) (by decide) ?_
  unfold mc_slices_IndexFunc_int_int
  simp (maxSteps := 9999999) -implicitDefEqProofs only [go_sem, mwp_draw]
  refine mwp_loopk (X := Nat) (fun i => ⟨[(0, .s t 1 (encI l)), (1, .fn (tdI l) (tsI p)), (7, .i .i64 l.length), (8, .i .i64 i)], [], 0⟩)
    (fun i => i ≤ l.length ∧ (l.take i).findIdx? p = none) (fun i => l.length - i) 0 (by rfl) (by simp) ?_
  rintro i ⟨h1, h2⟩ K kN kE kR
  simp (maxSteps := 9999999) -implicitDefEqProofs only [go_sem, mwp_draw]
  refine ⟨fun h4 => ⟨by omega, h4, fun x hx => ?_⟩, fun h4 => kE _ _ ?_⟩
  · refine ⟨⟨x, List.mem_of_getElem? hx, rfl⟩, ?_⟩
    simp only [tsI]
    cases q : p x
    · simp (maxSteps := 9999999) -implicitDefEqProofs only [go_sem, mwp_draw]
      exact ⟨fits64 (by omega) (by omega), kN _ (i + 1) (by rfl) ⟨by omega, idxP_step h2 hx q⟩ (by omega)⟩
    · simp (maxSteps := 9999999) -implicitDefEqProofs only [go_sem, mwp_draw]
      refine kR _ ?_
      simp (maxSteps := 9999999) -implicitDefEqProofs only [go_sem, mwp_draw]
      exact mvi (idxP_here h2 hx q).symm
  · simp (maxSteps := 9999999) -implicitDefEqProofs only [go_sem, mwp_draw]
    obtain rfl : i = l.length := by omega
    rw [List.take_length] at h2
    exact mvi (idxP_none h2).symm
theorem ContainsFuncI_is (t : Bool) (l : List Int) (p : Int → Bool) (hl : l.length ≤ 1048576) : Is prog fid_slices_ContainsFunc_int_int [.s t 1 (encI l), .fn (tdI l) (tsI p)] (.b (l.any p)) := by
  refine MCall.run mixed get_slices_ContainsFunc_int_int ok_slices_ContainsFunc_int_int (Nat.le_of_ble_eq_true rfl) (by decide) ?_
  unfold mc_slices_ContainsFunc_int_int
  simp (maxSteps := 9999999) -implicitDefEqProofs only [go_sem, mwp_draw]
  refine callK_is (IndexFuncI_is _ l p hl) ?_
  simp (maxSteps := 9999999) -implicitDefEqProofs only [go_sem, mwp_draw]
  refine mvb ?_
  rw [Bool.eq_iff_iff, decide_eq_true_eq, idxP_ge, List.any_eq_true]

/-- Nodes, and edges between them. -/
def ndB (x : Int) : Bool := decide (0 ≤ x) && decide (x < 16)
theorem isNode_is (x : Int) : Is prog fid_impl_isNode [.i .i64 x] (.b (ndB x)) := by
  refine MCall.run mixed get_impl_isNode ok_impl_isNode (Nat.le_of_ble_eq_true rfl) (by decide) ?_
  unfold mc_impl_isNode
  by_cases h : 0 ≤ x
  · simp (maxSteps := 9999999) -implicitDefEqProofs only [go_sem, mwp_draw, h]
    exact mvb (by simp [ndB, h])
  · simp (maxSteps := 9999999) -implicitDefEqProofs only [go_sem, mwp_draw, h]
    exact mvb (by simp [ndB, h])
def edgN (x y : Int) : E := (min x y, max x y)
theorem l1Edge_is (x y : Int) : Is prog fid_spec_l1Edge [.i .i64 x, .i .i64 y] (.agg [.i .i64 (edgN x y).1, .i .i64 (edgN x y).2]) := by
  refine MCall.run mixed get_spec_l1Edge ok_spec_l1Edge (Nat.le_of_ble_eq_true rfl) (by decide) ?_
  unfold mc_spec_l1Edge
  simp (maxSteps := 9999999) -implicitDefEqProofs only [go_sem, mwp_draw]
  refine ⟨fun h => ?_, fun h => ?_⟩
  · rw [show edgN x y = (x, y) by simp only [edgN]; rw [show min x y = x by omega, show max x y = y by omega]]
  · rw [show edgN x y = (y, x) by simp only [edgN]; rw [show min x y = y by omega, show max x y = x by omega]]
def eoB (x y : Int) : Bool := !decide (x = y) && ndB x && ndB y
theorem EdgeOf_is (x y : Int) : Is prog fid_impl_EdgeOf [.i .i64 x, .i .i64 y] (.tup [.agg [.i .i64 (if eoB x y then (edgN x y).1 else 0), .i .i64 (if eoB x y then (edgN x y).2 else 0)], .b (eoB x y)]) := by
  refine MCall.run mixed get_impl_EdgeOf ok_impl_EdgeOf (Nat.le_of_ble_eq_true rfl) (by decide) ?_
  unfold mc_impl_EdgeOf
  by_cases h : x = y
  · simp (maxSteps := 9999999) -implicitDefEqProofs only [go_sem, mwp_draw, h]
    simp [eoB, h]
  · simp (maxSteps := 9999999) -implicitDefEqProofs only [go_sem, mwp_draw, h]
    refine callK_is (isNode_is x) ?_
    cases h2 : ndB x
    · simp (maxSteps := 9999999) -implicitDefEqProofs only [go_sem, mwp_draw, h]
      simp [eoB, h, h2]
    · simp (maxSteps := 9999999) -implicitDefEqProofs only [go_sem, mwp_draw, h]
      refine callK_is (isNode_is y) ?_
      cases h3 : ndB y
      · simp (maxSteps := 9999999) -implicitDefEqProofs only [go_sem, mwp_draw, h]
        simp [eoB, h, h2, h3]
      · simp (maxSteps := 9999999) -implicitDefEqProofs only [go_sem, mwp_draw, h]
        simp [eoB, h, h2, h3, edgN]
theorem Chain1_is (x : Int) : Is prog fid_impl_ChainEdges_1 [.i .i64 x] (.b (!ndB x)) := by
  refine MCall.run mixed get_impl_ChainEdges_1 ok_impl_ChainEdges_1 (Nat.le_of_ble_eq_true rfl) (by decide) ?_
  unfold mc_impl_ChainEdges_1
  simp (maxSteps := 9999999) -implicitDefEqProofs only [go_sem, mwp_draw]
  refine callK_is (isNode_is x) ?_
  simp (maxSteps := 9999999) -implicitDefEqProofs only [go_sem, mwp_draw]
  first | done | (show _ = true; kernel_rfl) | exact ⟨by kernel_rfl, rfl⟩

/-- The first edges of a chain; what a chain is. -/
def prs (l : List Int) : Nat → List E
  | 0 => []
  | k + 1 => prs l k ++ [edgN (l[k]?.getD 0) (l[k + 1]?.getD 0)]
theorem prs_length (l : List Int) : ∀ k, (prs l k).length = k
  | 0 => rfl
  | k + 1 => by simp [prs, prs_length l k]
theorem prs_succ {l : List Int} {k : Nat} {x y : Int} (hx : l[k]? = some x) (hy : l[k + 1]? = some y) : prs l (k + 1) = prs l k ++ [edgN x y] := by
  simp [prs, hx, hy]
def chP (l : List Int) : Prop := l.length ≤ 17 ∧ (∀ x ∈ l, ndB x = true) ∧ ∀ j, j + 1 < l.length → l[j]? ≠ l[j + 1]?
noncomputable def chB (l : List Int) : Bool := @decide (chP l) (Classical.propDecidable _)
theorem chB_tt {l : List Int} (h : chP l) : chB l = true := by unfold chB; simp [h]
theorem chB_ff {l : List Int} (h : ¬ chP l) : chB l = false := by unfold chB; simp [h]
noncomputable def chR (l : List Int) : List E := if chB l then prs l (l.length - 1) else []
theorem chR_len (l : List Int) : (chR l).length ≤ 17 := by
  unfold chR
  cases h : chB l
  · simp
  · have : chP l := Classical.byContradiction fun q => by rw [chB_ff q] at h; cases h
    have := this.1
    simp [prs_length]; omega
theorem steps_is (t : Bool) (l : List Int) (hl : l.length ≤ 17) (hn : ∀ x ∈ l, ndB x = true) : Is prog fid_impl_steps [.s t 1 (encI l)] (.tup [.ow true 2 (encE (chR l)), .b (chB l)]) := by
  refine MCall.run mixed get_impl_steps ok_impl_steps (Nat.le_of_ble_eq_true rfl) (by decide) ?_
  unfold mc_impl_steps
  simp (maxSteps := 9999999) -implicitDefEqProofs only [go_sem, mwp_draw]
  refine mwp_loopk (X := Nat) (fun k => ⟨[(0, .s t 1 (encI l)), (4, .sr 0 0 (prs l k).length), (5, .i .i64 ((k + 1 : Nat) : Int))], [(0, .arr true 2 (encE (prs l k)))], 1⟩)
    (fun k => (k = 0 ∨ k + 1 ≤ l.length) ∧ ∀ j, j < k → l[j]? ≠ l[j + 1]?) (fun k => l.length - k) 0 (by rfl) (by simp) ?_
  rintro k ⟨h1, h2⟩ K kN kE kR
  have hp := prs_length l k
  simp (maxSteps := 9999999) -implicitDefEqProofs only [go_sem]
  refine ⟨fun h3 => ?_, fun h3 => kE _ _ ?_⟩
  · have hk : k + 1 < l.length := by omega
    have e0 : (((k + 1 : Nat) : Int) - 1).toNat = k := by omega
    simp (maxSteps := 9999999) -implicitDefEqProofs only [go_sem, mwp_draw]
    refine ⟨fits64 (by omega) (by omega), by omega, by omega, fun x hx => ⟨by omega, by omega, fun y hy => ?_⟩⟩
    rw [e0] at hx
    refine callK_is (EdgeOf_is x y) ?_
    have hx1 := hn x (List.mem_of_getElem? hx)
    have hy1 := hn y (List.mem_of_getElem? hy)
    by_cases q : x = y
    · have q2 : eoB x y = false := by simp [eoB, q]
      rw [q2]
      simp (maxSteps := 9999999) -implicitDefEqProofs only [go_sem, mwp_draw]
      refine ⟨by kernel_rfl, kR _ ?_⟩
      simp (maxSteps := 9999999) -implicitDefEqProofs only [go_sem, mwp_draw]
      have : chB l = false := chB_ff fun c => c.2.2 k hk (by rw [hx, hy, q])
      simp [chR, this, encE]
    · have q2 : eoB x y = true := by simp [eoB, q, hx1, hy1]
      rw [q2]
      simp (maxSteps := 9999999) -implicitDefEqProofs only [go_sem, mwp_draw]
      refine ⟨by kernel_rfl, by omega, fits64 (by omega) (by omega), kN _ (k + 1) (by rw [prs_succ hx hy]; simp; rfl) ⟨by omega, fun j hj => ?_⟩ (by omega)⟩
      by_cases w : j = k
      · subst w; rw [hx, hy]; simpa using q
      · exact h2 j (by omega)
  · simp (maxSteps := 9999999) -implicitDefEqProofs only [go_sem, mwp_draw]
    have hc : chB l = true := chB_tt ⟨hl, hn, fun j hj => h2 j (by omega)⟩
    have : k = l.length - 1 := by omega
    simp [chR, hc, this]
theorem ChainEdges_is (t : Bool) (l : List Int) (hl : l.length ≤ 1048576) : Is prog fid_impl_ChainEdges [.s t 1 (encI l)] (.tup [.ow true 2 (encE (chR l)), .b (chB l)]) := by
  refine MCall.run mixed get_impl_ChainEdges ok_impl_ChainEdges (Nat.le_of_ble_eq_true rfl) (by decide) ?_
  unfold mc_impl_ChainEdges
  by_cases h : (17 : Int) < l.length
  · simp (maxSteps := 9999999) -implicitDefEqProofs only [go_sem, mwp_draw, h]
    have : chB l = false := chB_ff fun c => by have := c.1; omega
    simp [chR, this, encE]
  · simp (maxSteps := 9999999) -implicitDefEqProofs only [go_sem, mwp_draw, h]
    refine ⟨tdI l, tsI fun x => !ndB x, fnOk_tsI rfl rfl ⟨_, get_impl_ChainEdges_1, by kernel_rfl, by kernel_rfl⟩ (fun x hx => Chain1_is x), ?_⟩
    refine callK_is (ContainsFuncI_is _ l _ hl) ?_
    cases q : l.any fun x => !ndB x
    · simp (maxSteps := 9999999) -implicitDefEqProofs only [go_sem, mwp_draw]
      refine callK_is (steps_is _ l (by omega) (fun x hx => by
        cases w : ndB x with
        | true => rfl
        | false => rw [List.any_eq_false] at q; exact absurd (by simp [w]) (q x hx))) ?_
      simp (maxSteps := 9999999) -implicitDefEqProofs only [go_sem, mwp_draw]
    · simp (maxSteps := 9999999) -implicitDefEqProofs only [go_sem, mwp_draw]
      rw [List.any_eq_true] at q
      obtain ⟨x, hx, w⟩ := q
      have : chB l = false := chB_ff fun c => by have := c.2.1 x hx; simp [this] at w
      simp [chR, this, encE]
end Go.Fw
