/-
  Rows of slices of edges with memory of their own: marks, comparisons.
-/
import Derived.Test.YtjklefjjmfpnoaaCtHg
namespace Go.Fw
set_option linter.unusedSimpArgs false
set_option linter.unusedVariables false
set_option maxRecDepth 100000
set_option maxHeartbeats 8000000
open Go.Proofs.Try (prog)
open Go.Pl

def rwE (L : List (List E)) : List (List (List D)) := L.map encE
theorem rwE_length (L : List (List E)) : (rwE L).length = L.length := by simp [rwE]
theorem rwE_F (L : List (List E)) : ((rwE L).map fun es => [D.a 2 es]) = encF L := by simp [rwE, encF]
theorem rwE_snoc (L : List (List E)) (c : List E) : rwE L ++ [encE c] = rwE (L ++ [c]) := by simp [rwE]
theorem rwE_set (L : List (List E)) (i : Nat) (c : List E) : (rwE L).set i (encE c) = rwE (L.set i c) := by simp [rwE, List.map_set]
theorem rwE_get {L : List (List E)} {i : Nat} {c : List E} (h : L[i]? = some c) : (rwE L)[i]? = some (encE c) := by simp [rwE, h]
theorem rwE_nil : rwE [] = [] := rfl
attribute [go_sem] rwE_length rwE_F rwE_snoc rwE_set
theorem goneRE {α : Type} {l : List α} {i : Nat} {x : α} (hx : l[i]? = some x) : ∀ P : α → Prop, (∀ z, l[i]? = some z → P z) ↔ P x := fun P => ⟨fun h => h x hx, fun h z hz => by rw [hx] at hz; cases hz; exact h⟩

/-- All rows, marked one after the other. -/
def mkRE : List (List E) → Int → List (List E)
  | [], _ => []
  | c :: r, k => markE c.length k :: mkRE r (k + 2 * c.length)
def mkKE : List (List E) → Int → Int
  | [], k => k
  | c :: r, k => mkKE r (k + 2 * c.length)
theorem mkKE_app : ∀ (a b : List (List E)) (k : Int), mkKE (a ++ b) k = mkKE b (mkKE a k)
  | [], _, _ => rfl
  | c :: a, b, k => mkKE_app a b (k + 2 * c.length)
theorem mkRE_app : ∀ (a b : List (List E)) (k : Int), mkRE (a ++ b) k = mkRE a k ++ mkRE b (mkKE a k)
  | [], _, _ => rfl
  | c :: a, b, k => by show markE c.length k :: mkRE (a ++ b) _ = _; rw [mkRE_app a b]; rfl
theorem mkRE_length : ∀ (a : List (List E)) (k : Int), (mkRE a k).length = a.length
  | [], _ => rfl
  | c :: a, k => by simp [mkRE, mkRE_length a]
theorem mkKE_next {L : List (List E)} {i : Nat} {c : List E} (h : L[i]? = some c) (k : Int) : mkKE (L.take (i + 1)) k = mkKE (L.take i) k + 2 * c.length := by
  rw [take_snoc h, mkKE_app]; rfl
theorem mkKE_le : ∀ (L : List (List E)) (k : Int), (∀ c ∈ L, c.length ≤ 1000) → k ≤ mkKE L k ∧ mkKE L k ≤ k + 2000 * L.length
  | [], k, _ => by simp [mkKE]
  | c :: L, k, h => by
    have h1 := h c (by simp)
    have := mkKE_le L (k + 2 * c.length) (fun d hd => h d (by simp [hd]))
    rw [List.length_cons]; simp only [mkKE]; omega
theorem mkRE_get {L : List (List E)} {i : Nat} {c : List E} (h : L[i]? = some c) (k : Int) : (mkRE L k)[i]? = some (markE c.length (mkKE (L.take i) k)) := by
  have hi := (List.getElem?_eq_some_iff.1 h).1
  have e : L = L.take i ++ c :: L.drop (i + 1) := by
    rw [← (List.getElem?_eq_some_iff.1 h).2, List.getElem_cons_drop, List.take_append_drop]
  have l : (mkRE (L.take i) k).length = i := by rw [mkRE_length, List.length_take]; omega
  have q : mkRE L k = mkRE (L.take i) k ++ mkRE (c :: L.drop (i + 1)) (mkKE (L.take i) k) := by rw [← mkRE_app, ← e]
  rw [q, List.getElem?_append_right (by omega), l, Nat.sub_self]; rfl
/-- The rows that are marked, then the others. -/
def mkSE (L : List (List E)) (k : Int) (i : Nat) : List (List E) := mkRE (L.take i) k ++ L.drop i
theorem mkSE_get {L : List (List E)} {i : Nat} {c : List E} (h : L[i]? = some c) (k : Int) : (mkSE L k i)[i]? = some c := by
  have hi := (List.getElem?_eq_some_iff.1 h).1
  have l : (mkRE (L.take i) k).length = i := by rw [mkRE_length, List.length_take]; omega
  unfold mkSE
  rw [List.getElem?_append_right (by omega), l, Nat.sub_self, List.getElem?_drop]; simpa using h
theorem mkSE_length {L : List (List E)} {i : Nat} (hi : i ≤ L.length) (k : Int) : (mkSE L k i).length = L.length := by
  unfold mkSE
  rw [List.length_append, mkRE_length, List.length_take, List.length_drop]; omega
theorem mkSE_next {L : List (List E)} {i : Nat} {c : List E} (h : L[i]? = some c) (k : Int) : (mkSE L k i).set i (markE c.length (mkKE (L.take i) k)) = mkSE L k (i + 1) := by
  have hi := (List.getElem?_eq_some_iff.1 h).1
  have l : (mkRE (L.take i) k).length = i := by rw [mkRE_length, List.length_take]; omega
  unfold mkSE
  rw [take_snoc h, mkRE_app, List.set_append_right _ _ (by omega), l, Nat.sub_self]
  have e : L.drop i = c :: L.drop (i + 1) := by rw [← (List.getElem?_eq_some_iff.1 h).2, List.getElem_cons_drop]
  rw [e]
  simp [mkRE]
theorem mkSE_all (L : List (List E)) (k : Int) : mkSE L k L.length = mkRE L k := by simp [mkSE]

theorem markEdgeSS_is (hs : List Value) (L : List (List E)) (k : Int) (hk : 0 ≤ k ∧ k ≤ 1000) (hl : L.length ≤ 1000) (hc : ∀ c ∈ L, c.length ≤ 1000) :
    MCall prog fid_laws_markEdgeSS [.on hs 2 (rwE L), .i .i64 k] (fun o r => o = [.on hs 2 (rwE (mkRE L k)), .u] ∧ r = .i .i64 (mkKE L k)) := by
  refine MCall.run mixed get_laws_markEdgeSS ok_laws_markEdgeSS (Nat.le_of_ble_eq_true rfl) (by decide) ?_
  unfold mc_laws_markEdgeSS
  simp (maxSteps := 9999999) -implicitDefEqProofs only [go_sem, mwp_draw]
  refine mwp_loopk (X := Nat) (fun i => ⟨[(0, .sr 0 0 L.length), (1, .i .i64 (mkKE (L.take i) k)), (5, .i .i64 i)], [(0, .nst hs 2 (rwE (mkSE L k i)))], 1⟩)
    (fun i => i ≤ L.length) (fun i => L.length - i) 0 (by kernel_rfl) (Nat.zero_le _) ?_
  rintro i h1 K kN kE kR
  have pl := mkKE_le (L.take i) k (fun c hc' => hc c (List.mem_of_mem_take hc'))
  rw [List.length_take] at pl
  have sl := mkSE_length h1 k
  by_cases hi : i < L.length
  · obtain ⟨c, hcx⟩ : ∃ c, L[i]? = some c := ⟨_, List.getElem?_eq_getElem hi⟩
    have cl := hc c (List.mem_of_getElem? hcx)
    have g1 := goneRE (rwE_get (mkSE_get hcx k))
    have c1 : ((i : Int) < L.length) = True := eq_true (by omega)
    have c2 : (i < L.length) = True := eq_true hi
    have c3 : (0 ≤ (i : Int)) = True := eq_true (by omega)
    simp (maxSteps := 9999999) -implicitDefEqProofs only [go_sem, mwp_draw, c1, c2, c3, sl, ↓g1]
    refine ⟨_, _, markEdgeS_is true c (mkKE (L.take i) k) (by omega) (by omega), ?_⟩
    rw [rwE_set, mkSE_next hcx, ← mkKE_next hcx]
    simp (maxSteps := 9999999) -implicitDefEqProofs only [go_sem, mwp_draw]
    repeat (refine ⟨by first | omega | decide | exact fits64 (by omega) (by omega) | kernel_rfl | (intros; omega), ?_⟩)
    exact kN _ (i + 1) (by kernel_rfl) (by omega) (by omega)
  · obtain rfl : i = L.length := by omega
    have c1 : ((L.length : Int) < L.length) = False := eq_false (by omega)
    simp (maxSteps := 9999999) -implicitDefEqProofs only [go_sem, mwp_draw, c1]
    refine kE _ _ ?_
    clear kN kE kR
    rw [mkSE_all]
    have rl := mkRE_length L k
    simp (maxSteps := 9999999) -implicitDefEqProofs only [go_sem, mwp_draw, rl]
    all_goals trace_state
theorem markEdgeSS0_is (t : Bool) (k : Int) : MCall prog fid_laws_markEdgeSS [.ow t 1 [], .i .i64 k] (fun o r => o = [.ow true 1 [], .u] ∧ r = .i .i64 k) := by
  refine MCall.run mixed get_laws_markEdgeSS ok_laws_markEdgeSS (Nat.le_of_ble_eq_true rfl) (by decide) ?_
  unfold mc_laws_markEdgeSS
  simp (maxSteps := 9999999) -implicitDefEqProofs only [go_sem, mwp_draw]
  refine mwp_loopk (X := Unit) (fun _ => ⟨[(0, .sr 0 0 0), (1, .i .i64 k), (5, .i .i64 0)], [(0, .arr t 1 [])], 1⟩)
    (fun _ => True) (fun _ => 0) () (by kernel_rfl) trivial ?_
  rintro ⟨⟩ - K kN kE kR
  have c1 : ((0 : Int) < 0) = False := eq_false (by omega)
  simp (maxSteps := 9999999) -implicitDefEqProofs only [go_sem, mwp_draw, c1]
  refine kE _ _ ?_
  clear kN kE kR
  simp (maxSteps := 9999999) -implicitDefEqProofs only [go_sem, mwp_draw]
  exact .inr (fun e he => by cases he)
theorem heldEdgeSS_is (t : Bool) (L : List (List E)) (k : Int) (hk : 0 ≤ k ∧ k ≤ 1000) (hl : L.length ≤ 1000) (hc : ∀ c ∈ L, c.length ≤ 1000) :
    Is prog fid_laws_heldEdgeSS [.s t 1 (encF (mkRE L k)), .i .i64 k] (.i .i64 (mkKE L k)) := by
  refine MCall.run mixed get_laws_heldEdgeSS ok_laws_heldEdgeSS (Nat.le_of_ble_eq_true rfl) (by decide) ?_
  unfold mc_laws_heldEdgeSS
  simp (maxSteps := 9999999) -implicitDefEqProofs only [go_sem, mwp_draw]
  refine mwp_loopk (X := Nat) (fun i => ⟨[(0, .s t 1 (encF (mkRE L k))), (1, .i .i64 (mkKE (L.take i) k)), (5, .i .i64 i)], [], 0⟩)
    (fun i => i ≤ L.length) (fun i => L.length - i) 0 (by kernel_rfl) (Nat.zero_le _) ?_
  rintro i h1 K kN kE kR
  have pl := mkKE_le (L.take i) k (fun c hc' => hc c (List.mem_of_mem_take hc'))
  rw [List.length_take] at pl
  have rl := mkRE_length L k
  by_cases hi : i < L.length
  · obtain ⟨c, hcx⟩ : ∃ c, L[i]? = some c := ⟨_, List.getElem?_eq_getElem hi⟩
    have cl := hc c (List.mem_of_getElem? hcx)
    have g1 := goneRE (mkRE_get hcx k)
    have c1 : ((i : Int) < L.length) = True := eq_true (by omega)
    have c2 : (i < L.length) = True := eq_true hi
    have c3 : (0 ≤ (i : Int)) = True := eq_true (by omega)
    have c4 : (mkKE (L.take i) k + 2 * c.length < 0) = False := eq_false (by omega)
    simp (maxSteps := 9999999) -implicitDefEqProofs only [go_sem, mwp_draw, c1, c2, c3, rl, ↓g1]
    refine callK_is (heldEdgeS_is _ c.length (mkKE (L.take i) k) (by omega) (by omega)) ?_
    simp (maxSteps := 9999999) -implicitDefEqProofs only [go_sem, mwp_draw, c4]
    rw [← mkKE_next hcx]
    repeat (refine ⟨by first | omega | decide | exact fits64 (by omega) (by omega) | kernel_rfl | (intros; omega), ?_⟩)
    exact kN _ (i + 1) (by kernel_rfl) (by omega) (by omega)
  · obtain rfl : i = L.length := by omega
    have c1 : ((L.length : Int) < L.length) = False := eq_false (by omega)
    simp (maxSteps := 9999999) -implicitDefEqProofs only [go_sem, mwp_draw, c1, rl]
    refine kE _ _ ?_
    clear kN kE kR
    simp (maxSteps := 9999999) -implicitDefEqProofs only [go_sem, mwp_draw]
theorem eqEdgeSS_is (t t' : Bool) (l m : List (List E)) (hl : l.length ≤ 2000000) (hm : ∀ x ∈ l, x.length ≤ 2000000) : Is prog fid_laws_eqEdgeSS [.s t 1 (encF l), .s t' 1 (encF m)] (.b (decide (l = m))) := by
  refine MCall.run mixed get_laws_eqEdgeSS ok_laws_eqEdgeSS (Nat.le_of_ble_eq_true rfl) (by decide) ?_
  unfold mc_laws_eqEdgeSS
  simp (maxSteps := 9999999) -implicitDefEqProofs only [go_sem, mwp_draw]
  refine ⟨fun h => mvb (eq_len h).symm, fun h => ?_⟩
  refine mwp_loopk (X := Nat) (fun i => ⟨[(0, .s t 1 (encF l)), (1, .s t' 1 (encF m)), (5, .i .i64 i)], [], 0⟩) (fun i => i ≤ l.length ∧ l.take i = m.take i) (fun i => l.length - i) 0 rfl (by simp) ?_
  rintro i ⟨h1, h2⟩ K kN kE kR
  simp (maxSteps := 9999999) -implicitDefEqProofs only [go_sem, mwp_draw]
  refine ⟨fun h3 => ⟨by omega, by omega, fun x hx => ⟨by omega, by omega, fun y hy => ?_⟩⟩, fun h3 => kE _ _ ?_⟩
  · refine callK_is (eqEdgeS_is _ _ x y (hm x (List.mem_of_getElem? hx))) ?_
    by_cases h4 : x = y
    · have h5 : decide (x = y) = true := decide_eq_true h4
      rw [h5]
      simp (maxSteps := 9999999) -implicitDefEqProofs only [go_sem, mwp_draw]
      exact ⟨by kernel_rfl, fits64 (by omega) (by omega), kN _ (i + 1) (by rfl) ⟨by omega, eq_step h2 hx hy h4⟩ (by omega)⟩
    · have h5 : decide (x = y) = false := decide_eq_false h4
      rw [h5]
      simp (maxSteps := 9999999) -implicitDefEqProofs only [go_sem, mwp_draw]
      refine ⟨by kernel_rfl, kR _ ?_⟩
      simp (maxSteps := 9999999) -implicitDefEqProofs only [go_sem, mwp_draw]
      exact mvb (eq_ne hx hy h4).symm
  · simp (maxSteps := 9999999) -implicitDefEqProofs only [go_sem, mwp_draw]
    obtain rfl : i = l.length := by omega
    exact mvb (eq_end (by omega) h2).symm
theorem encF_nil : encF [] = [] := rfl
theorem heldEdgeSS0_is (t : Bool) (k : Int) (hk : 0 ≤ k ∧ k ≤ 1000) : Is prog fid_laws_heldEdgeSS [.s t 1 [], .i .i64 k] (.i .i64 k) := heldEdgeSS_is t [] k hk (by simp) (by simp)
theorem eqEdgeSS0_is (t t' : Bool) : Is prog fid_laws_eqEdgeSS [.s t 1 [], .s t' 1 []] (.b true) := eqEdgeSS_is t t' [] [] (by simp) (by simp)
end Go.Fw
