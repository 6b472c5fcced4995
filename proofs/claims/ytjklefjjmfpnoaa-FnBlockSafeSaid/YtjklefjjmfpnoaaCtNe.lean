/-
  Rows of slices with memory of their own: marks, comparisons.
-/
import Derived.Test.YtjklefjjmfpnoaaCtHg
import Derived.Test.YtjklefjjmfpnoaaCtKn
namespace Go.Fw
set_option linter.unusedSimpArgs false
set_option linter.unusedVariables false
set_option maxRecDepth 100000
set_option maxHeartbeats 8000000
open Go.Proofs.Try (prog)
open Go.Pl

def rwI (L : List (List Int)) : List (List (List D)) := L.map encI
theorem rwI_length (L : List (List Int)) : (rwI L).length = L.length := by simp [rwI]
theorem rwI_N (L : List (List Int)) : ((rwI L).map fun es => [D.a 1 es]) = encN L := by simp [rwI, encN]
theorem rwI_snoc (L : List (List Int)) (c : List Int) : rwI L ++ [encI c] = rwI (L ++ [c]) := by simp [rwI]
theorem rwI_set (L : List (List Int)) (i : Nat) (c : List Int) : (rwI L).set i (encI c) = rwI (L.set i c) := by simp [rwI, List.map_set]
theorem rwI_get {L : List (List Int)} {i : Nat} {c : List Int} (h : L[i]? = some c) : (rwI L)[i]? = some (encI c) := by simp [rwI, h]
theorem rwI_nil : rwI [] = [] := rfl
attribute [go_sem] rwI_length rwI_N rwI_snoc rwI_set
theorem goneR {α : Type} {l : List α} {i : Nat} {x : α} (hx : l[i]? = some x) : ∀ P : α → Prop, (∀ z, l[i]? = some z → P z) ↔ P x := fun P => ⟨fun h => h x hx, fun h z hz => by rw [hx] at hz; cases hz; exact h⟩

/-- All rows, marked one after the other. -/
def mkR : List (List Int) → Int → List (List Int)
  | [], _ => []
  | c :: r, k => markI c.length k :: mkR r (k + c.length)
def mkK : List (List Int) → Int → Int
  | [], k => k
  | c :: r, k => mkK r (k + c.length)
theorem mkK_app : ∀ (a b : List (List Int)) (k : Int), mkK (a ++ b) k = mkK b (mkK a k)
  | [], _, _ => rfl
  | c :: a, b, k => mkK_app a b (k + c.length)
theorem mkR_app : ∀ (a b : List (List Int)) (k : Int), mkR (a ++ b) k = mkR a k ++ mkR b (mkK a k)
  | [], _, _ => rfl
  | c :: a, b, k => by show markI c.length k :: mkR (a ++ b) _ = _; rw [mkR_app a b]; rfl
theorem mkR_length : ∀ (a : List (List Int)) (k : Int), (mkR a k).length = a.length
  | [], _ => rfl
  | c :: a, k => by simp [mkR, mkR_length a]
theorem mkK_next {L : List (List Int)} {i : Nat} {c : List Int} (h : L[i]? = some c) (k : Int) : mkK (L.take (i + 1)) k = mkK (L.take i) k + c.length := by
  rw [take_snoc h, mkK_app]; rfl
theorem mkK_le : ∀ (L : List (List Int)) (k : Int), (∀ c ∈ L, c.length ≤ 1000) → k ≤ mkK L k ∧ mkK L k ≤ k + 1000 * L.length
  | [], k, _ => by simp [mkK]
  | c :: L, k, h => by
    have h1 := h c (by simp)
    have := mkK_le L (k + c.length) (fun d hd => h d (by simp [hd]))
    rw [List.length_cons]; simp only [mkK]; omega
theorem mkR_get {L : List (List Int)} {i : Nat} {c : List Int} (h : L[i]? = some c) (k : Int) : (mkR L k)[i]? = some (markI c.length (mkK (L.take i) k)) := by
  have hi := (List.getElem?_eq_some_iff.1 h).1
  have e : L = L.take i ++ c :: L.drop (i + 1) := by
    rw [← (List.getElem?_eq_some_iff.1 h).2, List.getElem_cons_drop, List.take_append_drop]
  have l : (mkR (L.take i) k).length = i := by rw [mkR_length, List.length_take]; omega
  have q : mkR L k = mkR (L.take i) k ++ mkR (c :: L.drop (i + 1)) (mkK (L.take i) k) := by rw [← mkR_app, ← e]
  rw [q, List.getElem?_append_right (by omega), l, Nat.sub_self]; rfl
/-- The rows that are marked, then the others. -/
def mkS (L : List (List Int)) (k : Int) (i : Nat) : List (List Int) := mkR (L.take i) k ++ L.drop i
theorem mkS_get {L : List (List Int)} {i : Nat} {c : List Int} (h : L[i]? = some c) (k : Int) : (mkS L k i)[i]? = some c := by
  have hi := (List.getElem?_eq_some_iff.1 h).1
  have l : (mkR (L.take i) k).length = i := by rw [mkR_length, List.length_take]; omega
  unfold mkS
  rw [List.getElem?_append_right (by omega), l, Nat.sub_self, List.getElem?_drop]; simpa using h
theorem mkS_length {L : List (List Int)} {i : Nat} (hi : i ≤ L.length) (k : Int) : (mkS L k i).length = L.length := by
  unfold mkS
  rw [List.length_append, mkR_length, List.length_take, List.length_drop]; omega
theorem mkS_next {L : List (List Int)} {i : Nat} {c : List Int} (h : L[i]? = some c) (k : Int) : (mkS L k i).set i (markI c.length (mkK (L.take i) k)) = mkS L k (i + 1) := by
  have hi := (List.getElem?_eq_some_iff.1 h).1
  have l : (mkR (L.take i) k).length = i := by rw [mkR_length, List.length_take]; omega
  unfold mkS
  rw [take_snoc h, mkR_app, List.set_append_right _ _ (by omega), l, Nat.sub_self]
  have e : L.drop i = c :: L.drop (i + 1) := by rw [← (List.getElem?_eq_some_iff.1 h).2, List.getElem_cons_drop]
  rw [e]
  simp [mkR]
theorem mkS_all (L : List (List Int)) (k : Int) : mkS L k L.length = mkR L k := by simp [mkS]

theorem markIntSS_is (hs : List Value) (L : List (List Int)) (k : Int) (hk : 0 ≤ k ∧ k ≤ 1000) (hl : L.length ≤ 1000) (hc : ∀ c ∈ L, c.length ≤ 1000) :
    MCall prog fid_laws_markIntSS [.on hs 1 (rwI L), .i .i64 k] (fun o r => o = [.on hs 1 (rwI (mkR L k)), .u] ∧ r = .i .i64 (mkK L k)) := by
  refine MCall.run mixed get_laws_markIntSS ok_laws_markIntSS (Nat.le_of_ble_eq_true rfl) (by decide) ?_
  unfold mc_laws_markIntSS
  simp (maxSteps := 9999999) -implicitDefEqProofs only [go_sem, mwp_draw]
  refine mwp_loopk (X := Nat) (fun i => ⟨[(0, .sr 0 0 L.length), (1, .i .i64 (mkK (L.take i) k)), (5, .i .i64 i)], [(0, .nst hs 1 (rwI (mkS L k i)))], 1⟩)
    (fun i => i ≤ L.length) (fun i => L.length - i) 0 (by kernel_rfl) (Nat.zero_le _) ?_
  rintro i h1 K kN kE kR
  have pl := mkK_le (L.take i) k (fun c hc' => hc c (List.mem_of_mem_take hc'))
  rw [List.length_take] at pl
  have sl := mkS_length h1 k
  by_cases hi : i < L.length
  · obtain ⟨c, hcx⟩ : ∃ c, L[i]? = some c := ⟨_, List.getElem?_eq_getElem hi⟩
    have cl := hc c (List.mem_of_getElem? hcx)
    have g1 := goneR (rwI_get (mkS_get hcx k))
    have c1 : ((i : Int) < L.length) = True := eq_true (by omega)
    have c2 : (i < L.length) = True := eq_true hi
    have c3 : (0 ≤ (i : Int)) = True := eq_true (by omega)
    simp (maxSteps := 9999999) -implicitDefEqProofs only [go_sem, mwp_draw, c1, c2, c3, sl, ↓g1]
    refine ⟨_, _, markIntS_is true c (mkK (L.take i) k) (by omega) (by omega), ?_⟩
    rw [rwI_set, mkS_next hcx, ← mkK_next hcx]
    simp (maxSteps := 9999999) -implicitDefEqProofs only [go_sem, mwp_draw]
    repeat (refine ⟨by first | omega | decide | exact fits64 (by omega) (by omega) | kernel_rfl | (intros; omega), ?_⟩)
    exact kN _ (i + 1) (by kernel_rfl) (by omega) (by omega)
  · obtain rfl : i = L.length := by omega
    have c1 : ((L.length : Int) < L.length) = False := eq_false (by omega)
    simp (maxSteps := 9999999) -implicitDefEqProofs only [go_sem, mwp_draw, c1]
    refine kE _ _ ?_
    clear kN kE kR
    rw [mkS_all]
    have rl := mkR_length L k
    simp (maxSteps := 9999999) -implicitDefEqProofs only [go_sem, mwp_draw, rl]
    all_goals trace_state
theorem markIntSS0_is (t : Bool) (k : Int) : MCall prog fid_laws_markIntSS [.ow t 1 [], .i .i64 k] (fun o r => o = [.ow true 1 [], .u] ∧ r = .i .i64 k) := by
  refine MCall.run mixed get_laws_markIntSS ok_laws_markIntSS (Nat.le_of_ble_eq_true rfl) (by decide) ?_
  unfold mc_laws_markIntSS
  simp (maxSteps := 9999999) -implicitDefEqProofs only [go_sem, mwp_draw]
  refine mwp_loopk (X := Unit) (fun _ => ⟨[(0, .sr 0 0 0), (1, .i .i64 k), (5, .i .i64 0)], [(0, .arr t 1 [])], 1⟩)
    (fun _ => True) (fun _ => 0) () (by kernel_rfl) trivial ?_
  rintro ⟨⟩ - K kN kE kR
  have c1 : ((0 : Int) < 0) = False := eq_false (by omega)
  simp (maxSteps := 9999999) -implicitDefEqProofs only [go_sem, mwp_draw, c1]
  refine kE _ _ ?_
  clear kN kE kR
  simp (maxSteps := 9999999) -implicitDefEqProofs only [go_sem, mwp_draw]
  exact .inr (fun e he => by cases he)
theorem heldIntSS_is (t : Bool) (L : List (List Int)) (k : Int) (hk : 0 ≤ k ∧ k ≤ 1000) (hl : L.length ≤ 1000) (hc : ∀ c ∈ L, c.length ≤ 1000) :
    Is prog fid_laws_heldIntSS [.s t 1 (encN (mkR L k)), .i .i64 k] (.i .i64 (mkK L k)) := by
  refine MCall.run mixed get_laws_heldIntSS ok_laws_heldIntSS (Nat.le_of_ble_eq_true rfl) (by decide) ?_
  unfold mc_laws_heldIntSS
  simp (maxSteps := 9999999) -implicitDefEqProofs only [go_sem, mwp_draw]
  refine mwp_loopk (X := Nat) (fun i => ⟨[(0, .s t 1 (encN (mkR L k))), (1, .i .i64 (mkK (L.take i) k)), (5, .i .i64 i)], [], 0⟩)
    (fun i => i ≤ L.length) (fun i => L.length - i) 0 (by kernel_rfl) (Nat.zero_le _) ?_
  rintro i h1 K kN kE kR
  have pl := mkK_le (L.take i) k (fun c hc' => hc c (List.mem_of_mem_take hc'))
  rw [List.length_take] at pl
  have rl := mkR_length L k
  by_cases hi : i < L.length
  · obtain ⟨c, hcx⟩ : ∃ c, L[i]? = some c := ⟨_, List.getElem?_eq_getElem hi⟩
    have cl := hc c (List.mem_of_getElem? hcx)
    have g1 := goneR (mkR_get hcx k)
    have c1 : ((i : Int) < L.length) = True := eq_true (by omega)
    have c2 : (i < L.length) = True := eq_true hi
    have c3 : (0 ≤ (i : Int)) = True := eq_true (by omega)
    have c4 : (mkK (L.take i) k + c.length < 0) = False := eq_false (by omega)
    simp (maxSteps := 9999999) -implicitDefEqProofs only [go_sem, mwp_draw, c1, c2, c3, rl, ↓g1]
    refine callK_is (heldIntS_is _ c.length (mkK (L.take i) k) (by omega) (by omega)) ?_
    simp (maxSteps := 9999999) -implicitDefEqProofs only [go_sem, mwp_draw, c4]
    rw [← mkK_next hcx]
    repeat (refine ⟨by first | omega | decide | exact fits64 (by omega) (by omega) | kernel_rfl | (intros; omega), ?_⟩)
    exact kN _ (i + 1) (by kernel_rfl) (by omega) (by omega)
  · obtain rfl : i = L.length := by omega
    have c1 : ((L.length : Int) < L.length) = False := eq_false (by omega)
    simp (maxSteps := 9999999) -implicitDefEqProofs only [go_sem, mwp_draw, c1, rl]
    refine kE _ _ ?_
    clear kN kE kR
    simp (maxSteps := 9999999) -implicitDefEqProofs only [go_sem, mwp_draw]
theorem eqIntSS_is (t t' : Bool) (l m : List (List Int)) (hl : l.length ≤ 2000000) (hm : ∀ x ∈ l, x.length ≤ 2000000) : Is prog fid_laws_eqIntSS [.s t 1 (encN l), .s t' 1 (encN m)] (.b (decide (l = m))) := by
  refine MCall.run mixed get_laws_eqIntSS ok_laws_eqIntSS (Nat.le_of_ble_eq_true rfl) (by decide) ?_
  unfold mc_laws_eqIntSS
  simp (maxSteps := 9999999) -implicitDefEqProofs only [go_sem, mwp_draw]
  refine ⟨fun h => mvb (eq_len h).symm, fun h => ?_⟩
  refine mwp_loopk (X := Nat) (fun i => ⟨[(0, .s t 1 (encN l)), (1, .s t' 1 (encN m)), (5, .i .i64 i)], [], 0⟩) (fun i => i ≤ l.length ∧ l.take i = m.take i) (fun i => l.length - i) 0 rfl (by simp) ?_
  rintro i ⟨h1, h2⟩ K kN kE kR
  simp (maxSteps := 9999999) -implicitDefEqProofs only [go_sem, mwp_draw]
  refine ⟨fun h3 => ⟨by omega, by omega, fun x hx => ⟨by omega, by omega, fun y hy => ?_⟩⟩, fun h3 => kE _ _ ?_⟩
  · refine callK_is (eqIntS_is _ _ x y (hm x (List.mem_of_getElem? hx))) ?_
    by_cases h4 : x = y
    · have h5 : decide (x = y) = true := decide_eq_true h4
      rw [h5]
      simp (maxSteps := 9999999) -implicitDefEqProofs only [go_sem, mwp_draw]
      exact ⟨by kernel_rfl, fits64 (by omega) (by omega), kN _ (i + 1) (by rfl) ⟨by omega, eq_step h2 hx hy h4⟩ (by omega)⟩
    · have h5 : decide (x = y) = false := decide_eq_false h4
      rw [h5]
      simp (maxSteps := 9999999) -implicitDefEqProofs only [go_sem, mwp_draw]
      refine ⟨by kernel_rfl, kR _ ?_⟩
      simp (maxSteps := 9999999) -implicitDefEqProofs only [go_sem, mwp_draw]
      exact mvb (eq_ne hx hy h4).symm
  · simp (maxSteps := 9999999) -implicitDefEqProofs only [go_sem, mwp_draw]
    obtain rfl : i = l.length := by omega
    exact mvb (eq_end (by omega) h2).symm
theorem encN_nil : encN [] = [] := rfl
theorem heldIntSS0_is (t : Bool) (k : Int) (hk : 0 ≤ k ∧ k ≤ 1000) : Is prog fid_laws_heldIntSS [.s t 1 [], .i .i64 k] (.i .i64 k) := heldIntSS_is t [] k hk (by simp) (by simp)
theorem eqIntSS0_is (t t' : Bool) : Is prog fid_laws_eqIntSS [.s t 1 [], .s t' 1 []] (.b true) := eqIntSS_is t t' [] [] (by simp) (by simp)
end Go.Fw
