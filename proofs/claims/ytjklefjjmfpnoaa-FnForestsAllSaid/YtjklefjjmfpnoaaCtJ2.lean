/-
  Cuts: how many edges go between some nodes and the others.
-/
import Derived.Test.YtjklefjjmfpnoaaCtJ
import Derived.Test.YtjklefjjmfpnoaaCtGv
import Derived.Test.YtjklefjjmfpnoaaCtH
namespace Go.Fw
set_option linter.unusedSimpArgs false
set_option linter.unusedVariables false
set_option maxRecDepth 100000
set_option maxHeartbeats 4000000
open Go.Proofs.Try (prog)
open Go.Pl

/-- A side of a cut; the edges that go over. -/
def sdP (n : Int) (l : List Int) : Prop := (∀ x ∈ l, 0 ≤ x ∧ x < n) ∧ l.Nodup
noncomputable def sdB (n : Int) (es : List E) (l : List Int) : Bool := gvB n es && @decide (sdP n l) (Classical.propDecidable _)
theorem sdB_tt {n : Int} {es : List E} {l : List Int} (h0 : gvB n es = true) (h : sdP n l) : sdB n es l = true := by unfold sdB; simp [h, h0]
theorem sdB_ff {n : Int} {es : List E} {l : List Int} (h : ¬ sdP n l) : sdB n es l = false := by unfold sdB; simp [h]
def ovP (l : List Int) (e : E) : Bool := decide (e.1 ∈ l) != decide (e.2 ∈ l)
noncomputable def cszV (n : Int) (es : List E) (l : List Int) : Int := if sdB n es l then ((es.filter (ovP l)).length : Int) else 0
/-- The nodes of a side, as flags. -/
def mkT (m : Nat) (l : List Int) : List Bool := (List.range m).map fun (j : Nat) => decide ((j : Int) ∈ l)
theorem mkT_length (m : Nat) (l : List Int) : (mkT m l).length = m := by simp [mkT]
theorem mkT_get {m : Nat} {l : List Int} {x : Int} (hx : 0 ≤ x ∧ x < m) : (mkT m l)[x.toNat]? = some (decide (x ∈ l)) := by
  have h : x.toNat < m := by omega
  simp only [mkT, List.getElem?_map, List.getElem?_range h, Option.map_some]
  rw [show ((x.toNat : Nat) : Int) = x by omega]
theorem mkT_nil (m : Nat) : List.replicate m false = mkT m [] := by
  apply List.ext_getElem?
  intro j
  by_cases h : j < m
  · simp [mkT, h]
  · simp [mkT, h]
theorem mkT_set {m : Nat} {l : List Int} {x : Int} (hx : 0 ≤ x ∧ x < m) : (mkT m l).set x.toNat true = mkT m (l ++ [x]) := by
  apply List.ext_getElem?
  intro j
  by_cases h : j < m
  · by_cases hj : x.toNat = j
    · subst hj
      rw [List.getElem?_set_self (by rw [mkT_length]; omega), mkT_get hx]
      simp
    · rw [List.getElem?_set_ne hj]
      have : (j : Int) ≠ x := by omega
      simp [mkT, h, this]
  · rw [List.getElem?_eq_none (by simp [mkT_length]; omega), List.getElem?_eq_none (by simp [mkT_length]; omega)]
end Go.Fw
