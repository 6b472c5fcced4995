/-
  The laws' small helpers: whole numbers in slices.
-/
import Derived.Test.YtbolckhedohecaaCtD
import Derived.Test.YtbolckhedohecaaCf
namespace Go.Fw
set_option linter.unusedSimpArgs false
set_option linter.unusedVariables false
set_option maxRecDepth 100000
set_option maxHeartbeats 4000000
open Go.Proofs.Try (prog)

def szM (l : List Int) (left : Int) : Int := if left - l.length < 0 then -1 else left - l.length
def markI (n : Nat) (k : Int) : List Int := (List.range n).map fun i : Nat => k + i
theorem markI_length (n : Nat) (k : Int) : (markI n k).length = n := by simp [markI]
theorem markI_take (n : Nat) (k : Int) : (markI n k).take n = markI n k := List.take_of_length_le (by rw [markI_length]; omega)
theorem markI_get {n : Nat} {k : Int} {i : Nat} (h : i < n) : (markI n k)[i]? = some (k + i) := by simp [markI, h]
theorem in_step {α : Type} {l : List α} {i : Nat} {x : α} {n : α} (h : n ∉ l.take i) (hx : l[i]? = some x) (e : ¬ x = n) : n ∉ l.take (i + 1) := by
  rw [List.take_add_one, hx]; simp [h, Ne.symm e]
end Go.Fw
