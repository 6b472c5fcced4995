/-
  Graphs: the draws.
-/
import Derived.Test.YtjklefjjmfpnoaaGreatCtD
import Derived.Test.YtjklefjjmfpnoaaGreatCtJ
namespace Go.Fw
set_option linter.unusedSimpArgs false
set_option linter.unusedVariables false
set_option maxRecDepth 100000
set_option maxHeartbeats 4000000
open Go.Proofs.Tryz (prog)
open Go.Pl

theorem byt_take2 {b : List Int} (h : Byt b) (n : Nat) : Byt (b.take n) := fun x hx => h x (List.mem_of_mem_take hx)
theorem l1Copy_is (t : Bool) (n : Int) (es : List E) (hl : es.length ≤ 1048576) : Is prog fid_spec_l1Copy [Gr t n es] (.agg [.i .i64 n, .ow true 2 (encE es)]) := by
  refine MCall.run mixed get_spec_l1Copy ok_spec_l1Copy (Nat.le_of_ble_eq_true rfl) (by decide) ?_
  unfold mc_spec_l1Copy
  simp (maxSteps := 9999999) -implicitDefEqProofs only [go_sem, mwp_draw]
  refine ⟨by omega, ?_⟩
  first | (show _ = true; kernel_rfl) | (refine ⟨by kernel_rfl, ?_⟩; simp)
/-- A graph that is drawn. -/
def DrG (c : List Int) (p : Int) (k : Int) (m : Nat) (us : List MV) (o : List MV) (r : MV) : Prop := ∃ p' n es, o = .pw [.s true 1 (encB c), .i .i64 p'] :: us ∧ r = .agg [.i .i64 n, .ow true 2 (encE es)] ∧ p ≤ p' ∧ p' ≤ p + k ∧ -1 ≤ n ∧ n ≤ 17 ∧ es.length ≤ m
theorem putS_len (es : List E) (e : E) : (putS es e).length = es.length + 1 := putS_length es e
theorem putS_ne (es : List E) (e : E) : ∃ d r, putS es e = d :: r := by
  have h := putS_length es e
  cases q : putS es e with
  | nil => rw [q] at h; simp at h
  | cons d r => exact ⟨d, r, rfl⟩
/-! Graphs that are drawn. -/
end Go.Fw
