/-
  Lists of lists of integers, as rows; how many parts a graph has.
-/
import Derived.Test.YtjklefjjmfpnoaaGreatCtH
import Derived.Test.YtjklefjjmfpnoaaGreatCtG8
import Derived.Test.YtjklefjjmfpnoaaGreatPlF
namespace Go.Fw
set_option linter.unusedSimpArgs false
set_option linter.unusedVariables false
set_option maxRecDepth 100000
set_option maxHeartbeats 4000000
open Go.Proofs.Tryz (prog)
open Go.Pl

def encN (l : List (List Int)) : List (List D) := l.map fun es => [D.a 1 (encI es)]
theorem getK_encN {l : List (List Int)} {i : Nat} {K : List D → Prop} : getK (encN l) i K = ∀ x, l[i]? = some x → K [D.a 1 (encI x)] := getK_map
theorem encN_length (l : List (List Int)) : (encN l).length = l.length := by simp [encN]
theorem encN_take (l : List (List Int)) (m : Nat) : (encN l).take m = encN (l.take m) := by simp [encN]
theorem encN_drop (l : List (List Int)) (m : Nat) : (encN l).drop m = encN (l.drop m) := by simp [encN]
theorem encN_snoc (l : List (List Int)) (es : List Int) : encN l ++ [[D.a 1 (encI es)]] = encN (l ++ [es]) := by simp [encN]
attribute [go_sem] getK_encN encN_length encN_take encN_drop encN_snoc
theorem goneN {α : Type} {l : List α} {i : Nat} {x : α} (hx : l[i]? = some x) : ∀ P : α → Prop, (∀ z, l[i]? = some z → P z) ↔ P x := fun P => ⟨fun h => h x hx, fun h z hz => by rw [hx] at hz; cases hz; exact h⟩

theorem pcL_pcN {n : Int} {es : List E} (l : List Int) (hl : l = labL n es) : ∀ k : Nat, k ≤ l.length → pcL l k = (((List.range k).countP fun i : Nat => decide (nth (labL n es) i = i) : Nat) : Int)
  | 0, _ => by simp [pcL]
  | k + 1, hk => by
    have ih := pcL_pcN l hl k (by omega)
    have e : l[k]? = some (nth (labL n es) (k : Int)) := by
      have := nth_some (l := labL n es) (x := (k : Int)) ⟨by omega, by rw [← hl]; omega⟩
      rw [← hl] at this ⊢; simpa using this
    rw [pcL, ih, List.range_succ, List.countP_append, e]
    by_cases q : nth (labL n es) (k : Int) = k
    · simp [q]
    · simp [q]
theorem pcB_pcN {n : Int} {es : List E} (h : gvB n es = true) : pcB n es = (pc n es : Int) := by
  have e : labV n es = labL n es := by unfold labV; rw [if_pos h]
  unfold pcB pc
  rw [e, pcL_pcN (labL n es) rfl _ (Nat.le_refl _), labL_length]
theorem pcB_rng {n : Int} {es : List E} : 0 ≤ pcB n es ∧ pcB n es ≤ 16 := by
  have := pcL_rng (labV n es) (labV n es).length
  have := labV_len (n := n) (es := es)
  unfold pcB; omega
end Go.Fw
