/-
  Which chain goes along an edge; round chains: both sides.
-/
import Derived.Test.YtjklefjjmfpnoaaCtCh
import Derived.Test.YtjklefjjmfpnoaaPlC3
import Derived.Test.YtjklefjjmfpnoaaCtJ
namespace Go.Fw
set_option linter.unusedSimpArgs false
set_option linter.unusedVariables false
set_option maxRecDepth 100000
set_option maxHeartbeats 8000000
open Go.Proofs.Try (prog)
open Go.Pl

theorem chV_form {n : Int} {es : List E} {c : List Int} (hc : c ∈ chV n es) : GV n es ∧ ChF n es c := by
  unfold chV at hc
  by_cases hg : gvB n es = true
  · rw [if_pos hg] at hc
    have hv := gvB_iff.1 hg
    have hn1 := hv.1
    exact ⟨hv, (srch_nf hv.2.2.2.1 (by omega : 0 ≤ n)).chain_form hv.2.2.2.1 hc⟩
  · rw [if_neg hg] at hc; simp at hc
theorem chV_len {n : Int} {es : List E} : (chV n es).length ≤ 256 := by
  unfold chV
  by_cases hg : gvB n es = true
  · rw [if_pos hg]
    have hv := gvB_iff.1 hg
    have hn1 := hv.1
    have h := srch_nf hv.2.2.2.1 (by omega : 0 ≤ n)
    rw [(h.chains hv.2.2.2.1).1]
    exact back_len hv h
  · rw [if_neg hg]; simp
theorem ndB_iff' {x : Int} : ndB x = true ↔ 0 ≤ x ∧ x < 16 := by unfold ndB; simp
theorem prs_stE : ∀ (c : List Int) (k : Nat), k ≤ c.length - 1 → prs c k = (stE c).take k
  | c, 0, _ => by simp [prs]
  | c, k + 1, h => by
    have h1 : c[k]? = some c[k] := List.getElem?_eq_getElem (by omega)
    have h2 : c[k + 1]? = some c[k + 1] := List.getElem?_eq_getElem (by omega)
    rw [prs_succ h1 h2, prs_stE c k (by omega), take_snoc (stE_get c k _ _ h1 h2)]; rfl
theorem chV_chP {n : Int} {es : List E} {c : List Int} (hc : c ∈ chV n es) : chP c := by
  obtain ⟨hv, f⟩ := chV_form hc
  have := f.le
  have hn := hv.2.1
  refine ⟨by omega, fun x hx => ndB_iff'.2 ?_, fun j hj e => ?_⟩
  · have := f.rng x hx; omega
  · have h1 : c[j]? = some c[j] := List.getElem?_eq_getElem (by omega)
    have h2 : c[j + 1]? = some c[j + 1] := List.getElem?_eq_getElem (by omega)
    rw [h1, h2] at e
    exact f.ne hv.2.2.2.1 h1 h2 (Option.some.inj e)
theorem chV_chR {n : Int} {es : List E} {c : List Int} (hc : c ∈ chV n es) : chB c = true ∧ chR c = stE c := by
  have p := chB_tt (chV_chP hc)
  refine ⟨p, ?_⟩
  unfold chR
  rw [if_pos p, prs_stE c _ (Nat.le_refl _), List.take_of_length_le (by rw [stE_len]; omega)]

/-- The first chain that goes along an edge. -/
def onB (e : E) (c : List Int) : Bool := decide (e ∈ stE c)
def coB (L : List (List Int)) (e : E) : Bool := L.any (onB e)
def coI (L : List (List Int)) (e : E) : Nat := if coB L e then L.findIdx (onB e) else 0
theorem co_no {L : List (List Int)} {e : E} (h : ∀ j c, j < L.length → L[j]? = some c → onB e c = false) : coB L e = false ∧ coI L e = 0 := by
  have : coB L e = false := by
    unfold coB
    rw [List.any_eq_false]
    intro c hc
    obtain ⟨j, hj⟩ := List.mem_iff_getElem?.1 hc
    rw [h j c (List.getElem?_eq_some_iff.1 hj).1 hj]; simp
  exact ⟨this, by unfold coI; rw [this]; rfl⟩
theorem co_yes {L : List (List Int)} {e : E} {i : Nat} {c : List Int} (h : ∀ j c, j < i → L[j]? = some c → onB e c = false) (hc : L[i]? = some c) (hy : onB e c = true) : coB L e = true ∧ coI L e = i := by
  have hb : coB L e = true := by
    unfold coB
    rw [List.any_eq_true]
    exact ⟨c, List.mem_of_getElem? hc, hy⟩
  refine ⟨hb, ?_⟩
  unfold coI
  rw [if_pos hb]
  obtain ⟨hi, he⟩ := List.getElem?_eq_some_iff.1 hc
  rw [List.findIdx_eq hi]
  refine ⟨by rw [he]; exact hy, fun j hj => h j _ hj (List.getElem?_eq_getElem _)⟩
theorem no_next {L : List (List Int)} {e : E} {i : Nat} {c : List Int} (h : ∀ j c, j < i → L[j]? = some c → onB e c = false) (hc : L[i]? = some c) (hn : onB e c = false) : ∀ j c, j < i + 1 → L[j]? = some c → onB e c = false := fun j d hj hd => by
  by_cases q : j = i
  · subst q; rw [hc] at hd; cases hd; exact hn
  · exact h j d (by omega) hd

/-- Chains that end where they begin. -/
def rdB (c : List Int) : Bool := decide (nth c 0 = nth c (c.length - 1 : Nat))
def rdL (L : List (List Int)) (i : Nat) : List Int := ((List.range i).filter fun j => rdB ((L[j]?).getD [])).map Int.ofNat
theorem rdL_next {L : List (List Int)} {i : Nat} {c : List Int} (hc : L[i]? = some c) : rdL L (i + 1) = rdL L i ++ if rdB c then [(i : Int)] else [] := by
  unfold rdL
  rw [List.range_succ, List.filter_append, List.map_append]
  simp only [List.filter_cons, List.filter_nil, hc, Option.getD_some]
  cases rdB c <;> simp
theorem rdL_len {L : List (List Int)} {i : Nat} : (rdL L i).length ≤ i := by
  unfold rdL
  rw [List.length_map]
  exact Nat.le_trans (List.length_filter_le _ _) (by simp)
end Go.Fw
