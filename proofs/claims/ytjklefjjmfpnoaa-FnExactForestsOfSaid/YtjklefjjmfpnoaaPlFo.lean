/-
  Forests, one after the other. No program in sight.
-/
import Derived.Test.YtjklefjjmfpnoaaPlF
namespace Go.Pl
set_option linter.unusedVariables false
set_option linter.unusedSimpArgs false

/-- What is left without some edges. -/
def wo (es f : List Ed) : List Ed := es.filter fun x => !decide (x ∈ f)
def rst (n : Int) (es : List Ed) : List Ed := wo es (forest n es)
/-- What is left after so many forests, and the forests. -/
def rsts (n : Int) : Nat → List Ed → List Ed
  | 0, es => es
  | k + 1, es => rst n (rsts n k es)
def frs (n : Int) : Nat → List Ed → List (List Ed)
  | 0, es => []
  | k + 1, es => frs n k es ++ [forest n (rsts n k es)]
theorem wo_nil {es : List Ed} : wo es [] = es := by simp [wo]
theorem wo_sub {es f : List Ed} {x : Ed} (h : x ∈ wo es f) : x ∈ es := (List.mem_filter.1 h).1
theorem wo_len {es f : List Ed} : (wo es f).length ≤ es.length := List.length_filter_le _ _
theorem wo_next {es f : List Ed} {i : Nat} {x : Ed} (h : f[i]? = some x) : (wo es (f.take i)).filter (fun y => !decide (y = x)) = wo es (f.take (i + 1)) := by
  unfold wo
  rw [List.filter_filter, List.take_add_one, h]
  refine List.filter_congr fun y _ => ?_
  rw [Bool.eq_iff_iff]
  simp [and_comm]
theorem frs_length {n : Int} {es : List Ed} : ∀ {k : Nat}, (frs n k es).length = k
  | 0 => rfl
  | k + 1 => by rw [frs, List.length_append, frs_length]; rfl
theorem rsts_sub {n : Int} {es : List Ed} {x : Ed} : ∀ {k : Nat}, x ∈ rsts n k es → x ∈ es
  | 0, h => h
  | k + 1, h => rsts_sub (k := k) (wo_sub h)
theorem rsts_len {n : Int} {es : List Ed} : ∀ {k : Nat}, (rsts n k es).length ≤ es.length
  | 0 => Nat.le_refl _
  | k + 1 => Nat.le_trans wo_len rsts_len
theorem frs_get {n : Int} {es : List Ed} : ∀ {k i : Nat}, i < k → (frs n k es)[i]? = some (forest n (rsts n i es))
  | k + 1, i, h => by
    rw [frs]
    rcases Nat.lt_succ_iff_lt_or_eq.1 h with q | q
    · rw [List.getElem?_append_left (by rw [frs_length]; exact q)]; exact frs_get q
    · subst q
      rw [List.getElem?_append_right (by rw [frs_length]; omega), frs_length]; simp
theorem gv_wo {n : Int} {es f : List Ed} (h : gvB n es = true) : gvB n (wo es f) = true := by
  rw [gvB_iff] at h ⊢
  exact ⟨h.1, h.2.1, Nat.le_trans wo_len h.2.2.1, fun e he => h.2.2.2.1 e (wo_sub he), h.2.2.2.2.filter _⟩
theorem gv_rsts {n : Int} {es : List Ed} (h : gvB n es = true) : ∀ {k : Nat}, gvB n (rsts n k es) = true
  | 0 => h
  | k + 1 => gv_wo (gv_rsts h)
theorem forL_sub {n : Int} : ∀ {es acc : List Ed}, ∃ r, forL n acc es = acc ++ r ∧ r.Sublist es
  | [], acc => ⟨[], by simp [forL], List.Sublist.refl _⟩
  | e :: es, acc => by
    rw [forL]
    split
    · obtain ⟨r, h1, h2⟩ := forL_sub (es := es) (acc := acc)
      exact ⟨r, h1, h2.cons _⟩
    · obtain ⟨r, h1, h2⟩ := forL_sub (es := es) (acc := acc ++ [e])
      exact ⟨e :: r, by rw [h1]; simp, h2.cons_cons _⟩
theorem forest_sub {n : Int} {es : List Ed} : (forest n es).Sublist es := by
  obtain ⟨r, h1, h2⟩ := forL_sub (n := n) (es := es) (acc := [])
  unfold forest
  rw [h1]; simpa using h2
/-- The next edge of the forest is still there. -/
theorem next_in {n : Int} {es : List Ed} (h : gvB n es = true) {i : Nat} {x : Ed} (hx : (forest n es)[i]? = some x) : x ∈ wo es ((forest n es).take i) := by
  have hp := (gvB_iff.1 h).2.2.2.2.sublist (forest_sub (n := n) (es := es))
  refine List.mem_filter.2 ⟨forest_sub.subset (List.mem_of_getElem? hx), ?_⟩
  simp only [Bool.not_eq_true', decide_eq_false_iff_not]
  intro hm
  obtain ⟨j, hj⟩ := List.getElem?_of_mem hm
  rw [List.getElem?_take] at hj
  split at hj
  · rename_i q
    obtain ⟨h1, h2⟩ := List.getElem?_eq_some_iff.1 hj
    obtain ⟨g1, g2⟩ := List.getElem?_eq_some_iff.1 hx
    have := List.pairwise_iff_getElem.1 hp j i h1 g1 q
    rw [h2, g2] at this
    exact eLt_irrefl _ this
  · cases hj
end Go.Pl
