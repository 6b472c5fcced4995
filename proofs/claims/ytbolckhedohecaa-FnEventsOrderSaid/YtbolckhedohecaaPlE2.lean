/-
  Events: their order, and those of the first turns. No program in sight.
-/
import Derived.Test.YtbolckhedohecaaPlE
namespace Go.Pl
set_option linter.unusedVariables false
set_option linter.unusedSimpArgs false

theorem evs_app {n : Int} {br : List Ed → List Ed} {b : List Ed} : ∀ {a es : List Ed} {i : Nat}, evs n br i es (a ++ b) = evs n br i es a ++ evs n br (i + a.length) (trG n es a) b
  | [], es, i => by simp [evs, trG]
  | x :: r, es, i => by
    rw [List.cons_append, evs, evs, trG, evs_app (a := r), List.append_assoc, List.length_cons]
    congr 3; omega
/-- The order of two events. -/
def EvP (x y : Ev) : Prop := x.1 ≤ y.1 ∧ ¬ (x.1 = y.1 ∧ x.2.1 = y.2.1)
theorem ev1_turn {i : Int} {B C : List Ed} {x : Ev} (h : x ∈ ev1 i B C) : x.1 = i := by
  unfold ev1 at h
  rcases List.mem_append.1 h with q | q
  · obtain ⟨y, _, rfl⟩ := List.mem_map.1 q; rfl
  · obtain ⟨y, _, rfl⟩ := List.mem_map.1 q; rfl
theorem ev1_pair {i : Int} {B C : List Ed} (hB : B.Pairwise eLt) (hC : C.Pairwise eLt) : (ev1 i B C).Pairwise EvP := by
  have one : ∀ {l : List Ed} {b : Bool}, l.Pairwise eLt → (l.map fun e => (i, e, b)).Pairwise EvP := fun {l b} h => by
    rw [List.pairwise_map]
    exact h.imp fun {x y} q => ⟨by simp, fun w => by
      have : x = y := w.2
      subst this; exact eLt_irrefl _ q⟩
  unfold ev1
  rw [List.pairwise_append]
  refine ⟨one (hB.filter _), one (hC.filter _), fun x hx y hy => ?_⟩
  obtain ⟨a, ha, rfl⟩ := List.mem_map.1 hx
  obtain ⟨c, hc, rfl⟩ := List.mem_map.1 hy
  refine ⟨by simp, fun w => ?_⟩
  have e : a = c := w.2
  subst e
  have h1 := (List.mem_filter.1 ha).2
  have h2 := (List.mem_filter.1 hc).1
  simp at h1
  exact h1 h2
theorem evs_turn {n : Int} {br : List Ed → List Ed} : ∀ {ts es : List Ed} {i : Nat} {x : Ev}, x ∈ evs n br i es ts → (i : Int) ≤ x.1 ∧ x.1 < i + ts.length
  | [], _, _, _, h => by simp [evs] at h
  | t :: r, es, i, x, h => by
    rw [evs, List.mem_append] at h
    rw [List.length_cons]
    rcases h with q | q
    · have := ev1_turn q; omega
    · have := evs_turn q; omega
theorem evs_pair {n : Int} {br : List Ed → List Ed} (hb : ∀ es, gvB n es = true → (br es).Pairwise eLt ∧ (br es).length ≤ 40) : ∀ {ts es : List Ed} {i : Nat}, gvB n es = true → trT n es ts = true → (evs n br i es ts).Pairwise EvP
  | [], es, i, h, _ => by simp [evs]
  | t :: r, es, i, h, k => by
    simp only [trT, Bool.and_eq_true] at k
    have g := (turnOK_gv k.1).2.1
    rw [evs, List.pairwise_append]
    refine ⟨ev1_pair (hb es h).1 (hb _ g).1, evs_pair hb g k.2, fun x hx y hy => ?_⟩
    have a := ev1_turn hx
    have b := evs_turn hy
    exact ⟨by omega, fun w => by omega⟩
theorem pair_at {l : List Ev} (h : l.Pairwise EvP) {i j : Nat} (hij : i < j) {x y : Ev} (hx : l[i]? = some x) (hy : l[j]? = some y) : EvP x y := by
  obtain ⟨hi, rfl⟩ := List.getElem?_eq_some_iff.1 hx
  obtain ⟨hj, rfl⟩ := List.getElem?_eq_some_iff.1 hy
  exact List.pairwise_iff_getElem.1 h i j hi hj hij
end Go.Pl
