/-
  Graphs: an edge taken out of a way; bridges that a new edge takes away. No program in sight.
-/
import Derived.Test.YtjklefjjmfpnoaaPlG2
namespace Go.Pl
set_option linter.unusedVariables false
set_option linter.unusedSimpArgs false

/-- A way goes by an edge, or it doesn't need it. -/
theorem Rch.split {es r : List Ed} {f : Ed} (hr : ∀ d ∈ es, d = f ∨ d ∈ r) {x y : Int} (h : Rch es x y) :
    Rch r x y ∨ (Rch r x f.1 ∧ Rch r f.2 y) ∨ (Rch r x f.2 ∧ Rch r f.1 y) := by
  induction h with
  | refl => exact .inl .refl
  | @step y z h k ih =>
    have cs : Adj r y z ∨ (y = f.1 ∧ z = f.2) ∨ (y = f.2 ∧ z = f.1) := by
      rcases k with k | k
      · rcases hr _ k with q | q
        · exact .inr (.inl ⟨by rw [← q], by rw [← q]⟩)
        · exact .inl (.inl q)
      · rcases hr _ k with q | q
        · exact .inr (.inr ⟨by rw [← q], by rw [← q]⟩)
        · exact .inl (.inr q)
    rcases cs with a | ⟨rfl, rfl⟩ | ⟨rfl, rfl⟩
    · rcases ih with i | ⟨i, j⟩ | ⟨i, j⟩
      · exact .inl (i.step a)
      · exact .inr (.inl ⟨i, j.step a⟩)
      · exact .inr (.inr ⟨i, j.step a⟩)
    · rcases ih with i | ⟨i, j⟩ | ⟨i, j⟩
      · exact .inr (.inl ⟨i, .refl⟩)
      · exact .inr (.inl ⟨i, .refl⟩)
      · exact .inl i
    · rcases ih with i | ⟨i, j⟩ | ⟨i, j⟩
      · exact .inr (.inr ⟨i, .refl⟩)
      · exact .inl i
      · exact .inr (.inr ⟨i, .refl⟩)
/-- A bridge that is none any more with an edge put in is one that parts this edge's ends. -/
theorem lost_iff {es r r' : List Ed} {e f : Ed} (hf : f ∈ es) (hr : ∀ d, d ∈ r ↔ d ∈ es ∧ d ≠ f) (hr' : ∀ d, d ∈ r' ↔ d ∈ r ∨ d = e) :
    (¬ Rch r f.1 f.2 ∧ Rch r' f.1 f.2) ↔ (Rch es e.1 e.2 ∧ ¬ Rch r e.1 e.2) := by
  have s1 : ∀ {x y}, Rch es x y → Rch r x y ∨ (Rch r x f.1 ∧ Rch r f.2 y) ∨ (Rch r x f.2 ∧ Rch r f.1 y) := fun h => h.split fun d hd => by
    by_cases q : d = f
    · exact .inl q
    · exact .inr ((hr d).2 ⟨hd, q⟩)
  have s2 : ∀ {x y}, Rch r' x y → Rch r x y ∨ (Rch r x e.1 ∧ Rch r e.2 y) ∨ (Rch r x e.2 ∧ Rch r e.1 y) := fun h => h.split fun d hd => ((hr' d).1 hd).symm
  have up : ∀ {x y}, Rch r x y → Rch es x y := fun h => h.mono fun d hd => ((hr d).1 hd).1
  have up' : ∀ {x y}, Rch r x y → Rch r' x y := fun h => h.mono fun d hd => (hr' d).2 (.inl hd)
  have ff : Rch es f.1 f.2 := .one (.inl hf)
  have ee : Rch r' e.1 e.2 := .one (.inl ((hr' e).2 (.inr rfl)))
  constructor
  · rintro ⟨h1, h2⟩
    rcases s2 h2 with h | ⟨a, b⟩ | ⟨a, b⟩
    · exact absurd h h1
    · exact ⟨((up a.symm).trans ff).trans (up b.symm), fun h => h1 ((a.trans h).trans b)⟩
    · exact ⟨((up b).trans ff.symm).trans (up a), fun h => h1 ((a.trans h.symm).trans b)⟩
  · rintro ⟨h1, h2⟩
    rcases s1 h1 with h | ⟨a, b⟩ | ⟨a, b⟩
    · exact absurd h h2
    · exact ⟨fun h => h2 ((a.trans h).trans b), ((up' a.symm).trans ee).trans (up' b.symm)⟩
    · exact ⟨fun h => h2 ((a.trans h.symm).trans b), ((up' b).trans ee.symm).trans (up' a)⟩
end Go.Pl
