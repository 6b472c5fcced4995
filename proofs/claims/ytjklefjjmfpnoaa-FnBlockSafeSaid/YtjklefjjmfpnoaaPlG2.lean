/-
  Graphs: labels that are made alike step by step, forests. No program in sight.
-/
import Derived.Test.YtjklefjjmfpnoaaPlG
namespace Go.Pl
set_option linter.unusedVariables false
set_option linter.unusedSimpArgs false

/-- The sum of labels. -/
def sumN : List Int → Nat
  | [] => 0
  | x :: r => x.toNat + sumN r
theorem sumN_set_lt : ∀ {l : List Int} {i : Nat} {a b : Int}, l[i]? = some b → 0 ≤ a → a < b → sumN (l.set i a) < sumN l
  | [], i, a, b, h, _, _ => by simp at h
  | x :: r, 0, a, b, h, h0, h1 => by simp at h; subst h; simp [sumN]; omega
  | x :: r, i + 1, a, b, h, h0, h1 => by
    have := sumN_set_lt (l := r) (i := i) (by simpa using h) h0 h1
    simp [sumN]; omega

theorem relax_same {out : List Int} {e : Ed} (h1 : e.1.toNat < out.length) (h2 : e.2.toNat < out.length) (h : nth out e.1 = nth out e.2) : relax out e = out := by
  unfold relax
  rw [h, show min (nth out e.2) (nth out e.2) = nth out e.2 by omega]
  have e1 : out.set e.1.toNat (nth out e.2) = out := by
    rw [← h]
    apply List.ext_getElem?
    intro j
    by_cases hj : e.1.toNat = j
    · subst hj; rw [List.getElem?_set_self h1]; simp [nth, h1]
    · rw [List.getElem?_set_ne hj]
  rw [e1]
  apply List.ext_getElem?
  intro j
  by_cases hj : e.2.toNat = j
  · subst hj; rw [List.getElem?_set_self h2]; simp [nth, h2]
  · rw [List.getElem?_set_ne hj]
theorem set_nth {out : List Int} {x : Int} (h : x.toNat < out.length) : out.set x.toNat (nth out x) = out := by
  apply List.ext_getElem?
  intro j
  by_cases hj : x.toNat = j
  · subst hj; rw [List.getElem?_set_self h]; simp [nth, h]
  · rw [List.getElem?_set_ne hj]
theorem relax_left {out : List Int} {e : Ed} (h1 : e.1.toNat < out.length) (h : nth out e.1 < nth out e.2) : relax out e = out.set e.2.toNat (nth out e.1) := by
  unfold relax
  rw [show min (nth out e.1) (nth out e.2) = nth out e.1 by omega, set_nth h1]
theorem relax_right {out : List Int} {e : Ed} (h1 : e.1.toNat < out.length) (h2 : e.2.toNat < out.length) (h : nth out e.2 < nth out e.1) (hne : e.1.toNat ≠ e.2.toNat) : relax out e = out.set e.1.toNat (nth out e.2) := by
  unfold relax
  rw [show min (nth out e.1) (nth out e.2) = nth out e.2 by omega, List.set_comm _ _ hne, set_nth h2]
theorem foldl_snoc {α β : Type} (f : β → α → β) {l : List α} {i : Nat} {x : α} (hx : l[i]? = some x) (b : β) : (l.take (i + 1)).foldl f b = f ((l.take i).foldl f b) x := by
  rw [take_snoc hx, List.foldl_append]; rfl
theorem foldl_relax_length (es : List Ed) (out : List Int) : (es.foldl relax out).length = out.length := roundL_length es out
theorem ups_succ (n : Nat) : ups (n + 1) = ups n ++ [(n : Int)] := by simp [ups, List.range_succ]

/-- Are two nodes connected? -/
def jn (n : Int) (es : List Ed) (x y : Int) : Bool := decide (nth (labL n es) x = nth (labL n es) y)
theorem jn_iff {n : Int} {es : List Ed} (hE : ∀ e ∈ es, EIn n e) {x y : Int} (hx : 0 ≤ x ∧ x < n) (hy : 0 ≤ y ∧ y < n) : jn n es x y = true ↔ Rch es x y := by
  have h := labL_is (n := n) (es := es) (by omega) hE
  unfold jn; rw [decide_eq_true_eq]
  exact h.same (by omega) (by omega)
theorem jn_no {n : Int} {es : List Ed} (hE : ∀ e ∈ es, EIn n e) {x y : Int} (hx : 0 ≤ x ∧ x < n) (hy : 0 ≤ y ∧ y < n) : jn n es x y = false ↔ ¬ Rch es x y := by
  rw [← jn_iff hE hx hy]; simp
theorem labL_length (n : Int) (es : List Ed) : (labL n es).length = n.toNat := by rw [labL, rounds_length, ups_length]
theorem labL_get {n : Int} {es : List Ed} {x : Int} (hx : 0 ≤ x ∧ x < n) : (labL n es)[x.toNat]? = some (nth (labL n es) x) := nth_some ⟨hx.1, by rw [labL_length]; omega⟩

/-- The first edges that connect as much as all of them. -/
def forL (n : Int) : List Ed → List Ed → List Ed
  | out, [] => out
  | out, e :: r => forL n (if jn n out e.1 e.2 then out else out ++ [e]) r
def forest (n : Int) (es : List Ed) : List Ed := forL n [] es
theorem forL_mem {n : Int} : ∀ {es out : List Ed} {e : Ed}, e ∈ forL n out es → e ∈ out ∨ e ∈ es
  | [], out, e, h => .inl h
  | d :: r, out, e, h => by
    rcases forL_mem (es := r) h with h | h
    · split at h
      · exact .inl h
      · rcases List.mem_append.1 h with h | h
        · exact .inl h
        · simp at h; subst h; exact .inr (by simp)
    · exact .inr (List.mem_cons_of_mem _ h)
theorem forL_len {n : Int} : ∀ {es out : List Ed}, (forL n out es).length ≤ out.length + es.length
  | [], out => by simp [forL]
  | d :: r, out => by
    have := forL_len (n := n) (es := r) (out := if jn n out d.1 d.2 then out else out ++ [d])
    rw [forL]
    split at this
    · rename_i h; simp only [h, if_true, List.length_cons]; omega
    · rename_i h; rw [if_neg h, List.length_cons]; simp at this; omega
theorem forest_mem {n : Int} {es : List Ed} {e : Ed} (h : e ∈ forest n es) : e ∈ es := by
  rcases forL_mem h with h | h
  · simp at h
  · exact h
theorem forest_len {n : Int} {es : List Ed} : (forest n es).length ≤ es.length := by
  have := forL_len (n := n) (es := es) (out := []); simpa [forest] using this
end Go.Pl
