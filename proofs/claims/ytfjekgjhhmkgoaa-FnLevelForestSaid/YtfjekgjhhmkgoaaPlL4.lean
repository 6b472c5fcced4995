/-
  Graphs with levels: a list of edges with levels as three lists; lists of which a beginning is changed. No program in sight.
-/
import Derived.Test.YtfjekgjhhmkgoaaPlL3
namespace Go.Pl
set_option linter.unusedVariables false
set_option linter.unusedSimpArgs false

/-- The three lists of a list of edges with levels. -/
def tE (T : List Lv1) : List Ed := T.map (·.1)
def tL (T : List Lv1) : List Int := T.map (·.2.1)
def tF (T : List Lv1) : List Bool := T.map (·.2.2)
theorem tE_length {T : List Lv1} : (tE T).length = T.length := by simp [tE]
theorem tL_length {T : List Lv1} : (tL T).length = T.length := by simp [tL]
theorem tF_length {T : List Lv1} : (tF T).length = T.length := by simp [tF]
theorem tE_get {T : List Lv1} {i : Nat} {x : Lv1} (h : T[i]? = some x) : (tE T)[i]? = some x.1 := by simp [tE, h]
theorem tL_get {T : List Lv1} {i : Nat} {x : Lv1} (h : T[i]? = some x) : (tL T)[i]? = some x.2.1 := by simp [tL, h]
theorem tF_get {T : List Lv1} {i : Nat} {x : Lv1} (h : T[i]? = some x) : (tF T)[i]? = some x.2.2 := by simp [tF, h]
/-- So many are changed. -/
def chg (f : Lv1 → Lv1) (T : List Lv1) (i : Nat) : List Lv1 := (T.take i).map f ++ T.drop i
theorem chg_length {f : Lv1 → Lv1} {T : List Lv1} {i : Nat} : (chg f T i).length = T.length := by simp [chg]; omega
theorem chg_zero {f : Lv1 → Lv1} {T : List Lv1} : chg f T 0 = T := by simp [chg]
theorem chg_all {f : Lv1 → Lv1} {T : List Lv1} : chg f T T.length = T.map f := by simp [chg]
theorem chg_get {f : Lv1 → Lv1} {T : List Lv1} {i : Nat} {x : Lv1} (h : T[i]? = some x) : (chg f T i)[i]? = some x := by
  have hi := (List.getElem?_eq_some_iff.1 h).1
  unfold chg
  rw [List.getElem?_append_right (by simp; omega)]
  simp only [List.length_map, List.length_take, List.getElem?_drop]
  rw [show i + (i - min i T.length) = i by omega]; exact h
theorem chg_next {f : Lv1 → Lv1} {T : List Lv1} {i : Nat} {x : Lv1} (h : T[i]? = some x) : chg f T (i + 1) = (chg f T i).set i (f x) := by
  obtain ⟨hi, hx⟩ := List.getElem?_eq_some_iff.1 h
  unfold chg
  rw [List.take_add_one, h, List.drop_eq_getElem_cons hi]
  rw [List.set_append_right _ _ (by simp; omega)]
  simp only [List.length_map, List.length_take]
  rw [show i - min i T.length = 0 by omega]
  simp
  rw [List.drop_eq_getElem_cons hi]; rfl
theorem sum_set {T : List Lv1} {i : Nat} {x y : Lv1} (h : T[i]? = some x) : sumL (T.set i y) = sumL T + y.2.1 - x.2.1 := by
  obtain ⟨hi, hx⟩ := List.getElem?_eq_some_iff.1 h
  have a : T = T.take i ++ x :: T.drop (i + 1) := by rw [← hx, ← List.drop_eq_getElem_cons hi, List.take_append_drop]
  have b : T.set i y = T.take i ++ y :: T.drop (i + 1) := List.set_eq_take_append_cons_drop.trans (by rw [if_pos hi])
  rw [b]
  conv => rhs; rw [a]
  rw [sumL_app, sumL_app, sumL, sumL]; omega
theorem tL_set {T : List Lv1} {i : Nat} {y : Lv1} : tL (T.set i y) = (tL T).set i y.2.1 := by simp [tL, List.map_set]
theorem tF_set {T : List Lv1} {i : Nat} {y : Lv1} : tF (T.set i y) = (tF T).set i y.2.2 := by simp [tF, List.map_set]
theorem tE_set {T : List Lv1} {i : Nat} {y : Lv1} : tE (T.set i y) = (tE T).set i y.1 := by simp [tE, List.map_set]
theorem chg_same {f : Lv1 → Lv1} {T : List Lv1} {i : Nat} {x : Lv1} (h : T[i]? = some x) (e : f x = x) : chg f T (i + 1) = chg f T i := by
  rw [chg_next h, e]
  obtain ⟨hi, hx⟩ := List.getElem?_eq_some_iff.1 (chg_get (f := f) h)
  conv => lhs; arg 3; rw [← hx]
  exact List.set_getElem_self hi
theorem chg_sum {k : Int} {S : Int → Bool} {T : List Lv1} {i : Nat} (hi : i ≤ T.length) : 0 ≤ sumL (chg (r1 k S) T i) - sumL T ∧ sumL (chg (r1 k S) T i) - sumL T ≤ i := by
  have a := map_r1_sum (k := k) (S := S) (T := T.take i)
  have b : sumL T = sumL (T.take i) + sumL (T.drop i) := by rw [← sumL_app, List.take_append_drop]
  unfold chg
  rw [sumL_app]
  simp only [List.length_take] at a
  omega
theorem goneT {α : Type} {l : List α} {i : Nat} {x : α} (hx : l[i]? = some x) : ∀ P : α → Prop, (∀ z, l[i]? = some z → P z) ↔ P x := fun P => ⟨fun h => h x hx, fun h z hz => by rw [hx] at hz; cases hz; exact h⟩
theorem scn_fix {k : Int} {S : Int → Bool} : ∀ {A : List Lv1}, (∀ x ∈ A, isR k S x = false) → ∀ B, scn k S (A ++ B) = (A.map (r2 k S) ++ (scn k S B).1, (scn k S B).2)
  | [], _, B => rfl
  | x :: A, h, B => by
    rw [List.cons_append, scn, if_neg (by rw [h x (by simp)]; simp), scn_fix (fun y hy => h y (List.mem_cons_of_mem _ hy)) B]
    rfl
/-- The search stops here. -/
theorem scn_hit {k : Int} {S : Int → Bool} {T : List Lv1} {i : Nat} {x : Lv1} (h : ∀ y ∈ T.take i, isR k S y = false) (hx : T[i]? = some x) (hr : isR k S x = true) :
    scn k S T = ((chg (r2 k S) T i).set i (x.1, x.2.1, true), true) := by
  obtain ⟨hi, e⟩ := List.getElem?_eq_some_iff.1 hx
  have a : T = T.take i ++ x :: T.drop (i + 1) := by rw [← e, ← List.drop_eq_getElem_cons hi, List.take_append_drop]
  conv => lhs; rw [a]
  rw [scn_fix h, scn, if_pos hr]
  congr 1
  unfold chg
  rw [List.set_append_right _ _ (by simp; omega), List.drop_eq_getElem_cons hi]
  simp only [List.length_map, List.length_take]
  rw [show i - min i T.length = 0 by omega]; rfl
/-- The search finds nothing. -/
theorem scn_none {k : Int} {S : Int → Bool} {T : List Lv1} (h : ∀ y ∈ T, isR k S y = false) : scn k S T = (T.map (r2 k S), false) := by
  have := scn_fix h []
  rw [List.append_nil] at this
  rw [this]; simp [scn]
theorem not_next {p : Lv1 → Bool} {T : List Lv1} {i : Nat} {x : Lv1} (h : ∀ y ∈ T.take i, p y = false) (hx : T[i]? = some x) (e : p x = false) : ∀ y ∈ T.take (i + 1), p y = false := by
  intro y hy
  rw [List.take_add_one, hx, List.mem_append] at hy
  rcases hy with q | q
  · exact h y q
  · simp at q; subst q; exact e
end Go.Pl
