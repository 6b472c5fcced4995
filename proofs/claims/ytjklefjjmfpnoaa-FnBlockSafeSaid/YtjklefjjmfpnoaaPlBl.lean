/-
  Blocks: in a graph of one block all edges get one label; every cut has two edges at least. No program in sight.
-/
import Derived.Test.YtjklefjjmfpnoaaPlFb
namespace Go.Pl
set_option linter.unusedVariables false
set_option linter.unusedSimpArgs false

theorem rch_same {es : List Ed} {S : Int → Bool} (h : ∀ e ∈ es, S e.1 = S e.2) {x y : Int} (r : Rch es x y) : S x = S y := by
  induction r with
  | refl => rfl
  | step _ k ih =>
    rcases k with k | k
    · exact ih.trans (h _ k)
    · exact ih.trans (h _ k).symm
/-- A connected graph without bridges has two edges in every cut. -/
theorem two_cross {n : Int} {es : List Ed} {S : Int → Bool} {x y : Int} (hr : Rch es x y) (hb : ∀ e ∈ es, Rch (es.filter fun d => !decide (d = e)) e.1 e.2) (hx : S x = true) (hy : S y = false) : 2 ≤ crs S es := by
  refine Classical.byContradiction fun hc => ?_
  obtain ⟨e, he, hne⟩ : ∃ e ∈ es, S e.1 ≠ S e.2 := Classical.byContradiction fun q => by
    have := rch_same (S := S) (fun e he => Classical.byContradiction fun p => q ⟨e, he, p⟩) hr
    rw [hx, hy] at this; cases this
  have hs := rch_same (S := S) (es := es.filter fun d => !decide (d = e)) (fun d hd => Classical.byContradiction fun p => by
    obtain ⟨hd, hde⟩ := List.mem_filter.1 hd
    have hde : d ≠ e := by simpa using hde
    have he' : e ∈ es.filter fun e => S e.1 != S e.2 := List.mem_filter.2 ⟨he, by simpa using hne⟩
    have hd' : d ∈ es.filter fun e => S e.1 != S e.2 := List.mem_filter.2 ⟨hd, by simpa using p⟩
    have hl : (es.filter fun e => S e.1 != S e.2).length < 2 := by
      have : crs S es = (es.filter fun e => S e.1 != S e.2).length := List.countP_eq_length_filter
      omega
    generalize es.filter (fun e => S e.1 != S e.2) = F at he' hd' hl
    cases F with
    | nil => cases he'
    | cons c r =>
      cases r with
      | nil =>
        simp at he' hd'
        exact hde (hd'.trans he'.symm)
      | cons c' r => simp only [List.length_cons] at hl; omega) (hb e he)
  exact hne hs
/-- Two edges have a node in common: which, and the other ones. -/
def cmn (e f : Ed) : Option (Int × Int × Int) :=
  if e.1 = f.1 then some (e.1, e.2, f.2) else if e.1 = f.2 then some (e.1, e.2, f.1) else if e.2 = f.1 then some (e.2, e.1, f.2) else if e.2 = f.2 then some (e.2, e.1, f.1) else none
def At (v : Int) (e : Ed) : Prop := e.1 = v ∨ e.2 = v
theorem cmn_adj {es : List Ed} {e f : Ed} (he : e ∈ es) (hf : f ∈ es) {v x y : Int} (h : cmn e f = some (v, x, y)) : Adj es v x ∧ Adj es v y := by
  obtain ⟨a, b⟩ := e
  obtain ⟨c, d⟩ := f
  unfold cmn at h
  simp only at h
  split at h
  · rename_i q; cases h; subst q; exact ⟨.inl he, .inl hf⟩
  · split at h
    · rename_i q; cases h; subst q; exact ⟨.inl he, .inr hf⟩
    · split at h
      · rename_i q; cases h; subst q; exact ⟨.inr he, .inl hf⟩
      · split at h
        · rename_i q; cases h; subst q; exact ⟨.inr he, .inr hf⟩
        · cases h
theorem cmn_some {e f : Ed} {v : Int} (he : At v e) (hf : At v f) : cmn e f ≠ none := by
  unfold cmn
  intro h
  split at h
  · cases h
  · split at h
    · cases h
    · split at h
      · cases h
      · split at h
        · cases h
        · rcases he with he | he <;> rcases hf with hf | hf <;> omega
/-- Labels of edges, so far: the pairs ahead of (I, K) have been looked at. -/
structure BL (es : List Ed) (out : List Int) (I K : Nat) : Prop where
  len : out.length = es.length
  rng : ∀ (j : Nat) (v : Int), out[j]? = some v → 0 ≤ v ∧ v ≤ j
  eqs : ∀ (i k : Nat) (e f : Ed), k < i → es[i]? = some e → es[k]? = some f → cmn e f ≠ none → (i < I ∨ i = I ∧ k < K) → out[i]? = out[k]?
theorem BL.init {es : List Ed} : BL es (ups es.length) 0 0 := by
  refine ⟨ups_length _, fun j v h => ?_, fun i k e f h1 _ _ _ h2 => by omega⟩
  have hj := (List.getElem?_eq_some_iff.1 h).1
  rw [ups_length] at hj
  rw [ups_get hj] at h; cases h; omega
theorem BL.row {es : List Ed} {out : List Int} {I : Nat} (h : BL es out I I) : BL es out (I + 1) 0 :=
  ⟨h.len, h.rng, fun i k e f h1 h2 h3 h4 h5 => h.eqs i k e f h1 h2 h3 h4 (by omega)⟩
theorem BL.skip {es : List Ed} {out : List Int} {I K : Nat} (h : BL es out I K) {e f : Ed} (he : es[I]? = some e) (hf : es[K]? = some f) (hs : cmn e f ≠ none → out[I]? = out[K]?) : BL es out I (K + 1) :=
  ⟨h.len, h.rng, fun i k e' f' h1 h2 h3 h4 h5 => by
    by_cases q : i = I ∧ k = K
    · obtain ⟨rfl, rfl⟩ := q
      rw [he] at h2; cases h2
      rw [hf] at h3; cases h3
      exact hs h4
    · exact h.eqs i k e' f' h1 h2 h3 h4 (by omega)⟩
def rel1 (lo hi v : Int) : Int := if v = hi then lo else v
theorem BL.merge {es : List Ed} {out : List Int} {I K : Nat} (h : BL es out I K) {a b lo hi : Int} (ha : out[I]? = some a) (hb : out[K]? = some b) (hl : lo = min a b) (hh : hi = max a b) : BL es (out.map (rel1 lo hi)) I (K + 1) := by
  have ra := h.rng I a ha
  have rb := h.rng K b hb
  refine ⟨by simp [h.len], fun j v hj => ?_, fun i k e f h1 h2 h3 h4 h5 => ?_⟩
  · rw [List.getElem?_map] at hj
    cases hv : out[j]? with
    | none => rw [hv] at hj; cases hj
    | some w =>
      rw [hv] at hj
      simp at hj
      have rw' := h.rng j w hv
      unfold rel1 at hj
      split at hj <;> omega
  · rw [List.getElem?_map, List.getElem?_map]
    by_cases q : i = I ∧ k = K
    · obtain ⟨rfl, rfl⟩ := q
      rw [ha, hb]
      simp only [Option.map_some, Option.some.injEq, rel1]
      split <;> split <;> omega
    · rw [h.eqs i k e f h1 h2 h3 h4 (by omega)]
/-- In a connected graph all labels are 0 in the end. -/
theorem BL.done {es : List Ed} {out : List Int} (h : BL es out es.length 0) {e0 : Ed} (h0 : es[0]? = some e0) (hc : ∀ e ∈ es, Rch es e0.1 e.1) : ∀ (j : Nat) (v : Int), out[j]? = some v → v = 0 := by
  have same : ∀ (i k : Nat) (e f : Ed) (v : Int), es[i]? = some e → es[k]? = some f → At v e → At v f → out[i]? = out[k]? := by
    intro i k e f v h1 h2 h3 h4
    have l1 := (List.getElem?_eq_some_iff.1 h1).1
    have l2 := (List.getElem?_eq_some_iff.1 h2).1
    rcases Nat.lt_trichotomy i k with q | q | q
    · exact (h.eqs k i f e q h2 h1 (cmn_some h4 h3) (.inl l2)).symm
    · rw [q]
    · exact h.eqs i k e f q h1 h2 (cmn_some h3 h4) (.inl l1)
  have z0 : out[0]? = some 0 := by
    have l0 := (List.getElem?_eq_some_iff.1 h0).1
    obtain ⟨w, hw⟩ : ∃ w, out[0]? = some w := ⟨_, List.getElem?_eq_getElem (by rw [h.len]; exact l0)⟩
    have := h.rng 0 w hw
    rw [hw]; congr 1; omega
  have key : ∀ v, Rch es e0.1 v → ∀ (j : Nat) (e : Ed), es[j]? = some e → At v e → out[j]? = some 0 := by
    intro v r
    induction r with
    | refl => exact fun j e hj ha => by rw [same j 0 e e0 e0.1 hj h0 ha (.inl rfl)]; exact z0
    | @step y z r k ih =>
      intro j e hj ha
      rcases k with k | k
      · obtain ⟨i, hi⟩ := List.getElem?_of_mem k
        rw [same j i e (y, z) z hj hi ha (.inr rfl)]
        exact ih i (y, z) hi (.inl rfl)
      · obtain ⟨i, hi⟩ := List.getElem?_of_mem k
        rw [same j i e (z, y) z hj hi ha (.inl rfl)]
        exact ih i (z, y) hi (.inr rfl)
  intro j v hj
  have lj := (List.getElem?_eq_some_iff.1 hj).1
  rw [h.len] at lj
  obtain ⟨e, he⟩ : ∃ e, es[j]? = some e := ⟨_, List.getElem?_eq_getElem lj⟩
  have := key e.1 (hc e (List.mem_of_getElem? he)) j e he (.inl rfl)
  rw [hj] at this; cases this; rfl
end Go.Pl
