/-
  The form of each chain; which chain goes along an edge. No program in sight.
-/
import Derived.Test.YtjklefjjmfpnoaaPlC2
namespace Go.Pl
set_option linter.unusedVariables false
set_option linter.unusedSimpArgs false

/-- A chain: its nodes are a graph's, its edges too; but for its ends it has no node twice. -/
structure ChF (n : Int) (es : List Ed) (c : List Int) : Prop where
  ge : 2 ≤ c.length
  le : c.length ≤ n.toNat + 1
  rng : ∀ x ∈ c, 0 ≤ x ∧ x < n
  edg : ∀ e ∈ stE c, e ∈ es
  one : c.dropLast.Nodup
  two : c.tail.Nodup
section
variable {n : Int} {es : List Ed} {s : Sr}
theorem nodup_le {l : List Int} {n : Int} (h : l.Nodup) (hr : ∀ x ∈ l, 0 ≤ x ∧ x < n) : l.length ≤ n.toNat := by
  have h1 : (l.map Int.toNat).Nodup := by
    rw [List.nodup_iff_pairwise_ne, List.pairwise_map]
    refine (List.nodup_iff_pairwise_ne.1 h).imp_of_mem fun {a b} ha hb hab e => hab ?_
    have := hr a ha
    have := hr b hb
    omega
  have h2 : (l.map Int.toNat) ⊆ List.range n.toNat := fun x hx => by
    obtain ⟨y, hy, rfl⟩ := List.mem_map.1 hx
    have := hr y hy
    rw [List.mem_range]; omega
  have := h1.length_le_of_subset h2
  simpa using this
theorem NF.chain_form (h : NF n es s) (hE : ∀ e ∈ es, EIn n e) {c : List Int} (hc : c ∈ chainsL n es s) : ChF n es c := by
  obtain ⟨cl, ch⟩ := h.chains hE
  obtain ⟨j, hj⟩ := List.mem_iff_getElem?.1 hc
  have lj := (List.getElem?_eq_some_iff.1 hj).1
  obtain ⟨b, hb⟩ : ∃ b, (backL n es s)[j]? = some b := ⟨_, List.getElem?_eq_getElem (by omega)⟩
  obtain ⟨ws, e, h1, h2⟩ := ch j b hb
  rw [hj] at h1; cases h1
  have bm := List.mem_of_getElem? hb
  obtain ⟨b1, b2, ba, bn⟩ := h.back_ok hE bm
  have u := h.up h2.up b2.1 b2.2
  have re := h.rng u.1 b2.1 b2.2
  have nd : ws.Nodup := (List.nodup_append.1 u.2.2.1).1
  have nb : b.1 ∉ ws := fun m => (h2.bel _ m).2 rfl
  have n1 : (b.1 :: ws).Nodup := List.nodup_cons.2 ⟨nb, nd⟩
  have ll := nodup_le (n := n) n1 (fun x hx => by
    rcases List.mem_cons.1 hx with rfl | hx
    · exact b1
    · exact ⟨(u.2.1 x hx).1, (u.2.1 x hx).2.1⟩)
  simp only [List.length_cons] at ll
  refine ⟨by simp, by simp; omega, fun x hx => ?_, fun d hd => ?_, ?_, ?_⟩
  · simp only [List.mem_cons, List.mem_append, List.not_mem_nil, or_false] at hx
    rcases hx with rfl | hx | rfl
    · exact b1
    · exact ⟨(u.2.1 x hx).1, (u.2.1 x hx).2.1⟩
    · exact ⟨re.1, re.2.1⟩
  · rw [stE_chain h2.up] at hd
    rcases List.mem_cons.1 hd with rfl | hd
    · exact h.be_mem hE bm
    · obtain ⟨w, hw, rfl⟩ := List.mem_map.1 hd
      have a := u.2.1 w hw
      exact h.te_mem hE a.1 a.2.1 a.2.2.2.2.2
  · rw [← List.cons_append, List.dropLast_concat]; exact n1
  · exact u.2.2.1
theorem stE_len : ∀ (c : List Int), (stE c).length = c.length - 1
  | [] => rfl
  | [_] => rfl
  | a :: b :: r => by
    have := stE_len (b :: r)
    simp only [stE, List.length_cons] at this ⊢; omega
theorem stE_get : ∀ (c : List Int) (k : Nat) (x y : Int), c[k]? = some x → c[k + 1]? = some y → (stE c)[k]? = some (edn x y)
  | [], k, x, y, hx, hy => by simp at hx
  | [_], k, x, y, hx, hy => by simp at hy
  | a :: b :: r, 0, x, y, hx, hy => by
    simp only [List.getElem?_cons_zero, List.getElem?_cons_succ, Option.some.injEq] at hx hy
    subst hx; subst hy; simp [stE]
  | a :: b :: r, k + 1, x, y, hx, hy => by
    simp only [List.getElem?_cons_succ] at hx hy
    simp only [stE, List.getElem?_cons_succ]
    exact stE_get (b :: r) k x y hx hy
/-- Two nodes that follow one another in a chain differ. -/
theorem ChF.ne {c : List Int} (f : ChF n es c) (hE : ∀ e ∈ es, EIn n e) {k : Nat} {x y : Int} (hx : c[k]? = some x) (hy : c[k + 1]? = some y) : x ≠ y := fun e => by
  subst e
  have := hE _ (f.edg _ (List.mem_of_getElem? (stE_get c k x x hx hy)))
  unfold EIn edn at this
  simp only at this
  omega
theorem nodup_ne {l : List Int} (h : l.Nodup) {i j : Nat} {x y : Int} (hi : l[i]? = some x) (hj : l[j]? = some y) (hij : i ≠ j) : x ≠ y := fun e => by
  subst e
  obtain ⟨li, ei⟩ := List.getElem?_eq_some_iff.1 hi
  obtain ⟨lj, ej⟩ := List.getElem?_eq_some_iff.1 hj
  rcases Nat.lt_or_gt_of_ne hij with q | q
  · exact List.pairwise_iff_getElem.1 (List.nodup_iff_pairwise_ne.1 h) i j li lj q (ei.trans ej.symm)
  · exact List.pairwise_iff_getElem.1 (List.nodup_iff_pairwise_ne.1 h) j i lj li q (ej.trans ei.symm)
/-- But for its ends, a chain has no node twice. -/
theorem ChF.not_ahead {c : List Int} (f : ChF n es c) {k : Nat} {x : Int} (hk : k + 1 < c.length) (hx : c[k]? = some x) : x ∉ c.take k := fun m => by
  obtain ⟨j, hj⟩ := List.mem_iff_getElem?.1 m
  have lj := (List.getElem?_eq_some_iff.1 hj).1
  rw [List.length_take] at lj
  rw [List.getElem?_take_of_lt (by omega)] at hj
  have d : ∀ i, i + 1 < c.length → c.dropLast[i]? = c[i]? := fun i hi => by
    rw [List.dropLast_eq_take, List.getElem?_take_of_lt (by omega)]
  exact nodup_ne f.one (by rw [d k hk]; exact hx) (by rw [d j (by omega)]; exact hj) (by omega) rfl
theorem ChF.not_last {c : List Int} (f : ChF n es c) {k : Nat} {x z : Int} (h1 : 1 ≤ k) (hk : k + 1 < c.length) (hx : c[k]? = some x) (hz : c[c.length - 1]? = some z) : x ≠ z := by
  have d : ∀ i, c.tail[i]? = c[i + 1]? := fun i => by rw [List.getElem?_tail]
  refine nodup_ne f.two (i := k - 1) (j := c.length - 2) ?_ ?_ (by omega)
  · rw [d, show k - 1 + 1 = k by omega]; exact hx
  · rw [d, show c.length - 2 + 1 = c.length - 1 by omega]; exact hz
end
end Go.Pl
