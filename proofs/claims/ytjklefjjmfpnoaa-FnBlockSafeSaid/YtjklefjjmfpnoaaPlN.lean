/-
  Neighbors in order, and nodes without which others are parted: what both programs compute. No program in sight.
-/
import Derived.Test.YtjklefjjmfpnoaaPlD
namespace Go.Pl
set_option linter.unusedVariables false
set_option linter.unusedSimpArgs false

theorem srt_len {n : Int} : ∀ {l : List Int} {lo : Int}, l.Pairwise (· < ·) → (∀ x ∈ l, lo ≤ x ∧ x < n) → l.length ≤ (n - lo).toNat
  | [], _, _, _ => by simp
  | a :: l, lo, hs, h => by
    rw [List.pairwise_cons] at hs
    have ha := h a (by simp)
    have := srt_len (n := n) (l := l) (lo := a + 1) hs.2 fun x hx => ⟨by have := hs.1 x hx; omega, (h x (List.mem_cons_of_mem _ hx)).2⟩
    rw [List.length_cons]; omega
theorem srt_extI : ∀ {as bs : List Int}, as.Pairwise (· < ·) → bs.Pairwise (· < ·) → (∀ x, x ∈ as ↔ x ∈ bs) → as = bs
  | [], [], _, _, _ => rfl
  | [], b :: bs, _, _, h => absurd ((h b).2 (by simp)) (by simp)
  | a :: as, [], _, _, h => absurd ((h a).1 (by simp)) (by simp)
  | a :: as, b :: bs, h1, h2, h => by
    rw [List.pairwise_cons] at h1 h2
    have hab : a = b := by
      rcases List.mem_cons.1 ((h a).1 (by simp)) with e | ha
      · exact e
      · rcases List.mem_cons.1 ((h b).2 (by simp)) with e | hb
        · exact e.symm
        · have := h1.1 b hb; have := h2.1 a ha; omega
    subst hab
    rw [srt_extI h1.2 h2.2 fun x => ?_]
    have hx := h x
    constructor
    · intro hm
      rcases List.mem_cons.1 (hx.1 (List.mem_cons_of_mem _ hm)) with e | k
      · subst e; exact absurd (h1.1 x hm) (by omega)
      · exact k
    · intro hm
      rcases List.mem_cons.1 (hx.2 (List.mem_cons_of_mem _ hm)) with e | k
      · subst e; exact absurd (h2.1 x hm) (by omega)
      · exact k
theorem ups_sorted (n : Nat) : (ups n).Pairwise (· < ·) := by
  unfold ups
  rw [List.pairwise_map]
  exact List.pairwise_lt_range.imp fun h => by omega
theorem mem_upsI {n : Nat} {x : Int} : x ∈ ups n ↔ 0 ≤ x ∧ x < n := by
  unfold ups
  rw [List.mem_map]
  constructor
  · rintro ⟨i, hi, rfl⟩; rw [List.mem_range] at hi; omega
  · intro h; exact ⟨x.toNat, by rw [List.mem_range]; omega, by omega⟩
theorem nbr_len {n : Int} {es : List Ed} (h : GV n es) (x : Int) : (nbr es x).length ≤ 16 := by
  have a := srt_len (n := n) (lo := 0) (nbr_sorted h.2.2.2.1 h.2.2.2.2 x) fun y hy => by
    have := nbr_rng h.2.2.2.1 ((mem_nbr h.2.2.2.1).1 hy); omega
  have := h.2.1; omega
/-- The reference's way to the neighbors. -/
def nxtP (es : List Ed) (x i : Int) : Bool := !decide (i = x) && decide ((min i x, max i x) ∈ es)
theorem nxt_eq {n : Int} {es : List Ed} (h : GV n es) (x : Int) : (ups n.toNat).filter (nxtP es x) = nbr es x := by
  have hE := h.2.2.2.1
  refine srt_extI ((ups_sorted _).sublist List.filter_sublist) (nbr_sorted hE h.2.2.2.2 x) fun y => ?_
  rw [List.mem_filter, mem_upsI, mem_nbr hE]
  unfold nxtP Adj
  simp only [Bool.and_eq_true, Bool.not_eq_true', decide_eq_false_iff_not, decide_eq_true_eq]
  constructor
  · rintro ⟨_, h1, h2⟩
    by_cases q : x < y
    · rw [show min y x = x by omega, show max y x = y by omega] at h2; exact .inl h2
    · rw [show min y x = y by omega, show max y x = x by omega] at h2; exact .inr h2
  · intro a
    have r := nbr_rng hE a
    refine ⟨by omega, by omega, ?_⟩
    rcases a with a | a
    · have := hE _ a; unfold EIn at this; simp only at this
      rw [show min y x = x by omega, show max y x = y by omega]; exact a
    · have := hE _ a; unfold EIn at this; simp only at this
      rw [show min y x = y by omega, show max y x = x by omega]; exact a
theorem nbr_next {es : List Ed} {i : Nat} {e : Ed} (h : es[i]? = some e) (x : Int) : nbr (es.take (i + 1)) x = nbr (es.take i) x ++ if x = e.1 then [e.2] else if x = e.2 then [e.1] else [] := by
  unfold nbr
  rw [take_snoc h, List.filterMap_append]
  congr 1
  by_cases h1 : e.1 = x
  · simp [List.filterMap_cons, h1]
  · have h1' : ¬ x = e.1 := fun q => h1 q.symm
    by_cases h2 : e.2 = x
    · simp [List.filterMap_cons, h1, h1', h2]
    · have h2' : ¬ x = e.2 := fun q => h2 q.symm
      simp [List.filterMap_cons, h1, h1', h2, h2']
/-- A graph without the edges of a node. -/
def aloP (x : Int) (e : Ed) : Bool := decide (e.1 = x) || decide (e.2 = x)
def aloL (es : List Ed) (x : Int) : List Ed := es.filter fun e => !aloP x e
/-- Two neighbors of the node are parted without it. -/
def cnP (n : Int) (es : List Ed) (x y : Int) : Bool := !decide (nth (labL n (aloL es x)) y = nth (labL n (aloL es x)) ((nbr es x)[0]?.getD 0))
def cnB (n : Int) (es : List Ed) (x : Int) : Bool := (nbr es x).any (cnP n es x)
def cnL (n : Int) (es : List Ed) : List Int := (ups n.toNat).filter (cnB n es)
def cnV (n : Int) (es : List Ed) : List Int := if gvB n es then cnL n es else []
theorem cnL_len {n : Int} {es : List Ed} : (cnL n es).length ≤ n.toNat := by
  have := List.length_filter_le (cnB n es) (ups n.toNat)
  rw [ups_length] at this; exact this
theorem cnV_len {n : Int} {es : List Ed} : (cnV n es).length ≤ 16 := by
  unfold cnV
  split
  · rename_i h; have := (gvB_iff.1 h).2.1; have := cnL_len (n := n) (es := es); omega
  · simp
theorem cnB_iff {n : Int} {es : List Ed} (h : GV n es) {x : Int} : cnB n es x = true ↔ ∃ y z, Adj es x y ∧ Adj es x z ∧ ¬ Rch (aloL es x) y z := by
  have hE := h.2.2.2.1
  have hn : 0 ≤ n := by have := h.1; omega
  have hA : ∀ e ∈ aloL es x, EIn n e := fun e he => hE e (List.mem_filter.1 he).1
  have il := labL_is hn hA
  have rg : ∀ y, y ∈ nbr es x → 0 ≤ y ∧ y < (n.toNat : Int) := fun y hy => by have := nbr_rng hE ((mem_nbr hE).1 hy); omega
  unfold cnB
  rw [List.any_eq_true]
  cases hN : nbr es x with
  | nil =>
    constructor
    · rintro ⟨y, hy, _⟩; simp at hy
    · rintro ⟨y, z, hy, _, _⟩
      have := (mem_nbr hE).2 hy
      rw [hN] at this; simp at this
  | cons a r =>
    have e0 : ((a :: r)[0]?.getD 0) = a := rfl
    have ra := rg a (by rw [hN]; simp)
    constructor
    · rintro ⟨y, hy, hc⟩
      refine ⟨y, a, (mem_nbr hE).1 (by rw [hN]; exact hy), (mem_nbr hE).1 (by rw [hN]; simp), fun q => ?_⟩
      unfold cnP at hc
      rw [hN, e0] at hc
      have := (il.same (rg y (by rw [hN]; exact hy)) ra).2 q
      simp [this] at hc
    · rintro ⟨y, z, hy, hz, hr⟩
      have my := (mem_nbr hE).2 hy
      have mz := (mem_nbr hE).2 hz
      by_cases q : nth (labL n (aloL es x)) y = nth (labL n (aloL es x)) a
      · refine ⟨z, by rw [← hN]; exact mz, ?_⟩
        unfold cnP
        rw [hN, e0]
        have : nth (labL n (aloL es x)) z ≠ nth (labL n (aloL es x)) a := fun w => hr ((il.same (rg y my) (rg z mz)).1 (q.trans w.symm))
        simp [this]
      · refine ⟨y, by rw [← hN]; exact my, ?_⟩
        unfold cnP
        rw [hN, e0]
        simp [q]
end Go.Pl
