/-
  Graphs: edges in order, what is connected, the least node of each part. No program in sight.
-/
namespace Go.Pl
set_option linter.unusedVariables false
set_option linter.unusedSimpArgs false

abbrev Ed := Int × Int

/-- The order of edges. -/
def eLt (a b : Ed) : Prop := a.1 < b.1 ∨ (a.1 = b.1 ∧ a.2 < b.2)
instance (a b : Ed) : Decidable (eLt a b) := by unfold eLt; infer_instance
theorem eLt_irrefl (a : Ed) : ¬ eLt a a := by unfold eLt; omega
theorem eLt_trans {a b c : Ed} (h : eLt a b) (k : eLt b c) : eLt a c := by unfold eLt at *; omega
theorem eLt_asymm {a b : Ed} (h : eLt a b) : ¬ eLt b a := by unfold eLt at *; omega
theorem eLt_total {a b : Ed} (h : ¬ eLt a b) (k : ¬ eLt b a) : a = b := by
  unfold eLt at *
  have h1 : a.1 = b.1 := by omega
  have h2 : a.2 = b.2 := by omega
  exact Prod.ext h1 h2

/-- An edge between nodes of a graph. -/
def EIn (n : Int) (e : Ed) : Prop := 0 ≤ e.1 ∧ e.1 < e.2 ∧ e.2 < n
instance (n : Int) (e : Ed) : Decidable (EIn n e) := by unfold EIn; infer_instance
/-- A valid graph. -/
def GV (n : Int) (es : List Ed) : Prop := 1 ≤ n ∧ n ≤ 16 ∧ es.length ≤ 40 ∧ (∀ e ∈ es, EIn n e) ∧ es.Pairwise eLt
instance (n : Int) (es : List Ed) : Decidable (GV n es) := by unfold GV; infer_instance
def gvB (n : Int) (es : List Ed) : Bool := decide (GV n es)
theorem gvB_iff {n : Int} {es : List Ed} : gvB n es = true ↔ GV n es := by simp [gvB]
theorem gvB_no {n : Int} {es : List Ed} : gvB n es = false ↔ ¬ GV n es := by simp [gvB]

/-- The first edges are as they should be. -/
def GPre (n : Int) (es : List Ed) (i : Nat) : Prop := (∀ e ∈ es.take i, EIn n e) ∧ (es.take i).Pairwise eLt
theorem GPre_zero {n : Int} {es : List Ed} : GPre n es 0 := by simp [GPre]
theorem take_snoc {α : Type} {l : List α} {i : Nat} {x : α} (hx : l[i]? = some x) : l.take (i + 1) = l.take i ++ [x] := by
  rw [List.take_add_one, hx]; rfl
theorem GPre_succ {n : Int} {es : List Ed} {i : Nat} {e : Ed} (h : GPre n es i) (he : es[i]? = some e) (h1 : EIn n e) (h2 : ∀ j, i = j + 1 → ∀ d, es[j]? = some d → eLt d e) : GPre n es (i + 1) := by
  refine ⟨fun x hx => ?_, ?_⟩
  · rw [take_snoc he] at hx
    rcases List.mem_append.1 hx with hx | hx
    · exact h.1 x hx
    · simp at hx; subst hx; exact h1
  · rw [take_snoc he, List.pairwise_append]
    refine ⟨h.2, by simp, fun x hx y hy => ?_⟩
    simp at hy; subst hy
    cases i with
    | zero => simp at hx
    | succ j =>
      have hj : j < es.length := by have := (List.getElem?_eq_some_iff.1 he).1; omega
      have hd : es[j]? = some es[j] := List.getElem?_eq_getElem hj
      have hlt := h2 j rfl _ hd
      rw [take_snoc hd] at hx
      rcases List.mem_append.1 hx with hx | hx
      · have := h.2
        rw [take_snoc hd, List.pairwise_append] at this
        exact eLt_trans (this.2.2 x hx _ (by simp)) hlt
      · simp at hx; subst hx; exact hlt
theorem GPre_all {n : Int} {es : List Ed} (h0 : 1 ≤ n ∧ n ≤ 16 ∧ es.length ≤ 40) (h : GPre n es es.length) : GV n es := by
  unfold GPre at h; rw [List.take_length] at h
  exact ⟨h0.1, h0.2.1, h0.2.2, h.1, h.2⟩
theorem GV_next {n : Int} {es : List Ed} (h : GV n es) {i : Nat} {d e : Ed} (hd : es[i]? = some d) (he : es[i + 1]? = some e) : eLt d e := by
  obtain ⟨hi, rfl⟩ := List.getElem?_eq_some_iff.1 hd
  obtain ⟨hj, rfl⟩ := List.getElem?_eq_some_iff.1 he
  exact List.pairwise_iff_getElem.1 h.2.2.2.2 i (i + 1) hi hj (Nat.lt_succ_self _)
theorem GV.nodup {n : Int} {es : List Ed} (h : GV n es) : es.Nodup := by
  rw [List.nodup_iff_pairwise_ne]
  exact h.2.2.2.2.imp fun hab e => by subst e; exact eLt_irrefl _ hab

/-- An edge put in its place. -/
def posE (es : List Ed) (e : Ed) : Nat := (es.takeWhile fun x => decide (eLt x e)).length
def putE (es : List Ed) (e : Ed) : List Ed := es.take (posE es e) ++ e :: es.drop (posE es e)
theorem posE_le (es : List Ed) (e : Ed) : posE es e ≤ es.length := by
  unfold posE
  exact (List.takeWhile_sublist _).length_le
theorem posE_unique {es : List Ed} {e : Ed} {p : Nat} (hp : p ≤ es.length) (h1 : ∀ x ∈ es.take p, eLt x e) (h2 : ∀ x, es[p]? = some x → ¬ eLt x e) : posE es e = p := by
  unfold posE
  have e1 : es = es.take p ++ es.drop p := (List.take_append_drop p es).symm
  rw [e1, List.takeWhile_append_of_pos (by simpa using h1)]
  cases hd : es.drop p with
  | nil => simp; omega
  | cons y r =>
    have : es[p]? = some y := by
      have := congrArg (·[0]?) hd
      simpa using this
    rw [List.takeWhile_cons_of_neg (by simpa using h2 y this)]
    simp; omega
theorem posE_split {es : List Ed} (hs : es.Pairwise eLt) (e : Ed) : (∀ x ∈ es.take (posE es e), eLt x e) ∧ ∀ x ∈ es.drop (posE es e), ¬ eLt x e := by
  induction es with
  | nil => simp [posE]
  | cons y r ih =>
    rw [List.pairwise_cons] at hs
    by_cases h : eLt y e
    · have e1 : posE (y :: r) e = posE r e + 1 := by simp [posE, h]
      rw [e1]
      have := ih hs.2
      refine ⟨fun x hx => ?_, fun x hx => ?_⟩
      · rw [List.take_succ_cons] at hx
        rcases List.mem_cons.1 hx with rfl | hx
        · exact h
        · exact this.1 x hx
      · rw [List.drop_succ_cons] at hx; exact this.2 x hx
    · have e1 : posE (y :: r) e = 0 := by simp [posE, h]
      rw [e1]
      refine ⟨by simp, fun x hx => ?_⟩
      rw [List.drop_zero] at hx
      rcases List.mem_cons.1 hx with rfl | hx
      · exact h
      · exact fun k => h (eLt_trans (hs.1 x hx) k)
theorem mem_putE {es : List Ed} {e x : Ed} : x ∈ putE es e ↔ x = e ∨ x ∈ es := by
  unfold putE
  rw [List.mem_append, List.mem_cons]
  constructor
  · rintro (h | h | h)
    · exact .inr (List.mem_of_mem_take h)
    · exact .inl h
    · exact .inr (List.mem_of_mem_drop h)
  · rintro (h | h)
    · exact .inr (.inl h)
    · rw [← List.take_append_drop (posE es e) es, List.mem_append] at h
      rcases h with h | h
      · exact .inl h
      · exact .inr (.inr h)
theorem putE_length (es : List Ed) (e : Ed) : (putE es e).length = es.length + 1 := by
  have := posE_le es e
  simp [putE]; omega
theorem putE_sorted {es : List Ed} {e : Ed} (hs : es.Pairwise eLt) (he : e ∉ es) : (putE es e).Pairwise eLt := by
  obtain ⟨h1, h2⟩ := posE_split hs e
  unfold putE
  rw [List.pairwise_append, List.pairwise_cons]
  have hd : ∀ x ∈ es.drop (posE es e), eLt e x := fun x hx => Classical.byContradiction fun k => by
    have := eLt_total (h2 x hx) k
    subst this; exact he (List.mem_of_mem_drop hx)
  refine ⟨hs.sublist (List.take_sublist _ _), ⟨hd, hs.sublist (List.drop_sublist _ _)⟩, fun x hx y hy => ?_⟩
  rcases List.mem_cons.1 hy with rfl | hy
  · exact h1 x hx
  · exact eLt_trans (h1 x hx) (hd y hy)
/-- The graph with an edge more, without one. -/
theorem GV_put {n : Int} {es : List Ed} {e : Ed} (h : GV n es) (he : e ∉ es) : GV n (putE es e) ↔ EIn n e ∧ es.length < 40 := by
  constructor
  · rintro ⟨_, _, h3, h4, _⟩
    rw [putE_length] at h3
    exact ⟨h4 e (mem_putE.2 (.inl rfl)), by omega⟩
  · rintro ⟨h1, h2⟩
    refine ⟨h.1, h.2.1, by rw [putE_length]; omega, fun x hx => ?_, putE_sorted h.2.2.2.2 he⟩
    rcases mem_putE.1 hx with rfl | hx
    · exact h1
    · exact h.2.2.2.1 x hx
theorem GV_filter {n : Int} {es : List Ed} (h : GV n es) (p : Ed → Bool) : GV n (es.filter p) :=
  ⟨h.1, h.2.1, Nat.le_trans (List.length_filter_le _ _) h.2.2.1, fun e he => h.2.2.2.1 e (List.mem_filter.1 he).1, h.2.2.2.2.sublist List.filter_sublist⟩
/-- Lists in order with the same elements are one. -/
theorem sorted_ext : ∀ {as bs : List Ed}, as.Pairwise eLt → bs.Pairwise eLt → (∀ x, x ∈ as ↔ x ∈ bs) → as = bs
  | [], [], _, _, _ => rfl
  | [], b :: bs, _, _, h => absurd ((h b).2 (by simp)) (by simp)
  | a :: as, [], _, _, h => absurd ((h a).1 (by simp)) (by simp)
  | a :: as, b :: bs, h1, h2, h => by
    rw [List.pairwise_cons] at h1 h2
    have hab : a = b := by
      rcases List.mem_cons.1 ((h a).1 (by simp)) with e | ha
      · exact e
      · rcases List.mem_cons.1 ((h b).2 (by simp)) with e | hb
        · exact e.symm
        · exact absurd (h1.1 b hb) (eLt_asymm (h2.1 a ha))
    subst hab
    rw [sorted_ext h1.2 h2.2 fun x => ?_]
    have hx := h x
    constructor
    · intro hm
      rcases List.mem_cons.1 (hx.1 (List.mem_cons_of_mem _ hm)) with e | k
      · subst e; exact absurd (h1.1 x hm) (eLt_irrefl _)
      · exact k
    · intro hm
      rcases List.mem_cons.1 (hx.2 (List.mem_cons_of_mem _ hm)) with e | k
      · subst e; exact absurd (h2.1 x hm) (eLt_irrefl _)
      · exact k

/-! What is connected. -/
def Adj (es : List Ed) (x y : Int) : Prop := (x, y) ∈ es ∨ (y, x) ∈ es
theorem Adj.symm {es : List Ed} {x y : Int} (h : Adj es x y) : Adj es y x := Or.symm h
inductive Rch (es : List Ed) (x : Int) : Int → Prop
  | refl : Rch es x x
  | step {y z : Int} (h : Rch es x y) (k : Adj es y z) : Rch es x z
theorem Rch.one {es : List Ed} {x y : Int} (h : Adj es x y) : Rch es x y := .step .refl h
theorem Rch.trans {es : List Ed} {x y z : Int} (h : Rch es x y) (k : Rch es y z) : Rch es x z := by
  induction k with
  | refl => exact h
  | step _ a ih => exact .step ih a
theorem Rch.symm {es : List Ed} {x y : Int} (h : Rch es x y) : Rch es y x := by
  induction h with
  | refl => exact .refl
  | step _ a ih => exact (Rch.one a.symm).trans ih
theorem Rch.mono {es fs : List Ed} (hs : ∀ e ∈ es, e ∈ fs) {x y : Int} (h : Rch es x y) : Rch fs x y := by
  induction h with
  | refl => exact .refl
  | step _ a ih => exact .step ih (Or.imp (hs _) (hs _) a)
theorem Rch.congr {es fs : List Ed} (hs : ∀ e, e ∈ es ↔ e ∈ fs) {x y : Int} : Rch es x y ↔ Rch fs x y :=
  ⟨Rch.mono fun e he => (hs e).1 he, Rch.mono fun e he => (hs e).2 he⟩
/-- What is connected to a node of the graph is one. -/
theorem Rch.rng {n : Int} {es : List Ed} (hE : ∀ e ∈ es, EIn n e) {x y : Int} (h : Rch es x y) (hx : 0 ≤ x ∧ x < n) : 0 ≤ y ∧ y < n := by
  induction h with
  | refl => exact hx
  | step _ a ih =>
    rcases a with a | a
    · have := hE _ a; unfold EIn at this; simp at this; omega
    · have := hE _ a; unfold EIn at this; simp at this; omega

/-- Connected by so many steps at most. -/
inductive Stp (es : List Ed) (x : Int) : Nat → Int → Prop
  | zero : Stp es x 0 x
  | wait {k : Nat} {y : Int} (h : Stp es x k y) : Stp es x (k + 1) y
  | step {k : Nat} {y z : Int} (h : Stp es x k y) (a : Adj es y z) : Stp es x (k + 1) z
theorem Stp.le {es : List Ed} {x y : Int} {k m : Nat} (h : Stp es x k y) (hm : k ≤ m) : Stp es x m y := by
  induction hm with
  | refl => exact h
  | step _ ih => exact .wait ih
theorem Rch.stp {es : List Ed} {x y : Int} (h : Rch es x y) : ∃ k, Stp es x k y := by
  induction h with
  | refl => exact ⟨0, .zero⟩
  | step _ a ih => obtain ⟨k, hk⟩ := ih; exact ⟨k + 1, .step hk a⟩
theorem Stp.rch {es : List Ed} {x y : Int} {k : Nat} (h : Stp es x k y) : Rch es x y := by
  induction h with
  | zero => exact .refl
  | wait _ ih => exact ih
  | step _ a ih => exact .step ih a

theorem countP_le_of {α : Type} {p q : α → Bool} : ∀ {l : List α}, (∀ x ∈ l, p x = true → q x = true) → l.countP p ≤ l.countP q
  | [], _ => by simp
  | a :: l, h => by
    have ih := countP_le_of (l := l) (fun x hx => h x (List.mem_cons_of_mem _ hx))
    rw [List.countP_cons, List.countP_cons]
    have := h a (by simp)
    cases hp : p a <;> cases hq : q a <;> simp_all <;> omega
theorem countP_eq_of {α : Type} {p q : α → Bool} : ∀ {l : List α}, (∀ x ∈ l, p x = true → q x = true) → l.countP q ≤ l.countP p → ∀ x ∈ l, q x = true → p x = true
  | [], _, _, x, hx, _ => by simp at hx
  | a :: l, h, hc, x, hx, hq => by
    have hle := countP_le_of (l := l) (fun x hx => h x (List.mem_cons_of_mem _ hx))
    rw [List.countP_cons, List.countP_cons] at hc
    have ha := h a (by simp)
    have hc' : l.countP q ≤ l.countP p := by cases hp : p a <;> cases hq : q a <;> simp_all <;> omega
    rcases List.mem_cons.1 hx with rfl | hx
    · cases hp : p x with
      | true => rfl
      | false => rw [hp, hq] at hc; simp at hc; omega
    · exact countP_eq_of (fun x hx => h x (List.mem_cons_of_mem _ hx)) hc' x hx hq

open Classical in
/-- In a graph of n nodes, fewer than n steps lead everywhere. -/
theorem Rch.few {n : Nat} {es : List Ed} (hE : ∀ e ∈ es, EIn n e) {x y : Int} (hx : 0 ≤ x ∧ x < n) (h : Rch es x y) : Stp es x (n - 1) y := by
  let p : Nat → Nat → Bool := fun k j => decide (Stp es x k (j : Int))
  have grow : ∀ k, k + 1 ≤ (List.range n).countP (p k) ∨ ∃ j, j < k ∧ ∀ z, Stp es x (j + 1) z → Stp es x j z := by
    intro k
    induction k with
    | zero =>
      left
      refine List.countP_pos_iff.2 ⟨x.toNat, by simp; omega, ?_⟩
      have : ((x.toNat : Nat) : Int) = x := by omega
      simp only [p, this]
      exact decide_eq_true .zero
    | succ k ih =>
      rcases ih with ih | ⟨j, hj, hc⟩
      · by_cases hcl : ∀ z, Stp es x (k + 1) z → Stp es x k z
        · exact .inr ⟨k, Nat.lt_succ_self _, hcl⟩
        · left
          have hm : ∀ j ∈ List.range n, p k j = true → p (k + 1) j = true := fun j _ hj => decide_eq_true (Stp.wait (of_decide_eq_true hj))
          have hle := countP_le_of hm
          by_cases he : (List.range n).countP (p (k + 1)) ≤ (List.range n).countP (p k)
          · exfalso; refine hcl fun z hz => ?_
            have hz' := hz.rch.rng hE hx
            have e : ((z.toNat : Nat) : Int) = z := by omega
            have := countP_eq_of hm he z.toNat (by simp; omega) (decide_eq_true (by rw [e]; exact hz))
            have := of_decide_eq_true this
            rwa [e] at this
          · omega
      · exact .inr ⟨j, by omega, hc⟩
  rcases grow n with h1 | ⟨j, hj, hc⟩
  · have := List.countP_le_length (p := p n) (l := List.range n)
    simp at this; omega
  · have all : ∀ k z, Stp es x k z → Stp es x j z := by
      intro k z hz
      induction hz with
      | zero => exact Stp.le .zero (Nat.zero_le _)
      | wait _ ih => exact ih
      | step _ a ih => exact hc _ (.step ih a)
    obtain ⟨k, hk⟩ := h.stp
    exact (all k y hk).le (by omega)

/-! The least node of each part. -/
def nth (l : List Int) (x : Int) : Int := (l[x.toNat]?).getD 0
theorem nth_get {l : List Int} {x : Int} {v : Int} (h : l[x.toNat]? = some v) : nth l x = v := by simp [nth, h]
theorem nth_some {l : List Int} {x : Int} (h : 0 ≤ x ∧ x < l.length) : l[x.toNat]? = some (nth l x) := by
  have : x.toNat < l.length := by omega
  simp [nth, this]

structure IsLab (n : Nat) (es : List Ed) (out : List Int) : Prop where
  len : out.length = n
  own : ∀ x : Int, 0 ≤ x → x < n → Rch es x (nth out x)
  least : ∀ x : Int, 0 ≤ x → x < n → ∀ y, Rch es x y → nth out x ≤ y

theorem IsLab.rng {n : Nat} {es : List Ed} {out : List Int} (hE : ∀ e ∈ es, EIn n e) (h : IsLab n es out) {x : Int} (h0 : 0 ≤ x) (h1 : x < n) : 0 ≤ nth out x ∧ nth out x ≤ x := by
  have := (h.own x h0 h1).rng hE ⟨h0, h1⟩
  exact ⟨this.1, h.least x h0 h1 x .refl⟩
theorem IsLab.same {n : Nat} {es : List Ed} {out : List Int} (h : IsLab n es out) {x y : Int} (hx : 0 ≤ x ∧ x < n) (hy : 0 ≤ y ∧ y < n) : nth out x = nth out y ↔ Rch es x y := by
  constructor
  · intro e
    have := (h.own y hy.1 hy.2).symm
    rw [← e] at this
    exact (h.own x hx.1 hx.2).trans this
  · intro hr
    have h1 := h.least x hx.1 hx.2 _ (hr.trans (h.own y hy.1 hy.2))
    have h2 := h.least y hy.1 hy.2 _ (hr.symm.trans (h.own x hx.1 hx.2))
    omega
theorem IsLab.unique {n : Nat} {es : List Ed} {out out' : List Int} (h : IsLab n es out) (h' : IsLab n es out') : out = out' := by
  apply List.ext_getElem?
  intro i
  by_cases hi : i < n
  · have a : ((i : Nat) : Int).toNat = i := by simp
    have e1 : out[i]? = some (nth out i) := by have := nth_some (l := out) (x := i) ⟨by omega, by rw [h.len]; omega⟩; rwa [a] at this
    have e2 : out'[i]? = some (nth out' i) := by have := nth_some (l := out') (x := i) ⟨by omega, by rw [h'.len]; omega⟩; rwa [a] at this
    rw [e1, e2]; congr 1
    have h1 := h.least i (by omega) (by omega) _ (h'.own i (by omega) (by omega))
    have h2 := h'.least i (by omega) (by omega) _ (h.own i (by omega) (by omega))
    omega
  · rw [List.getElem?_eq_none (by rw [h.len]; omega), List.getElem?_eq_none (by rw [h'.len]; omega)]

/-- One edge makes its nodes alike. -/
def relax (out : List Int) (e : Ed) : List Int := (out.set e.1.toNat (min (nth out e.1) (nth out e.2))).set e.2.toNat (min (nth out e.1) (nth out e.2))
def roundL (es : List Ed) (out : List Int) : List Int := es.foldl relax out
def rounds (es : List Ed) : Nat → List Int → List Int
  | 0, out => out
  | k + 1, out => roundL es (rounds es k out)
def ups (n : Nat) : List Int := (List.range n).map fun i : Nat => (i : Int)
theorem ups_length (n : Nat) : (ups n).length = n := by simp [ups]
theorem ups_get {n i : Nat} (h : i < n) : (ups n)[i]? = some (i : Int) := by simp [ups, h]
theorem nth_ups {n : Nat} {x : Int} (h0 : 0 ≤ x) (h1 : x < n) : nth (ups n) x = x := by
  have := ups_get (n := n) (i := x.toNat) (by omega)
  rw [nth, this]; simp; omega
def labL (n : Int) (es : List Ed) : List Int := rounds es n.toNat (ups n.toNat)

theorem relax_length (out : List Int) (e : Ed) : (relax out e).length = out.length := by simp [relax]
theorem roundL_length (es : List Ed) : ∀ out : List Int, (roundL es out).length = out.length := by
  unfold roundL
  induction es with
  | nil => intro out; rfl
  | cons e es ih => intro out; rw [List.foldl_cons, ih, relax_length]
theorem nth_set {l : List Int} {i x v : Int} (hi : 0 ≤ i) (hx : 0 ≤ x) (hl : i < l.length) : nth (l.set i.toNat v) x = if x = i then v else nth l x := by
  unfold nth
  by_cases h : x = i
  · subst h; rw [if_pos rfl, List.getElem?_set_self (by omega)]; rfl
  · rw [if_neg h, List.getElem?_set_ne (by omega)]
theorem nth_relax {n : Nat} {out : List Int} {e : Ed} (hl : out.length = n) (he : EIn n e) {x : Int} (hx : 0 ≤ x) :
    nth (relax out e) x = if x = e.1 ∨ x = e.2 then min (nth out e.1) (nth out e.2) else nth out x := by
  unfold EIn at he
  unfold relax
  rw [nth_set (by omega) hx (by simp; omega), nth_set (by omega) hx (by omega)]
  by_cases h1 : x = e.2
  · simp [h1]
  · by_cases h2 : x = e.1 <;> simp [h1, h2]
theorem relax_le {n : Nat} {out : List Int} {e : Ed} (hl : out.length = n) (he : EIn n e) {x : Int} (hx : 0 ≤ x) : nth (relax out e) x ≤ nth out x := by
  rw [nth_relax hl he hx]
  split
  · rename_i h; rcases h with rfl | rfl <;> omega
  · omega
theorem roundL_le {n : Nat} {es : List Ed} (hE : ∀ e ∈ es, EIn n e) {x : Int} (hx : 0 ≤ x) : ∀ {out : List Int}, out.length = n → nth (roundL es out) x ≤ nth out x := by
  unfold roundL
  induction es with
  | nil => intro out _; exact Int.le_refl _
  | cons e es ih =>
    intro out hl
    rw [List.foldl_cons]
    have h1 := ih (fun d hd => hE d (List.mem_cons_of_mem _ hd)) (out := relax out e) (by rw [relax_length]; exact hl)
    have h2 := relax_le hl (hE e (by simp)) hx
    omega
theorem roundL_adj {n : Nat} {es : List Ed} (hE : ∀ e ∈ es, EIn n e) {e : Ed} (he : e ∈ es) : ∀ {out : List Int}, out.length = n → nth (roundL es out) e.1 ≤ nth out e.2 ∧ nth (roundL es out) e.2 ≤ nth out e.1 := by
  induction es with
  | nil => simp at he
  | cons d es ih =>
    intro out hl
    have hE' : ∀ e ∈ es, EIn n e := fun d hd => hE d (List.mem_cons_of_mem _ hd)
    have hl' : (relax out d).length = n := by rw [relax_length]; exact hl
    have hd := hE d (by simp)
    have hen := hE e he
    unfold EIn at hen
    have hr : roundL (d :: es) out = roundL es (relax out d) := rfl
    rw [hr]
    rcases List.mem_cons.1 he with e1 | he'
    · subst e1
      have a1 := roundL_le hE' (x := e.1) (by omega) hl'
      have a2 := roundL_le hE' (x := e.2) (by omega) hl'
      rw [nth_relax hl hd (by omega), if_pos (.inl rfl)] at a1
      rw [nth_relax hl hd (by omega), if_pos (.inr rfl)] at a2
      omega
    · have a := ih hE' he' hl'
      have b1 := relax_le hl hd (x := e.1) (by omega)
      have b2 := relax_le hl hd (x := e.2) (by omega)
      omega
theorem relax_own {n : Nat} {es : List Ed} {out : List Int} {e : Ed} (hl : out.length = n) (hn : EIn n e) (he : e ∈ es) (h : ∀ x : Int, 0 ≤ x → x < n → Rch es x (nth out x)) : ∀ x : Int, 0 ≤ x → x < n → Rch es x (nth (relax out e) x) := by
  intro x h0 h1
  rw [nth_relax hl hn h0]
  unfold EIn at hn
  have ha := h e.1 (by omega) (by omega)
  have hb := h e.2 (by omega) (by omega)
  have hab : Rch es e.1 e.2 := .one (.inl he)
  split
  · rename_i hx
    have : min (nth out e.1) (nth out e.2) = nth out e.1 ∨ min (nth out e.1) (nth out e.2) = nth out e.2 := by omega
    rcases hx with rfl | rfl <;> rcases this with e | e <;> rw [e]
    · exact ha
    · exact hab.trans hb
    · exact hab.symm.trans ha
    · exact hb
  · exact h x h0 h1
theorem roundL_own {n : Nat} {fs es : List Ed} (hE : ∀ e ∈ es, EIn n e) (hs : ∀ e ∈ es, e ∈ fs) : ∀ {out : List Int}, out.length = n → (∀ x : Int, 0 ≤ x → x < n → Rch fs x (nth out x)) → ∀ x : Int, 0 ≤ x → x < n → Rch fs x (nth (roundL es out) x) := by
  induction es with
  | nil => intro out _ h; exact h
  | cons e es ih =>
    intro out hl h
    exact ih (fun d hd => hE d (List.mem_cons_of_mem _ hd)) (fun d hd => hs d (List.mem_cons_of_mem _ hd)) (out := relax out e) (by rw [relax_length]; exact hl)
      (relax_own hl (hE e (by simp)) (hs e (by simp)) h)
theorem rounds_length (es : List Ed) (k : Nat) (out : List Int) : (rounds es k out).length = out.length := by
  induction k with
  | zero => rfl
  | succ k ih => rw [rounds, roundL_length, ih]
theorem labL_is {n : Int} {es : List Ed} (hn : 0 ≤ n) (hE : ∀ e ∈ es, EIn n e) : IsLab n.toNat es (labL n es) := by
  have hnn : ((n.toNat : Nat) : Int) = n := by omega
  have hE' : ∀ e ∈ es, EIn n.toNat e := by rw [hnn]; exact hE
  have own : ∀ k (x : Int), 0 ≤ x → x < n.toNat → Rch es x (nth (rounds es k (ups n.toNat)) x) := by
    intro k
    induction k with
    | zero => intro x h0 h1; rw [rounds, nth_ups h0 h1]; exact .refl
    | succ k ih => exact roundL_own hE' (fun _ h => h) (by rw [rounds_length, ups_length]) ih
  have low : ∀ k (x y : Int), 0 ≤ y → y < n.toNat → Stp es y k x → nth (rounds es k (ups n.toNat)) x ≤ y := by
    intro k
    induction k with
    | zero =>
      intro x y h0 h1 h
      cases h
      rw [rounds, nth_ups h0 h1]; exact Int.le_refl _
    | succ k ih =>
      intro x y h0 h1 h
      have hlen : (rounds es k (ups n.toNat)).length = n.toNat := by rw [rounds_length, ups_length]
      cases h with
      | wait h =>
        have hx := h.rch.rng hE' ⟨h0, h1⟩
        exact Int.le_trans (roundL_le hE' hx.1 hlen) (ih x y h0 h1 h)
      | @step _ z _ h a =>
        have := ih z y h0 h1 h
        rcases a with a | a
        · exact Int.le_trans (roundL_adj hE' a hlen).2 this
        · exact Int.le_trans (roundL_adj hE' a hlen).1 this
  refine ⟨by rw [labL, rounds_length, ups_length], own _, fun x h0 h1 y hr => ?_⟩
  have hy := hr.rng hE' ⟨h0, h1⟩
  exact low _ x y hy.1 hy.2 ((hr.symm.few hE' hy).le (by omega))
/-- Labels that no edge changes are the least nodes. -/
theorem IsLab.of_fix {n : Nat} {es : List Ed} {out : List Int} (hE : ∀ e ∈ es, EIn n e) (hl : out.length = n) (h1 : ∀ x : Int, 0 ≤ x → x < n → Rch es x (nth out x)) (h2 : ∀ x : Int, 0 ≤ x → x < n → nth out x ≤ x)
    (h3 : ∀ e ∈ es, nth out e.1 = nth out e.2) : IsLab n es out := by
  refine ⟨hl, h1, fun x hx0 hx1 y hr => ?_⟩
  have : nth out x = nth out y := by
    have hrr := hr
    induction hr with
    | refl => rfl
    | step h a ih =>
      rw [ih h]
      rcases a with a | a
      · exact h3 _ a
      · exact (h3 _ a).symm
  have hy := hr.rng hE ⟨hx0, hx1⟩
  rw [this]; exact h2 y hy.1 hy.2
end Go.Pl
