/-
  Searching a graph in depth: numbers and parents; an edge joins a node with one above it. No program in sight.
-/
import Derived.Test.YtjklefjjmfpnoaaPlG2
namespace Go.Pl
set_option linter.unusedVariables false
set_option linter.unusedSimpArgs false

/-- The nodes that edges join with a node, in order. -/
def nbr (es : List Ed) (x : Int) : List Int := es.filterMap fun e => if e.1 = x then some e.2 else if e.2 = x then some e.1 else none
theorem mem_nbr {n : Int} {es : List Ed} (hE : ∀ e ∈ es, EIn n e) {x y : Int} : y ∈ nbr es x ↔ Adj es x y := by
  unfold nbr Adj
  rw [List.mem_filterMap]
  constructor
  · rintro ⟨⟨a, b⟩, he, h⟩
    simp only at h
    split at h
    · rename_i q; cases h; subst q; exact .inl he
    · split at h
      · rename_i q; cases h; subst q; exact .inr he
      · cases h
  · rintro (h | h)
    · exact ⟨(x, y), h, by simp⟩
    · refine ⟨(y, x), h, ?_⟩
      have := hE _ h
      unfold EIn at this
      simp only at this ⊢
      rw [if_neg (by omega)]; simp
theorem nbr_sorted {n : Int} {es : List Ed} (hE : ∀ e ∈ es, EIn n e) (hs : es.Pairwise eLt) (x : Int) : (nbr es x).Pairwise (· < ·) := by
  unfold nbr
  rw [List.pairwise_filterMap]
  refine hs.imp_of_mem fun {a b} ha hb h c hc d hd => ?_
  have h1 := hE a ha
  have h2 := hE b hb
  unfold EIn at h1 h2
  unfold eLt at h
  split at hc
  · cases hc
    split at hd
    · cases hd; omega
    · split at hd
      · cases hd; omega
      · cases hd
  · split at hc
    · cases hc
      split at hd
      · cases hd; omega
      · split at hd
        · cases hd; omega
        · cases hd
    · cases hc
theorem nbr_rng {n : Int} {es : List Ed} (hE : ∀ e ∈ es, EIn n e) {x y : Int} (h : Adj es x y) : 0 ≤ x ∧ x < n ∧ 0 ≤ y ∧ y < n ∧ x ≠ y := by
  rcases h with h | h <;> have := hE _ h <;> unfold EIn at this <;> simp only at this <;> omega

structure Sr where
  num : List Int
  par : List Int
  low : List Int

def step1 (rec : Int → Sr × Int → Sr × Int) (x p : Int) (q : Sr × Int) (y : Int) : Sr × Int :=
  if nth q.1.num y = 0 then
    (⟨(rec y q).1.num, (rec y q).1.par, (rec y q).1.low.set x.toNat (min (nth (rec y q).1.low x) (nth (rec y q).1.low y))⟩, (rec y q).2)
  else if y = p then q
  else (⟨q.1.num, q.1.par, q.1.low.set x.toNat (min (nth q.1.low x) (nth q.1.num y))⟩, q.2)
def opn (x p : Int) (q : Sr × Int) : Sr × Int := (⟨q.1.num.set x.toNat (q.2 + 1), q.1.par.set x.toNat p, q.1.low.set x.toNat (q.2 + 1)⟩, q.2 + 1)
/-- The search from a node with a parent. -/
def dfs (es : List Ed) : Nat → Int → Int → Sr × Int → Sr × Int
  | 0, _, _, q => q
  | f + 1, x, p, q => (nbr es x).foldl (step1 (fun y q => dfs es f y x q) x p) (opn x p q)
def sr0 (n : Int) : Sr × Int := (⟨List.replicate n.toNat 0, List.replicate n.toNat 0, List.replicate n.toNat 0⟩, 0)
def srN (n : Int) (es : List Ed) (q : Sr × Int) (x : Int) : Sr × Int := if nth q.1.num x = 0 then dfs es n.toNat x (-1) q else q
/-- The search from all nodes. -/
def srch (n : Int) (es : List Ed) : Sr × Int := (ups n.toNat).foldl (srN n es) (sr0 n)

/-- A node is above another one, or the same. -/
inductive Anc (s : Sr) (a : Int) : Int → Prop
  | refl : Anc s a a
  | up {y : Int} (hy : 0 ≤ y) (h0 : 0 ≤ nth s.par y) (hv : nth s.num y ≠ 0) (h : Anc s a (nth s.par y)) : Anc s a y

structure Wf (n : Int) (es : List Ed) (q : Sr × Int) : Prop where
  l1 : q.1.num.length = n.toNat
  l2 : q.1.par.length = n.toNat
  l3 : q.1.low.length = n.toNat
  tot : q.2 + (q.1.num.count 0 : Nat) = n
  num : ∀ x, 0 ≤ x → x < n → 0 ≤ nth q.1.num x ∧ nth q.1.num x ≤ q.2
  inj : ∀ x y, 0 ≤ x → x < n → 0 ≤ y → y < n → nth q.1.num x = nth q.1.num y → nth q.1.num x ≠ 0 → x = y
  sur : ∀ k, 1 ≤ k → k ≤ q.2 → ∃ x, 0 ≤ x ∧ x < n ∧ nth q.1.num x = k
  par : ∀ x, 0 ≤ x → x < n → nth q.1.num x ≠ 0 → nth q.1.par x = -1 ∨ (0 ≤ nth q.1.par x ∧ nth q.1.par x < n ∧ nth q.1.num (nth q.1.par x) ≠ 0 ∧ nth q.1.num (nth q.1.par x) < nth q.1.num x ∧ Adj es (nth q.1.par x) x)
  pr : ∀ x, 0 ≤ x → x < n → -1 ≤ nth q.1.par x ∧ nth q.1.par x < n
  low : ∀ x, 0 ≤ x → x < n → 0 ≤ nth q.1.low x ∧ nth q.1.low x ≤ n
  cmp : ∀ x y, nth q.1.num x ≠ 0 → nth q.1.num y ≠ 0 → Adj es x y → Anc q.1 x y ∨ Anc q.1 y x

/-- What is found stays. -/
def Ext (n : Int) (s s' : Sr) : Prop := ∀ y, 0 ≤ y → y < n → nth s.num y ≠ 0 → nth s'.num y = nth s.num y ∧ nth s'.par y = nth s.par y
theorem Ext.refl {n : Int} {s : Sr} : Ext n s s := fun _ _ _ _ => ⟨rfl, rfl⟩
theorem Ext.trans {n : Int} {s t u : Sr} (h : Ext n s t) (k : Ext n t u) : Ext n s u := fun y h0 h1 hv => by
  have a := h y h0 h1 hv
  have b := k y h0 h1 (by rw [a.1]; exact hv)
  exact ⟨b.1.trans a.1, b.2.trans a.2⟩
theorem Ext.vis {n : Int} {s t : Sr} (h : Ext n s t) {y : Int} (h0 : 0 ≤ y) (h1 : y < n) (hv : nth s.num y ≠ 0) : nth t.num y ≠ 0 := by rw [(h y h0 h1 hv).1]; exact hv
theorem Anc.ext {n : Int} {es : List Ed} {q : Sr × Int} {t : Sr} (w : Wf n es q) (h : Ext n q.1 t) {a y : Int} (r : Anc q.1 a y) : 0 ≤ y → y < n → nth q.1.num y ≠ 0 → Anc t a y := by
  induction r with
  | refl => intro _ _ _; exact .refl
  | @up y hy h0 hv _ ih =>
    intro _ h1 _
    have e := h y hy h1 hv
    rcases w.par y hy h1 hv with p | ⟨p1, p2, p3, _, _⟩
    · omega
    · exact .up hy (by rw [e.2]; exact h0) (by rw [e.1]; exact hv) (by rw [e.2]; exact ih p1 p2 p3)
/-- Only numbers and parents matter. -/
theorem Anc.same {s t : Sr} (h1 : s.num = t.num) (h2 : s.par = t.par) {a y : Int} (r : Anc s a y) : Anc t a y := by
  induction r with
  | refl => exact .refl
  | up hy h0 hv _ ih => exact .up hy (h2 ▸ h0) (h1 ▸ hv) (h2 ▸ ih)
theorem Anc.low {s : Sr} {l : List Int} {a y : Int} (r : Anc s a y) : Anc ⟨s.num, s.par, l⟩ a y := Anc.same (s := s) (t := ⟨s.num, s.par, l⟩) rfl rfl r
theorem Anc.trans {s : Sr} {a b c : Int} (h : Anc s a b) (k : Anc s b c) : Anc s a c := by
  induction k with
  | refl => exact h
  | up hy h0 hv _ ih => exact .up hy h0 hv ih

/-- A node that is found and has a neighbor that is not lies above p. -/
def Fr (n : Int) (es : List Ed) (s : Sr) (p : Int) : Prop := ∀ y z, nth s.num y ≠ 0 → Adj es y z → nth s.num z = 0 → 0 ≤ p ∧ Anc s y p
theorem Wf.setLow {n : Int} {es : List Ed} {q : Sr × Int} (w : Wf n es q) {x v : Int} (hx : 0 ≤ x ∧ x < n) (hv : 0 ≤ v ∧ v ≤ n) : Wf n es (⟨q.1.num, q.1.par, q.1.low.set x.toNat v⟩, q.2) := by
  refine ⟨w.l1, w.l2, by simp [w.l3], w.tot, w.num, w.inj, w.sur, w.par, w.pr, fun y h0 h1 => ?_, fun a b ha hb h => ?_⟩
  · have := w.l3
    simp only
    rw [nth_set hx.1 h0 (by omega)]
    split
    · exact hv
    · exact w.low y h0 h1
  · exact (w.cmp a b ha hb h).imp Anc.low Anc.low
theorem Fr.setLow {n : Int} {es : List Ed} {s : Sr} {p : Int} {l : List Int} (h : Fr n es s p) : Fr n es ⟨s.num, s.par, l⟩ p := fun y z a b c => (h y z a b c).imp id Anc.low

theorem opn_ok {n : Int} {es : List Ed} (hE : ∀ e ∈ es, EIn n e) {q : Sr × Int} {x p : Int} (w : Wf n es q) (hx : 0 ≤ x ∧ x < n) (hv : nth q.1.num x = 0)
    (hp : p = -1 ∨ (0 ≤ p ∧ p < n ∧ nth q.1.num p ≠ 0 ∧ Adj es p x)) (hf : Fr n es q.1 p) :
    Wf n es (opn x p q) ∧ Ext n q.1 (opn x p q).1 ∧ nth (opn x p q).1.num x ≠ 0 ∧ nth (opn x p q).1.par x = p ∧ Fr n es (opn x p q).1 x := by
  have l1 := w.l1
  have l2 := w.l2
  have l3 := w.l3
  have n1 : ∀ y, 0 ≤ y → nth (opn x p q).1.num y = if y = x then q.2 + 1 else nth q.1.num y := fun y h => nth_set hx.1 h (by omega)
  have n2 : ∀ y, 0 ≤ y → nth (opn x p q).1.par y = if y = x then p else nth q.1.par y := fun y h => nth_set hx.1 h (by omega)
  have n3 : ∀ y, 0 ≤ y → nth (opn x p q).1.low y = if y = x then q.2 + 1 else nth q.1.low y := fun y h => nth_set hx.1 h (by omega)
  have c1 : q.1.num[x.toNat]? = some 0 := by rw [nth_some ⟨hx.1, by omega⟩, hv]
  have c2 : 1 ≤ q.1.num.count 0 := List.count_pos_iff.2 (List.mem_of_getElem? c1)
  have ct : q.2 + 1 + (((q.1.num.set x.toNat (q.2 + 1)).count 0 : Nat) : Int) = n := by
    have hnn := (w.num x hx.1 hx.2).1
    have hnm := (w.num x hx.1 hx.2).2
    have hl : x.toNat < q.1.num.length := by omega
    have e0 : q.1.num[x.toNat] = 0 := by have := List.getElem?_eq_getElem hl; rw [c1] at this; exact (Option.some.inj this).symm
    rw [List.count_set hl, e0]
    have : ¬ (q.2 + 1 = 0) := by omega
    have := w.tot
    simp [*]
    omega
  have q0 : 0 ≤ q.2 := by have := w.num x hx.1 hx.2; omega
  have qn : q.2 + 1 ≤ n := by have := w.tot; omega
  have ext : Ext n q.1 (opn x p q).1 := fun y h0 h1 hy => by
    have : y ≠ x := fun e => by subst e; exact hy hv
    rw [n1 y h0, n2 y h0, if_neg this, if_neg this]; exact ⟨rfl, rfl⟩
  have vx : nth (opn x p q).1.num x ≠ 0 := by rw [n1 x hx.1, if_pos rfl]; omega
  have px : nth (opn x p q).1.par x = p := by rw [n2 x hx.1, if_pos rfl]
  have old : ∀ y, 0 ≤ y → nth (opn x p q).1.num y ≠ 0 → y ≠ x → nth q.1.num y ≠ 0 := fun y h0 h e => by rw [n1 y h0, if_neg e] at h; exact h
  -- a node that is found and joined with x lies above x
  have abv : ∀ y, nth q.1.num y ≠ 0 → Adj es y x → Anc (opn x p q).1 y x := fun y hy ha => by
    have r := hf y x hy ha hv
    refine .up hx.1 (by rw [px]; exact r.1) vx ?_
    rw [px]
    rcases hp with rfl | ⟨_, h2, h3, _⟩
    · omega
    · exact r.2.ext w ext r.1 h2 h3
  refine ⟨⟨by simp [opn, l1], by simp [opn, l2], by simp [opn, l3], ct, fun y h0 h1 => ?_, fun a b a0 a1 b0 b1 e ne => ?_, fun k k1 k2 => ?_, fun y h0 h1 hy => ?_, fun y h0 h1 => ?_, fun y h0 h1 => ?_, fun a b ha hb h => ?_⟩, ext, vx, px, fun y z hy ha hz => ?_⟩
  · rw [n1 y h0]
    have := w.num y h0 h1
    have e : (opn x p q).2 = q.2 + 1 := rfl
    split <;> omega
  · rw [n1 a a0, n1 b b0] at e
    rw [n1 a a0] at ne
    have ha := w.num a a0 a1
    have hb := w.num b b0 b1
    by_cases h1 : a = x <;> by_cases h2 : b = x
    · omega
    · rw [if_pos h1, if_neg h2] at e; omega
    · rw [if_neg h1, if_pos h2] at e; omega
    · rw [if_neg h1, if_neg h2] at e; rw [if_neg h1] at ne; exact w.inj a b a0 a1 b0 b1 e ne
  · have e : (opn x p q).2 = q.2 + 1 := rfl
    by_cases h : k ≤ q.2
    · obtain ⟨y, h0, h1, h2⟩ := w.sur k k1 h
      have : y ≠ x := fun e => by subst e; omega
      exact ⟨y, h0, h1, by rw [n1 y h0, if_neg this]; exact h2⟩
    · exact ⟨x, hx.1, hx.2, by rw [n1 x hx.1, if_pos rfl]; omega⟩
  · rw [n1 y h0, n2 y h0]
    by_cases e : y = x
    · subst e
      rw [if_pos rfl, if_pos rfl]
      rcases hp with hp | ⟨h1, h2, h3, h4⟩
      · exact .inl hp
      · right
        have : p ≠ y := fun e => by subst e; exact h3 hv
        rw [n1 p h1, if_neg this]
        have := w.num p h1 h2
        exact ⟨h1, h2, h3, by omega, h4⟩
    · rw [if_neg e, if_neg e]
      rcases w.par y h0 h1 (old y h0 hy e) with h | ⟨g1, g2, g3, g4, g5⟩
      · exact .inl h
      · right
        have : nth q.1.par y ≠ x := fun e => by rw [e] at g3; exact g3 hv
        rw [n1 _ g1, if_neg this]
        exact ⟨g1, g2, g3, g4, g5⟩
  · rw [n2 y h0]
    have := w.pr y h0 h1
    split
    · rcases hp with rfl | ⟨h1, h2, _, _⟩ <;> omega
    · exact this
  · rw [n3 y h0]
    have := w.low y h0 h1
    split
    · omega
    · exact this
  · have r := nbr_rng hE h
    by_cases h1 : a = x
    · subst h1
      exact .inr (abv b (old b (by omega) hb (fun e => by omega)) h.symm)
    · by_cases h2 : b = x
      · subst h2
        exact .inl (abv a (old a (by omega) ha h1) h)
      · have va := old a (by omega) ha h1
        have vb := old b (by omega) hb h2
        exact (w.cmp a b va vb h).imp (fun k => k.ext w ext (by omega) (by omega) vb) (fun k => k.ext w ext (by omega) (by omega) va)
  · have r := nbr_rng hE ha
    refine ⟨hx.1, ?_⟩
    by_cases e : y = x
    · subst e; exact .refl
    · have vy := old y (by omega) hy e
      have hz0 : nth q.1.num z = 0 := by
        rw [n1 z (by omega)] at hz
        split at hz
        · omega
        · exact hz
      have k := hf y z vy ha hz0
      refine .up hx.1 (by rw [px]; exact k.1) vx ?_
      rw [px]
      rcases hp with rfl | ⟨_, h2, h3, _⟩
      · omega
      · exact k.2.ext w ext k.1 h2 h3

/-- What a search from a node does. -/
def DOK (n : Int) (es : List Ed) (p x : Int) (q q' : Sr × Int) : Prop := Wf n es q' ∧ Ext n q.1 q'.1 ∧ nth q'.1.num x ≠ 0 ∧ Fr n es q'.1 p ∧ q.2 < q'.2

theorem step_ok {n : Int} {es : List Ed} (hE : ∀ e ∈ es, EIn n e) {f : Nat} {x p : Int} (hx : 0 ≤ x ∧ x < n) {rec : Int → Sr × Int → Sr × Int}
    (ih : ∀ y q, Wf n es q → 0 ≤ y ∧ y < n → nth q.1.num y = 0 → n - q.2 ≤ f → nth q.1.num x ≠ 0 → Adj es x y → Fr n es q.1 x → DOK n es x y q (rec y q)) :
    ∀ (ys : List Int) (q : Sr × Int), (∀ y ∈ ys, Adj es x y) → Wf n es q → nth q.1.num x ≠ 0 → n - q.2 ≤ f → Fr n es q.1 x →
      Wf n es (ys.foldl (step1 rec x p) q) ∧ Ext n q.1 (ys.foldl (step1 rec x p) q).1 ∧ Fr n es (ys.foldl (step1 rec x p) q).1 x ∧ q.2 ≤ (ys.foldl (step1 rec x p) q).2 ∧ ∀ y ∈ ys, nth (ys.foldl (step1 rec x p) q).1.num y ≠ 0
  | [], q, _, w, _, _, hf => ⟨w, .refl, hf, Int.le_refl _, by simp⟩
  | y :: ys, q, ha, w, vx, hq, hf => by
    have ay := ha y (by simp)
    have ry := nbr_rng hE ay
    have one : Wf n es (step1 rec x p q y) ∧ Ext n q.1 (step1 rec x p q y).1 ∧ Fr n es (step1 rec x p q y).1 x ∧ q.2 ≤ (step1 rec x p q y).2 ∧ nth (step1 rec x p q y).1.num y ≠ 0 := by
      unfold step1
      by_cases hy : nth q.1.num y = 0
      · rw [if_pos hy]
        obtain ⟨h1, h2, h3, h4, h5⟩ := ih y q w ⟨by omega, by omega⟩ hy hq vx ay hf
        have b1 := h1.low x hx.1 hx.2
        have b2 := h1.low y (by omega) (by omega)
        exact ⟨h1.setLow hx (by omega), h2, h4.setLow, by simp only; omega, h3⟩
      · rw [if_neg hy]
        split
        · exact ⟨w, .refl, hf, Int.le_refl _, hy⟩
        · have b1 := w.low x hx.1 hx.2
          have b2 := w.num y (by omega) (by omega)
          have := w.tot
          exact ⟨w.setLow hx (by omega), .refl, hf.setLow, Int.le_refl _, hy⟩
    obtain ⟨w1, e1, f1, c1, v1⟩ := one
    rw [List.foldl_cons]
    obtain ⟨w2, e2, f2, c2, v2⟩ := step_ok hE hx ih ys (step1 rec x p q y) (fun z hz => ha z (List.mem_cons_of_mem _ hz)) w1 (e1.vis hx.1 hx.2 vx) (by omega) f1
    refine ⟨w2, e1.trans e2, f2, by omega, fun z hz => ?_⟩
    rcases List.mem_cons.1 hz with rfl | hz
    · exact e2.vis (by omega) (by omega) v1
    · exact v2 z hz

theorem dfs_ok {n : Int} {es : List Ed} (hE : ∀ e ∈ es, EIn n e) : ∀ (f : Nat) (x p : Int) (q : Sr × Int), Wf n es q → 0 ≤ x ∧ x < n → nth q.1.num x = 0 → n - q.2 ≤ f →
    (p = -1 ∨ (0 ≤ p ∧ p < n ∧ nth q.1.num p ≠ 0 ∧ Adj es p x)) → Fr n es q.1 p → DOK n es p x q (dfs es f x p q)
  | 0, x, p, q, w, hx, hv, hq, hp, hf => by
    exfalso
    have l1 := w.l1
    have c1 : q.1.num[x.toNat]? = some 0 := by rw [nth_some ⟨hx.1, by omega⟩, hv]
    have c2 : 1 ≤ q.1.num.count 0 := List.count_pos_iff.2 (List.mem_of_getElem? c1)
    have := w.tot
    omega
  | f + 1, x, p, q, w, hx, hv, hq, hp, hf => by
    obtain ⟨w1, e1, v1, p1, f1⟩ := opn_ok hE w hx hv hp hf
    have e2 : (opn x p q).2 = q.2 + 1 := rfl
    obtain ⟨w2, e2, f2, c2, v2⟩ := step_ok hE (f := f) (p := p) hx (rec := fun y q => dfs es f y x q) (fun y q' w' hy hv' hq' vx' ay hf' => dfs_ok hE f y x q' w' hy hv' hq' (.inr ⟨hx.1, hx.2, vx', ay⟩) hf')
      (nbr es x) (opn x p q) (fun y hy => (mem_nbr hE).1 hy) w1 v1 (by omega) f1
    show DOK n es p x q ((nbr es x).foldl (step1 (fun y q => dfs es f y x q) x p) (opn x p q))
    refine ⟨w2, e1.trans e2, e2.vis hx.1 hx.2 v1, fun y z hy ha hz => ?_, by omega⟩
    have k := f2 y z hy ha hz
    have px : nth ((nbr es x).foldl (step1 (fun y q => dfs es f y x q) x p) (opn x p q)).1.par x = p := by rw [(e2 x hx.1 hx.2 v1).2, p1]
    cases k.2 with
    | refl => exact absurd hz (v2 z ((mem_nbr hE).2 ha))
    | up hy' h0 hv' r => rw [px] at h0 r; exact ⟨h0, r⟩

theorem sr0_ok {n : Int} {es : List Ed} (hn : 0 ≤ n) : Wf n es (sr0 n) ∧ Fr n es (sr0 n).1 (-1) := by
  have z : ∀ x, nth (List.replicate n.toNat (0 : Int)) x = 0 := fun x => by
    unfold nth
    rw [List.getElem?_replicate]
    split <;> rfl
  refine ⟨⟨by simp [sr0], by simp [sr0], by simp [sr0], by simp [sr0]; omega, fun x _ _ => ?_, fun x y _ _ _ _ _ h => ?_, fun k k1 k2 => ?_, fun x _ _ h => ?_, fun x _ _ => ?_, fun x _ _ => ?_, fun x y h => ?_⟩, fun y w h => ?_⟩
  · simp only [sr0]; rw [z]; omega
  · simp only [sr0] at h; exact absurd (z _) h
  · simp only [sr0] at k2; omega
  · simp only [sr0] at h; exact absurd (z _) h
  · simp only [sr0]; rw [z]; omega
  · simp only [sr0]; rw [z]; omega
  · simp only [sr0] at h; exact absurd (z _) h
  · simp only [sr0] at h; exact absurd (z _) h

theorem srN_ok {n : Int} {es : List Ed} (hE : ∀ e ∈ es, EIn n e) (hn : 0 ≤ n) : ∀ (xs : List Int) (q : Sr × Int), (∀ x ∈ xs, 0 ≤ x ∧ x < n) → Wf n es q → 0 ≤ q.2 → Fr n es q.1 (-1) →
    Wf n es (xs.foldl (srN n es) q) ∧ Ext n q.1 (xs.foldl (srN n es) q).1 ∧ Fr n es (xs.foldl (srN n es) q).1 (-1) ∧ 0 ≤ (xs.foldl (srN n es) q).2 ∧ ∀ x ∈ xs, nth (xs.foldl (srN n es) q).1.num x ≠ 0
  | [], q, _, w, h0, hf => ⟨w, .refl, hf, h0, by simp⟩
  | x :: xs, q, hx, w, h0, hf => by
    have rx := hx x (by simp)
    have one : Wf n es (srN n es q x) ∧ Ext n q.1 (srN n es q x).1 ∧ Fr n es (srN n es q x).1 (-1) ∧ 0 ≤ (srN n es q x).2 ∧ nth (srN n es q x).1.num x ≠ 0 := by
      unfold srN
      by_cases hv : nth q.1.num x = 0
      · rw [if_pos hv]
        obtain ⟨h1, h2, h3, h4, h5⟩ := dfs_ok hE n.toNat x (-1) q w rx hv (by omega) (.inl rfl) hf
        exact ⟨h1, h2, h4, by omega, h3⟩
      · rw [if_neg hv]; exact ⟨w, .refl, hf, h0, hv⟩
    obtain ⟨w1, e1, f1, c1, v1⟩ := one
    rw [List.foldl_cons]
    obtain ⟨w2, e2, f2, c2, v2⟩ := srN_ok hE hn xs (srN n es q x) (fun z hz => hx z (List.mem_cons_of_mem _ hz)) w1 c1 f1
    refine ⟨w2, e1.trans e2, f2, c2, fun z hz => ?_⟩
    rcases List.mem_cons.1 hz with rfl | hz
    · exact e2.vis rx.1 rx.2 v1
    · exact v2 z hz

/-- What a search finds. -/
structure NF (n : Int) (es : List Ed) (s : Sr) : Prop where
  l1 : s.num.length = n.toNat
  l2 : s.par.length = n.toNat
  num : ∀ x, 0 ≤ x → x < n → 1 ≤ nth s.num x ∧ nth s.num x ≤ n
  inj : ∀ x y, 0 ≤ x → x < n → 0 ≤ y → y < n → nth s.num x = nth s.num y → x = y
  sur : ∀ k, 1 ≤ k → k ≤ n → ∃ x, 0 ≤ x ∧ x < n ∧ nth s.num x = k
  par : ∀ x, 0 ≤ x → x < n → nth s.par x = -1 ∨ (0 ≤ nth s.par x ∧ nth s.par x < n ∧ nth s.num (nth s.par x) < nth s.num x ∧ Adj es (nth s.par x) x)
  cmp : ∀ x y, Adj es x y → Anc s x y ∨ Anc s y x

theorem srch_wf {n : Int} {es : List Ed} (hE : ∀ e ∈ es, EIn n e) (hn : 0 ≤ n) : Wf n es (srch n es) ∧ ∀ x, 0 ≤ x → x < n → nth (srch n es).1.num x ≠ 0 := by
  obtain ⟨w, f⟩ := sr0_ok (n := n) (es := es) hn
  have hm : ∀ x ∈ ups n.toNat, 0 ≤ x ∧ x < n := fun x hx => by
    unfold ups at hx; rw [List.mem_map] at hx; obtain ⟨i, hi, rfl⟩ := hx; rw [List.mem_range] at hi; omega
  obtain ⟨w2, _, _, _, v⟩ := srN_ok hE hn (ups n.toNat) (sr0 n) hm w (Int.le_refl _) f
  refine ⟨w2, fun x h0 h1 => v x ?_⟩
  unfold ups; rw [List.mem_map]; exact ⟨x.toNat, by rw [List.mem_range]; omega, by omega⟩
theorem srch_all {n : Int} {es : List Ed} (hE : ∀ e ∈ es, EIn n e) (hn : 0 ≤ n) : (srch n es).2 = n := by
  obtain ⟨w, v⟩ := srch_wf hE hn
  have : (srch n es).1.num.count 0 = 0 := List.count_eq_zero.2 fun h => by
    obtain ⟨i, hi⟩ := List.mem_iff_getElem?.1 h
    have hl := (List.getElem?_eq_some_iff.1 hi).1
    have := w.l1
    exact v i (by omega) (by omega) (nth_get (by simpa using hi))
  have := w.tot
  omega
theorem srch_nf {n : Int} {es : List Ed} (hE : ∀ e ∈ es, EIn n e) (hn : 0 ≤ n) : NF n es (srch n es).1 := by
  obtain ⟨w, v⟩ := srch_wf hE hn
  refine ⟨w.l1, w.l2, fun x h0 h1 => ?_, fun x y a b c d e => w.inj x y a b c d e (v x a b), fun k k1 k2 => w.sur k k1 (by rw [srch_all hE hn]; exact k2), fun x h0 h1 => ?_, fun x y h => ?_⟩
  · have a := w.num x h0 h1
    have b := v x h0 h1
    have c := w.tot
    omega
  · rcases w.par x h0 h1 (v x h0 h1) with h | ⟨a, b, _, c, d⟩
    · exact .inl h
    · exact .inr ⟨a, b, c, d⟩
  · have r := nbr_rng hE h
    exact w.cmp x y (v x (by omega) (by omega)) (v y (by omega) (by omega)) h
end Go.Pl
