/-
  Chains of a graph that was searched in depth: which nodes and edges they meet. No program in sight.
-/
import Derived.Test.YtjklefjjmfpnoaaPlD
namespace Go.Pl
set_option linter.unusedVariables false
set_option linter.unusedSimpArgs false

section
variable {n : Int} {es : List Ed} {s : Sr}
theorem NF.vis (h : NF n es s) {y : Int} (h0 : 0 ≤ y) (h1 : y < n) : nth s.num y ≠ 0 := by have := h.num y h0 h1; omega
theorem NF.up_par (h : NF n es s) {y : Int} (h0 : 0 ≤ y) (h1 : y < n) (hp : 0 ≤ nth s.par y) : nth s.par y < n ∧ nth s.num (nth s.par y) < nth s.num y ∧ Adj es (nth s.par y) y := by
  rcases h.par y h0 h1 with q | ⟨_, a, b, c⟩
  · omega
  · exact ⟨a, b, c⟩
theorem NF.rng (h : NF n es s) {a y : Int} (r : Anc s a y) : 0 ≤ y → y < n → 0 ≤ a ∧ a < n ∧ (a = y ∨ nth s.num a < nth s.num y) := by
  induction r with
  | refl => intro h0 h1; exact ⟨h0, h1, .inl rfl⟩
  | @up y hy h0 hv _ ih =>
    intro _ h1
    have p := h.up_par hy h1 h0
    obtain ⟨a1, a2, a3⟩ := ih h0 p.1
    refine ⟨a1, a2, .inr ?_⟩
    rcases a3 with e | e
    · rw [e]; exact p.2.1
    · omega
theorem NF.le (h : NF n es s) {a y : Int} (r : Anc s a y) (h0 : 0 ≤ y) (h1 : y < n) : nth s.num a ≤ nth s.num y := by
  rcases (h.rng r h0 h1).2.2 with e | e
  · rw [e]; exact Int.le_refl _
  · omega
theorem NF.lt (h : NF n es s) {a y : Int} (r : Anc s a y) (h0 : 0 ≤ y) (h1 : y < n) (ne : a ≠ y) : nth s.num a < nth s.num y := by
  rcases (h.rng r h0 h1).2.2 with e | e
  · exact absurd e ne
  · exact e
theorem Anc.step {a y : Int} (r : Anc s a y) (ne : a ≠ y) : 0 ≤ nth s.par y ∧ Anc s a (nth s.par y) := by
  cases r with
  | refl => exact absurd rfl ne
  | up hy h0 hv r => exact ⟨h0, r⟩
theorem NF.mkA (h : NF n es s) {a y : Int} (h0 : 0 ≤ y) (h1 : y < n) (hp : 0 ≤ nth s.par y) (r : Anc s a (nth s.par y)) : Anc s a y := .up h0 hp (h.vis h0 h1) r
theorem Anc.two {a y : Int} (r : Anc s a y) : ∀ {b}, Anc s b y → Anc s a b ∨ Anc s b a := by
  induction r with
  | refl => intro b k; exact .inr k
  | up hy h0 hv r ih =>
    intro b k
    cases k with
    | refl => exact .inl (.up hy h0 hv r)
    | up _ _ _ k => exact ih k
theorem NF.by_num (h : NF n es s) {a b y : Int} (ra : Anc s a y) (rb : Anc s b y) (h0 : 0 ≤ y) (h1 : y < n) (le : nth s.num a ≤ nth s.num b) : Anc s a b := by
  rcases ra.two rb with k | k
  · exact k
  · have r := h.rng ra h0 h1
    rcases (h.rng k r.1 r.2.1).2.2 with e | e
    · rw [e]; exact .refl
    · omega
theorem NF.anti (h : NF n es s) {a y : Int} (r : Anc s a y) (k : Anc s y a) (h0 : 0 ≤ y) (h1 : y < n) : a = y := by
  have q := h.rng r h0 h1
  rcases q.2.2 with e | e
  · exact e
  · have := h.le k q.1 q.2.1; omega

/-- The way up, without its end. -/
inductive Up (s : Sr) : List Int → Int → Int → Prop
  | nil {v : Int} : Up s [] v v
  | cons {ws : List Int} {v e : Int} (h0 : 0 ≤ nth s.par v) (h : Up s ws (nth s.par v) e) : Up s (v :: ws) v e
theorem NF.up (h : NF n es s) {ws : List Int} {v e : Int} (u : Up s ws v e) : 0 ≤ v → v < n → Anc s e v ∧ (∀ w ∈ ws, 0 ≤ w ∧ w < n ∧ Anc s w v ∧ Anc s e w ∧ e ≠ w ∧ 0 ≤ nth s.par w) ∧ (ws ++ [e]).Nodup ∧ (∀ w ∈ ws, nth s.par w ∈ ws ++ [e]) := by
  induction u with
  | nil => intro _ _; exact ⟨.refl, by simp, by simp, by simp⟩
  | @cons ws v e h0 u ih =>
    intro v0 v1
    have p := h.up_par v0 v1 h0
    obtain ⟨i1, i2, i3, i4⟩ := ih h0 p.1
    have ev : Anc s e v := h.mkA v0 v1 h0 i1
    have e1 := h.le i1 h0 p.1
    refine ⟨ev, fun w hw => ?_, ?_, fun w hw => ?_⟩
    · rcases List.mem_cons.1 hw with rfl | hw
      · exact ⟨v0, v1, .refl, ev, fun e => by subst e; omega, h0⟩
      · obtain ⟨a, b, c, d, e⟩ := i2 w hw
        exact ⟨a, b, h.mkA v0 v1 h0 c, d, e⟩
    · rw [List.cons_append, List.nodup_cons]
      refine ⟨fun hm => ?_, i3⟩
      rcases List.mem_append.1 hm with hm | hm
      · have := h.le (i2 v hm).2.2.1 h0 p.1; omega
      · simp at hm; subst hm; omega
    · rw [List.cons_append]
      rcases List.mem_cons.1 hw with rfl | hw
      · refine List.mem_cons_of_mem _ ?_
        cases u with
        | nil => simp
        | cons => simp
      · exact List.mem_cons_of_mem _ (i4 w hw)
theorem NF.mem_up (h : NF n es s) {ws : List Int} {v e x : Int} (u : Up s ws v e) : 0 ≤ v → v < n → Anc s x v → Anc s e x → e ≠ x → x ∈ ws := by
  induction u with
  | nil => intro h0 h1 r k ne; exact absurd (h.anti r k h0 h1).symm ne
  | @cons ws v e h0 u ih =>
    intro v0 v1 r k ne
    by_cases q : x = v
    · simp [q]
    · exact List.mem_cons_of_mem _ (ih h0 (h.up_par v0 v1 h0).1 (r.step q).2 k ne)

/-! The nodes in the order in which they are found; the edges outside the forest of the search. -/
def ordF (s : Sr) (k : Nat) (o : List Int) : List Int := (ups k).foldl (fun o x => o.set (nth s.num x - 1).toNat x) o
def ordL (n : Int) (s : Sr) : List Int := ordF s n.toNat (List.replicate n.toNat 0)
theorem ordF_next (s : Sr) (k : Nat) (o : List Int) : ordF s (k + 1) o = (ordF s k o).set (nth s.num k - 1).toNat k := by
  unfold ordF; rw [ups_succ, List.foldl_append]; rfl
theorem NF.ordF (h : NF n es s) {o : List Int} (ho : o.length = n.toNat) : ∀ k : Nat, (k : Int) ≤ n → (ordF s k o).length = n.toNat ∧ ∀ x : Int, 0 ≤ x → x < k → nth (Pl.ordF s k o) (nth s.num x - 1) = x
  | 0, _ => ⟨by unfold Pl.ordF; simpa [ups] using ho, fun x h0 h1 => by omega⟩
  | k + 1, hk => by
    obtain ⟨l, ih⟩ := h.ordF ho k (by omega)
    rw [ordF_next]
    have a := h.num k (by omega) (by omega)
    refine ⟨by rw [List.length_set]; exact l, fun x h0 h1 => ?_⟩
    have b := h.num x h0 (by omega)
    rw [nth_set (by omega) (by omega) (by omega)]
    split
    · rename_i e; exact (h.inj x k h0 (by omega) (by omega) (by omega) (by omega)).symm
    · rename_i e
      have : x ≠ k := fun q => by subst q; exact e rfl
      exact ih x h0 (by omega)
theorem NF.ord_len (h : NF n es s) : (ordL n s).length = n.toNat := by
  unfold ordL
  by_cases hn : 0 ≤ n
  · exact (h.ordF (by simp) n.toNat (by omega)).1
  · have : n.toNat = 0 := by omega
    rw [this]; rfl
theorem NF.ord_at (h : NF n es s) {i : Nat} (hi : i < n.toNat) : ∃ x, (ordL n s)[i]? = some x ∧ 0 ≤ x ∧ x < n ∧ nth s.num x = i + 1 := by
  obtain ⟨x, h0, h1, h2⟩ := h.sur (i + 1) (by omega) (by omega)
  have a := (h.ordF (o := List.replicate n.toNat 0) (by simp) n.toNat (by omega)).2 x h0 (by omega)
  refine ⟨x, ?_, h0, h1, h2⟩
  have l := h.ord_len
  have e := nth_some (l := ordL n s) (x := nth s.num x - 1) ⟨by omega, by omega⟩
  rw [show nth (ordL n s) (nth s.num x - 1) = x from a, h2] at e
  rwa [show ((i : Int) + 1 - 1).toNat = i by omega] at e
theorem NF.mem_ord (h : NF n es s) {x : Int} : x ∈ ordL n s ↔ 0 ≤ x ∧ x < n := by
  constructor
  · intro hx
    obtain ⟨i, hi⟩ := List.mem_iff_getElem?.1 hx
    have l := (List.getElem?_eq_some_iff.1 hi).1
    rw [h.ord_len] at l
    obtain ⟨y, e, a, b, _⟩ := h.ord_at l
    rw [hi] at e; cases e; exact ⟨a, b⟩
  · rintro ⟨h0, h1⟩
    have a := h.num x h0 h1
    obtain ⟨y, e, c, d, g⟩ := h.ord_at (i := (nth s.num x - 1).toNat) (by omega)
    have : y = x := h.inj y x c d h0 h1 (by omega)
    subst this
    exact List.mem_of_getElem? e
theorem NF.ord_sorted (h : NF n es s) : (ordL n s).Pairwise fun a b => nth s.num a < nth s.num b := by
  rw [List.pairwise_iff_getElem]
  intro i j hi hj hij
  rw [h.ord_len] at hi hj
  obtain ⟨x, e, _, _, a⟩ := h.ord_at hi
  obtain ⟨y, e', _, _, b⟩ := h.ord_at hj
  rw [(List.getElem?_eq_some_iff.1 e).2, (List.getElem?_eq_some_iff.1 e').2]
  omega

def bks (es : List Ed) (s : Sr) (u : Int) : List Int := (nbr es u).filter fun v => decide (nth s.num u < nth s.num v) && !decide (nth s.par v = u)
def backL (n : Int) (es : List Ed) (s : Sr) : List Ed := (ordL n s).flatMap fun u => (bks es s u).map fun v => (u, v)
theorem NF.mem_back (h : NF n es s) (hE : ∀ e ∈ es, EIn n e) {b : Ed} : b ∈ backL n es s ↔ Adj es b.1 b.2 ∧ nth s.num b.1 < nth s.num b.2 ∧ nth s.par b.2 ≠ b.1 := by
  unfold backL bks
  simp only [List.mem_flatMap, List.mem_map, List.mem_filter, Bool.and_eq_true, decide_eq_true_eq, Bool.not_eq_true', decide_eq_false_iff_not]
  constructor
  · rintro ⟨u, hu, v, ⟨hv, h1, h2⟩, rfl⟩
    exact ⟨(mem_nbr hE).1 hv, h1, h2⟩
  · rintro ⟨a, b1, c⟩
    have r := nbr_rng hE a
    exact ⟨b.1, h.mem_ord.2 ⟨by omega, by omega⟩, b.2, ⟨(mem_nbr hE).2 a, b1, c⟩, rfl⟩
theorem NF.back_ok (h : NF n es s) (hE : ∀ e ∈ es, EIn n e) {b : Ed} (hb : b ∈ backL n es s) : (0 ≤ b.1 ∧ b.1 < n) ∧ (0 ≤ b.2 ∧ b.2 < n) ∧ Anc s b.1 b.2 ∧ b.1 ≠ b.2 := by
  obtain ⟨a, b1, c⟩ := (h.mem_back hE).1 hb
  have r := nbr_rng hE a
  refine ⟨⟨by omega, by omega⟩, ⟨by omega, by omega⟩, ?_, by omega⟩
  rcases h.cmp _ _ a with k | k
  · exact k
  · have := h.le k (by omega) (by omega); omega
theorem NF.back_sorted (h : NF n es s) : (backL n es s).Pairwise fun a b => nth s.num a.1 ≤ nth s.num b.1 := by
  unfold backL
  rw [List.pairwise_flatMap]
  refine ⟨fun u _ => ?_, h.ord_sorted.imp fun {a b} hab x hx y hy => ?_⟩
  · rw [List.pairwise_map]
    exact List.pairwise_of_forall (fun _ _ => Int.le_refl _)
  · obtain ⟨_, _, rfl⟩ := List.mem_map.1 hx
    obtain ⟨_, _, rfl⟩ := List.mem_map.1 hy
    simp only; omega
theorem NF.back_nodup (h : NF n es s) (hE : ∀ e ∈ es, EIn n e) (hs : es.Pairwise eLt) : (backL n es s).Nodup := by
  unfold backL
  rw [List.nodup_iff_pairwise_ne, List.pairwise_flatMap]
  refine ⟨fun u _ => ?_, h.ord_sorted.imp fun {a b} hab x hx y hy e => ?_⟩
  · rw [List.pairwise_map]
    refine ((nbr_sorted hE hs u).sublist List.filter_sublist).imp fun {a b} hab e => ?_
    have := congrArg Prod.snd e
    simp only at this; omega
  · obtain ⟨_, _, rfl⟩ := List.mem_map.1 hx
    obtain ⟨_, _, rfl⟩ := List.mem_map.1 hy
    have := congrArg Prod.fst e
    simp only at this
    subst this; omega

/-! Marks, and the walk up to a marked node. -/
def isM (m : List Bool) (x : Int) : Bool := (m[x.toNat]?).getD false
theorem isM_set {m : List Bool} {i x : Int} (hi : 0 ≤ i) (hx : 0 ≤ x) (hl : i < m.length) : isM (m.set i.toNat true) x = (decide (x = i) || isM m x) := by
  unfold isM
  by_cases e : x = i
  · subst e
    rw [List.getElem?_set_self (by omega)]; simp
  · rw [List.getElem?_set_ne (by omega)]; simp [e]
theorem isM_some {m : List Bool} {x : Int} (h0 : 0 ≤ x) (h1 : x < m.length) : m[x.toNat]? = some (isM m x) := by
  have : x.toNat < m.length := by omega
  simp [isM, this]
def wlk (s : Sr) : Nat → List Bool → Int → List Int → List Bool × List Int
  | 0, m, _, c => (m, c)
  | f + 1, m, a, c => if isM m a then (m, c) else wlk s f (m.set a.toNat true) (nth s.par a) (c ++ [nth s.par a])
def chSt (n : Int) (s : Sr) (q : List Bool × List (List Int)) (b : Ed) : List Bool × List (List Int) :=
  ((wlk s (n.toNat + 1) (q.1.set b.1.toNat true) b.2 [b.1, b.2]).1, q.2 ++ [(wlk s (n.toNat + 1) (q.1.set b.1.toNat true) b.2 [b.1, b.2]).2])
def ch0 (n : Int) : List Bool × List (List Int) := (List.replicate n.toNat false, [])
def chainsL (n : Int) (es : List Ed) (s : Sr) : List (List Int) := ((backL n es s).foldl (chSt n s) (ch0 n)).2

theorem NF.wlk (h : NF n es s) : ∀ (f : Nat) (m : List Bool) (a u : Int) (c : List Int), m.length = n.toNat → 0 ≤ a → a < n → Anc s u a → isM m u = true → nth s.num a - nth s.num u < f →
    ∃ ws e, (wlk s f m a (c ++ [a])).2 = c ++ (ws ++ [e]) ∧ Up s ws a e ∧ (∀ w ∈ ws, isM m w = false ∧ Anc s u w ∧ w ≠ u) ∧ isM m e = true ∧ Anc s u e ∧
      (Pl.wlk s f m a (c ++ [a])).1.length = n.toNat ∧ ∀ y, 0 ≤ y → y < n → isM (Pl.wlk s f m a (c ++ [a])).1 y = (isM m y || decide (y ∈ ws))
  | 0, m, a, u, c, hl, a0, a1, r, hu, hf => by
    have := h.le r a0 a1; omega
  | f + 1, m, a, u, c, hl, a0, a1, r, hu, hf => by
    rw [Pl.wlk]
    cases q : isM m a with
    | true =>
      rw [if_pos rfl]
      exact ⟨[], a, by simp, .nil, by simp, q, r, hl, by simp⟩
    | false =>
      rw [if_neg (by simp)]
      have ne : u ≠ a := fun e => by subst e; rw [hu] at q; cases q
      obtain ⟨p0, r'⟩ := r.step ne
      have p := h.up_par a0 a1 p0
      obtain ⟨ws, e, h1, h2, h3, h4, h5, h6, h7⟩ := h.wlk f (m.set a.toNat true) (nth s.par a) u (c ++ [a]) (by simp [hl]) p0 p.1 r'
        (by rw [isM_set a0 (h.rng r a0 a1).1 (by omega)]; simp [hu]) (by omega)
      have ee := (h.up h2 p0 p.1)
      have re := h.rng ee.1 p0 p.1
      have rr := h.le ee.1 p0 p.1
      have nea : e ≠ a := fun q => by subst q; omega
      have ms : ∀ y, 0 ≤ y → isM (m.set a.toNat true) y = (decide (y = a) || isM m y) := fun y hy => isM_set a0 hy (by omega)
      refine ⟨a :: ws, e, by rw [h1]; simp, .cons p0 h2, fun w hw => ?_, ?_, h5, h6, fun y y0 y1 => ?_⟩
      · rcases List.mem_cons.1 hw with rfl | hw
        · exact ⟨q, r, fun e => ne e.symm⟩
        · obtain ⟨b1, b2, b3⟩ := h3 w hw
          rw [ms w (ee.2.1 w hw).1] at b1
          exact ⟨by revert b1; cases isM m w <;> simp, b2, b3⟩
      · rw [ms e re.1] at h4
        simpa [nea] using h4
      · rw [h7 y y0 y1, ms y y0]
        by_cases e1 : y = a
        · subst e1; simp
        · simp [e1]

/-- A node lies on the cycle of an edge; a node is marked. -/
def Cov (s : Sr) (P : List Ed) (x : Int) : Prop := ∃ b ∈ P, Anc s b.1 x ∧ b.1 ≠ x ∧ Anc s x b.2
def Mk (s : Sr) (P : List Ed) (x : Int) : Prop := Cov s P x ∨ ∃ b ∈ P, b.1 = x
structure CH (s : Sr) (Q : List Ed) (b : Ed) (ws : List Int) (e : Int) : Prop where
  up : Up s ws b.2 e
  bel : ∀ w ∈ ws, Anc s b.1 w ∧ w ≠ b.1
  fre : ∀ w ∈ ws, ¬ Mk s Q w
  top : Anc s b.1 e
  mkd : Mk s Q e ∨ e = b.1

theorem Mk_app {P : List Ed} {b : Ed} {x : Int} : Mk s (P ++ [b]) x ↔ Mk s P x ∨ b.1 = x ∨ (Anc s b.1 x ∧ b.1 ≠ x ∧ Anc s x b.2) := by
  unfold Mk Cov
  simp only [List.mem_append, List.mem_singleton]
  constructor
  · rintro (⟨c, hc | rfl, k⟩ | ⟨c, hc | rfl, k⟩)
    · exact .inl (.inl ⟨c, hc, k⟩)
    · exact .inr (.inr k)
    · exact .inl (.inr ⟨c, hc, k⟩)
    · exact .inr (.inl k)
  · rintro ((⟨c, hc, k⟩ | ⟨c, hc, k⟩) | k | k)
    · exact .inl ⟨c, .inl hc, k⟩
    · exact .inr ⟨c, .inl hc, k⟩
    · exact .inr ⟨b, .inr rfl, k⟩
    · exact .inl ⟨b, .inr rfl, k⟩
theorem NF.mk_next (h : NF n es s) {Q : List Ed} {b : Ed} (hQ : ∀ c ∈ Q, nth s.num c.1 ≤ nth s.num b.1) (b0 : 0 ≤ b.2) (b1 : b.2 < n) {ws : List Int} {e : Int} (ch : CH s Q b ws e) {x : Int} :
    Mk s (Q ++ [b]) x ↔ Mk s Q x ∨ x = b.1 ∨ x ∈ ws := by
  have u := h.up ch.up b0 b1
  rw [Mk_app]
  constructor
  · rintro (k | k | ⟨k1, k2, k3⟩)
    · exact .inl k
    · exact .inr (.inl k.symm)
    · have rx := h.rng k3 b0 b1
      have lx := h.lt k1 rx.1 rx.2.1 k2
      by_cases q : e = x
      · subst q
        rcases ch.mkd with m | m
        · exact .inl m
        · exact absurd m.symm k2
      · rcases u.1.two k3 with g | g
        · exact .inr (.inr (h.mem_up ch.up b0 b1 k3 g q))
        · have re := h.rng u.1 b0 b1
          have le := h.lt g re.1 re.2.1 (fun e => q e.symm)
          left
          rcases ch.mkd with (⟨c, hc, c1, c2, c3⟩ | ⟨c, hc, c1⟩) | m
          · have := hQ c hc
            exact .inl ⟨c, hc, h.by_num c1 g re.1 re.2.1 (by omega), fun e => by subst e; omega, g.trans c3⟩
          · have := hQ c hc; subst c1; omega
          · subst m; omega
  · rintro (k | k | k)
    · exact .inl k
    · exact .inr (.inl k.symm)
    · have a := ch.bel x k
      exact .inr (.inr ⟨a.1, fun e => a.2 e.symm, (u.2.1 x k).2.2.1⟩)

theorem NF.stage (h : NF n es s) {B : List Ed} (hB : ∀ b ∈ B, (0 ≤ b.1 ∧ b.1 < n) ∧ (0 ≤ b.2 ∧ b.2 < n) ∧ Anc s b.1 b.2 ∧ b.1 ≠ b.2) (hs : B.Pairwise fun a b => nth s.num a.1 ≤ nth s.num b.1) : ∀ i : Nat, i ≤ B.length →
    ((B.take i).foldl (chSt n s) (ch0 n)).1.length = n.toNat ∧ (∀ y, 0 ≤ y → y < n → (isM ((B.take i).foldl (chSt n s) (ch0 n)).1 y = true ↔ Mk s (B.take i) y)) ∧
    ((B.take i).foldl (chSt n s) (ch0 n)).2.length = i ∧
    ∀ (j : Nat) (b : Ed), (B.take i)[j]? = some b → ∃ ws e, ((B.take i).foldl (chSt n s) (ch0 n)).2[j]? = some (b.1 :: (ws ++ [e])) ∧ CH s (B.take j) b ws e
  | 0, _ => by
    refine ⟨by simp [ch0], fun y h0 h1 => ?_, by simp [ch0], by simp⟩
    simp only [List.take_zero, List.foldl_nil, ch0, isM, Mk, Cov, List.getElem?_replicate]
    constructor
    · intro q; split at q <;> simp at q
    · rintro (⟨b, hb, _⟩ | ⟨b, hb, _⟩) <;> simp at hb
  | i + 1, hi => by
    obtain ⟨s1, s2, s3, s4⟩ := h.stage hB hs i (by omega)
    have hb : B[i]? = some B[i] := List.getElem?_eq_getElem (by omega)
    generalize B[i] = b at hb
    obtain ⟨bx, by', ba, bn⟩ := hB b (List.mem_of_getElem? hb)
    have hQ : ∀ c ∈ B.take i, nth s.num c.1 ≤ nth s.num b.1 := fun c hc => by
      obtain ⟨j, hj⟩ := List.mem_iff_getElem?.1 hc
      have lj := (List.getElem?_eq_some_iff.1 hj).1
      rw [List.length_take] at lj
      rw [List.getElem?_take_of_lt (by omega)] at hj
      obtain ⟨_, e1⟩ := List.getElem?_eq_some_iff.1 hj
      obtain ⟨_, e2⟩ := List.getElem?_eq_some_iff.1 hb
      have := List.pairwise_iff_getElem.1 hs j i (by omega) (by omega) (by omega)
      rw [e1, e2] at this; exact this
    rw [foldl_snoc _ hb]
    generalize (B.take i).foldl (chSt n s) (ch0 n) = q at s1 s2 s3 s4
    have ta : B.take (i + 1) = B.take i ++ [b] := take_snoc hb
    have ms : ∀ y, 0 ≤ y → isM (q.1.set b.1.toNat true) y = (decide (y = b.1) || isM q.1 y) := fun y hy => isM_set bx.1 hy (by omega)
    have n1 := h.num b.1 bx.1 bx.2
    have n2 := h.num b.2 by'.1 by'.2
    obtain ⟨ws, e, w1, w2, w3, w4, w5, w6, w7⟩ := h.wlk (n.toNat + 1) (q.1.set b.1.toNat true) b.2 b.1 [b.1] (by simp [s1]) by'.1 by'.2 ba (by rw [ms _ bx.1]; simp) (by omega)
    have u := h.up w2 by'.1 by'.2
    have re := h.rng u.1 by'.1 by'.2
    have ch : CH s (B.take i) b ws e := ⟨w2, fun w hw => (w3 w hw).2, fun w hw k => by
        have rw' := u.2.1 w hw
        have := (w3 w hw).1
        rw [ms w rw'.1, (s2 w rw'.1 rw'.2.1).2 k] at this
        simp at this, w5, by
        rw [ms e re.1] at w4
        by_cases q1 : e = b.1
        · exact .inr q1
        · left
          refine (s2 e re.1 re.2.1).1 ?_
          simpa [q1] using w4⟩
    have w1' : (Pl.wlk s (n.toNat + 1) (q.1.set b.1.toNat true) b.2 [b.1, b.2]).2 = b.1 :: (ws ++ [e]) := w1
    refine ⟨w6, fun y y0 y1 => ?_, by simp [chSt, s3], fun j c hj => ?_⟩
    · have := w7 y y0 y1
      show isM (Pl.wlk s (n.toNat + 1) (q.1.set b.1.toNat true) b.2 ([b.1] ++ [b.2])).1 y = true ↔ _
      rw [this, ms y y0, ta, h.mk_next hQ by'.1 by'.2 ch, ← s2 y y0 y1]
      simp only [Bool.or_eq_true, decide_eq_true_eq]
      constructor
      · rintro ((k | k) | k)
        · exact .inr (.inl k)
        · exact .inl k
        · exact .inr (.inr k)
      · rintro (k | k | k)
        · exact .inl (.inr k)
        · exact .inl (.inl k)
        · exact .inr k
    · have lj := (List.getElem?_eq_some_iff.1 hj).1
      rw [List.length_take] at lj
      by_cases q1 : j = i
      · subst q1
        rw [List.getElem?_take_of_lt (by omega), hb] at hj
        cases hj
        refine ⟨ws, e, ?_, ch⟩
        show (q.2 ++ [_])[j]? = _
        rw [List.getElem?_append_right (by omega), s3, Nat.sub_self]
        exact congrArg some w1'
      · have hj' : (B.take i)[j]? = some c := by
          rw [List.getElem?_take_of_lt (by omega)] at hj ⊢; exact hj
        obtain ⟨ws', e', a1, a2⟩ := s4 j c hj'
        refine ⟨ws', e', ?_, a2⟩
        show (q.2 ++ [_])[j]? = _
        rw [List.getElem?_append_left (by omega)]; exact a1
end
end Go.Pl
