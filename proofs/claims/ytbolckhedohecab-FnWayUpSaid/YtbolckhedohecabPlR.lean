/-
  Rooted trees as lists of parents: ways up. No program in sight.
-/
namespace Go.Pl

theorem pigeon : ∀ (n : Nat) (l : List Nat), l.Nodup → (∀ x ∈ l, x < n) → l.length ≤ n
  | 0, l, _, h => by
    cases l with
    | nil => simp
    | cons x l => have := h x (by simp); omega
  | n + 1, l, hnd, h => by
    by_cases hm : n ∈ l
    · have h1 := List.length_erase_of_mem hm
      have h2 := pigeon n (l.erase n) (hnd.erase n) (fun x hx => by
        have hx' := (hnd.mem_erase_iff).1 hx
        have := h x hx'.2
        have := hx'.1
        omega)
      omega
    · have := pigeon n l hnd (fun x hx => by
        have := h x hx
        have : x ≠ n := fun e => hm (e ▸ hx)
        omega)
      omega

/-- The parent. -/
def par (ps : List Int) (a : Int) : Int := ps[a.toNat]?.getD 0
def it (ps : List Int) : Nat → Int → Int
  | 0, a => a
  | m + 1, a => it ps m (par ps a)
theorem it_add (ps : List Int) : ∀ (i j : Nat) (a : Int), it ps (i + j) a = it ps j (it ps i a)
  | 0, j, a => by simp [it]
  | i + 1, j, a => by rw [show i + 1 + j = (i + j) + 1 by omega]; simp only [it]; exact it_add ps i j _

/-- The way up, so many nodes at most. -/
def upL (ps : List Int) : Nat → Int → List Int
  | 0, _ => []
  | f + 1, a => if a < 0 then [] else a :: upL ps f (par ps a)
/-- The way up ends within so many steps. -/
def endsM (ps : List Int) : Nat → Int → Bool
  | 0, a => decide (a < 0)
  | f + 1, a => decide (a < 0) || endsM ps f (par ps a)

/-- Parents are nodes or -1. -/
def Pts (ps : List Int) : Prop := ∀ p ∈ ps, -1 ≤ p ∧ p < ps.length
theorem par_rng {ps : List Int} (h : Pts ps) {a : Int} (ha : 0 ≤ a ∧ a < ps.length) : -1 ≤ par ps a ∧ par ps a < ps.length := by
  have hl : a.toNat < ps.length := by omega
  have : par ps a = ps[a.toNat] := by simp [par, hl]
  rw [this]; exact h _ (List.getElem_mem hl)

theorem ends_iff (ps : List Int) : ∀ (f : Nat) (a : Int), endsM ps f a = true ↔ ∃ m, m ≤ f ∧ it ps m a < 0
  | 0, a => by
    simp only [endsM, decide_eq_true_eq]
    refine ⟨fun h => ⟨0, Nat.le_refl _, h⟩, fun ⟨m, hm, h⟩ => ?_⟩
    obtain rfl : m = 0 := by omega
    simpa [it] using h
  | f + 1, a => by
    simp only [endsM, Bool.or_eq_true, decide_eq_true_eq, ends_iff ps f]
    constructor
    · rintro (h | ⟨m, hm, h⟩)
      · exact ⟨0, by omega, h⟩
      · exact ⟨m + 1, by omega, h⟩
    · rintro ⟨m, hm, h⟩
      cases m with
      | zero => exact .inl h
      | succ m => exact .inr ⟨m, by omega, h⟩

/-- The least number of steps. -/
theorem least {p : Nat → Prop} [DecidablePred p] : ∀ (m : Nat), p m → ∃ k, k ≤ m ∧ p k ∧ ∀ j, j < k → ¬ p j := by
  intro m
  induction m using Nat.strongRecOn with
  | ind m ih =>
    intro hm
    by_cases h : ∃ j, j < m ∧ p j
    · obtain ⟨j, hj, hp⟩ := h
      obtain ⟨k, h1, h2, h3⟩ := ih j hj hp
      exact ⟨k, by omega, h2, h3⟩
    · exact ⟨m, Nat.le_refl _, hm, fun j hj hp => h ⟨j, hj, hp⟩⟩

theorem it_rng {ps : List Int} (h : Pts ps) {a : Int} (ha : a < ps.length) : ∀ (m : Nat), (∀ j, j < m → ¬ it ps j a < 0) → it ps m a < ps.length ∧ (0 < m → -1 ≤ it ps m a)
  | 0, _ => ⟨ha, by omega⟩
  | m + 1, hj => by
    have ih := it_rng h ha m (fun j hj' => hj j (by omega))
    have h0 := hj m (by omega)
    have e : it ps (m + 1) a = par ps (it ps m a) := by rw [it_add]; rfl
    rw [e]
    have := par_rng h (a := it ps m a) ⟨by omega, ih.1⟩
    exact ⟨this.2, fun _ => this.1⟩

/-- A way up that ends, ends within as many steps as there are nodes. -/
theorem ends_n {ps : List Int} (h : Pts ps) {a : Int} (ha : a < ps.length) {f : Nat} (he : endsM ps f a = true) : endsM ps ps.length a = true := by
  obtain ⟨m, _, hm⟩ := (ends_iff ps f a).1 he
  obtain ⟨k, _, hk, hj⟩ := least (p := fun m => it ps m a < 0) m hm
  refine (ends_iff ps _ a).2 ⟨k, ?_, hk⟩
  have hnn : ∀ j, j < k → 0 ≤ it ps j a := fun j hjk => by have := hj j hjk; omega
  have hlt : ∀ j, j < k → it ps j a < ps.length := fun j hjk => (it_rng h ha j (fun i hi => hj i (by omega))).1
  have := pigeon ps.length ((List.range k).map fun j => (it ps j a).toNat) ?_ ?_
  · simpa using this
  · rw [List.nodup_iff_pairwise_ne, List.pairwise_map, List.pairwise_iff_getElem]
    intro i j hi hj' hij e
    simp at hi hj' e
    have e' : it ps i a = it ps j a := by have := hnn i hi; have := hnn j hj'; omega
    have e1 : it ps (i + (k - j)) a = it ps k a := by
      rw [it_add, e', ← it_add]; congr 1; omega
    have := hnn (i + (k - j)) (by omega)
    omega
  · intro x hx
    obtain ⟨j, hj', rfl⟩ := List.mem_map.1 hx
    have hjk : j < k := by simpa using hj'
    have := hlt j hjk; have := hnn j hjk; omega

theorem ends_mono {ps : List Int} {a : Int} {f f' : Nat} (hf : f ≤ f') (he : endsM ps f a = true) : endsM ps f' a = true := by
  obtain ⟨m, h1, h2⟩ := (ends_iff ps f a).1 he
  exact (ends_iff ps f' a).2 ⟨m, by omega, h2⟩

/-- More room does not make a way up longer, once it has ended. -/
theorem upL_more (ps : List Int) : ∀ (f g : Nat) (a : Int), endsM ps f a = true → upL ps (f + g) a = upL ps f a
  | 0, g, a, h => by
    simp [endsM] at h
    cases g with
    | zero => rfl
    | succ g => simp [upL, h]
  | f + 1, g, a, h => by
    rw [show f + 1 + g = (f + g) + 1 by omega]
    simp only [upL]
    by_cases ha : a < 0
    · simp [ha]
    · simp [endsM, ha] at h
      simp only [if_neg ha]
      rw [upL_more ps f g _ h]

theorem upL_length (ps : List Int) : ∀ (f : Nat) (a : Int), (upL ps f a).length ≤ f
  | 0, a => by simp [upL]
  | f + 1, a => by
    simp only [upL]; split
    · simp
    · have := upL_length ps f (par ps a); simp; omega

/-- Valid rooted trees. -/
def cellOK (n : Nat) (p w : Int) : Bool := decide (-1 ≤ p ∧ p < n ∧ 0 ≤ w ∧ w ≤ 999 ∧ (p < 0 → w = 0))
def cellsOK (ps ws : List Int) : Nat → Bool
  | 0 => true
  | i + 1 => cellsOK ps ws i && cellOK ps.length (ps[i]?.getD 0) (ws[i]?.getD 0)
def endsAll (ps : List Int) (f : Nat) : Nat → Bool
  | 0 => true
  | i + 1 => endsAll ps f i && endsM ps f i
def sizeOK (ps ws : List Int) : Bool := decide (1 ≤ ps.length ∧ ps.length ≤ 16 ∧ ws.length = ps.length)
def rootedOK (ps ws : List Int) : Bool := sizeOK ps ws && cellsOK ps ws ps.length && endsAll ps ps.length ps.length

theorem cellsOK_get {ps ws : List Int} : ∀ {n i : Nat}, cellsOK ps ws n = true → i < n → cellOK ps.length (ps[i]?.getD 0) (ws[i]?.getD 0) = true
  | n + 1, i, h, hi => by
    simp only [cellsOK, Bool.and_eq_true] at h
    by_cases e : i = n
    · subst e; exact h.2
    · exact cellsOK_get h.1 (by omega)
theorem cellsOK_no {ps ws : List Int} : ∀ {n i : Nat}, i < n → cellOK ps.length (ps[i]?.getD 0) (ws[i]?.getD 0) = false → cellsOK ps ws n = false
  | n + 1, i, hi, h => by
    cases hc : cellsOK ps ws (n + 1) with
    | false => rfl
    | true => rw [cellsOK_get hc hi] at h; cases h
theorem endsAll_get {ps : List Int} {f : Nat} : ∀ {n i : Nat}, endsAll ps f n = true → i < n → endsM ps f i = true
  | n + 1, i, h, hi => by
    simp only [endsAll, Bool.and_eq_true] at h
    by_cases e : i = n
    · subst e; exact h.2
    · exact endsAll_get h.1 (by omega)
theorem endsAll_no {ps : List Int} {f : Nat} {n i : Nat} (hi : i < n) (h : endsM ps f i = false) : endsAll ps f n = false := by
  cases hc : endsAll ps f n with
  | false => rfl
  | true => rw [endsAll_get hc hi] at h; cases h
theorem pts_of {ps ws : List Int} (h : cellsOK ps ws ps.length = true) : Pts ps := by
  intro p hp
  obtain ⟨i, hi, rfl⟩ := List.mem_iff_getElem.1 hp
  have := cellsOK_get h hi
  simp [cellOK, hi] at this
  omega
theorem endsAll_succ {ps ws : List Int} (h : cellsOK ps ws ps.length = true) : ∀ n, n ≤ ps.length → endsAll ps (ps.length + 1) n = endsAll ps ps.length n
  | 0, _ => rfl
  | n + 1, hn => by
    have hp := pts_of h
    simp only [endsAll, endsAll_succ h n (by omega)]
    congr 1
    cases he : endsM ps ps.length n with
    | true => exact ends_mono (by omega) he
    | false =>
      cases he' : endsM ps (ps.length + 1) n with
      | false => rfl
      | true => rw [ends_n hp (by omega) he'] at he; cases he
end Go.Pl
