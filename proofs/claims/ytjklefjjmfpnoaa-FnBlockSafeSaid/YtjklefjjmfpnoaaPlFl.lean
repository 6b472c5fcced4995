/-
  Flows of units: a flow that cannot be made greater is as great as a least cut. No program in sight.
-/
import Derived.Test.YtjklefjjmfpnoaaPlG
namespace Go.Pl
set_option linter.unusedVariables false
set_option linter.unusedSimpArgs false

/-- Which units go from where to where. -/
abbrev Un := Int → Int → Bool
/-- How many edges cross. -/
def crs (S : Int → Bool) (es : List Ed) : Nat := es.countP fun e => S e.1 != S e.2
def b2i (b : Bool) : Int := if b then 1 else 0
/-- What an edge carries out of S. -/
def trm (S : Int → Bool) (u : Un) (e : Ed) : Int :=
  match S e.1, S e.2 with
  | true, false => b2i (u e.1 e.2) - b2i (u e.2 e.1)
  | false, true => b2i (u e.2 e.1) - b2i (u e.1 e.2)
  | _, _ => 0
def net (S : Int → Bool) (u : Un) : List Ed → Int
  | [] => 0
  | e :: r => trm S u e + net S u r
/-- One unit more from a to b. -/
def inc (u : Un) (a b : Int) : Un := fun p q =>
  if u b a then (if p = b ∧ q = a then false else u p q) else (if p = a ∧ q = b then true else u p q)

theorem trm_le (S : Int → Bool) (u : Un) (e : Ed) : trm S u e ≤ if S e.1 != S e.2 then 1 else 0 := by
  unfold trm b2i
  cases S e.1 <;> cases S e.2 <;> simp <;> cases u e.1 e.2 <;> cases u e.2 e.1 <;> simp
theorem crs_cons (S : Int → Bool) (e : Ed) (r : List Ed) : (crs S (e :: r) : Int) = (if S e.1 != S e.2 then 1 else 0) + crs S r := by
  unfold crs
  rw [List.countP_cons]
  cases S e.1 != S e.2 <;> simp; omega
theorem net_le (S : Int → Bool) (u : Un) : ∀ es : List Ed, net S u es ≤ crs S es
  | [] => by simp [net, crs]
  | e :: r => by
    have := net_le S u r
    have := trm_le S u e
    have := crs_cons S e r
    simp only [net]; omega
theorem net_full (S : Int → Bool) (u : Un) : ∀ es : List Ed, (∀ e ∈ es, S e.1 = true → S e.2 = false → u e.1 e.2 = true ∧ u e.2 e.1 = false) → (∀ e ∈ es, S e.2 = true → S e.1 = false → u e.2 e.1 = true ∧ u e.1 e.2 = false) → net S u es = crs S es
  | [], _, _ => by simp [net, crs]
  | e :: r, h1, h2 => by
    have ih := net_full S u r (fun d hd => h1 d (by simp [hd])) (fun d hd => h2 d (by simp [hd]))
    have a1 := h1 e (by simp)
    have a2 := h2 e (by simp)
    have q := crs_cons S e r
    have t : trm S u e = if S e.1 != S e.2 then 1 else 0 := by
      unfold trm b2i
      cases p1 : S e.1 <;> cases p2 : S e.2 <;> simp
      · obtain ⟨b1, b2⟩ := a2 p2 p1; simp [b1, b2]
      · obtain ⟨b1, b2⟩ := a1 p1 p2; simp [b1, b2]
    simp only [net]; omega
theorem trm_other {S : Int → Bool} {u : Un} {a b : Int} {e : Ed} (h1 : e ≠ (a, b)) (h2 : e ≠ (b, a)) : trm S (inc u a b) e = trm S u e := by
  have q1 : ¬ (e.1 = a ∧ e.2 = b) := fun h => h1 (Prod.ext h.1 h.2)
  have q2 : ¬ (e.1 = b ∧ e.2 = a) := fun h => h2 (Prod.ext h.1 h.2)
  have q3 : ¬ (e.2 = a ∧ e.1 = b) := fun h => h2 (Prod.ext h.2 h.1)
  have q4 : ¬ (e.2 = b ∧ e.1 = a) := fun h => h1 (Prod.ext h.2 h.1)
  have e1 : inc u a b e.1 e.2 = u e.1 e.2 := by unfold inc; split <;> simp [q1, q2]
  have e2 : inc u a b e.2 e.1 = u e.2 e.1 := by unfold inc; split <;> simp [q3, q4]
  unfold trm
  rw [e1, e2]
theorem trm_own {S : Int → Bool} {u : Un} {a b : Int} {e : Ed} (h : e = (a, b) ∨ e = (b, a)) (hne : a ≠ b) (hu : u a b = false) : trm S (inc u a b) e = trm S u e + (b2i (S a) - b2i (S b)) := by
  have e1 : inc u a b a b = !u b a := by
    unfold inc
    cases q : u b a <;> simp [hu, hne]
  have e2 : inc u a b b a = false := by
    unfold inc
    cases q : u b a <;> simp [q, hne, Ne.symm hne]
  unfold trm b2i
  rcases h with rfl | rfl
  · simp only [e1, e2, hu]
    cases S a <;> cases S b <;> cases u b a <;> simp
  · simp only [e1, e2, hu]
    cases S a <;> cases S b <;> cases u b a <;> simp
theorem net_none {S : Int → Bool} {u : Un} {a b : Int} : ∀ {es : List Ed}, (a, b) ∉ es → (b, a) ∉ es → net S (inc u a b) es = net S u es
  | [], _, _ => rfl
  | e :: r, h1, h2 => by
    simp only [List.mem_cons, not_or] at h1 h2
    simp only [net]
    rw [trm_other (Ne.symm h1.1) (Ne.symm h2.1), net_none h1.2 h2.2]
/-- Every edge is there once, and not the other way round too. -/
def Simp (es : List Ed) : Prop := es.Nodup ∧ ∀ a b, (a, b) ∈ es → (b, a) ∉ es
theorem net_inc {S : Int → Bool} {u : Un} {a b : Int} (hne : a ≠ b) (hu : u a b = false) : ∀ {es : List Ed}, Simp es → Adj es a b → net S (inc u a b) es = net S u es + (b2i (S a) - b2i (S b))
  | [], _, h => by rcases h with h | h <;> cases h
  | e :: r, hs, h => by
    have hn := List.nodup_cons.1 hs.1
    by_cases q : e = (a, b) ∨ e = (b, a)
    · have n1 : (a, b) ∉ r := fun m => by
        rcases q with rfl | rfl
        · exact hn.1 m
        · exact hs.2 b a (by simp) (List.mem_cons_of_mem _ m)
      have n2 : (b, a) ∉ r := fun m => by
        rcases q with rfl | rfl
        · exact hs.2 a b (by simp) (List.mem_cons_of_mem _ m)
        · exact hn.1 m
      simp only [net]
      rw [trm_own q hne hu, net_none n1 n2]; omega
    · simp only [not_or] at q
      have h' : Adj r a b := by
        rcases h with h | h
        · rcases List.mem_cons.1 h with h | h
          · exact absurd h.symm q.1
          · exact .inl h
        · rcases List.mem_cons.1 h with h | h
          · exact absurd h.symm q.2
          · exact .inr h
      have hs' : Simp r := ⟨hn.2, fun x y m m' => hs.2 x y (List.mem_cons_of_mem _ m) (List.mem_cons_of_mem _ m')⟩
      simp only [net]
      rw [trm_other q.1 q.2, net_inc hne hu hs' h']; omega

/-- Steps, one after the other. -/
def incs (u : Un) (ps : List (Int × Int)) : Un := ps.foldl (fun u p => inc u p.1 p.2) u
theorem inc_else {u : Un} {a b p q : Int} (h1 : ¬ (p = a ∧ q = b)) (h2 : ¬ (p = b ∧ q = a)) : inc u a b p q = u p q := by unfold inc; split <;> simp [h1, h2]
theorem inc_nb {u : Un} {a b : Int} (hne : a ≠ b) (hu : u a b = false) (h : ∀ p q, ¬ (u p q = true ∧ u q p = true)) : ∀ p q, ¬ (inc u a b p q = true ∧ inc u a b q p = true) := by
  intro p q ⟨h1, h2⟩
  by_cases c1 : p = a ∧ q = b
  · obtain ⟨rfl, rfl⟩ := c1
    unfold inc at h2
    cases r : u q p <;> simp [r, hne, Ne.symm hne] at h2
  · by_cases c2 : p = b ∧ q = a
    · obtain ⟨rfl, rfl⟩ := c2
      unfold inc at h1
      cases r : u p q <;> simp [r, hne, Ne.symm hne] at h1
    · rw [inc_else c1 c2] at h1
      rw [inc_else (fun h => c2 ⟨h.2, h.1⟩) (fun h => c1 ⟨h.2, h.1⟩)] at h2
      exact h p q ⟨h1, h2⟩
def sm (S : Int → Bool) : List (Int × Int) → Int
  | [] => 0
  | p :: r => b2i (S p.1) - b2i (S p.2) + sm S r
/-- Steps along different edges. -/
def Apt (ps : List (Int × Int)) : Prop := ps.Pairwise fun p q => p ≠ q ∧ p ≠ (q.2, q.1)
theorem incs_net {S : Int → Bool} {es : List Ed} (hs : Simp es) : ∀ {ps : List (Int × Int)} {u : Un}, Apt ps → (∀ p ∈ ps, p.1 ≠ p.2 ∧ Adj es p.1 p.2 ∧ u p.1 p.2 = false) → (∀ p q, ¬ (u p q = true ∧ u q p = true)) →
    net S (incs u ps) es = net S u es + sm S ps ∧ ∀ p q, ¬ (incs u ps p q = true ∧ incs u ps q p = true)
  | [], u, _, _, h => ⟨by simp [incs, sm], h⟩
  | p :: r, u, ha, h1, h2 => by
    have hp := h1 p (by simp)
    have hpw := List.pairwise_cons.1 ha
    have ih := incs_net hs (ps := r) (u := inc u p.1 p.2) (S := S) hpw.2 (fun q hq => by
      have hq' := h1 q (by simp [hq])
      obtain ⟨d1, d2⟩ := hpw.1 q hq
      refine ⟨hq'.1, hq'.2.1, ?_⟩
      rw [inc_else (fun h => d1 (Prod.ext h.1.symm h.2.symm)) (fun h => d2 (Prod.ext h.2.symm h.1.symm))]
      exact hq'.2.2) (inc_nb hp.1 hp.2.2 h2)
    refine ⟨?_, ih.2⟩
    have e : incs u (p :: r) = incs (inc u p.1 p.2) r := rfl
    rw [e, ih.1, net_inc hp.1 hp.2.2 hs hp.2.1]
    simp only [sm]; omega

structure Flow (es : List Ed) (x y : Int) (u : Un) (c : Nat) : Prop where
  nb : ∀ p q, ¬ (u p q = true ∧ u q p = true)
  nt : ∀ S : Int → Bool, S x = true → S y = false → net S u es = c
theorem net_zero (S : Int → Bool) : ∀ es : List Ed, net S (fun _ _ => false) es = 0
  | [] => rfl
  | e :: r => by simp only [net, net_zero S r, trm, b2i]; cases S e.1 <;> cases S e.2 <;> simp
theorem Flow.zero {es : List Ed} {x y : Int} : Flow es x y (fun _ _ => false) 0 := ⟨by simp, fun S _ _ => by rw [net_zero]; rfl⟩
theorem Flow.step {es : List Ed} {x y : Int} {u : Un} {c : Nat} (hs : Simp es) (h : Flow es x y u c) {ps : List (Int × Int)} (ha : Apt ps) (h1 : ∀ p ∈ ps, p.1 ≠ p.2 ∧ Adj es p.1 p.2 ∧ u p.1 p.2 = false)
    (h2 : ∀ S : Int → Bool, S x = true → S y = false → sm S ps = 1) : Flow es x y (incs u ps) (c + 1) :=
  ⟨(incs_net hs (S := fun _ => false) ha h1 h.nb).2, fun S a b => by rw [(incs_net hs ha h1 h.nb).1, h.nt S a b, h2 S a b]; rfl⟩
theorem Flow.le {es : List Ed} {x y : Int} {u : Un} {c : Nat} (h : Flow es x y u c) {S : Int → Bool} (a : S x = true) (b : S y = false) : c ≤ crs S es := by
  have := h.nt S a b
  have := net_le S u es
  omega
/-- The least cut of two nodes. -/
def IsMin (es : List Ed) (x y : Int) (c : Nat) : Prop := (∃ S : Int → Bool, S x = true ∧ S y = false ∧ c = crs S es) ∧ ∀ S : Int → Bool, S x = true → S y = false → c ≤ crs S es
theorem Flow.done {es : List Ed} {x y : Int} {u : Un} {c : Nat} (h : Flow es x y u c) {S : Int → Bool} (a : S x = true) (b : S y = false) (hc : ∀ p q, S p = true → Adj es p q → u p q = false → S q = true) : IsMin es x y c := by
  refine ⟨⟨S, a, b, ?_⟩, fun S' a' b' => h.le a' b'⟩
  have full := net_full S u es (fun e he p1 p2 => by
      have q : u e.1 e.2 = true := by
        cases r : u e.1 e.2 with
        | true => rfl
        | false => rw [hc e.1 e.2 p1 (.inl he) r] at p2; cases p2
      refine ⟨q, ?_⟩
      cases r : u e.2 e.1 with
      | false => rfl
      | true => exact absurd ⟨q, r⟩ (h.nb e.1 e.2)) (fun e he p1 p2 => by
      have q : u e.2 e.1 = true := by
        cases r : u e.2 e.1 with
        | true => rfl
        | false => rw [hc e.2 e.1 p1 (.inr he) r] at p2; cases p2
      refine ⟨q, ?_⟩
      cases r : u e.1 e.2 with
      | false => rfl
      | true => exact absurd ⟨r, q⟩ (h.nb e.1 e.2))
  have := h.nt S a b
  omega
theorem crs_len (S : Int → Bool) (es : List Ed) : crs S es ≤ es.length := List.countP_le_length
theorem Flow.most {es : List Ed} {x y : Int} {u : Un} {c : Nat} (h : Flow es x y u c) (hne : x ≠ y) : c ≤ es.length :=
  Nat.le_trans (h.le (S := fun v => decide (v = x)) (by simp) (by simp [Ne.symm hne])) (crs_len _ _)
theorem Flow.full {es : List Ed} {x y : Int} {u : Un} {c : Nat} (h : Flow es x y u c) (hne : x ≠ y) (hc : es.length ≤ c) : IsMin es x y c := by
  have l := h.le (S := fun v => decide (v = x)) (by simp) (by simp [Ne.symm hne])
  have := crs_len (fun v => decide (v = x)) es
  exact ⟨⟨fun v => decide (v = x), by simp, by simp [Ne.symm hne], by omega⟩, fun S a b => h.le a b⟩
theorem IsMin.uniq {es : List Ed} {x y : Int} {c d : Nat} (h : IsMin es x y c) (k : IsMin es x y d) : c = d := by
  obtain ⟨⟨S, a, b, e⟩, h2⟩ := h
  obtain ⟨⟨T, a', b', e'⟩, k2⟩ := k
  have := h2 T a' b'
  have := k2 S a b
  omega
theorem IsMin.len {es : List Ed} {x y : Int} {c : Nat} (h : IsMin es x y c) : c ≤ es.length := by
  obtain ⟨⟨S, _, _, e⟩, _⟩ := h
  rw [e]; exact crs_len _ _
theorem crs_not (S : Int → Bool) (es : List Ed) : crs (fun v => !S v) es = crs S es := by
  unfold crs
  congr 1
  funext e
  show ((!S e.1) != (!S e.2)) = (S e.1 != S e.2)
  cases S e.1 <;> cases S e.2 <;> rfl
/-- The least of the least cuts: from all pairs, from node 0. -/
theorem weakest {es : List Ed} {n : Int} {m b : Nat} (h1 : ∃ x y, 0 ≤ x ∧ x < n ∧ 0 ≤ y ∧ y < n ∧ x ≠ y ∧ IsMin es x y m) (h2 : ∀ y : Int, 1 ≤ y → y < n → ∃ c, IsMin es 0 y c ∧ m ≤ c)
    (k1 : ∃ y : Int, 1 ≤ y ∧ y < n ∧ IsMin es 0 y b) (k2 : ∀ y : Int, 1 ≤ y → y < n → ∃ c, IsMin es 0 y c ∧ b ≤ c) : m = b := by
  obtain ⟨x, y, x0, x1, y0, y1, hne, ⟨⟨S, a, b', e⟩, hm⟩⟩ := h1
  obtain ⟨z, z0, z1, hz⟩ := k1
  have l1 : m ≤ b := by
    obtain ⟨c, hc, l⟩ := h2 z z0 z1
    rw [hz.uniq hc]; exact l
  have l2 : b ≤ m := by
    cases q : S 0 with
    | true =>
      have hy : 1 ≤ y := by
        have : y ≠ 0 := fun h => by rw [h, q] at b'; cases b'
        omega
      obtain ⟨c, hc, l⟩ := k2 y hy y1
      have := hc.2 S q b'
      omega
    | false =>
      have hx : 1 ≤ x := by
        have : x ≠ 0 := fun h => by rw [h, q] at a; cases a
        omega
      obtain ⟨c, hc, l⟩ := k2 x hx x1
      have := hc.2 (fun v => !S v) (by simp [q]) (by simp [a])
      rw [crs_not] at this
      omega
  omega
end Go.Pl
