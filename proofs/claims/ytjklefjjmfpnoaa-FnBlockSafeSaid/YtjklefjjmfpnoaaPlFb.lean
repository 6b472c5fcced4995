/-
  Searching by levels, and the way back. No program in sight.
-/
import Derived.Test.YtjklefjjmfpnoaaPlFl
import Derived.Test.YtjklefjjmfpnoaaPlD
namespace Go.Pl
set_option linter.unusedVariables false
set_option linter.unusedSimpArgs false

theorem sub_len : ∀ {l m : List Nat}, l.Nodup → (∀ x ∈ l, x ∈ m) → l.length ≤ m.length
  | [], m, _, _ => Nat.zero_le _
  | x :: l, m, hn, hs => by
    have hx := hs x (by simp)
    obtain ⟨h1, h2⟩ := List.nodup_cons.1 hn
    have := sub_len (m := m.erase x) h2 (fun y hy => (List.mem_erase_of_ne (fun e : y = x => h1 (e ▸ hy))).2 (hs y (by simp [hy])))
    rw [List.length_erase_of_mem hx] at this
    have := List.length_pos_of_mem hx
    simp; omega
theorem nodup_mem {l : List Int} {n : Int} (h : l.Nodup) (hr : ∀ v ∈ l, 0 ≤ v ∧ v < n) : l.Pairwise fun a b => a ≠ b ∧ 0 ≤ a ∧ 0 ≤ b := by
  refine List.Pairwise.imp_of_mem (fun {a b} ha hb hab => ⟨hab, (hr a ha).1, (hr b hb).1⟩) h
/-- A search by levels: what is listed, from where, how much of it is worked off. -/
structure BF (n : Int) (es : List Ed) (u : Un) (x : Int) (od fr : List Int) (i : Nat) : Prop where
  len : fr.length = n.toNat
  nd : od.Nodup
  rng : ∀ v ∈ od, 0 ≤ v ∧ v < n
  mem : ∀ v, 0 ≤ v → v < n → (0 ≤ nth fr v ↔ v ∈ od)
  x0 : od[0]? = some x
  xx : nth fr x = x
  par : ∀ (k : Nat) (v : Int), od[k]? = some v → 0 < k → ∃ j, j < k ∧ od[j]? = some (nth fr v) ∧ Adj es (nth fr v) v ∧ u (nth fr v) v = false
  il : i ≤ od.length
  cl : ∀ (k : Nat) (v q : Int), k < i → od[k]? = some v → Adj es v q → u v q = false → 0 ≤ nth fr q

theorem nth_rep {n : Nat} {c x : Int} (h0 : 0 ≤ x) (h1 : x < n) : nth (List.replicate n c) x = c := by
  have : x.toNat < n := by omega
  simp [nth, this]
theorem BF.init {n : Int} {es : List Ed} {u : Un} {x : Int} (h0 : 0 ≤ x) (h1 : x < n) : BF n es u x [x] ((List.replicate n.toNat (-1)).set x.toNat x) 0 := by
  have hl : x < ((List.replicate n.toNat (-1 : Int)).length : Int) := by simp; omega
  refine ⟨by simp, by simp, by simp [h0, h1], fun v v0 v1 => ?_, rfl, by rw [nth_set h0 h0 hl, if_pos rfl], fun k v hk hp => ?_, by simp, fun k v q hk => by omega⟩
  · rw [nth_set h0 v0 hl]
    by_cases e : v = x
    · simp [e, h0]
    · rw [if_neg e, nth_rep v0 (by omega)]; simp [e]
  · cases k with
    | zero => omega
    | succ k => simp at hk
theorem BF.x_in {n : Int} {es : List Ed} {u : Un} {x : Int} {od fr : List Int} {i : Nat} (h : BF n es u x od fr i) : x ∈ od := List.mem_of_getElem? h.x0
theorem BF.add {n : Int} {es : List Ed} {u : Un} {x : Int} {od fr : List Int} {i : Nat} (h : BF n es u x od fr i) {v q : Int} (hv : od[i]? = some v) (q0 : 0 ≤ q) (q1 : q < n) (ha : Adj es v q) (hu : u v q = false) (hf : nth fr q < 0) :
    BF n es u x (od ++ [q]) (fr.set q.toNat v) i := by
  have hnq : q ∉ od := fun m => by have := (h.mem q q0 q1).2 m; omega
  have hl : q < (fr.length : Int) := by rw [h.len]; omega
  have hvr := h.rng v (List.mem_of_getElem? hv)
  have old : ∀ p, 0 ≤ p → p ≠ q → nth (fr.set q.toNat v) p = nth fr p := fun p p0 hp => by rw [nth_set q0 p0 hl, if_neg hp]
  have inl : ∀ (k : Nat) (p : Int), od[k]? = some p → (od ++ [q])[k]? = some p := fun k p hp => by
    rw [List.getElem?_append_left (List.getElem?_eq_some_iff.1 hp).1]; exact hp
  refine ⟨by simp [h.len], List.nodup_append.2 ⟨h.nd, by simp, fun a hma b hmb e => ?_⟩, fun p hp => ?_, fun p p0 p1 => ?_, inl 0 x h.x0, ?_, fun k p hk hk0 => ?_, by rw [List.length_append]; have := h.il; omega, fun k p r hk hp hadj hur => ?_⟩
  · simp at hmb; rw [e, hmb] at hma; exact hnq hma
  · rcases List.mem_append.1 hp with hp | hp
    · exact h.rng p hp
    · simp at hp; subst hp; exact ⟨q0, q1⟩
  · by_cases e : p = q
    · subst e; rw [nth_set q0 p0 hl, if_pos rfl]; simp [hvr.1]
    · rw [old p p0 e, h.mem p p0 p1]; simp [e]
  · have hx : x ≠ q := fun e => hnq (e ▸ h.x_in)
    rw [old x (h.rng x h.x_in).1 hx]; exact h.xx
  · by_cases hk' : k < od.length
    · rw [List.getElem?_append_left hk'] at hk
      obtain ⟨j, j1, j2, j3, j4⟩ := h.par k p hk hk0
      have hp : p ≠ q := fun e => hnq (e ▸ List.mem_of_getElem? hk)
      rw [old p (h.rng p (List.mem_of_getElem? hk)).1 hp]
      exact ⟨j, j1, inl j _ j2, j3, j4⟩
    · rw [List.getElem?_append_right (by omega)] at hk
      have e0 : k - od.length = 0 := by
        cases e : k - od.length with
        | zero => rfl
        | succ m => rw [e] at hk; simp at hk
      rw [e0] at hk; simp at hk; subst hk
      rw [nth_set q0 q0 hl, if_pos rfl]
      exact ⟨i, by have := (List.getElem?_eq_some_iff.1 hv).1; omega, inl i v hv, ha, hu⟩
  · have hlt : k < od.length := by have := h.il; omega
    rw [List.getElem?_append_left hlt] at hp
    have := h.cl k p r hk hp hadj hur
    by_cases e : r = q
    · subst e; omega
    · by_cases r0 : 0 ≤ r
      · rw [old r r0 e]; exact this
      · unfold nth at this ⊢
        have et : r.toNat = 0 := by omega
        rw [et] at this ⊢
        rw [List.getElem?_set]
        split
        · rename_i eq
          split
          · simpa using hvr.1
          · simp
        · exact this
theorem BF.next {n : Int} {es : List Ed} {u : Un} {x : Int} {od fr : List Int} {i : Nat} (h : BF n es u x od fr i) {v : Int} (hv : od[i]? = some v) (hall : ∀ q, Adj es v q → u v q = false → 0 ≤ nth fr q) : BF n es u x od fr (i + 1) :=
  ⟨h.len, h.nd, h.rng, h.mem, h.x0, h.xx, h.par, by have := (List.getElem?_eq_some_iff.1 hv).1; omega, fun k p q hk hp ha hu => by
    by_cases e : k = i
    · subst e; rw [hv] at hp; cases hp; exact hall q ha hu
    · exact h.cl k p q (by omega) hp ha hu⟩
theorem BF.od_len {n : Int} {es : List Ed} {u : Un} {x : Int} {od fr : List Int} {i : Nat} (h : BF n es u x od fr i) : od.length ≤ n.toNat := by
  have := sub_len (l := od.map Int.toNat) (m := List.range n.toNat) ?_ ?_
  · simpa using this
  · refine List.Pairwise.map _ (fun a b hab => ?_) (nodup_mem h.nd h.rng)
    obtain ⟨h1, h2, h3⟩ := hab
    omega
  · intro v hv
    obtain ⟨w, hw, rfl⟩ := List.mem_map.1 hv
    have := h.rng w hw
    simp; omega
/-- What is not reached in the end is cut off. -/
theorem BF.closed {n : Int} {es : List Ed} {u : Un} {x : Int} {od fr : List Int} (hE : ∀ e ∈ es, EIn n e) (h : BF n es u x od fr od.length) : ∀ p q, decide (0 ≤ p ∧ p < n ∧ 0 ≤ nth fr p) = true → Adj es p q → u p q = false → decide (0 ≤ q ∧ q < n ∧ 0 ≤ nth fr q) = true := by
  intro p q hp ha hu
  simp only [decide_eq_true_eq] at hp ⊢
  obtain ⟨k, hk⟩ := List.getElem?_of_mem ((h.mem p hp.1 hp.2.1).1 hp.2.2)
  have := h.cl k p q (List.getElem?_eq_some_iff.1 hk).1 hk ha hu
  refine ⟨?_, ?_, this⟩ <;> rcases ha with ha | ha <;> have := hE _ ha <;> unfold EIn at this <;> simp only at this <;> omega
/-- How early it is listed. -/
def rk (od : List Int) (v : Int) : Nat := od.idxOf v
theorem BF.up {n : Int} {es : List Ed} {u : Un} {x : Int} {od fr : List Int} {i : Nat} (h : BF n es u x od fr i) {v : Int} (hv : v ∈ od) (hx : v ≠ x) : nth fr v ∈ od ∧ rk od (nth fr v) < rk od v ∧ Adj es (nth fr v) v ∧ u (nth fr v) v = false := by
  obtain ⟨k, hk⟩ := List.getElem?_of_mem hv
  have hk0 : 0 < k := by
    cases k with
    | zero => rw [h.x0] at hk; cases hk; exact absurd rfl hx
    | succ k => omega
  obtain ⟨j, j1, j2, j3, j4⟩ := h.par k v hk hk0
  have pos : ∀ (j : Nat) (w : Int), od[j]? = some w → rk od w = j := fun j w hw => by
    have hl := (List.getElem?_eq_some_iff.1 hw).1
    have := h.nd.idxOf_getElem j hl
    rw [(List.getElem?_eq_some_iff.1 hw).2] at this
    exact this
  exact ⟨List.mem_of_getElem? j2, by rw [pos j _ j2, pos k v hk]; exact j1, j3, j4⟩
theorem rk_lt {od : List Int} {v : Int} (h : v ∈ od) : rk od v < od.length := List.idxOf_lt_length_iff.2 h

/-- A way down from node to node. -/
def Pth (fr od : List Int) (x : Int) : List Int → Prop
  | [] => True
  | [a] => a ∈ od
  | a :: b :: r => a = nth fr b ∧ b ≠ x ∧ Pth fr od x (b :: r)
def lnk : List Int → List (Int × Int)
  | a :: b :: r => (a, b) :: lnk (b :: r)
  | _ => []
theorem Pth.head {n : Int} {es : List Ed} {u : Un} {x : Int} {od fr : List Int} {i : Nat} (h : BF n es u x od fr i) : ∀ {a : Int} {r : List Int}, Pth fr od x (a :: r) → a ∈ od
  | a, [], h1 => h1
  | a, b :: r, ⟨h1, h2, h3⟩ => by rw [h1]; exact (h.up (Pth.head h h3) h2).1
theorem Pth.lnk {n : Int} {es : List Ed} {u : Un} {x : Int} {od fr : List Int} {i : Nat} (h : BF n es u x od fr i) : ∀ {a : Int} {r : List Int}, Pth fr od x (a :: r) →
    ∀ p ∈ lnk (a :: r), rk od a ≤ rk od p.1 ∧ rk od p.1 < rk od p.2 ∧ Adj es p.1 p.2 ∧ u p.1 p.2 = false
  | a, [], _, p, hp => by simp [Go.Pl.lnk] at hp
  | a, b :: r, ⟨h1, h2, h3⟩, p, hp => by
    obtain ⟨u1, u2, u3, u4⟩ := h.up (Pth.head h h3) h2
    rw [← h1] at u1 u2 u3 u4
    simp only [Go.Pl.lnk, List.mem_cons] at hp
    rcases hp with rfl | hp
    · exact ⟨Nat.le_refl _, u2, u3, u4⟩
    · obtain ⟨q1, q2, q3⟩ := Pth.lnk h h3 p hp
      exact ⟨by omega, q2, q3⟩
theorem Pth.apt {n : Int} {es : List Ed} {u : Un} {x : Int} {od fr : List Int} {i : Nat} (h : BF n es u x od fr i) : ∀ {L : List Int}, Pth fr od x L → Apt (Go.Pl.lnk L)
  | [], _ => List.Pairwise.nil
  | [a], _ => List.Pairwise.nil
  | a :: b :: r, ⟨h1, h2, h3⟩ => by
    obtain ⟨u1, u2, u3, u4⟩ := h.up (Pth.head h h3) h2
    rw [← h1] at u2
    refine List.pairwise_cons.2 ⟨fun q hq => ?_, Pth.apt h h3⟩
    obtain ⟨q1, q2, _⟩ := Pth.lnk h h3 q hq
    refine ⟨fun e => ?_, fun e => ?_⟩
    · subst e; simp only at q1; omega
    · cases e; omega
theorem sm_lnk {S : Int → Bool} : ∀ {a b : Int} {L : List Int}, L.head? = some a → L.getLast? = some b → sm S (lnk L) = b2i (S a) - b2i (S b)
  | a, b, [], h, _ => by simp at h
  | a, b, [c], h1, h2 => by simp at h1 h2; subst h1 h2; simp [lnk, sm]
  | a, b, c :: d :: r, h1, h2 => by
    have ih := sm_lnk (S := S) (a := d) (b := b) (L := d :: r) rfl (by rw [← h2]; simp)
    simp at h1; subst h1
    simp only [lnk, sm, ih]; omega
theorem lnk_length : ∀ L : List Int, (lnk L).length = L.length - 1
  | [] => rfl
  | [a] => rfl
  | a :: b :: r => by have := lnk_length (b :: r); simp [lnk] at this ⊢; omega
theorem lnk_get : ∀ {L : List Int} {k : Nat} {a b : Int}, L[k]? = some a → L[k + 1]? = some b → (lnk L)[k]? = some (a, b)
  | [], _, _, _, h, _ => by simp at h
  | [c], k, _, _, _, h => by simp at h
  | c :: d :: r, 0, a, b, h1, h2 => by simp at h1 h2; simp [lnk, h1, h2]
  | c :: d :: r, k + 1, a, b, h1, h2 => by
    simp only [lnk, List.getElem?_cons_succ] at h1 h2 ⊢
    exact lnk_get (L := d :: r) h1 (by simpa using h2)
theorem Apt.rev {ps : List (Int × Int)} (h : Apt ps) : Apt ps.reverse := by
  unfold Apt
  rw [List.pairwise_reverse]
  refine List.Pairwise.imp (fun {a b} hab => ⟨fun e => hab.1 e.symm, fun e => hab.2 ?_⟩) h
  cases e; rfl
theorem sm_app {S : Int → Bool} : ∀ (a b : List (Int × Int)), sm S (a ++ b) = sm S a + sm S b
  | [], b => by simp [sm]
  | p :: a, b => by simp only [List.cons_append, sm, sm_app a b]; omega
theorem sm_rev {S : Int → Bool} : ∀ (a : List (Int × Int)), sm S a.reverse = sm S a
  | [] => rfl
  | p :: a => by rw [List.reverse_cons, sm_app, sm_rev a]; simp only [sm]; omega
/-- A greater flow, along a way. -/
theorem BF.step {n : Int} {es : List Ed} {u : Un} {x y : Int} {od fr : List Int} {i c : Nat} (hs : Simp es) (hE : ∀ e ∈ es, EIn n e) (h : BF n es u x od fr i) (hf : Flow es x y u c) {L : List Int} (hL : Pth fr od x L) (h0 : L.head? = some x) (h1 : L.getLast? = some y) :
    Flow es x y (incs u (lnk L)) (c + 1) ∧ Flow es x y (incs u (lnk L).reverse) (c + 1) := by
  obtain ⟨a, r, rfl⟩ : ∃ a r, L = a :: r := by cases L with
    | nil => simp at h0
    | cons a r => exact ⟨a, r, rfl⟩
  have hp := Pth.lnk h hL
  have ha := Pth.apt h hL
  have key : ∀ p ∈ lnk (a :: r), p.1 ≠ p.2 ∧ Adj es p.1 p.2 ∧ u p.1 p.2 = false := fun p hp' => by
    obtain ⟨q1, q2, q3, q4⟩ := hp p hp'
    refine ⟨fun e => ?_, q3, q4⟩
    rw [e] at q2; omega
  have hsm : ∀ S : Int → Bool, S x = true → S y = false → sm S (lnk (a :: r)) = 1 := fun S s1 s2 => by rw [sm_lnk h0 h1, s1, s2]; rfl
  exact ⟨hf.step hs ha key hsm, hf.step hs ha.rev (fun p hp' => key p (List.mem_reverse.1 hp')) (fun S s1 s2 => by rw [sm_rev]; exact hsm S s1 s2)⟩
/-- A flow that cannot be made greater. -/
theorem BF.done {n : Int} {es : List Ed} {u : Un} {x y : Int} {od fr : List Int} {c : Nat} (hE : ∀ e ∈ es, EIn n e) (h : BF n es u x od fr od.length) (hf : Flow es x y u c) (y0 : 0 ≤ y) (y1 : y < n) (hy : nth fr y < 0) : IsMin es x y c := by
  have hx := h.rng x h.x_in
  refine hf.done (S := fun p => decide (0 ≤ p ∧ p < n ∧ 0 ≤ nth fr p)) ?_ ?_ (h.closed hE)
  · simp [hx.1, hx.2, h.xx]
  · have : ¬ 0 ≤ nth fr y := by omega
    simp [this]
theorem gv_simp {n : Int} {es : List Ed} (h : GV n es) : Simp es := by
  refine ⟨?_, fun a b h1 h2 => ?_⟩
  · refine List.Pairwise.imp (fun {a b} hab e => ?_) h.2.2.2.2
    subst e; exact absurd hab (eLt_irrefl _)
  · have := h.2.2.2.1 _ h1
    have := h.2.2.2.1 _ h2
    unfold EIn at *; simp only at *; omega
/-- The way back, so far: L leads from cur to y. -/
structure WI (n : Int) (fr od : List Int) (x y : Int) (L : List Int) (cur : Int) : Prop where
  pth : Pth fr od x L
  hd : L.head? = some cur
  lst : L.getLast? = some y
  len : L.length + rk od cur ≤ n.toNat
theorem WI.init {n : Int} {es : List Ed} {u : Un} {x y : Int} {od fr : List Int} {i : Nat} (h : BF n es u x od fr i) (hy : y ∈ od) : WI n fr od x y [y] y :=
  ⟨hy, rfl, rfl, by have := rk_lt hy; have := h.od_len; simp; omega⟩
theorem WI.cur_in {n : Int} {es : List Ed} {u : Un} {x y : Int} {od fr : List Int} {i : Nat} (h : BF n es u x od fr i) {L : List Int} {cur : Int} (w : WI n fr od x y L cur) : cur ∈ od := by
  obtain ⟨r, rfl⟩ : ∃ r, L = cur :: r := by
    have := w.hd
    cases L with
    | nil => simp at this
    | cons a r => simp at this; subst this; exact ⟨r, rfl⟩
  exact Pth.head h w.pth
theorem WI.go {n : Int} {es : List Ed} {u : Un} {x y : Int} {od fr : List Int} {i : Nat} (h : BF n es u x od fr i) {L : List Int} {cur : Int} (w : WI n fr od x y L cur) (hx : cur ≠ x) : WI n fr od x y (nth fr cur :: L) (nth fr cur) ∧ rk od (nth fr cur) < rk od cur := by
  have hin := w.cur_in h
  obtain ⟨u1, u2, _⟩ := h.up hin hx
  obtain ⟨r, rfl⟩ : ∃ r, L = cur :: r := by
    have := w.hd
    cases L with
    | nil => simp at this
    | cons a r => simp at this; subst this; exact ⟨r, rfl⟩
  refine ⟨⟨⟨rfl, hx, w.pth⟩, rfl, by rw [← w.lst]; simp, ?_⟩, u2⟩
  have := w.len
  simp only [List.length_cons] at this ⊢; omega
theorem WI.lnk {n : Int} {fr od : List Int} {x y : Int} {L : List Int} {cur v : Int} (w : WI n fr od x y L cur) : Go.Pl.lnk (v :: L) = (v, cur) :: Go.Pl.lnk L := by
  have := w.hd
  cases L with
  | nil => simp at this
  | cons a r => simp at this; subst this; rfl
theorem WI.le {n : Int} {fr od : List Int} {x y : Int} {L : List Int} {cur : Int} (w : WI n fr od x y L cur) : L.length ≤ n.toNat := by have := w.len; omega
theorem incs_snoc (u : Un) (ps : List (Int × Int)) (p : Int × Int) : incs u (ps ++ [p]) = inc (incs u ps) p.1 p.2 := by simp [incs]

/-- The reference's flows: lists of units. -/
def un (ps : List (Int × Int)) : Un := fun p q => decide ((p, q) ∈ ps)
def wo1 (ps : List (Int × Int)) (a b : Int) : List (Int × Int) := ps.filter fun e => !decide (e = (a, b))
def stp (ps : List (Int × Int)) (a b : Int) : List (Int × Int) := if (b, a) ∈ ps then wo1 ps b a else wo1 ps a b ++ [(a, b)]
theorem un_nil : un [] = fun _ _ => false := by funext p q; simp [un]
theorem un_stp (ps : List (Int × Int)) (a b : Int) : un (stp ps a b) = inc (un ps) a b := by
  funext p q
  unfold stp inc
  by_cases h : (b, a) ∈ ps
  · have hb : un ps b a = true := by simp [un, h]
    rw [if_pos h, if_pos hb]
    by_cases e : p = b ∧ q = a
    · obtain ⟨rfl, rfl⟩ := e; simp [un, wo1]
    · rw [if_neg e]
      have : ¬ ((p, q) = (b, a)) := fun h => e ⟨congrArg Prod.fst h, congrArg Prod.snd h⟩
      simp [un, wo1, this]
  · have hb : ¬ un ps b a = true := by simp [un, h]
    rw [if_neg h, if_neg hb]
    by_cases e : p = a ∧ q = b
    · obtain ⟨rfl, rfl⟩ := e; simp [un]
    · rw [if_neg e]
      have : ¬ ((p, q) = (a, b)) := fun h => e ⟨congrArg Prod.fst h, congrArg Prod.snd h⟩
      simp [un, wo1, this]
theorem wo1_len (ps : List (Int × Int)) (a b : Int) : (wo1 ps a b).length ≤ ps.length := List.length_filter_le _ _
theorem stp_len (ps : List (Int × Int)) (a b : Int) : (stp ps a b).length ≤ ps.length + 1 := by
  unfold stp
  split
  · have := wo1_len ps b a; omega
  · have := wo1_len ps a b; simp; omega
theorem wo1_next {ps : List (Int × Int)} {i : Nat} {p : Int × Int} (h : ps[i]? = some p) (a b : Int) : wo1 (ps.take (i + 1)) a b = if p = (a, b) then wo1 (ps.take i) a b else wo1 (ps.take i) a b ++ [p] := by
  have e : ps.take (i + 1) = ps.take i ++ [p] := by rw [List.take_add_one, h]; rfl
  unfold wo1
  rw [e, List.filter_append]
  by_cases q : p = (a, b) <;> simp [q]
/-- A graph with two nodes at least. -/
def wkB (n : Int) (es : List Ed) : Bool := gvB n es && decide (2 ≤ n)
end Go.Pl
