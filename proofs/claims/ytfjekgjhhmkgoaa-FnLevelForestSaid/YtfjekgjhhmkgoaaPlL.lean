/-
  Graphs with levels: what stays when an edge is cut. No program in sight.
-/
import Derived.Test.YtfjekgjhhmkgoaaPlF
namespace Go.Pl
set_option linter.unusedVariables false
set_option linter.unusedSimpArgs false

/-- An edge, its level, whether it is in the forest. -/
abbrev Lv1 := Ed × Int × Bool
def upP (k : Int) (b : Bool) (x : Lv1) : Bool := decide (k ≤ x.2.1) && (!b || x.2.2)
def up (T : List Lv1) (k : Int) (b : Bool) : List Ed := (T.filter (upP k b)).map (·.1)
theorem mem_up {T : List Lv1} {k : Int} {b : Bool} {d : Ed} : d ∈ up T k b ↔ ∃ l t, (d, l, t) ∈ T ∧ k ≤ l ∧ (b = true → t = true) := by
  simp only [up, List.mem_map, List.mem_filter, upP, Bool.and_eq_true, decide_eq_true_eq, Bool.or_eq_true, Bool.not_eq_true']
  constructor
  · rintro ⟨⟨d', l, t⟩, ⟨h1, h2, h3⟩, rfl⟩
    exact ⟨l, t, h1, h2, fun hb => by rcases h3 with h3 | h3 <;> simp_all⟩
  · rintro ⟨l, t, h1, h2, h3⟩
    refine ⟨(d, l, t), ⟨h1, h2, ?_⟩, rfl⟩
    cases b
    · exact .inl rfl
    · exact .inr (h3 rfl)
theorem up_tree {T : List Lv1} {k : Int} {d : Ed} (h : d ∈ up T k true) : d ∈ up T k false := by
  rw [mem_up] at h ⊢
  obtain ⟨l, t, h1, h2, _⟩ := h
  exact ⟨l, t, h1, h2, fun h => by cases h⟩
theorem up_le {T : List Lv1} {j k : Int} {b : Bool} {d : Ed} (hk : j ≤ k) (h : d ∈ up T k b) : d ∈ up T j b := by
  rw [mem_up] at h ⊢
  obtain ⟨l, t, h1, h2, h3⟩ := h
  exact ⟨l, t, h1, by omega, h3⟩
theorem up_fst {T : List Lv1} {k : Int} {b : Bool} {d : Ed} (h : d ∈ up T k b) : d ∈ T.map (·.1) := by
  rw [mem_up] at h
  obtain ⟨l, t, h1, _⟩ := h
  exact List.mem_map.2 ⟨_, h1, rfl⟩

/-- How many nodes a node is connected with (itself too). -/
def cnt (n : Int) (es : List Ed) (x : Int) : Nat := (List.range n.toNat).countP fun i : Nat => decide (nth (labL n es) (i : Int) = nth (labL n es) x)
theorem cnt_le {n : Int} {es fs : List Ed} (hE : ∀ d ∈ es, EIn n d) (hF : ∀ d ∈ fs, EIn n d) {x : Int} (hx : 0 ≤ x ∧ x < n) (h : ∀ y, Rch es x y → Rch fs x y) : cnt n es x ≤ cnt n fs x := by
  have a := labL_is (n := n) (es := es) (by omega) hE
  have b := labL_is (n := n) (es := fs) (by omega) hF
  refine countP_le_of fun i hi hp => ?_
  simp at hi
  rw [decide_eq_true_eq] at hp ⊢
  exact (b.same (by omega) (by omega)).2 (h _ ((a.same (by omega) (by omega)).1 hp).symm).symm
theorem cnt_eq {n : Int} {es : List Ed} (hE : ∀ d ∈ es, EIn n d) {x y : Int} (hx : 0 ≤ x ∧ x < n) (h : Rch es x y) : cnt n es x = cnt n es y := by
  have a := labL_is (n := n) (es := es) (by omega) hE
  have hy := h.rng hE hx
  have e : nth (labL n es) x = nth (labL n es) y := (a.same (by omega) (by omega)).2 h
  unfold cnt; rw [e]
theorem countP_add_le {α : Type} {p q r : α → Bool} : ∀ {l : List α}, (∀ x ∈ l, p x = true → q x = true → False) → (∀ x ∈ l, p x = true ∨ q x = true → r x = true) → l.countP p + l.countP q ≤ l.countP r
  | [], _, _ => by simp
  | a :: l, h1, h2 => by
    have ih := countP_add_le (l := l) (fun x hx => h1 x (List.mem_cons_of_mem _ hx)) (fun x hx => h2 x (List.mem_cons_of_mem _ hx))
    have a1 := h1 a (by simp)
    have a2 := h2 a (by simp)
    rw [List.countP_cons, List.countP_cons, List.countP_cons]
    cases hp : p a <;> cases hq : q a <;> cases hr : r a <;> simp_all <;> omega
theorem cnt_pos {n : Int} {es : List Ed} {x : Int} (hx : 0 ≤ x ∧ x < n) : 1 ≤ cnt n es x := by
  refine List.countP_pos_iff.2 ⟨x.toNat, by simp; omega, ?_⟩
  have : ((x.toNat : Nat) : Int) = x := by omega
  rw [this]; simp
/-- Two parts become one. -/
theorem cnt_two {n : Int} {es fs : List Ed} (hE : ∀ d ∈ es, EIn n d) (hF : ∀ d ∈ fs, EIn n d) {x y : Int} (hx : 0 ≤ x ∧ x < n) (hy : 0 ≤ y ∧ y < n) (h1 : ¬ Rch es x y) (h2 : Rch fs x y) (h : ∀ a b, Rch es a b → Rch fs a b) :
    cnt n es x + cnt n es y ≤ cnt n fs x := by
  have a := labL_is (n := n) (es := es) (by omega) hE
  have b := labL_is (n := n) (es := fs) (by omega) hF
  refine countP_add_le (fun i hi hp hq => ?_) fun i hi hp => ?_
  · simp at hi
    rw [decide_eq_true_eq] at hp hq
    exact h1 ((a.same (by omega) (by omega)).1 (hp.symm.trans hq))
  · simp at hi
    rw [decide_eq_true_eq, decide_eq_true_eq] at hp
    rw [decide_eq_true_eq]
    refine (b.same (by omega) (by omega)).2 ?_
    rcases hp with hp | hp
    · exact h _ _ ((a.same (by omega) (by omega)).1 hp)
    · exact (h _ _ ((a.same (by omega) (by omega)).1 hp)).trans h2.symm

/-- A graph with levels is valid. -/
structure LOK (n : Int) (T : List Lv1) : Prop where
  hn : 1 ≤ n ∧ n ≤ 16
  ein : ∀ d ∈ T.map (·.1), EIn n d
  nd : (T.map (·.1)).Nodup
  lev : ∀ x ∈ T, 0 ≤ x.2.1 ∧ x.2.1 ≤ 4
  acy : ∀ j : Nat, j ≤ 4 → Acy n (up T j true)
  con : ∀ j : Nat, j ≤ 4 → ∀ x y, Rch (up T j false) x y → Rch (up T j true) x y
  siz : ∀ j : Nat, j ≤ 4 → ∀ x, 0 ≤ x → x < n → 1 < cnt n (up T j false) x → cnt n (up T j false) x ≤ n.toNat / 2 ^ j

/-- An edge e of the forest is gone; below the level m its ends are still parted. -/
structure LIV (n : Int) (T : List Lv1) (e : Ed) (m : Nat) : Prop where
  hn : 1 ≤ n ∧ n ≤ 16
  ein : ∀ d ∈ T.map (·.1), EIn n d
  nd : (T.map (·.1)).Nodup
  lev : ∀ x ∈ T, 0 ≤ x.2.1 ∧ x.2.1 ≤ 4
  he : EIn n e
  m5 : m ≤ 5
  acy1 : ∀ j : Nat, m ≤ j → j ≤ 4 → Acy n (up T j true)
  acy2 : ∀ j : Nat, j < m → Acy n (e :: up T j true)
  con1 : ∀ j : Nat, m ≤ j → j ≤ 4 → ∀ x y, Rch (up T j false) x y → Rch (up T j true) x y
  con2 : ∀ j : Nat, j < m → ∀ x y, Rch (up T j false) x y → Rch (e :: up T j true) x y
  siz1 : ∀ j : Nat, m ≤ j → j ≤ 4 → ∀ x, 0 ≤ x → x < n → 1 < cnt n (up T j false) x → cnt n (up T j false) x ≤ n.toNat / 2 ^ j
  siz2 : ∀ j : Nat, j < m → ∀ x, 0 ≤ x → x < n → 1 < cnt n (e :: up T j true) x → cnt n (e :: up T j true) x ≤ n.toNat / 2 ^ j

theorem LIV.done {n : Int} {T : List Lv1} {e : Ed} (h : LIV n T e 0) : LOK n T :=
  ⟨h.hn, h.ein, h.nd, h.lev, fun j hj => h.acy1 j (Nat.zero_le _) hj, fun j hj => h.con1 j (Nat.zero_le _) hj, fun j hj => h.siz1 j (Nat.zero_le _) hj⟩

/-- Some edges of the level k with both ends in S are raised. -/
inductive Rs (k : Int) (S : Int → Prop) : List Lv1 → List Lv1 → Prop
  | nil : Rs k S [] []
  | keep (x) {A B} (h : Rs k S A B) : Rs k S (x :: A) (x :: B)
  | rise (d t) {A B} (h1 : S d.1) (h2 : S d.2) (h : Rs k S A B) : Rs k S ((d, k, t) :: A) ((d, k + 1, t) :: B)

theorem Rs.refl {k : Int} {S : Int → Prop} : ∀ T : List Lv1, Rs k S T T
  | [] => .nil
  | x :: T => .keep x (Rs.refl T)
theorem Rs.app {k : Int} {S : Int → Prop} {A B C E : List Lv1} (h : Rs k S A B) (h2 : Rs k S C E) : Rs k S (A ++ C) (B ++ E) := by
  induction h with
  | nil => exact h2
  | keep x _ ih => exact .keep x ih
  | rise d t a b _ ih => exact .rise d t a b ih
theorem Rs.fst {k : Int} {S : Int → Prop} {A B : List Lv1} (h : Rs k S A B) : B.map (·.1) = A.map (·.1) := by
  induction h with
  | nil => rfl
  | keep x _ ih => simp [ih]
  | rise d t _ _ _ ih => simp [ih]
theorem Rs.tree {k : Int} {S : Int → Prop} {A B : List Lv1} (h : Rs k S A B) : B.map (·.2.2) = A.map (·.2.2) := by
  induction h with
  | nil => rfl
  | keep x _ ih => simp [ih]
  | rise d t _ _ _ ih => simp [ih]
theorem Rs.up_same {k : Int} {S : Int → Prop} {A B : List Lv1} (h : Rs k S A B) {j : Int} (hj : j ≠ k + 1) (b : Bool) : up B j b = up A j b := by
  unfold up
  induction h with
  | nil => rfl
  | keep x _ ih =>
    rw [List.filter_cons, List.filter_cons]
    split
    · simp [ih]
    · exact ih
  | rise d t _ _ _ ih =>
    have e : upP j b (d, k + 1, t) = upP j b (d, k, t) := by
      simp only [upP]; congr 1; rw [decide_eq_decide]; omega
    rw [List.filter_cons, List.filter_cons, e]
    split
    · simp [ih]
    · exact ih
theorem Rs.up_sub {k : Int} {S : Int → Prop} {A B : List Lv1} (h : Rs k S A B) (b : Bool) : (up B (k + 1) b).Sublist (up A k b) := by
  unfold up
  induction h with
  | nil => exact .slnil
  | keep x _ ih =>
    rw [List.filter_cons, List.filter_cons]
    have : upP (k + 1) b x = true → upP k b x = true := by simp only [upP, Bool.and_eq_true, decide_eq_true_eq]; exact fun h => ⟨by omega, h.2⟩
    split
    · rename_i q; rw [if_pos (this q)]; exact ih.cons_cons _
    · split
      · exact ih.cons _
      · exact ih
  | rise d t _ _ _ ih =>
    have e : upP (k + 1) b (d, k + 1, t) = upP k b (d, k, t) := by simp [upP]
    rw [List.filter_cons, List.filter_cons, e]
    split
    · exact ih.cons_cons _
    · exact ih
theorem Rs.old {k : Int} {S : Int → Prop} {A B : List Lv1} (h : Rs k S A B) : ∀ {d l t}, (d, l, t) ∈ A → ∃ l', (d, l', t) ∈ B ∧ l ≤ l' := by
  induction h with
  | nil => intro d l t h; simp at h
  | keep x _ ih =>
    intro d l t h
    rcases List.mem_cons.1 h with rfl | h
    · exact ⟨l, by simp, by omega⟩
    · obtain ⟨l', h1, h2⟩ := ih h; exact ⟨l', List.mem_cons_of_mem _ h1, h2⟩
  | rise d' t' _ _ _ ih =>
    intro d l t h
    rcases List.mem_cons.1 h with q | h
    · cases q; exact ⟨k + 1, by simp, by omega⟩
    · obtain ⟨l', h1, h2⟩ := ih h; exact ⟨l', List.mem_cons_of_mem _ h1, h2⟩
theorem Rs.new {k : Int} {S : Int → Prop} {A B : List Lv1} (h : Rs k S A B) : ∀ {d l t}, (d, l, t) ∈ B → (d, l, t) ∈ A ∨ (l = k + 1 ∧ (d, k, t) ∈ A ∧ S d.1 ∧ S d.2) := by
  induction h with
  | nil => intro d l t h; simp at h
  | keep x _ ih =>
    intro d l t h
    rcases List.mem_cons.1 h with rfl | h
    · exact .inl (by simp)
    · rcases ih h with q | ⟨q1, q2, q3⟩
      · exact .inl (List.mem_cons_of_mem _ q)
      · exact .inr ⟨q1, List.mem_cons_of_mem _ q2, q3⟩
  | rise d' t' a b _ ih =>
    intro d l t h
    rcases List.mem_cons.1 h with q | h
    · cases q; exact .inr ⟨rfl, by simp, a, b⟩
    · rcases ih h with q | ⟨q1, q2, q3⟩
      · exact .inl (List.mem_cons_of_mem _ q)
      · exact .inr ⟨q1, List.mem_cons_of_mem _ q2, q3⟩

theorem Rch.tail {e : Ed} {es : List Ed} {x y : Int} (h : Rch es x y) : Rch (e :: es) x y := h.mono fun d hd => List.mem_cons_of_mem _ hd

/-- The lesser one of the two trees. -/
structure Side (n : Int) (T : List Lv1) (e : Ed) (k : Nat) (S : Int → Prop) : Prop where
  own : S e.1 ∨ S e.2
  cls : ∀ x y, S x → Rch (up T k true) x y → S y
  one : ∀ x y, S x → S y → Rch (up T k true) x y
  few : ∀ x, 0 ≤ x → x < n → S x → cnt n (up T k true) x ≤ n.toNat / 2 ^ (k + 1)

theorem LIV.parted {n : Int} {T : List Lv1} {e : Ed} {m : Nat} (h : LIV n T e m) {j : Nat} (hj : j < m) : Acy n (up T j true) ∧ ¬ Rch (up T j true) e.1 e.2 :=
  acy_tail (fun d hd => by
    rcases List.mem_cons.1 hd with rfl | hd
    · exact h.he
    · exact h.ein d (up_fst hd)) (h.acy2 j hj)
theorem LIV.einU {n : Int} {T : List Lv1} {e : Ed} {m : Nat} (h : LIV n T e m) {j : Int} {b : Bool} : ∀ d ∈ up T j b, EIn n d := fun d hd => h.ein d (up_fst hd)
theorem LIV.einE {n : Int} {T : List Lv1} {e : Ed} {m : Nat} (h : LIV n T e m) {j : Int} {b : Bool} : ∀ d ∈ e :: up T j b, EIn n d := fun d hd => by
  rcases List.mem_cons.1 hd with rfl | hd
  · exact h.he
  · exact h.ein d (up_fst hd)
/-- The two trees have so many nodes together. -/
theorem LIV.both {n : Int} {T : List Lv1} {e : Ed} {m : Nat} (h : LIV n T e m) {k : Nat} (hk : k < m) : cnt n (up T k true) e.1 + cnt n (up T k true) e.2 ≤ n.toNat / 2 ^ k := by
  have he := h.he
  unfold EIn at he
  have h1 := (h.parted hk).2
  have h2 : Rch (e :: up T k true) e.1 e.2 := .one (.inl (by simp))
  have h3 := cnt_two h.einU h.einE (x := e.1) (y := e.2) (by omega) (by omega) h1 h2 (fun a b r => r.tail)
  have p1 := cnt_pos (n := n) (es := up T k true) (x := e.1) (by omega)
  have p2 := cnt_pos (n := n) (es := up T k true) (x := e.2) (by omega)
  have := h.siz2 k hk e.1 (by omega) (by omega) (by omega)
  omega
theorem LIV.low {n : Int} {T : List Lv1} {e : Ed} {m : Nat} (h : LIV n T e m) {k : Nat} (hk : k < m) : k ≤ 3 := by
  have he := h.he
  unfold EIn at he
  have h1 := h.both hk
  have p1 := cnt_pos (n := n) (es := up T k true) (x := e.1) (by omega)
  have p2 := cnt_pos (n := n) (es := up T k true) (x := e.2) (by omega)
  have := h.m5
  have hn := h.hn
  have : k = 0 ∨ k = 1 ∨ k = 2 ∨ k = 3 ∨ k = 4 := by omega
  rcases this with rfl | rfl | rfl | rfl | rfl <;> omega
theorem half_of {a b N k : Nat} (h : a + b ≤ N / 2 ^ k) (hab : a ≤ b) : a ≤ N / 2 ^ (k + 1) := by
  rw [Nat.pow_succ, ← Nat.div_div_eq_div_mul]; omega
/-- The lesser side, by the labels. -/
theorem LIV.side {n : Int} {T : List Lv1} {e : Ed} {m : Nat} (h : LIV n T e m) {k : Nat} (hk : k < m) {a : Int} (ha : a = e.1 ∧ cnt n (up T k true) e.1 ≤ cnt n (up T k true) e.2 ∨ a = e.2 ∧ cnt n (up T k true) e.2 ≤ cnt n (up T k true) e.1) :
    Side n T e k fun x => Rch (up T k true) a x := by
  have he := h.he
  unfold EIn at he
  have h1 := h.both hk
  have ha0 : 0 ≤ a ∧ a < n := by rcases ha with ⟨rfl, _⟩ | ⟨rfl, _⟩ <;> omega
  refine ⟨?_, fun x y h1 h2 => h1.trans h2, fun x y h1 h2 => h1.symm.trans h2, fun x h0 h1' hs => ?_⟩
  · rcases ha with ⟨rfl, _⟩ | ⟨rfl, _⟩
    · exact .inl .refl
    · exact .inr .refl
  · rw [← cnt_eq h.einU ha0 hs]
    rcases ha with ⟨rfl, q⟩ | ⟨rfl, q⟩
    · exact half_of h1 q
    · exact half_of (by omega) q

theorem LIV.raise {n : Int} {T T' : List Lv1} {e : Ed} {k : Nat} {S : Int → Prop} (h : LIV n T e (k + 1)) (hS : Side n T e k S) (hr : Rs k S T T') (hl : ∀ d, (d, (k : Int), true) ∈ T' → ¬ (S d.1 ∧ S d.2)) :
    LIV n T' e (k + 1) := by
  have hk3 := h.low (Nat.lt_succ_self k)
  have hE : ∀ d ∈ T'.map (·.1), EIn n d := by rw [hr.fst]; exact h.ein
  have hU : ∀ {j : Int} {b : Bool}, ∀ d ∈ up T' j b, EIn n d := fun d hd => hE d (up_fst hd)
  have ck : ((k + 1 : Nat) : Int) = (k : Int) + 1 := by omega
  have same : ∀ (j : Nat) (b : Bool), j ≠ k + 1 → up T' j b = up T j b := fun j b hj => hr.up_same (by omega) b
  have kk : up T' k true = up T k true := same k true (by omega)
  have sub : ∀ b, (up T' ((k + 1 : Nat) : Int) b).Sublist (up T k b) := fun b => by rw [ck]; exact hr.up_sub b
  -- the lesser side is connected on the next level
  have inS : ∀ {x y}, Rch (up T k true) x y → S x → Rch (up T' ((k + 1 : Nat) : Int) true) x y := by
    intro x y r hs
    induction r with
    | refl => exact .refl
    | @step y z r a ih =>
      have hy := hS.cls _ _ hs r
      have hz := hS.cls _ _ hs (.step r a)
      have lift : ∀ d ∈ up T k true, S d.1 ∧ S d.2 → d ∈ up T' ((k + 1 : Nat) : Int) true := fun d hd hs => by
        rw [← kk, mem_up] at hd
        obtain ⟨l, t, h1, h2, h3⟩ := hd
        obtain rfl := h3 rfl
        rw [mem_up]
        refine ⟨l, true, h1, ?_, fun _ => rfl⟩
        by_cases q : l = k
        · subst q; exact absurd hs (hl d h1)
        · omega
      rcases a with a | a
      · exact ih.step (.inl (lift _ a ⟨hy, hz⟩))
      · exact ih.step (.inr (lift _ a ⟨hz, hy⟩))
  have grow : ∀ {b : Bool} {d}, d ∈ up T ((k + 1 : Nat) : Int) b → d ∈ up T' ((k + 1 : Nat) : Int) b := fun {b d} hd => by
    rw [mem_up] at hd ⊢
    obtain ⟨l, t, h1, h2, h3⟩ := hd
    obtain ⟨l', h4, h5⟩ := hr.old h1
    exact ⟨l', t, h4, by omega, h3⟩
  have shrink : ∀ {b : Bool} {d}, d ∈ up T' ((k + 1 : Nat) : Int) b → d ∈ up T ((k + 1 : Nat) : Int) b ∨ (S d.1 ∧ S d.2) := fun {b d} hd => by
    rw [mem_up] at hd
    obtain ⟨l, t, h1, h2, h3⟩ := hd
    rcases hr.new h1 with q | ⟨_, _, q⟩
    · exact .inl (mem_up.2 ⟨l, t, q, h2, h3⟩)
    · exact .inr q
  have con1 : ∀ x y, Rch (up T' ((k + 1 : Nat) : Int) false) x y → Rch (up T' ((k + 1 : Nat) : Int) true) x y := fun x y r => r.of_adj fun d hd => by
    rcases shrink hd with q | ⟨q1, q2⟩
    · exact (h.con1 (k + 1) (Nat.le_refl _) (by omega) _ _ (.one (.inl q))).mono fun d hd => grow hd
    · exact inS (hS.one _ _ q1 q2) q1
  have upk : ∀ {x y}, Rch (up T' ((k + 1 : Nat) : Int) true) x y → Rch (up T k true) x y := fun r => r.mono fun d hd => (sub true).subset hd
  refine ⟨h.hn, hE, by rw [hr.fst]; exact h.nd, fun x hx => ?_, h.he, h.m5, fun j h1 h2 => ?_, fun j hj => ?_, fun j h1 h2 => ?_, fun j hj => ?_, fun j h1 h2 => ?_, fun j hj => ?_⟩
  · obtain ⟨d, l, t⟩ := x
    rcases hr.new hx with q | ⟨rfl, q, _⟩
    · exact h.lev _ q
    · have := h.lev _ q; simp at this ⊢; omega
  · by_cases q : j = k + 1
    · subst q
      exact acy_sub (sub true) h.einU (h.parted (Nat.lt_succ_self k)).1
    · rw [same j true q]; exact h.acy1 j h1 h2
  · rw [same j true (by omega)]; exact h.acy2 j hj
  · by_cases q : j = k + 1
    · subst q; exact con1
    · rw [same j true q, same j false q]; exact h.con1 j h1 h2
  · rw [same j true (by omega), same j false (by omega)]; exact h.con2 j hj
  · by_cases q : j = k + 1
    · subst q
      intro x h0 hx hc
      by_cases hs : S x
      · have := cnt_le (n := n) hU h.einU (x := x) ⟨h0, hx⟩ (fun y r => upk (con1 x y r))
        exact Nat.le_trans this (hS.few x h0 hx hs)
      · have stay : ∀ y, Rch (up T' ((k + 1 : Nat) : Int) false) x y → Rch (up T ((k + 1 : Nat) : Int) false) x y ∧ ¬ S y := by
          intro y r
          induction r with
          | refl => exact ⟨.refl, hs⟩
          | @step y z r a ih =>
            have hz : ¬ S z := fun hz => ih.2 (hS.cls _ _ hz (upk (con1 _ _ (.one a.symm))))
            rcases a with a | a
            · rcases shrink a with q | ⟨q1, _⟩
              · exact ⟨ih.1.step (.inl q), hz⟩
              · exact absurd q1 ih.2
            · rcases shrink a with q | ⟨q1, _⟩
              · exact ⟨ih.1.step (.inr q), hz⟩
              · exact absurd q1 hz
        have := cnt_le (n := n) hU h.einU (x := x) ⟨h0, hx⟩ (fun y r => (stay y r).1)
        exact Nat.le_trans this (h.siz1 (k + 1) h1 h2 x h0 hx (by omega))
    · rw [same j false q]; exact h.siz1 j h1 h2
  · rw [same j true (by omega)]; exact h.siz2 j hj

theorem Side.moved {n : Int} {T T' : List Lv1} {e : Ed} {k : Nat} {S : Int → Prop} (hS : Side n T e k S) (hr : Rs k S T T') : Side n T' e k S := by
  have kk : up T' k true = up T k true := hr.up_same (by omega) true
  exact ⟨hS.own, by rw [kk]; exact hS.cls, by rw [kk]; exact hS.one, by rw [kk]; exact hS.few⟩

/-- No edge takes the place of the one that was cut, on this level. -/
theorem LIV.lower {n : Int} {T : List Lv1} {e : Ed} {k : Nat} {S : Int → Prop} (h : LIV n T e (k + 1)) (hS : Side n T e k S) (hl : ∀ d, (d, (k : Int), false) ∈ T → ¬ S d.1 ∧ ¬ S d.2) : LIV n T e k := by
  have hk3 := h.low (Nat.lt_succ_self k)
  have hp := h.parted (Nat.lt_succ_self k)
  have conk : ∀ x y, Rch (up T k false) x y → Rch (up T k true) x y := fun x y r => r.of_adj fun d hd => by
    rw [mem_up] at hd
    obtain ⟨l, t, h1, h2, _⟩ := hd
    cases t
    · by_cases q : l = k
      · subst q
        have ns := hl d h1
        have r1 := h.con2 k (Nat.lt_succ_self k) d.1 d.2 (.one (.inl (mem_up.2 ⟨k, false, h1, by omega, fun q => by cases q⟩)))
        rcases r1.split (f := e) (r := up T k true) (fun d hd => List.mem_cons.1 hd) with r1 | ⟨r1, r2⟩ | ⟨r1, r2⟩
        · exact r1
        · rcases hS.own with o | o
          · exact absurd (hS.cls _ _ o r1.symm) ns.1
          · exact absurd (hS.cls _ _ o r2) ns.2
        · rcases hS.own with o | o
          · exact absurd (hS.cls _ _ o r2) ns.2
          · exact absurd (hS.cls _ _ o r1.symm) ns.1
      · refine (h.con1 (k + 1) (Nat.le_refl _) (by omega) d.1 d.2 (.one (.inl (mem_up.2 ⟨l, false, h1, by omega, fun q => by cases q⟩)))).mono fun d hd => up_le (by omega) hd
    · exact .one (.inl (mem_up.2 ⟨l, true, h1, h2, fun _ => rfl⟩))
  refine ⟨h.hn, h.ein, h.nd, h.lev, h.he, by have := h.m5; omega, fun j h1 h2 => ?_, fun j hj => h.acy2 j (by omega), fun j h1 h2 => ?_, fun j hj => h.con2 j (by omega), fun j h1 h2 => ?_, fun j hj => h.siz2 j (by omega)⟩
  · by_cases q : j = k
    · subst q; exact hp.1
    · exact h.acy1 j (by omega) h2
  · by_cases q : j = k
    · subst q; exact conk
    · exact h.con1 j (by omega) h2
  · by_cases q : j = k
    · subst q
      intro x h0 hx hc
      have := cnt_le (n := n) h.einU h.einE (x := x) ⟨h0, hx⟩ (fun y r => h.con2 j (Nat.lt_succ_self j) x y r)
      exact Nat.le_trans this (h.siz2 j (Nat.lt_succ_self j) x h0 hx (by omega))
    · exact h.siz1 j (by omega) h2

/-- An edge takes the place of the one that was cut. -/
theorem LIV.found {n : Int} {A B : List Lv1} {f e : Ed} {k : Nat} {S : Int → Prop} (h : LIV n (A ++ (f, (k : Int), false) :: B) e (k + 1)) (hS : Side n (A ++ (f, (k : Int), false) :: B) e k S) (hf : ¬ (S f.1 ↔ S f.2)) :
    LOK n (A ++ (f, (k : Int), true) :: B) := by
  have hk3 := h.low (Nat.lt_succ_self k)
  generalize hT : A ++ (f, (k : Int), false) :: B = T at h hS
  generalize hT' : A ++ (f, (k : Int), true) :: B = T'
  have hfst : T'.map (·.1) = T.map (·.1) := by subst hT hT'; simp
  have hE : ∀ d ∈ T'.map (·.1), EIn n d := by rw [hfst]; exact h.ein
  have hU : ∀ {j : Int} {b : Bool}, ∀ d ∈ up T' j b, EIn n d := fun d hd => hE d (up_fst hd)
  have hfE : EIn n f := h.ein f (by subst hT; simp)
  have all : ∀ j : Int, up T' j false = up T j false := fun j => by subst hT hT'; simp [up, upP, List.filter_append, List.filter_cons]; split <;> simp
  have high : ∀ j : Int, (k : Int) < j → up T' j true = up T j true := fun j hj => by
    have hn : ¬ j ≤ (k : Int) := by omega
    subst hT hT'; simp [up, upP, List.filter_append, List.filter_cons, hn]
  have low : ∀ j : Int, j ≤ k → (∀ d, d ∈ up T' j true ↔ d = f ∨ d ∈ up T j true) ∧ (up T' j true).length = (up T j true).length + 1 := fun j hj => by
    subst hT hT'
    have e1 : up (A ++ (f, (k : Int), true) :: B) j true = up A j true ++ f :: up B j true := by simp [up, upP, List.filter_append, List.filter_cons, hj]
    have e2 : up (A ++ (f, (k : Int), false) :: B) j true = up A j true ++ up B j true := by simp [up, upP, List.filter_append, List.filter_cons]
    rw [e1, e2]
    refine ⟨fun d => ?_, by simp; omega⟩
    simp only [List.mem_append, List.mem_cons]
    constructor
    · rintro (q | q | q) <;> simp [q]
    · rintro (q | q | q) <;> simp [q]
  have fin : ∀ j : Nat, j ≤ k → f ∈ up T j false := fun j hj => by
    refine mem_up.2 ⟨k, false, by subst hT; simp, by omega, fun q => by cases q⟩
  -- in the tree of the level, the new edge joins the ends of the one that was cut
  have join : ∀ j : Nat, j ≤ k → Rch (f :: up T j true) e.1 e.2 := fun j hj => by
    have r := h.con2 k (Nat.lt_succ_self k) f.1 f.2 (.one (.inl (fin k (Nat.le_refl _))))
    have ff : ∀ {es : List Ed}, Rch (f :: es) f.1 f.2 := .one (.inl (by simp))
    have q : Rch (f :: up T k true) e.1 e.2 := by
      rcases r.split (f := e) (r := up T k true) (fun d hd => List.mem_cons.1 hd) with r | ⟨r1, r2⟩ | ⟨r1, r2⟩
      · exact absurd ⟨fun q => hS.cls _ _ q r, fun q => hS.cls _ _ q r.symm⟩ hf
      · exact (r1.symm.tail.trans ff).trans r2.symm.tail
      · exact (r2.tail.trans ff.symm).trans r1.tail
    refine q.mono fun d hd => ?_
    rcases List.mem_cons.1 hd with rfl | hd
    · simp
    · exact List.mem_cons_of_mem _ (up_le (by omega) hd)
  have lt1 : ∀ {j : Nat}, j ≤ k → j < k + 1 := fun h => by omega
  have toE : ∀ j : Nat, j ≤ k → ∀ x y, Rch (f :: up T j true) x y → Rch (e :: up T j true) x y := fun j hj x y r => r.of_adj fun d hd => by
    rcases List.mem_cons.1 hd with rfl | hd
    · exact h.con2 j (lt1 hj) _ _ (.one (.inl (fin j hj)))
    · exact .one (.inl (List.mem_cons_of_mem _ hd))
  have ofE : ∀ j : Nat, j ≤ k → ∀ x y, Rch (e :: up T j true) x y → Rch (f :: up T j true) x y := fun j hj x y r => r.of_adj fun d hd => by
    rcases List.mem_cons.1 hd with rfl | hd
    · exact join j hj
    · exact .one (.inl (List.mem_cons_of_mem _ hd))
  have hn0 : 0 ≤ n := by have := h.hn; omega
  have einF : ∀ {j : Int}, ∀ d ∈ f :: up T j true, EIn n d := fun d hd => by
    rcases List.mem_cons.1 hd with rfl | hd
    · exact hfE
    · exact h.einU d hd
  refine ⟨h.hn, hE, by rw [hfst]; exact h.nd, fun x hx => ?_, fun j hj => ?_, fun j hj => ?_, fun j hj => ?_⟩
  · have : x ∈ T ∨ x = (f, (k : Int), true) := by
      subst hT hT'; simp only [List.mem_append, List.mem_cons] at hx ⊢
      rcases hx with q | q | q
      · exact .inl (.inl q)
      · exact .inr q
      · exact .inl (.inr (.inr q))
    rcases this with q | rfl
    · exact h.lev x q
    · exact ⟨by simp, by simp; omega⟩
  · by_cases q : j ≤ k
    · have h2 := low j (by omega)
      refine acy_mem hn0 (es := f :: up T j true) einF (fun d => by rw [h2.1 d]; simp) (by rw [h2.2]; simp) ?_
      have a1 := h.acy2 j (lt1 q)
      unfold Acy at a1 ⊢
      rw [pc_congr hn0 einF h.einE fun x y => ⟨toE j q x y, ofE j q x y⟩]
      simpa using a1
    · rw [high j (by omega)]; exact h.acy1 j (by omega) hj
  · rw [all]
    by_cases q : j ≤ k
    · intro x y r
      exact (ofE j q x y (h.con2 j (lt1 q) x y r)).mono fun d hd => ((low j (by omega)).1 d).2 (List.mem_cons.1 hd)
    · rw [high j (by omega)]; exact h.con1 j (by omega) hj
  · rw [all]
    by_cases q : j ≤ k
    · intro x h0 hx hc
      have := cnt_le (n := n) h.einU h.einE (x := x) ⟨h0, hx⟩ (fun y r => h.con2 j (lt1 q) x y r)
      exact Nat.le_trans this (h.siz2 j (lt1 q) x h0 hx (by omega))
    · exact h.siz1 j (by omega) hj
end Go.Pl
