/-
  Graphs with levels: the search for an edge that takes the place of one that was cut. No program in sight.
-/
import Derived.Test.YtfjekgjhhmkgoaaPlL2
namespace Go.Pl
set_option linter.unusedVariables false
set_option linter.unusedSimpArgs false

/-- Edges of the forest that are raised; others that are raised; one that takes the place. -/
def r1P (k : Int) (S : Int → Bool) (x : Lv1) : Bool := x.2.2 && (decide (x.2.1 = k) && (S x.1.1 && S x.1.2))
def r1 (k : Int) (S : Int → Bool) (x : Lv1) : Lv1 := if r1P k S x then (x.1, k + 1, x.2.2) else x
def r2P (k : Int) (S : Int → Bool) (x : Lv1) : Bool := !x.2.2 && (decide (x.2.1 = k) && (S x.1.1 && S x.1.2))
def r2 (k : Int) (S : Int → Bool) (x : Lv1) : Lv1 := if r2P k S x then (x.1, k + 1, x.2.2) else x
def isR (k : Int) (S : Int → Bool) (x : Lv1) : Bool := !x.2.2 && (decide (x.2.1 = k) && (S x.1.1 != S x.1.2))
def scn (k : Int) (S : Int → Bool) : List Lv1 → List Lv1 × Bool
  | [] => ([], false)
  | x :: r => if isR k S x then ((x.1, x.2.1, true) :: r, true) else (r2 k S x :: (scn k S r).1, (scn k S r).2)
def sidC (n : Int) (es : List Ed) (e : Ed) : Int :=
  if (labL n es).count (nth (labL n es) e.2) < (labL n es).count (nth (labL n es) e.1) then nth (labL n es) e.2 else nth (labL n es) e.1
def sidP (n : Int) (es : List Ed) (e : Ed) (x : Int) : Bool := decide (nth (labL n es) x = sidC n es e)
def repl (n : Int) (e : Ed) (k : Int) (T : List Lv1) : List Lv1 × Bool := scn k (sidP n (up T k true) e) (T.map (r1 k (sidP n (up T k true) e)))
def dwn (n : Int) (e : Ed) : Nat → List Lv1 → List Lv1 × Bool
  | 0, T => (T, false)
  | m + 1, T => if (repl n e m T).2 then ((repl n e m T).1, true) else dwn n e m (repl n e m T).1

theorem countP_range_list {l : List Int} {p : Int → Bool} : (List.range l.length).countP (fun i => p (l[i]?.getD 0)) = l.countP p := by
  induction l with
  | nil => simp
  | cons a l ih =>
    rw [List.length_cons, List.range_succ_eq_map, List.countP_cons, List.countP_cons, List.countP_map, ← ih]
    congr 1
theorem cnt_count {n : Int} {es : List Ed} {x : Int} (hn : 0 ≤ n) : cnt n es x = (labL n es).count (nth (labL n es) x) := by
  have h := countP_range_list (l := labL n es) (p := fun y => decide (y = nth (labL n es) x))
  rw [labL_length] at h
  unfold cnt
  rw [List.count_eq_countP]
  have e : (fun y : Int => decide (y = nth (labL n es) x)) = fun y => y == nth (labL n es) x := by funext y; rw [Bool.eq_iff_iff]; simp
  rw [← e, ← h]
  rfl
theorem r1_fst {k : Int} {S : Int → Bool} {x : Lv1} : (r1 k S x).1 = x.1 := by unfold r1; split <;> rfl
theorem scn_fst {k : Int} {S : Int → Bool} : ∀ {T : List Lv1}, (scn k S T).1.map (·.1) = T.map (·.1)
  | [] => rfl
  | x :: r => by
    rw [scn]
    split
    · rfl
    · have : (r2 k S x).1 = x.1 := by unfold r2; split <;> rfl
      simp [this, scn_fst (T := r)]
theorem repl_fst {n : Int} {e : Ed} {k : Int} {T : List Lv1} : (repl n e k T).1.map (·.1) = T.map (·.1) := by
  unfold repl; rw [scn_fst, List.map_map]; exact List.map_congr_left fun x _ => r1_fst
theorem dwn_fst {n : Int} {e : Ed} : ∀ {m : Nat} {T : List Lv1}, (dwn n e m T).1.map (·.1) = T.map (·.1)
  | 0, T => rfl
  | m + 1, T => by
    rw [dwn]
    split
    · exact repl_fst
    · rw [dwn_fst, repl_fst]
theorem Rs_r1 {k : Int} {S : Int → Bool} {S' : Int → Prop} : ∀ {T : List Lv1}, (∀ d ∈ T.map (·.1), (S d.1 = true → S' d.1) ∧ (S d.2 = true → S' d.2)) → Rs k S' T (T.map (r1 k S))
  | [], _ => .nil
  | x :: T, h => by
    have ih := Rs_r1 (k := k) (S := S) (S' := S') (T := T) fun d hd => h d (by simp only [List.map_cons, List.mem_cons]; exact .inr hd)
    have hx := h x.1 (by simp)
    rw [List.map_cons]
    obtain ⟨d, l, t⟩ := x
    unfold r1
    split
    · rename_i q
      simp only [r1P, Bool.and_eq_true, decide_eq_true_eq] at q
      obtain ⟨_, rfl, q1, q2⟩ := q
      exact .rise d t (hx.1 q1) (hx.2 q2) ih
    · exact .keep _ ih
theorem Rs_r2 {k : Int} {S : Int → Bool} {S' : Int → Prop} : ∀ {T : List Lv1}, (∀ d ∈ T.map (·.1), (S d.1 = true → S' d.1) ∧ (S d.2 = true → S' d.2)) → Rs k S' T (T.map (r2 k S))
  | [], _ => .nil
  | x :: T, h => by
    have ih := Rs_r2 (k := k) (S := S) (S' := S') (T := T) fun d hd => h d (by simp only [List.map_cons, List.mem_cons]; exact .inr hd)
    have hx := h x.1 (by simp)
    rw [List.map_cons]
    obtain ⟨d, l, t⟩ := x
    unfold r2
    split
    · rename_i q
      simp only [r2P, Bool.and_eq_true, decide_eq_true_eq] at q
      obtain ⟨_, rfl, q1, q2⟩ := q
      exact .rise d t (hx.1 q1) (hx.2 q2) ih
    · exact .keep _ ih
theorem scn_cases {k : Int} {S : Int → Bool} : ∀ (T : List Lv1), ((scn k S T) = (T.map (r2 k S), false) ∧ ∀ x ∈ T, isR k S x = false) ∨
    ∃ A f B, T = A ++ (f, k, false) :: B ∧ (scn k S T) = (A.map (r2 k S) ++ (f, k, true) :: B, true) ∧ (S f.1 != S f.2) = true ∧ ∀ x ∈ A, isR k S x = false
  | [] => .inl ⟨rfl, by simp⟩
  | x :: r => by
    rw [scn]
    cases q : isR k S x
    · rcases scn_cases (k := k) (S := S) r with ⟨h1, h2⟩ | ⟨A, f, B, h1, h2, h3, h4⟩
      · left
        refine ⟨by simp [h1], fun y hy => ?_⟩
        rcases List.mem_cons.1 hy with rfl | hy
        · exact q
        · exact h2 y hy
      · right
        refine ⟨x :: A, f, B, by rw [h1]; rfl, by simp [h2], h3, fun y hy => ?_⟩
        rcases List.mem_cons.1 hy with rfl | hy
        · exact q
        · exact h4 y hy
    · right
      obtain ⟨d, l, t⟩ := x
      simp only [isR, Bool.and_eq_true, Bool.not_eq_true', decide_eq_true_eq] at q
      obtain ⟨rfl, rfl, q⟩ := q
      exact ⟨[], d, r, rfl, by simp, q, by simp⟩

theorem LIV.step {n : Int} {T : List Lv1} {e : Ed} {k : Nat} (h : LIV n T e (k + 1)) : (repl n e k T).2 = true ∧ LOK n (repl n e k T).1 ∨ (repl n e k T).2 = false ∧ LIV n (repl n e k T).1 e k := by
  have he := h.he
  unfold EIn at he
  have hn0 : 0 ≤ n := by have := h.hn; omega
  have hk := Nat.lt_succ_self k
  obtain ⟨S, hS⟩ : ∃ S, S = sidP n (up T k true) e := ⟨_, rfl⟩
  have il := labL_is (n := n) (es := up T k true) hn0 h.einU
  -- the lesser side
  obtain ⟨a, ha, hac⟩ : ∃ a : Int, (a = e.1 ∧ cnt n (up T k true) e.1 ≤ cnt n (up T k true) e.2 ∨ a = e.2 ∧ cnt n (up T k true) e.2 ≤ cnt n (up T k true) e.1) ∧ nth (labL n (up T k true)) a = sidC n (up T k true) e := by
    unfold sidC
    rw [← cnt_count hn0, ← cnt_count hn0]
    by_cases q : cnt n (up T k true) e.2 < cnt n (up T k true) e.1
    · exact ⟨e.2, .inr ⟨rfl, by omega⟩, by rw [if_pos q]⟩
    · exact ⟨e.1, .inl ⟨rfl, by omega⟩, by rw [if_neg q]⟩
  have ha0 : 0 ≤ a ∧ a < n := by rcases ha with ⟨rfl, _⟩ | ⟨rfl, _⟩ <;> omega
  have side := h.side hk ha
  have sIff : ∀ x, 0 ≤ x ∧ x < n → (S x = true ↔ Rch (up T k true) a x) := fun x hx => by
    rw [hS]; unfold sidP
    rw [decide_eq_true_eq, ← hac]
    constructor
    · intro q; exact (il.same (by omega) (by omega)).1 q.symm
    · intro q; exact ((il.same (by omega) (by omega)).2 q).symm
  have dIff : ∀ d ∈ T.map (·.1), (S d.1 = true ↔ Rch (up T k true) a d.1) ∧ (S d.2 = true ↔ Rch (up T k true) a d.2) := fun d hd => by
    have := h.ein d hd
    unfold EIn at this
    exact ⟨sIff _ (by omega), sIff _ (by omega)⟩
  have hR := Rs_r1 (k := (k : Int)) (S := S) (S' := fun x => Rch (up T k true) a x) (T := T) fun d hd => ⟨(dIff d hd).1.1, (dIff d hd).2.1⟩
  have m1 : ∀ d, (d, (k : Int), true) ∈ T.map (r1 k S) → ¬ (Rch (up T k true) a d.1 ∧ Rch (up T k true) a d.2) := fun d hd w => by
    obtain ⟨⟨d', l, t⟩, hx, hy⟩ := List.mem_map.1 hd
    have hm : d' ∈ T.map (·.1) := List.mem_map.2 ⟨_, hx, rfl⟩
    unfold r1 at hy
    split at hy
    · have a := congrArg (fun z : Lv1 => z.2.1) hy
      simp only at a
      omega
    · rename_i q
      cases hy
      exact q (by simp [r1P, (dIff _ hm).1.2 w.1, (dIff _ hm).2.2 w.2])
  have l1 := h.raise side hR m1
  have s1 := side.moved hR
  have f1 : (T.map (r1 k S)).map (·.1) = T.map (·.1) := hR.fst
  have kk : up (T.map (r1 k S)) k true = up T k true := hR.up_same (by omega) true
  have hrep : repl n e k T = scn k S (T.map (r1 k S)) := by unfold repl; rw [hS]
  rw [hrep]
  generalize hT1 : T.map (r1 k S) = T1 at *
  have dIff1 : ∀ d ∈ T1.map (·.1), (S d.1 = true ↔ Rch (up T k true) a d.1) ∧ (S d.2 = true ↔ Rch (up T k true) a d.2) := by rw [f1]; exact dIff
  have nil2 : ∀ {A : List Lv1}, (∀ x ∈ A, x ∈ T1) → ∀ d, (d, (k : Int), true) ∈ A.map (r2 k S) → ¬ (Rch (up T k true) a d.1 ∧ Rch (up T k true) a d.2) := fun hA d hd => by
    obtain ⟨⟨d', l, t⟩, hx, hy⟩ := List.mem_map.1 hd
    unfold r2 at hy
    split at hy
    · rename_i q
      simp only [r2P, Bool.and_eq_true, Bool.not_eq_true'] at q
      have a := congrArg (fun z : Lv1 => z.2.2) hy
      simp only at a
      rw [q.1] at a; cases a
    · cases hy; exact m1 d (hA _ hx)
  rcases scn_cases (k := (k : Int)) (S := S) T1 with ⟨h1, h2⟩ | ⟨A, f, B, h1, h2, h3, h4⟩
  · right
    rw [h1]
    refine ⟨rfl, ?_⟩
    have hR2 := Rs_r2 (k := (k : Int)) (S := S) (S' := fun x => Rch (up T k true) a x) (T := T1) fun d hd => ⟨(dIff1 d hd).1.1, (dIff1 d hd).2.1⟩
    have l2 := l1.raise s1 hR2 (nil2 fun x hx => hx)
    refine l2.lower (s1.moved hR2) fun d hd => ?_
    obtain ⟨⟨d', l, t⟩, hx, hy⟩ := List.mem_map.1 hd
    have hm : d' ∈ T1.map (·.1) := List.mem_map.2 ⟨_, hx, rfl⟩
    have hr := h2 _ hx
    unfold r2 at hy
    split at hy
    · have a := congrArg (fun z : Lv1 => z.2.1) hy
      simp only at a
      omega
    · rename_i q
      cases hy
      have i1 := (dIff1 _ hm).1
      have i2 := (dIff1 _ hm).2
      cases p1 : S d.1 <;> cases p2 : S d.2
      · exact ⟨fun w => (by rw [i1.2 w] at p1; cases p1), fun w => (by rw [i2.2 w] at p2; cases p2)⟩
      · simp [isR, p1, p2] at hr
      · simp [isR, p1, p2] at hr
      · simp [r2P, p1, p2] at q
  · left
    rw [h2]
    refine ⟨rfl, ?_⟩
    have hA : ∀ x ∈ A, x ∈ T1 := fun x hx => by rw [h1]; simp [hx]
    have hR2 : Rs (k : Int) (fun x => Rch (up T k true) a x) T1 (A.map (r2 k S) ++ (f, (k : Int), false) :: B) := by
      conv => arg 3; rw [h1]
      exact (Rs_r2 (k := (k : Int)) (S := S) fun d hd => by
        obtain ⟨x, hx, rfl⟩ := List.mem_map.1 hd
        have hm : x.1 ∈ T1.map (·.1) := List.mem_map.2 ⟨x, hA x hx, rfl⟩
        exact ⟨(dIff1 _ hm).1.1, (dIff1 _ hm).2.1⟩).app (Rs.refl _)
    have l2 := l1.raise s1 hR2 fun d hd => by
      rcases List.mem_append.1 hd with q | q
      · exact nil2 hA d q
      · rcases List.mem_cons.1 q with q | q
        · cases q
        · exact m1 d (by rw [h1]; simp [q])
    refine l2.found (s1.moved hR2) fun w => ?_
    have hm : f ∈ T1.map (·.1) := List.mem_map.2 ⟨(f, (k : Int), false), by rw [h1]; simp, rfl⟩
    have i1 := (dIff1 _ hm).1
    have i2 := (dIff1 _ hm).2
    cases p1 : S f.1 <;> cases p2 : S f.2
    · simp [p1, p2] at h3
    · have := w.2 (i2.1 p2); rw [i1.2 this] at p1; cases p1
    · have := w.1 (i1.1 p1); rw [i2.2 this] at p2; cases p2
    · simp [p1, p2] at h3
theorem LIV.down {n : Int} {e : Ed} : ∀ {m : Nat} {T : List Lv1}, LIV n T e m → LOK n (dwn n e m T).1
  | 0, T, h => h.done
  | m + 1, T, h => by
    rw [dwn]
    rcases h.step with ⟨h1, h2⟩ | ⟨h1, h2⟩
    · rw [if_pos h1]; exact h2
    · rw [if_neg (by rw [h1]; simp)]; exact LIV.down h2

/-- The sum of the levels. -/
def sumL : List Lv1 → Int
  | [] => 0
  | x :: r => x.2.1 + sumL r
theorem sumL_app : ∀ {A B : List Lv1}, sumL (A ++ B) = sumL A + sumL B
  | [], B => by simp [sumL]
  | x :: A, B => by rw [List.cons_append, sumL, sumL, sumL_app]; omega
theorem r1_lev {k : Int} {S : Int → Bool} {x : Lv1} : 0 ≤ (r1 k S x).2.1 - x.2.1 ∧ (r1 k S x).2.1 - x.2.1 ≤ 1 := by
  unfold r1
  split
  · rename_i q; simp only [r1P, Bool.and_eq_true, decide_eq_true_eq] at q; simp only; omega
  · omega
theorem r2_lev {k : Int} {S : Int → Bool} {x : Lv1} : 0 ≤ (r2 k S x).2.1 - x.2.1 ∧ (r2 k S x).2.1 - x.2.1 ≤ 1 := by
  unfold r2
  split
  · rename_i q; simp only [r2P, Bool.and_eq_true, decide_eq_true_eq] at q; simp only; omega
  · omega
theorem map_r1_sum {k : Int} {S : Int → Bool} : ∀ {T : List Lv1}, 0 ≤ sumL (T.map (r1 k S)) - sumL T ∧ sumL (T.map (r1 k S)) - sumL T ≤ T.length
  | [] => by simp [sumL]
  | x :: T => by
    have := r1_lev (k := k) (S := S) (x := x)
    have := map_r1_sum (k := k) (S := S) (T := T)
    simp only [List.map_cons, sumL, List.length_cons]; omega
theorem scn_sum {k : Int} {S : Int → Bool} : ∀ {T : List Lv1}, 0 ≤ sumL (scn k S T).1 - sumL T ∧ sumL (scn k S T).1 - sumL T ≤ T.length
  | [] => by simp [sumL, scn]
  | x :: T => by
    rw [scn]
    split
    · simp only [sumL, List.length_cons]; omega
    · have := r2_lev (k := k) (S := S) (x := x)
      have := scn_sum (k := k) (S := S) (T := T)
      simp only [sumL, List.length_cons]; omega
theorem repl_sum {n : Int} {e : Ed} {k : Int} {T : List Lv1} : 0 ≤ sumL (repl n e k T).1 - sumL T ∧ sumL (repl n e k T).1 - sumL T ≤ 2 * T.length := by
  unfold repl
  have a := map_r1_sum (k := k) (S := sidP n (up T k true) e) (T := T)
  have b := scn_sum (k := k) (S := sidP n (up T k true) e) (T := T.map (r1 k (sidP n (up T k true) e)))
  rw [List.length_map] at b
  omega
theorem repl_len {n : Int} {e : Ed} {k : Int} {T : List Lv1} : (repl n e k T).1.length = T.length := by
  have := congrArg List.length (repl_fst (n := n) (e := e) (k := k) (T := T))
  simpa using this
theorem dwn_len {n : Int} {e : Ed} {m : Nat} {T : List Lv1} : (dwn n e m T).1.length = T.length := by
  have := congrArg List.length (dwn_fst (n := n) (e := e) (m := m) (T := T))
  simpa using this
theorem dwn_sum {n : Int} {e : Ed} : ∀ {m : Nat} {T : List Lv1}, 0 ≤ sumL (dwn n e m T).1 - sumL T ∧ sumL (dwn n e m T).1 - sumL T ≤ 2 * m * T.length
  | 0, T => by simp [dwn]
  | m + 1, T => by
    rw [dwn]
    have a := repl_sum (n := n) (e := e) (k := m) (T := T)
    have l := repl_len (n := n) (e := e) (k := m) (T := T)
    have e1 : 2 * ((m + 1 : Nat) : Int) * (T.length : Int) = 2 * (m : Int) * T.length + 2 * T.length := by
      rw [Int.natCast_add, Int.mul_add, Int.add_mul]; simp
    split
    · have : 0 ≤ 2 * (m : Int) * (T.length : Int) := Int.mul_nonneg (by omega) (by omega)
      simp only; omega
    · have b := dwn_sum (n := n) (e := e) (m := m) (T := (repl n e m T).1)
      rw [l] at b
      omega
end Go.Pl
