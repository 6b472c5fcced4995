/-
  Ways up and where they meet. No program in sight.
-/
import Derived.Test.YtbolckhedohecabPlR
namespace Go.Pl

/-- From a node of a way up the way goes on alike. -/
theorem way_drop (ps : List Int) : ∀ (f : Nat) (a x : Int), endsM ps f a = true → x ∈ upL ps f a → ∃ k, (upL ps f a)[k]? = some x ∧ endsM ps f x = true ∧ upL ps f x = (upL ps f a).drop k
  | 0, a, x, _, h => by simp [upL] at h
  | f + 1, a, x, he, h => by
    by_cases ha : a < 0
    · simp [upL, ha] at h
    · simp only [upL, if_neg ha] at h ⊢
      simp only [endsM, decide_eq_false ha, Bool.false_or] at he
      by_cases e : x = a
      · subst e
        refine ⟨0, by simp, ?_, by simp [ha]⟩
        simp [endsM, he]
      · have h' : x ∈ upL ps f (par ps a) := by
          rcases List.mem_cons.1 h with h | h
          · exact absurd h e
          · exact h
        obtain ⟨k, h1, h2, h3⟩ := way_drop ps f (par ps a) x he h'
        refine ⟨k + 1, by simpa using h1, ends_mono (by omega) h2, ?_⟩
        have := upL_more ps f 1 x h2
        simp only [upL] at this
        rw [this, h3]; simp

theorem way_self {ps : List Int} {f : Nat} {a : Int} (he : endsM ps f a = true) {k : Nat} (h : (upL ps f a)[k]? = some a) : k = 0 := by
  obtain ⟨k', h1, h2, h3⟩ := way_drop ps f a a he (List.mem_of_getElem? h)
  have hk : k < (upL ps f a).length := (List.getElem?_eq_some_iff.1 h).1
  cases k with
  | zero => rfl
  | succ k =>
    exfalso
    cases f with
    | zero => simp [upL] at hk
    | succ f =>
      by_cases ha : a < 0
      · simp [upL, ha] at hk
      · simp only [upL, if_neg ha] at h
        simp only [endsM, decide_eq_false ha, Bool.false_or] at he
        have h' : a ∈ upL ps f (par ps a) := by simpa using List.mem_of_getElem? (l := upL ps f (par ps a)) (i := k) (by simpa using h)
        obtain ⟨j, g1, g2, g3⟩ := way_drop ps f (par ps a) a he h'
        have e := upL_more ps f 1 a g2
        have e2 : (upL ps (f + 1) a).length = (upL ps f a).length := by rw [e]
        rw [g3] at e2
        simp only [upL, if_neg ha, List.length_cons, List.length_drop] at e2
        omega

theorem way_nodup (ps : List Int) : ∀ (f : Nat) (a : Int), endsM ps f a = true → (upL ps f a).Nodup
  | 0, a, _ => by simp [upL]
  | f + 1, a, he => by
    by_cases ha : a < 0
    · simp [upL, ha]
    · have he' := he
      simp only [endsM, decide_eq_false ha, Bool.false_or] at he
      have ih := way_nodup ps f (par ps a) he
      simp only [upL, if_neg ha]
      refine List.nodup_cons.2 ⟨fun hm => ?_, ih⟩
      obtain ⟨k, hk⟩ := List.getElem?_of_mem hm
      have := way_self he' (k := k + 1) (by simp only [upL, if_neg ha]; simpa using hk)
      omega

/-- Two nodes on each other's way are one. -/
theorem way_one {ps : List Int} {f : Nat} {a b : Int} (ha : endsM ps f a = true) (hb : endsM ps f b = true) (h : b ∈ upL ps f a) (h' : a ∈ upL ps f b) : a = b := by
  obtain ⟨k, h1, _, h3⟩ := way_drop ps f a b ha h
  obtain ⟨j, g1, _, g3⟩ := way_drop ps f b a hb h'
  have e1 : (upL ps f b).length = (upL ps f a).length - k := by rw [h3, List.length_drop]
  have e2 : (upL ps f a).length = (upL ps f b).length - j := by rw [g3, List.length_drop]
  have hk : k < (upL ps f a).length := (List.getElem?_eq_some_iff.1 h1).1
  have hk0 : k = 0 := by omega
  subst hk0
  cases f with
  | zero => simp [upL] at h
  | succ f =>
    by_cases hn : a < 0
    · simp [upL, hn] at h
    · simp [upL, hn] at h1
      exact h1

/-- The next node of a way is the parent. -/
theorem way_next (ps : List Int) : ∀ (f : Nat) (a : Int) (i : Nat) (x y : Int), (upL ps f a)[i]? = some x → (upL ps f a)[i + 1]? = some y → par ps x = y
  | 0, a, i, x, y, h, _ => by simp [upL] at h
  | f + 1, a, i, x, y, h, h' => by
    by_cases ha : a < 0
    · simp [upL, ha] at h
    · simp only [upL, if_neg ha, List.getElem?_cons_succ] at h h'
      cases i with
      | zero =>
        simp at h; subst h
        cases f with
        | zero => simp [upL] at h'
        | succ f =>
          by_cases hp : par ps a < 0
          · simp [upL, hp] at h'
          · simp [upL, hp] at h'; exact h'
      | succ i => exact way_next ps f (par ps a) i x y (by simpa using h) h'
/-- The last node of a way has no parent. -/
theorem way_last (ps : List Int) : ∀ (f : Nat) (a x : Int), endsM ps f a = true → (upL ps f a).getLast? = some x → par ps x < 0
  | 0, a, x, _, h => by simp [upL] at h
  | f + 1, a, x, he, h => by
    by_cases ha : a < 0
    · simp [upL, ha] at h
    · simp only [endsM, decide_eq_false ha, Bool.false_or] at he
      simp only [upL, if_neg ha] at h
      cases hq : upL ps f (par ps a) with
      | nil =>
        rw [hq] at h; simp at h; subst h
        cases f with
        | zero => simpa [endsM] using he
        | succ f =>
          by_cases hp : par ps a < 0
          · exact hp
          · simp [upL, hp] at hq
      | cons z zs =>
        rw [hq, List.getLast?_cons_cons, ← hq] at h
        exact way_last ps f (par ps a) x he h

/-- The nodes of a way that lie on another are the way from the first such node. -/
theorem way_common {ps : List Int} {f : Nat} {x y m : Int} (hx : endsM ps f x = true) (hy : endsM ps f y = true)
    (h : (upL ps f x).find? (fun n => decide (n ∈ upL ps f y)) = some m) :
    m ∈ upL ps f x ∧ m ∈ upL ps f y ∧ endsM ps f m = true ∧ (upL ps f x).filter (fun n => decide (n ∈ upL ps f y)) = upL ps f m := by
  obtain ⟨hm, P, S, e, hP⟩ := List.find?_eq_some_iff_append.1 h
  have hm' : m ∈ upL ps f y := by simpa using hm
  have hmx : m ∈ upL ps f x := by rw [e]; simp
  obtain ⟨k, k1, k2, k3⟩ := way_drop ps f x m hx hmx
  obtain ⟨j, j1, j2, j3⟩ := way_drop ps f y m hy hm'
  refine ⟨hmx, hm', k2, ?_⟩
  have nd := way_nodup ps f x hx
  have hk : k = P.length := by
    have h1 : (upL ps f x)[P.length]? = some m := by rw [e]; simp
    have hk := (List.getElem?_eq_some_iff.1 k1)
    have hp := (List.getElem?_eq_some_iff.1 h1)
    have pw := List.pairwise_iff_getElem.1 (List.nodup_iff_pairwise_ne.1 nd)
    rcases Nat.lt_trichotomy k P.length with q | q | q
    · exact absurd (by rw [hk.2, hp.2]) (pw _ _ hk.1 hp.1 q)
    · exact q
    · exact absurd (by rw [hk.2, hp.2]) (pw _ _ hp.1 hk.1 q)
  have e2 : upL ps f m = m :: S := by rw [k3, e, hk]; simp
  rw [e2]
  conv => lhs; arg 2; rw [e]
  rw [List.filter_append]
  have : P.filter (fun n => decide (n ∈ upL ps f y)) = [] := by
    rw [List.filter_eq_nil_iff]
    intro z hz
    have := hP z hz
    simpa using this
  rw [this, List.nil_append]
  refine List.filter_eq_self.2 fun z hz => ?_
  have hz' : z ∈ upL ps f m := by rw [e2]; exact hz
  rw [j3] at hz'
  simpa using List.mem_of_mem_drop hz'

theorem way_meet {ps : List Int} {f : Nat} {x y : Int} (hx : endsM ps f x = true) (hy : endsM ps f y = true) :
    (upL ps f y).find? (fun n => decide (n ∈ upL ps f x)) = (upL ps f x).find? (fun n => decide (n ∈ upL ps f y)) := by
  cases h : (upL ps f x).find? (fun n => decide (n ∈ upL ps f y)) with
  | none =>
    rw [List.find?_eq_none] at h ⊢
    intro z hz hz'
    exact h z (by simpa using hz') (by simpa using hz)
  | some m =>
    obtain ⟨a1, a2, a3, a4⟩ := way_common hx hy h
    cases h' : (upL ps f y).find? (fun n => decide (n ∈ upL ps f x)) with
    | none =>
      rw [List.find?_eq_none] at h'
      exact absurd (by simpa using a1) (h' m a2)
    | some m' =>
      obtain ⟨b1, b2, b3, b4⟩ := way_common hy hx h'
      congr 1
      refine way_one b3 a3 ?_ ?_
      · rw [← b4]; exact List.mem_filter.2 ⟨a2, by simpa using a1⟩
      · rw [← a4]; exact List.mem_filter.2 ⟨b2, by simpa using b1⟩
end Go.Pl
