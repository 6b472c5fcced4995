/-
  Regions that draw no order: the operations one after the other.
-/
import Derived.Test.YtdfbdbbjnihmaaaFwT
namespace Go.Fw
set_option linter.unusedVariables false
set_option linter.unusedSimpArgs false

def okGuard (N : Nat) (ops : Array Oper) : Option (Nat × Bool) → Option (Nat × Bool) → Bool
  | none, none => true
  | some (j, w), some (g, w') => w == w' && (match (ops[j]?).bind (·.dst) with | some t => t == g | none => false) && decide (g < N)
  | _, _ => false
def okDst (N : Nat) (fx : List Nat) : Option Nat → Option Nat → Bool
  | none, none => true
  | some t, some t' => t == t' && decide (t < N) && !fx.contains t
  | _, _ => false
def okOper (P : Program) (N : Nat) (fx : List Nat) (ops : Array Oper) (o : Oper) (m : MOper) : Bool :=
  okOp P o.op m.op && okDst N fx o.dst m.dst && okGuard N ops o.guard m.guard
def okOpers (P : Program) (N : Nat) (fx : List Nat) (ops : Array Oper) : List Oper → List MOper → Bool
  | [], [] => true
  | o :: l, m :: ms => okOper P N fx ops o m && okOpers P N fx ops l ms
  | _, _ => false

theorem okDst_get {N : Nat} {fx : List Nat} {d d' : Option Nat} (h : okDst N fx d d' = true) : d = d' ∧ ∀ t, d = some t → t < N ∧ t ∉ fx := by
  cases d <;> cases d' <;> simp [okDst] at h
  · exact ⟨rfl, by simp⟩
  · obtain ⟨⟨rfl, h⟩, h'⟩ := h; exact ⟨rfl, by simp [h, h']⟩

theorem okGuard_get {N : Nat} {ops : Array Oper} {j : Nat} {w : Bool} {gd : Option (Nat × Bool)} (h : okGuard N ops (some (j, w)) gd = true) :
    ∃ g, gd = some (g, w) ∧ (ops[j]?).bind (·.dst) = some g ∧ g < N := by
  cases gd with
  | none => simp [okGuard] at h
  | some p =>
    obtain ⟨g, w'⟩ := p
    simp only [okGuard, Bool.and_eq_true, beq_iff_eq, decide_eq_true_eq] at h
    obtain ⟨⟨rfl, h1⟩, h2⟩ := h
    split at h1
    · rename_i t ht; simp at h1; subst h1; exact ⟨_, rfl, ht, h2⟩
    · cases h1

theorem put_size (a : Act) (d : Option Nat) (v : Value) : (a.put d v).tmps.size = a.tmps.size := by
  cases d <;> simp [Act.put]
theorem put_defers (a : Act) (d : Option Nat) (v : Value) : (a.put d v).defers = a.defers := by
  cases d <;> simp [Act.put]

section
variable {P : Program} {N : FrS} {A : Nat → Prop} {w0 : World} {F0 : List Nat} {J0 : Imm} {g : Env} {s : MS} {a : Act} {w : World} {Q : Exit → Act → World → Prop}

theorem Rel.app {A' : Nat → Prop} {d : Option Nat} {v : Value} {m : MV} {u : Upd} {g' : Env} {w' : World} (h : Rel P N A w0 F0 J0 g s a w) (hd : ∀ t, d = some t → t < N.n ∧ t ∉ N.fx)
    (hg : g.le g') (hv : RV P g' v m) (hh : HRel P A' w0 F0 J0 g' (upds s.hp u) w') : Rel P N A' w0 F0 J0 g' (s.app d m u) (a.put d v) w' := by
  have hfix : ∀ t ∈ N.fx, (a.put d v).tmps.getD t undef = N.vals t := fun t ht => by
    cases d with
    | none => exact h.fix t ht
    | some d =>
      have e : d ≠ t := fun e => (hd d rfl).2 (e ▸ ht)
      rw [← h.fix t ht]
      simp [Act.put, Array.getD_eq_getD_getElem?, Array.getElem?_setIfInBounds_ne e]
  refine ⟨by rw [put_size]; exact h.size, hfix, by rw [put_defers]; exact h.defers, fun t m' ht => ?_, by cases d <;> exact hh⟩
  cases d with
  | none => exact RV.mono hg (h.slots t m' ht)
  | some d =>
    have hlt := (hd d rfl).1
    simp only [MS.app, MS.set, look_put] at ht
    by_cases e : d = t
    · subst e
      simp at ht; subst ht
      have : d < a.tmps.size := by rw [h.size]; exact hlt
      simpa [Act.put, Array.getD_eq_getD_getElem?, Array.getElem?_setIfInBounds, this] using hv
    · rw [if_neg e] at ht
      have := RV.mono hg (h.slots t m' ht)
      simpa [Act.put, Array.getD_eq_getD_getElem?, Array.getElem?_setIfInBounds_ne e] using this

theorem Rel.skip {d : Option Nat} (h : Rel P N A w0 F0 J0 g s a w) (hd : ∀ t, d = some t → t < N.n ∧ t ∉ N.fx) : Rel P N A w0 F0 J0 g (s.set d .un) (a.put d undef) w := by
  have := h.app (u := []) (A' := A) hd (Env.le.refl g) RV.un h.hp
  simpa [MS.app, upds] using this

theorem Rel.weaken {A' : Nat → Prop} (h : Rel P N A w0 F0 J0 g s a w) (hA : ∀ id, A' id → A id) : Rel P N A' w0 F0 J0 g s a w :=
  ⟨h.size, h.fix, h.defers, h.slots, h.hp.weaken hA⟩

theorem Rel.know {t : Nat} {x : Bool} (h : Rel P N A w0 F0 J0 g s a w) (hx : look s.fr t = some (.b x)) : a.tmps.getD t undef = .bool x := by
  have := h.slots t _ hx
  generalize a.tmps.getD t undef = v at this
  cases this; rfl

theorem Rel.refine {t : Nat} {x y : Bool} (h : Rel P N A w0 F0 J0 g s a w) (hx : look s.fr t = some (.b x)) (e : x = y) : Rel P N A w0 F0 J0 g (s.set (some t) (.b y)) a w := by
  subst e
  refine ⟨h.size, h.fix, h.defers, fun t' m ht => ?_, h.hp⟩
  simp only [MS.set, look_put] at ht
  by_cases e : t = t'
  · subst e; simp at ht; subst ht; exact h.slots _ _ hx
  · rw [if_neg e] at ht; exact h.slots _ _ ht

theorem yielded_b {ops : Array Oper} {j t : Nat} {x : Bool} (hj : (ops[j]?).bind (·.dst) = some t) (hv : a.tmps.getD t undef = .bool x) : yielded ops a.tmps j = some x := by
  have : a.tmps[t]? = some (.bool x) := by
    rw [Array.getD_eq_getD_getElem?] at hv
    cases ht : a.tmps[t]? with
    | none => rw [ht] at hv; cases hv
    | some y => rw [ht] at hv; simpa using hv
  simp [yielded, hj, this]

theorem yielded_un {ops : Array Oper} {j t : Nat} {x : Bool} (hj : (ops[j]?).bind (·.dst) = some t) (hv : a.tmps.getD t undef = undef) : (yielded ops a.tmps j == some x) = false := by
  unfold yielded
  rw [hj]
  simp only [Option.bind_some]
  cases ht : a.tmps[t]? with
  | none => rfl
  | some y =>
    have : y = undef := by rw [Array.getD_eq_getD_getElem?, ht] at hv; simpa using hv
    subst this; rfl

theorem look_of_val {t : Nat} {m : MV} (h : s.val (.t t) = m) (hm : m ≠ .u) : look s.fr t = some m := by
  simp only [MS.val] at h
  cases hl : look s.fr t with
  | none => rw [hl] at h; exact absurd h.symm hm
  | some x => rw [hl] at h; simpa using h

theorem mops_sound {ops : Array Oper} {K : MS → Prop} : ∀ (l : List Oper) (ms : List MOper) (n : Nat) (A : Nat → Prop) (s : MS) (g : Env) (a : Act) (w : World), okOpers P N.n N.fx ops l ms = true →
    (∀ id, n ≤ id → id < n + 64 * ms.length → A id) → Rel P N A w0 F0 J0 g s a w → mops P ms n s K →
    (∀ s' g' a' w', K s' → g.le g' → Rel P N (fun id => A id ∧ ¬(n ≤ id ∧ id < n + 64 * ms.length)) w0 F0 J0 g' s' a' w' → Q .normal a' w') → wpList P ops Q l a w := by
  intro l
  induction l with
  | nil =>
    intro ms n A s g a w hok hA h hm hq
    cases ms with
    | nil => exact hq s g a w hm (Env.le.refl g) (h.weaken fun _ x => x.1)
    | cons m ms => simp [okOpers] at hok
  | cons o l ih =>
    intro ms n A s g a w hok hA h hm hq
    cases ms with
    | nil => simp [okOpers] at hok
    | cons m ms =>
      simp only [okOpers, okOper, Bool.and_eq_true] at hok
      obtain ⟨⟨⟨h1, h2⟩, h3⟩, h4⟩ := hok
      obtain ⟨e2, h2⟩ := okDst_get h2
      have hlen : 64 * (m :: ms).length = 64 + 64 * ms.length := by simp; omega
      rw [hlen] at hA hq
      -- the rest, after the operation has been run or passed over
      have rest : ∀ (A' : Nat → Prop) (s' : MS) (g' : Env) (a' : Act) (w' : World), (∀ id, A' id ↔ (A id ∧ ¬(n ≤ id ∧ id < n + 64)) ∨ (A' = A ∧ A id)) → g.le g' → Rel P N A' w0 F0 J0 g' s' a' w' →
          mops P ms (n + 64) s' K → wpList P ops Q l a' w' := by
        intro A' s' g' a' w' hA' hg hr hk
        refine ih ms (n + 64) (fun id => A id ∧ ¬(n ≤ id ∧ id < n + 64)) s' g' a' w' h4 (fun id x y => ⟨hA id (by omega) (by omega), by omega⟩) (hr.weaken fun id x => (hA' id).2 (.inl x)) hk ?_
        intro s2 g2 a2 w2 hk2 hg2 hr2
        exact hq s2 g2 a2 w2 hk2 (hg.trans hg2) (hr2.weaken fun id x => ⟨⟨x.1, by omega⟩, by omega⟩)
      have run : ∀ (s1 : MS), s1.hp = s.hp → Rel P N A w0 F0 J0 g s1 a w → mop false P m.op n s1 (fun v u _ => mops P ms (n + 64) (s1.app m.dst v u) K) → o.wp P a w (wpList P ops Q l) Q := by
        intro s1 hs1 hr1 hm1
        refine mop_sound h1 (fun id x y => hA id x (by omega)) hr1 hm1 ?_
        intro v u rd g' w' x hk hg hv hh
        refine rest (fun id => A id ∧ ¬(n ≤ id ∧ id < n + 64)) (s1.app m.dst v u) g' _ w' (fun id => ⟨.inl, fun y => ?_⟩) hg ?_ hk
        · rcases y with y | y
          · exact y
          · have := congrFun y.1 id; rw [this]; exact y.2
        · rw [e2]; exact hr1.app (fun t ht => h2 t (e2 ▸ ht)) hg hv hh
      unfold wpList
      simp only [mops] at hm
      cases hgd : o.guard with
      | none =>
        rw [hgd] at h3
        have : m.guard = none := by
          cases hmg : m.guard with
          | none => rfl
          | some p => rw [hmg] at h3; simp [okGuard] at h3
        rw [this] at hm
        have hw : Region.wanted o (yielded ops a.tmps) = true := by simp [Region.wanted, hgd]
        simp only [hw, if_true]
        exact .inl (run s rfl h hm)
      | some p =>
        obtain ⟨j, want⟩ := p
        rw [hgd] at h3
        obtain ⟨t, ht, hj, hN⟩ := okGuard_get h3
        rw [ht] at hm
        simp only [] at hm
        split at hm
        · rename_i x hx
          have hl := look_of_val hx (by simp)
          have hy := yielded_b hj (h.know hl)
          by_cases e : x = want
          · have hw : Region.wanted o (yielded ops a.tmps) = true := by simp [Region.wanted, hgd, hy, e]
            simp only [hw, if_true]
            exact .inl (run (s.set (some t) (.b want)) rfl (h.refine hl e) (hm.1 e))
          · have e' : x = !want := by revert e; cases x <;> cases want <;> decide
            have hw : Region.wanted o (yielded ops a.tmps) = false := by simp [Region.wanted, hgd, hy, e]
            simp only [hw, Bool.false_eq_true, if_false]
            refine rest A _ g _ w (fun id => ⟨fun y => .inr ⟨rfl, y⟩, fun y => y.elim (·.1) (·.2)⟩) (Env.le.refl g) ?_ (hm.2 e')
            rw [e2]; exact (h.refine hl e').skip (fun t ht => h2 t (e2 ▸ ht))
        · rename_i hx
          have hl := look_of_val hx (by simp)
          have hu : a.tmps.getD t undef = undef := by
            have := h.slots t _ hl
            generalize a.tmps.getD t undef = v at this
            cases this; rfl
          have hw : Region.wanted o (yielded ops a.tmps) = false := by simp [Region.wanted, hgd, yielded_un hj hu]
          simp only [hw, Bool.false_eq_true, if_false]
          refine rest A _ g _ w (fun id => ⟨fun y => .inr ⟨rfl, y⟩, fun y => y.elim (·.1) (·.2)⟩) (Env.le.refl g) ?_ hm
          rw [e2]; exact h.skip (fun t ht => h2 t (e2 ▸ ht))
        · exact hm.elim

end
end Go.Fw
