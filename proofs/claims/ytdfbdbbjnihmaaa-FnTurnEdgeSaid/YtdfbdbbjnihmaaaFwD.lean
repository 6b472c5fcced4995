/-
  How a model state stands to a frame and a world, and what a new block, a store, a freeze do to that.
-/
import Derived.Test.YtdfbdbbjnihmaaaFwC
namespace Go.Fw
set_option linter.unusedVariables false
set_option linter.unusedSimpArgs false

def MO.live : MO → Bool
  | .fz .. => false
  | _ => true

def ORep (P : Program) (g : Env) (w : World) (id : Nat) : MO → Prop
  | .arr t k es => (∀ e ∈ es, e.length = k) ∧ ((es = [] ∧ g.inj id = none) ∨ ∃ l, g.inj id = some l ∧ BRep (g.im t) w l k es)
  | .fz t k es => (∀ e ∈ es, e.length = k) ∧ ((es = [] ∧ g.inj id = none) ∨ ∃ l, g.inj id = some l ∧ l.k = k ∧ ∃ (cs : Array Value) (E : TypeId) (z : Nat × Nat),
      g.im t l.b = some (.cells cs E z) ∧ l.base + l.C * k ≤ cs.size ∧ es.length ≤ l.C ∧
      ∀ i j, i < es.length → j < k → ∃ v, cs[l.base + i * k + j]? = some v ∧ DR (g.im t) v (cellD es i j))
  | .rm t k es C => (∀ e ∈ es, e.length = k) ∧ ∃ l, g.inj id = some l ∧ l.C = C ∧ BRep (g.im t) w l k es
  | .box cs => ∃ (l : Loc) (cells : Array Value) (E : TypeId), g.inj id = some l ∧ w.heap[l.b]? = some (.cells cells E (0, 0)) ∧ l.base + cs.length ≤ cells.size ∧
      (∀ v ∈ cells.toList, v.oneCell' = true) ∧ RVL P g ((cells.toList.drop l.base).take cs.length) cs

structure HRel (P : Program) (A : Nat → Prop) (w0 : World) (F0 : List Nat) (J0 : Imm) (g : Env) (hp : List (Nat × MO)) (w : World) : Prop where
  objs : ∀ id o, look hp id = some o → ORep P g w id o
  avail : ∀ id, A id → g.inj id = none ∧ look hp id = none
  sep : ∀ id1 id2 o1 o2 l1 l2, look hp id1 = some o1 → look hp id2 = some o2 → o1.live = true → o2.live = true → g.inj id1 = some l1 → g.inj id2 = some l2 → l1.b = l2.b → id1 = id2
  disj : ∀ id o l, look hp id = some o → o.live = true → g.inj id = some l → g.I l.b = none
  fresh : ∀ id o l, look hp id = some o → o.live = true → g.inj id = some l → w0.heap.size ≤ l.b ∨ l.b ∈ F0
  imm : ∀ b o, g.I b = some o → w.heap[b]? = some o
  JI : ∀ b o, g.J b = some o → g.I b = some o
  Jf : ∀ b o, g.J b = some o → J0 b = some o ∨ w0.heap.size ≤ b ∨ b ∈ F0
  ext : WExt w0 F0 w

/-- A frame: its size, the slots that are not written, what they hold. -/
structure FrS where
  n : Nat
  fx : List Nat
  vals : Nat → Value

structure Rel (P : Program) (N : FrS) (A : Nat → Prop) (w0 : World) (F0 : List Nat) (J0 : Imm) (g : Env) (s : MS) (a : Act) (w : World) : Prop where
  size : a.tmps.size = N.n
  fix : ∀ t ∈ N.fx, a.tmps.getD t undef = N.vals t
  defers : a.defers = []
  slots : ∀ t m, look s.fr t = some m → RV P g (a.tmps.getD t undef) m
  hp : HRel P A w0 F0 J0 g s.hp w

section
variable {P : Program} {N : FrS} {A : Nat → Prop} {w0 : World} {F0 : List Nat} {J0 : Imm} {g : Env} {hp : List (Nat × MO)} {w : World}

theorem HRel.weaken {A' : Nat → Prop} (h : HRel P A w0 F0 J0 g hp w) (hA : ∀ id, A' id → A id) : HRel P A' w0 F0 J0 g hp w :=
  ⟨h.objs, fun id x => h.avail id (hA id x), h.sep, h.disj, h.fresh, h.imm, h.JI, h.Jf, h.ext⟩

theorem HRel.cells_live (h : HRel P A w0 F0 J0 g hp w) {id o l} (h1 : look hp id = some o) (hl : o.live = true) (hi : g.inj id = some l) :
    ∃ (cs : Array Value) (E : TypeId), w.heap[l.b]? = some (.cells cs E (0, 0)) := by
  have := h.objs id o h1
  cases o with
  | arr t k es =>
    obtain ⟨_, ⟨_, h2⟩ | ⟨l', h2, _, cs, E, h3, _⟩⟩ := this
    · rw [hi] at h2; cases h2
    · rw [hi] at h2; cases h2; exact ⟨cs, E, h3⟩
  | fz => simp [MO.live] at hl
  | rm t k es C =>
    obtain ⟨_, l', h2, _, _, cs, E, h3, _⟩ := this
    rw [hi] at h2; cases h2; exact ⟨cs, E, h3⟩
  | box cs =>
    obtain ⟨l', cells, E, h2, h3, _⟩ := this
    rw [hi] at h2; cases h2; exact ⟨cells, E, h3⟩

theorem HRel.lt_live (h : HRel P A w0 F0 J0 g hp w) {id o l} (h1 : look hp id = some o) (hl : o.live = true) (hi : g.inj id = some l) : l.b < w.heap.size := by
  obtain ⟨cs, E, hc⟩ := h.cells_live h1 hl hi
  exact (Array.getElem?_eq_some_iff.1 hc).1

/-- A new number for a place. -/
def Env.at (g : Env) (n : Nat) (l : Loc) : Env := { g with inj := fun i => if i = n then some l else g.inj i }

theorem Env.le_at {g : Env} {n : Nat} {l : Loc} (h : g.inj n = none) : g.le (g.at n l) :=
  ⟨fun _ _ x => x, fun _ _ x => x, fun id l' x => by
    by_cases e : id = n
    · subst e; rw [h] at x; cases x
    · simp [Env.at, e, x]⟩

theorem ORep.move {g g' : Env} {w w' : World} {id : Nat} {o : MO} (h : ORep P g w id o) (hg : g.le g') (hn : g.inj id = none → g'.inj id = none)
    (hb : ∀ l, o.live = true → g.inj id = some l → w'.heap[l.b]? = w.heap[l.b]?) : ORep P g' w' id o := by
  cases o with
  | arr t k es =>
    obtain ⟨h0, ⟨h1, h2⟩ | ⟨l, h2, hk, cs, E, h3, h4, h5, h6⟩⟩ := h
    · exact ⟨h0, .inl ⟨h1, hn h2⟩⟩
    · refine ⟨h0, .inr ⟨l, hg.inj _ _ h2, hk, cs, E, by rw [hb l rfl h2]; exact h3, h4, h5, fun i j hi hj => ?_⟩⟩
      obtain ⟨v, hv, hr⟩ := h6 i j hi hj
      exact ⟨v, hv, hr.mono (hg.im t)⟩
  | fz t k es =>
    obtain ⟨h0, ⟨h1, h2⟩ | ⟨l, h2, hk, cs, E, z, h3, h4, h5, h6⟩⟩ := h
    · exact ⟨h0, .inl ⟨h1, hn h2⟩⟩
    · refine ⟨h0, .inr ⟨l, hg.inj _ _ h2, hk, cs, E, z, hg.im t _ _ h3, h4, h5, fun i j hi hj => ?_⟩⟩
      obtain ⟨v, hv, hr⟩ := h6 i j hi hj
      exact ⟨v, hv, hr.mono (hg.im t)⟩
  | rm t k es C =>
    obtain ⟨h0, l, h2, hC, hk, cs, E, h3, h4, h5, h6⟩ := h
    refine ⟨h0, l, hg.inj _ _ h2, hC, hk, cs, E, by rw [hb l rfl h2]; exact h3, h4, h5, fun i j hi hj => ?_⟩
    obtain ⟨v, hv, hr⟩ := h6 i j hi hj
    exact ⟨v, hv, hr.mono (hg.im t)⟩
  | box cs =>
    obtain ⟨l, cells, E, h2, h3, h4, h5, h6⟩ := h
    exact ⟨l, cells, E, hg.inj _ _ h2, by rw [hb l rfl h2]; exact h3, h4, h5, RVL.mono hg h6⟩

theorem WExt.alloc (w : World) (o : Obj) (F : List Nat) : WExt w F (w.alloc o) := by
  refine ⟨rfl, rfl, rfl, by simp, fun b hb _ => heap_alloc_old w o hb, fun b cs E z h => ⟨cs, ?_, rfl⟩⟩
  rw [heap_alloc_old w o (Array.getElem?_eq_some_iff.1 h).1]; exact h

/-- A new block. -/
theorem HRel.alloc (h : HRel P A w0 F0 J0 g hp w) {n : Nat} (hA : A n) {l : Loc} (hl : l.b = w.heap.size) {o : Obj} {mo : MO}
    (ho : ORep P (g.at n l) (w.alloc o) n mo) : HRel P (fun id => A id ∧ id ≠ n) w0 F0 J0 (g.at n l) (put hp n mo) (w.alloc o) := by
  obtain ⟨hinj, hlook⟩ := h.avail n hA
  have hle := Env.le_at (l := l) hinj
  have hold : ∀ id o l', look hp id = some o → o.live = true → g.inj id = some l' → l'.b < w.heap.size := fun id o l' a b c => h.lt_live a b c
  have hat : ∀ id, id ≠ n → (g.at n l).inj id = g.inj id := fun id hne => by simp [Env.at, hne]
  have hatn : (g.at n l).inj n = some l := by simp [Env.at]
  refine ⟨fun id o1 h1 => ?_, fun id hid => ?_, fun id1 id2 o1 o2 l1 l2 a1 a2 b1 b2 c1 c2 e => ?_, fun id o1 l1 a1 b1 c1 => ?_, fun id o1 l1 a1 b1 c1 => ?_, fun b o1 h1 => ?_, h.JI, h.Jf, ?_⟩
  · rw [look_put] at h1
    by_cases e : n = id
    · subst e; simp at h1; subst h1; exact ho
    · rw [if_neg e] at h1
      refine (h.objs id o1 h1).move hle (fun hn => by rw [hat id (Ne.symm e)]; exact hn) (fun l' hlv hi => heap_alloc_old w o (hold id o1 l' h1 hlv hi))
  · have := h.avail id hid.1
    rw [hat id hid.2, look_put, if_neg (Ne.symm hid.2)]; exact this
  · rw [look_put] at a1 a2
    by_cases e1 : n = id1
    · by_cases e2 : n = id2
      · exact e1.symm.trans e2
      · rw [if_neg e2] at a2
        subst e1
        rw [hatn] at c1; cases c1
        rw [hat id2 (Ne.symm e2)] at c2
        have := hold id2 o2 l2 a2 b2 c2
        omega
    · rw [if_neg e1] at a1
      rw [hat id1 (Ne.symm e1)] at c1
      by_cases e2 : n = id2
      · subst e2
        rw [hatn] at c2; cases c2
        have := hold id1 o1 l1 a1 b1 c1
        omega
      · rw [if_neg e2] at a2
        rw [hat id2 (Ne.symm e2)] at c2
        exact h.sep id1 id2 o1 o2 l1 l2 a1 a2 b1 b2 c1 c2 e
  · rw [look_put] at a1
    show g.I l1.b = none
    by_cases e1 : n = id
    · subst e1
      rw [hatn] at c1; cases c1
      cases hI : g.I l.b with
      | none => rfl
      | some ob =>
        have := h.imm _ _ hI
        have := (Array.getElem?_eq_some_iff.1 this).1
        omega
    · rw [if_neg e1] at a1
      rw [hat id (Ne.symm e1)] at c1
      exact h.disj id o1 l1 a1 b1 c1
  · rw [look_put] at a1
    by_cases e1 : n = id
    · subst e1
      rw [hatn] at c1; cases c1
      left; rw [hl]; exact h.ext.size
    · rw [if_neg e1] at a1
      rw [hat id (Ne.symm e1)] at c1
      exact h.fresh id o1 l1 a1 b1 c1
  · have h2 := h.imm b o1 h1
    rw [heap_alloc_old w o (Array.getElem?_eq_some_iff.1 h2).1]; exact h2
  · exact h.ext.trans (WExt.alloc w o F0) (fun b hb _ => hb)

/-- An object is dropped. -/
theorem HRel.kill (h : HRel P A w0 F0 J0 g hp w) (n : Nat) : HRel P A w0 F0 J0 g (del hp n) w := by
  have hd : ∀ id o, look (del hp n) id = some o → look hp id = some o := fun id o x => by
    rw [look_del] at x; by_cases e : n = id
    · simp [e] at x
    · simpa [e] using x
  exact ⟨fun id o x => h.objs id o (hd id o x), fun id x => ⟨(h.avail id x).1, by rw [look_del, (h.avail id x).2]; simp⟩,
    fun id1 id2 o1 o2 l1 l2 a1 a2 => h.sep id1 id2 o1 o2 l1 l2 (hd _ _ a1) (hd _ _ a2), fun id o l a1 => h.disj id o l (hd _ _ a1), fun id o l a1 => h.fresh id o l (hd _ _ a1), h.imm, h.JI, h.Jf, h.ext⟩

/-- An object of the call's own is written. -/
theorem HRel.write (h : HRel P A w0 F0 J0 g hp w) {n : Nat} {mo mo' : MO} {l : Loc} {w' : World} (h1 : look hp n = some mo) (hl : mo.live = true) (hi : g.inj n = some l)
    (hl' : mo'.live = true) (hw : WExt w [l.b] w') (ho : ORep P g w' n mo') : HRel P A w0 F0 J0 g (put hp n mo') w' := by
  have hoth : ∀ id o l', id ≠ n → look hp id = some o → o.live = true → g.inj id = some l' → w'.heap[l'.b]? = w.heap[l'.b]? := by
    intro id o l' hne a b c
    refine hw.block _ (h.lt_live a b c) (fun hm => hne ?_)
    exact h.sep id n o mo l' l a h1 b hl c hi (by simpa using hm)
  have hlk : ∀ id o, look (put hp n mo') id = some o → o.live = true → ∃ o', look hp id = some o' ∧ o'.live = true := by
    intro id o x hlv
    rw [look_put] at x
    by_cases e : n = id
    · subst e; exact ⟨mo, h1, hl⟩
    · rw [if_neg e] at x; exact ⟨o, x, hlv⟩
  refine ⟨fun id o x => ?_, fun id x => ?_, fun id1 id2 o1 o2 l1 l2 a1 a2 b1 b2 c1 c2 e => ?_, fun id o l1 a1 b1 c1 => ?_, fun id o l1 a1 b1 c1 => ?_, fun b o x => ?_, h.JI, h.Jf, ?_⟩
  · rw [look_put] at x
    by_cases e : n = id
    · subst e; simp at x; subst x; exact ho
    · rw [if_neg e] at x
      exact (h.objs id o x).move (Env.le.refl g) (fun y => y) (fun l' hlv c => hoth id o l' (Ne.symm e) x hlv c)
  · have ha := h.avail id x
    refine ⟨ha.1, ?_⟩
    rw [look_put]
    by_cases e : n = id
    · subst e; rw [ha.2] at h1; cases h1
    · rw [if_neg e]; exact ha.2
  · obtain ⟨p1, q1, r1⟩ := hlk _ _ a1 b1
    obtain ⟨p2, q2, r2⟩ := hlk _ _ a2 b2
    exact h.sep id1 id2 p1 p2 l1 l2 q1 q2 r1 r2 c1 c2 e
  · obtain ⟨p1, q1, r1⟩ := hlk _ _ a1 b1
    exact h.disj id p1 l1 q1 r1 c1
  · obtain ⟨p1, q1, r1⟩ := hlk _ _ a1 b1
    exact h.fresh id p1 l1 q1 r1 c1
  · have h2 := h.imm b o x
    rw [hw.block b (Array.getElem?_eq_some_iff.1 h2).1 (fun hm => ?_)]
    · exact h2
    · have := h.disj n mo l h1 hl hi
      rw [show b = l.b by simpa using hm, this] at x; cases x
  · refine h.ext.trans hw (fun b hb hlt => ?_)
    have : b = l.b := by simpa using hb
    subst this
    rcases h.fresh n mo l h1 hl hi with f | f
    · omega
    · exact f

/-- More memory is taken as not written. -/
def Env.freeze (g : Env) (t : Bool) (b : Nat) (o : Obj) : Env :=
  { g with I := fun c => if c = b then some o else g.I c, J := fun c => if t = true ∧ c = b then some o else g.J c }

theorem HRel.freeze (h : HRel P A w0 F0 J0 g hp w) {n : Nat} {t : Bool} {k : Nat} {es : List (List D)} (h1 : look hp n = some (.arr t k es)) :
    ∃ g', g.le g' ∧ g'.inj = g.inj ∧ HRel P A w0 F0 J0 g' (put hp n (.fz t k es)) w := by
  have hob := h.objs n _ h1
  have hput : ∀ id o, look (put hp n (.fz t k es)) id = some o → o.live = true → id ≠ n ∧ look hp id = some o := by
    intro id o x hlv
    rw [look_put] at x
    by_cases e : n = id
    · subst e; simp at x; subst x; simp [MO.live] at hlv
    · rw [if_neg e] at x; exact ⟨Ne.symm e, x⟩
  have hav : ∀ id, A id → look (put hp n (.fz t k es)) id = none := fun id x => by
    rw [look_put]
    by_cases e : n = id
    · subst e; rw [(h.avail _ x).2] at h1; cases h1
    · rw [if_neg e]; exact (h.avail id x).2
  obtain ⟨h0, ⟨he, h2⟩ | ⟨l, h2, hk, cs, E, h3, h4, h5, h6⟩⟩ := hob
  · refine ⟨g, Env.le.refl g, rfl, fun id o x => ?_, fun id x => ⟨(h.avail id x).1, hav id x⟩, fun id1 id2 o1 o2 l1 l2 a1 a2 b1 b2 => h.sep id1 id2 o1 o2 l1 l2 (hput _ _ a1 b1).2 (hput _ _ a2 b2).2 b1 b2,
      fun id o l a1 b1 => h.disj id o l (hput _ _ a1 b1).2 b1, fun id o l a1 b1 => h.fresh id o l (hput _ _ a1 b1).2 b1, h.imm, h.JI, h.Jf, h.ext⟩
    rw [look_put] at x
    by_cases e : n = id
    · subst e; simp at x; subst x; exact ⟨h0, .inl ⟨he, h2⟩⟩
    · rw [if_neg e] at x; exact h.objs id o x
  · have hIn : g.I l.b = none := h.disj n _ l h1 rfl h2
    have hJn : g.J l.b = none := by
      cases hJ : g.J l.b with
      | none => rfl
      | some o => have := h.JI _ _ hJ; rw [hIn] at this; cases this
    have hle : g.le (g.freeze t l.b (.cells cs E (0, 0))) := by
      refine ⟨fun b o x => ?_, fun b o x => ?_, fun _ _ x => x⟩
      · by_cases e : b = l.b
        · subst e; rw [hIn] at x; cases x
        · simp [Env.freeze, e, x]
      · by_cases e : b = l.b
        · subst e; rw [hJn] at x; cases x
        · simp [Env.freeze, e, x]
    refine ⟨g.freeze t l.b (.cells cs E (0, 0)), hle, rfl, fun id o x => ?_, fun id x => ⟨(h.avail id x).1, hav id x⟩,
      fun id1 id2 o1 o2 l1 l2 a1 a2 b1 b2 => h.sep id1 id2 o1 o2 l1 l2 (hput _ _ a1 b1).2 (hput _ _ a2 b2).2 b1 b2, fun id o l1 a1 b1 c1 => ?_,
      fun id o l1 a1 b1 => h.fresh id o l1 (hput _ _ a1 b1).2 b1, fun b o x => ?_, fun b o x => ?_, fun b o x => ?_, h.ext⟩
    · rw [look_put] at x
      by_cases e : n = id
      · subst e; simp at x; subst x
        refine ⟨h0, .inr ⟨l, h2, hk, cs, E, (0, 0), ?_, h4, h5, fun i j hi hj => ?_⟩⟩
        · cases t <;> simp [Env.im, Env.freeze]
        · obtain ⟨v, hv, hr⟩ := h6 i j hi hj
          exact ⟨v, hv, hr.mono (hle.im t)⟩
      · rw [if_neg e] at x
        exact (h.objs id o x).move hle (fun y => y) (fun _ _ _ => rfl)
    · have hp' := hput _ _ a1 b1
      have hne : l1.b ≠ l.b := fun e => hp'.1 (h.sep id n o _ l1 l hp'.2 h1 b1 rfl c1 h2 e)
      simp [Env.freeze, hne]; exact h.disj id o l1 hp'.2 b1 c1
    · by_cases e : b = l.b
      · subst e; simp [Env.freeze] at x; subst x; exact h3
      · simp [Env.freeze, e] at x; exact h.imm b o x
    · by_cases e : b = l.b
      · subst e
        cases t
        · simp [Env.freeze] at x; rw [hJn] at x; cases x
        · simpa [Env.freeze] using x
      · simp [Env.freeze, e] at x ⊢; exact h.JI b o x
    · by_cases e : b = l.b
      · subst e
        rcases h.fresh n _ l h1 rfl h2 with f | f
        · exact .inr (.inl f)
        · exact .inr (.inr f)
      · simp [Env.freeze, e] at x; exact h.Jf b o x
end
end Go.Fw
