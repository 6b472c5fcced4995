/-
  The operations that make memory or write it: variables, composite values, slices, stores.
-/
import Derived.Test.YtdfbdbbjnihmaaaFwH
namespace Go.Fw
set_option linter.unusedVariables false
set_option linter.unusedSimpArgs false

theorem splice_length {α : Type} : ∀ (xs cs : List α) (off : Nat), (splice cs off xs).length = cs.length
  | [], cs, off => rfl
  | x :: r, cs, off => by simp [splice, splice_length r]

theorem splice_get {α : Type} : ∀ (xs cs : List α) (off p : Nat), (splice cs off xs)[p]? = if off ≤ p ∧ p < off + xs.length ∧ p < cs.length then xs[p - off]? else cs[p]?
  | [], cs, off, p => by simp [splice]; intro h1 h2; omega
  | x :: r, cs, off, p => by
    rw [splice, splice_get r, List.length_set]
    by_cases h1 : off + 1 ≤ p ∧ p < off + 1 + r.length ∧ p < cs.length
    · rw [if_pos h1, if_pos (by simp; omega)]
      obtain ⟨q, rfl⟩ : ∃ q, p = off + 1 + q := ⟨p - (off + 1), by omega⟩
      rw [show off + 1 + q - (off + 1) = q by omega, show off + 1 + q - off = q + 1 by omega]; rfl
    · rw [if_neg h1, List.getElem?_set]
      by_cases h2 : off = p
      · subst h2
        by_cases h3 : off < cs.length
        · simp [h3]
        · simp [h3]
      · rw [if_neg h2]
        by_cases h3 : off ≤ p ∧ p < off + (x :: r).length ∧ p < cs.length
        · simp at h3; omega
        · rw [if_neg h3]

theorem RVL.splice {P : Program} {g : Env} : ∀ {us : List Value} {xs : List MV} {vs : List Value} {cs : List MV} (off : Nat), RVL P g us xs → RVL P g vs cs → RVL P g (splice vs off us) (Fw.splice cs off xs)
  | [], [], _, _, off, .nil, h => h
  | _ :: _, _ :: _, _, _, off, .cons _ _ _ _ h hs, k => RVL.splice (off + 1) hs (k.set off h)

theorem splice_one {α : Type} (p : α → Prop) : ∀ (xs cs : List α) (off : Nat), (∀ x ∈ xs, p x) → (∀ x ∈ cs, p x) → ∀ x ∈ splice cs off xs, p x
  | [], cs, off, _, h => h
  | x :: r, cs, off, h1, h2 => splice_one p r _ _ (fun y hy => h1 y (List.mem_cons_of_mem _ hy)) (fun y hy => by
      rcases List.mem_or_eq_of_mem_set hy with h | h
      · exact h2 y h
      · subst h; exact h1 _ (by simp))

theorem fold_splice (us : List Value) : ∀ (i : Nat) (off : Nat) (cs : Array Value),
    ((us.zipIdx i).foldl (fun cs (x : Value × Nat) => cs.setIfInBounds (off + x.2) x.1) cs).toList = splice cs.toList (off + i) us := by
  induction us with
  | nil => intro i off cs; rfl
  | cons u r ih =>
    intro i off cs
    rw [List.zipIdx_cons, List.foldl_cons, ih, Array.toList_setIfInBounds, splice]; rfl

section
variable {P : Program} {N : FrS} {A : Nat → Prop} {w0 : World} {F0 : List Nat} {J0 : Imm} {g : Env} {s : MS} {a : Act} {w : World} {hp : List (Nat × MO)}
variable {n : Nat} {o : Oper} {K : MK} {next : Act → World → Prop} {Q : Exit → Act → World → Prop}

theorem RV.cells {v : Value} {m : MV} {cs : List MV} (h : RV P g v m) (hc : m.cells = some cs) : RVL P g v.cells.toList cs ∧ ∀ x ∈ v.cells.toList, x.oneCell' = true := by
  have one : ∀ {v : Value} {m : MV}, RV P g v m → v.cells = #[v] → v.oneCell' = true → RVL P g v.cells.toList [m] ∧ ∀ x ∈ v.cells.toList, x.oneCell' = true := fun r e1 e2 => by
    rw [e1]; exact ⟨.cons _ _ _ _ r .nil, by simpa using e2⟩
  cases h with
  | agg vs _ hr h1 => simp [MV.cells] at hc; subst hc; exact ⟨hr, h1⟩
  | tup => simp [MV.cells] at hc
  | un => simp [MV.cells] at hc
  | u => simp [MV.cells] at hc
  | s t k es v hd =>
    simp [MV.cells] at hc; subst hc
    exact one (.s t k es v hd) (by cases hd <;> rfl) (by cases hd <;> rfl)
  | i => simp [MV.cells] at hc; subst hc; exact one (.i _ _) rfl rfl
  | b => simp [MV.cells] at hc; subst hc; exact one (.b _) rfl rfl
  | nl => simp [MV.cells] at hc; subst hc; exact one (.nl _ _) rfl rfl
  | sr id off len cap l hl h1 h2 => simp [MV.cells] at hc; subst hc; exact one (.sr _ _ _ _ l hl h1 h2) rfl rfl
  | sr0 => simp [MV.cells] at hc; subst hc; exact one (.sr0 _ _ _) rfl rfl
  | pr id i off l hl => simp [MV.cells] at hc; subst hc; exact one (.pr _ _ _ l hl) rfl rfl
  | pd t cs' off bb o cells E z vs hI hcc hr => simp [MV.cells] at hc; subst hc; exact one (.pd t cs' off bb o cells E z vs hI hcc hr) rfl rfl
  | fn f fv cv dom φ h0 hh => simp [MV.cells] at hc; subst hc; exact one (.fn f fv cv dom φ h0 hh) rfl rfl
  | pf bb o cells E z v dom φ hI hcc hh => simp [MV.cells] at hc; subst hc; exact one (.pf bb o cells E z v dom φ hI hcc hh) rfl rfl
  | clo f fv cv first caps h1 h2 => simp [MV.cells] at hc; subst hc; exact one (.clo f fv cv first caps h1 h2) rfl rfl

theorem WExt.drew (w : World) (F : List Nat) : WExt w F { w with drawn := w.drawn + 1 } := ⟨rfl, rfl, rfl, Nat.le_refl _, fun _ _ _ => rfl, fun _ cs _ _ h => ⟨cs, h, rfl⟩⟩

theorem HRel.drew (h : HRel P A w0 F0 J0 g hp w) : HRel P A w0 F0 J0 g hp { w with drawn := w.drawn + 1 } :=
  ⟨fun id o x => (h.objs id o x).move (Env.le.refl g) (fun y => y) (fun _ _ _ => rfl), h.avail, h.sep, h.disj, h.fresh, h.imm, h.JI, h.Jf, h.ext.trans (WExt.drew w F0) (fun _ hb _ => hb)⟩

/-- An object is laid at a place that no other one holds; nothing but its block has turned. -/
theorem HRel.adopt (h : HRel P A w0 F0 J0 g hp w) {n : Nat} (hA : A n) {l : Loc} {mo : MO} {w' : World} (hfree : ∀ id o l1, look hp id = some o → o.live = true → g.inj id = some l1 → l1.b ≠ l.b)
    (hI : g.I l.b = none) (hfr : w0.heap.size ≤ l.b ∨ l.b ∈ F0) (hw : WExt w [l.b] w')
    (ho : ORep P (g.at n l) w' n mo) : HRel P (fun id => A id ∧ id ≠ n) w0 F0 J0 (g.at n l) (put hp n mo) w' := by
  obtain ⟨hinj, hlook⟩ := h.avail n hA
  have hle := Env.le_at (l := l) hinj
  have hat : ∀ id, id ≠ n → (g.at n l).inj id = g.inj id := fun id hne => by simp [Env.at, hne]
  have hatn : (g.at n l).inj n = some l := by simp [Env.at]
  have hold : ∀ id o l', look hp id = some o → o.live = true → g.inj id = some l' → w'.heap[l'.b]? = w.heap[l'.b]? := fun id o l' a b c =>
    hw.block _ (h.lt_live a b c) (fun hm => hfree id o l' a b c (by simpa using hm))
  refine ⟨fun id o1 h1 => ?_, fun id hid => ?_, fun id1 id2 o1 o2 l1 l2 a1 a2 b1 b2 c1 c2 e => ?_, fun id o1 l1 a1 b1 c1 => ?_, fun id o1 l1 a1 b1 c1 => ?_, fun b o1 h1 => ?_, h.JI, h.Jf, ?_⟩
  · rw [look_put] at h1
    by_cases e : n = id
    · subst e; simp at h1; subst h1; exact ho
    · rw [if_neg e] at h1
      exact (h.objs id o1 h1).move hle (fun hn => by rw [hat id (Ne.symm e)]; exact hn) (fun l' hlv hi => hold id o1 l' h1 hlv hi)
  · have := h.avail id hid.1
    rw [hat id hid.2, look_put, if_neg (Ne.symm hid.2)]; exact this
  · rw [look_put] at a1 a2
    by_cases e1 : n = id1
    · by_cases e2 : n = id2
      · exact e1.symm.trans e2
      · rw [if_neg e2] at a2
        subst e1
        rw [hatn] at c1; cases c1
        rw [hat id2 (Ne.symm e2)] at c2
        exact absurd e.symm (hfree id2 o2 l2 a2 b2 c2)
    · rw [if_neg e1] at a1
      rw [hat id1 (Ne.symm e1)] at c1
      by_cases e2 : n = id2
      · subst e2
        rw [hatn] at c2; cases c2
        exact absurd e (hfree id1 o1 l1 a1 b1 c1)
      · rw [if_neg e2] at a2
        rw [hat id2 (Ne.symm e2)] at c2
        exact h.sep id1 id2 o1 o2 l1 l2 a1 a2 b1 b2 c1 c2 e
  · rw [look_put] at a1
    show g.I l1.b = none
    by_cases e1 : n = id
    · subst e1; rw [hatn] at c1; cases c1; exact hI
    · rw [if_neg e1] at a1
      rw [hat id (Ne.symm e1)] at c1
      exact h.disj id o1 l1 a1 b1 c1
  · rw [look_put] at a1
    by_cases e1 : n = id
    · subst e1; rw [hatn] at c1; cases c1; exact hfr
    · rw [if_neg e1] at a1
      rw [hat id (Ne.symm e1)] at c1
      exact h.fresh id o1 l1 a1 b1 c1
  · have h2 := h.imm b o1 h1
    rw [hw.block b (Array.getElem?_eq_some_iff.1 h2).1 (fun hm => ?_)]
    · exact h2
    · have h1' : g.I b = some o1 := h1
      rw [show b = l.b by simpa using hm, hI] at h1'; cases h1'
  · refine h.ext.trans hw (fun b hb hlt => ?_)
    have : b = l.b := by simpa using hb
    subst this
    rcases hfr with f | f
    · omega
    · exact f

/-- A slice, read. -/
theorem HRel.slice (h : HRel P A w0 F0 J0 g s.hp w) {v : Value} {m : MV} (hv : RV P g v m) {t : Bool} {k : Nat} {ys : List (List D)} {rs : List Nat} (hs : sliceOf s m = some (t, k, ys, rs)) :
    (∀ e ∈ ys, e.length = k) ∧ ∃ p len cap, v = .slice p len cap ∧ len = ys.length ∧ len ≤ cap ∧
      (ys = [] ∨ ∃ (b q : Nat) (cs : Array Value) (E : TypeId) (z : Nat × Nat), p = some ⟨b, q, none⟩ ∧ w.heap[b]? = some (.cells cs E z) ∧
        (∀ i j, i < ys.length → j < k → ∃ u, cs[q + i * k + j]? = some u ∧ DR (g.im t) u (cellD ys i j)) ∧
        (g.I b ≠ none ∨ ∃ id o l, id ∈ rs ∧ look s.hp id = some o ∧ o.live = true ∧ g.inj id = some l ∧ l.b = b)) := by
  cases m <;> simp [sliceOf] at hs
  case s t' k' es =>
    obtain ⟨rfl, rfl, rfl, rfl⟩ := hs
    cases hv with
    | s _ _ _ _ hd =>
      cases hd with
      | a0 p c => exact ⟨by simp, p, _, _, rfl, rfl, Nat.zero_le _, .inl rfl⟩
      | a b off cap len cs E z _ _ vs hI hlen hk hcap hc hr =>
        have hI' : g.I b = some (.cells cs E z) := by
          cases t'
          · exact hI
          · exact h.JI _ _ hI
        exact ⟨hk, _, len, cap, rfl, hlen, hcap, .inr ⟨b, off, cs, E, z, rfl, h.imm _ _ hI', fun i j hi hj => ⟨vs i j, hc i j hi hj, hr i j hi hj⟩, .inl (by rw [hI']; simp)⟩⟩
  case nl k' =>
    obtain ⟨rfl, rfl, rfl, rfl⟩ := hs
    cases hv with
    | nl p => exact ⟨by simp, p, _, _, rfl, rfl, Nat.le_refl _, .inl rfl⟩
  case sr id off len =>
    have key : ∀ (t' : Bool) (k' : Nat) (es : List (List D)), (s.obj id = some (.arr t' k' es) ∨ s.obj id = some (.fz t' k' es)) → off + len ≤ es.length →
        (∀ e ∈ (es.drop off).take len, e.length = k') ∧ ∃ p len' cap, v = .slice p len' cap ∧ len' = ((es.drop off).take len).length ∧ len' ≤ cap ∧
        ((es.drop off).take len = [] ∨ ∃ (b q : Nat) (cs : Array Value) (E : TypeId) (z : Nat × Nat), p = some ⟨b, q, none⟩ ∧ w.heap[b]? = some (.cells cs E z) ∧
        (∀ i j, i < ((es.drop off).take len).length → j < k' → ∃ u, cs[q + i * k' + j]? = some u ∧ DR (g.im t') u (cellD ((es.drop off).take len) i j)) ∧
        (g.I b ≠ none ∨ ∃ i o l, i ∈ [id] ∧ look s.hp i = some o ∧ o.live = true ∧ g.inj i = some l ∧ l.b = b)) := by
      intro t' k' es hob hle
      have hl : ((es.drop off).take len).length = len := by simp; omega
      have hkk : ∀ e ∈ es, e.length = k' := by
        rcases hob with hob | hob
        · exact (h.objs id _ hob).1
        · exact (h.objs id _ hob).1
      refine ⟨fun e he => hkk e (List.mem_of_mem_drop (List.mem_of_mem_take he)), ?_⟩
      cases hv with
      | sr0 p => exact ⟨p, _, _, rfl, hl.symm, Nat.le_refl _, .inl (by simp)⟩
      | sr _ _ _ cap l hl' h1 h2 =>
        refine ⟨_, _, cap, rfl, hl.symm, h2, ?_⟩
        by_cases he : es = []
        · left; subst he; simp
        · right
          have get : ∃ (cs : Array Value) (E : TypeId) (z : Nat × Nat), w.heap[l.b]? = some (.cells cs E z) ∧ l.k = k' ∧ (∀ i j, i < es.length → j < k' → ∃ u, cs[l.base + i * k' + j]? = some u ∧ DR (g.im t') u (cellD es i j)) ∧
              (g.I l.b ≠ none ∨ ∃ i o l1, i ∈ [id] ∧ look s.hp i = some o ∧ o.live = true ∧ g.inj i = some l1 ∧ l1.b = l.b) := by
            rcases hob with hob | hob
            · obtain ⟨_, ⟨h3, _⟩ | ⟨l', h3, hk, cs, E, h4, _, _, h6⟩⟩ := h.objs id _ hob
              · exact absurd h3 he
              · rw [hl'] at h3; cases h3; exact ⟨cs, E, _, h4, hk, h6, .inr ⟨id, _, l, by simp, hob, rfl, hl', rfl⟩⟩
            · obtain ⟨_, ⟨h3, _⟩ | ⟨l', h3, hk, cs, E, z, h4, _, _, h6⟩⟩ := h.objs id _ hob
              · exact absurd h3 he
              · rw [hl'] at h3; cases h3
                have hI' : g.I l.b = some (.cells cs E z) := by
                  cases t'
                  · exact h4
                  · exact h.JI _ _ h4
                exact ⟨cs, E, z, h.imm _ _ hI', hk, h6, .inl (by rw [hI']; simp)⟩
          obtain ⟨cs, E, z, h4, hk, h6, hwh⟩ := get
          refine ⟨l.b, l.base + off * l.k, cs, E, z, rfl, h4, fun i j hi hj => ?_, hwh⟩
          rw [hl] at hi
          obtain ⟨u, hu, hr⟩ := h6 (off + i) j (by omega) hj
          refine ⟨u, ?_, ?_⟩
          · rw [← hu, hk, Nat.add_mul]; congr 1; omega
          · have : cellD ((es.drop off).take len) i j = cellD es (off + i) j := by
              simp [cellD, List.getD, List.getElem?_take_of_lt hi]
            rw [this]; exact hr
    split at hs
    · rename_i t' k' es hob
      simp at hs
      obtain ⟨hle, rfl, rfl, rfl, rfl⟩ := hs
      exact key _ _ _ (.inl hob) hle
    · rename_i t' k' es hob
      simp at hs
      obtain ⟨hle, rfl, rfl, rfl, rfl⟩ := hs
      exact key _ _ _ (.inr hob) hle
    · simp at hs

/-- A bound's value. -/
def bdV (a : Act) (op : Option Operand) (d l : Nat) : Prop :=
  match op with
  | none => l = d
  | some p => ∃ kk, a.eval p = .int kk l

theorem notin_weak (h : HRel P (fun id => A id ∧ id ≠ n) w0 F0 J0 g hp w) : HRel P (fun id => A id ∧ ¬(n ≤ id ∧ id < n + 64)) w0 F0 J0 g hp w :=
  h.weaken (fun id x => ⟨x.1, fun e => x.2 ⟨by omega, by omega⟩⟩)

/-- A new variable. -/
theorem HRel.newBox (h : HRel P A w0 F0 J0 g hp w) (hA : A n) (T : TypeId) {vs : Array Value} {cs : List MV} (hr : RVL P g vs.toList cs) (h1 : ∀ x ∈ vs.toList, x.oneCell' = true) :
    ∃ g', g.le g' ∧ RV P g' (.pointer (some ⟨w.heap.size, 0, none⟩)) (.pr n 0 0) ∧ HRel P (fun id => A id ∧ id ≠ n) w0 F0 J0 g' (put hp n (.box cs)) (w.alloc (.cells vs T (0, 0))) := by
  have hinj := (h.avail n hA).1
  have hle := Env.le_at (l := ⟨w.heap.size, 0, 1, 1⟩) hinj
  refine ⟨g.at n ⟨w.heap.size, 0, 1, 1⟩, hle, ?_, h.alloc hA rfl (o := .cells vs T (0, 0)) ⟨⟨w.heap.size, 0, 1, 1⟩, vs, T, by simp [Env.at], heap_alloc_new w _, ?_, h1, ?_⟩⟩
  · have := RV.pr (P := P) (g := g.at n ⟨w.heap.size, 0, 1, 1⟩) n 0 0 ⟨w.heap.size, 0, 1, 1⟩ (by simp [Env.at])
    simpa using this
  · have := hr.length; simp at this; simp; omega
  · have hl := hr.length
    have := RVL.mono hle hr
    simp only [List.drop_zero]
    rw [← hl, List.take_length]; exact this

theorem S.box {T : TypeId} {x : Operand} {x' : Opd} {k : Nat} (ho : o.op = .box T x) (hx : okOpd x x' = true) (hA : ∀ id, n ≤ id → id < n + 64 → A id)
    (h : Rel P N A w0 F0 J0 g s a w) (hm : mop false P (.box k x') n s K) (hn : Goes P A w0 F0 J0 g s.hp n o a K next) : o.wp P a w next Q := by
  have rx := h.val hx
  simp only [mop] at hm
  split at hm
  · rename_i cs hb
    obtain ⟨hc, h1⟩ := rx.cells hb
    obtain ⟨g', hg, hv, hh⟩ := h.hp.newBox (hA n (Nat.le_refl _) (by omega)) T hc h1
    refine wp_val (v := .pointer (some ⟨w.heap.size, 0, none⟩)) (w' := w.alloc (.cells (a.eval x).cells T (0, 0))) ?_ (hn _ _ _ g' _ _ hm.2 hg hv (notin_weak hh))
    simp [execOp, ho, Instr.box, newVar, newRow]
  · exact hm.elim

theorem S.alloc {T : TypeId} {cs : List MV} {inf : TypeInfo} {z : Value} (ho : o.op = .alloc T) (hi : P.info? T = some inf) (hz : inf.zero = some z) (hc : cOKs z.cells.toList cs = true)
    (hA : ∀ id, n ≤ id → id < n + 64 → A id)
    (h : Rel P N A w0 F0 J0 g s a w) (hm : mop false P (.alloc cs) n s K) (hn : Goes P A w0 F0 J0 g s.hp n o a K next) : o.wp P a w next Q := by
  simp only [mop] at hm
  obtain ⟨hr, h1⟩ := cOKs_RV (P := P) (g := g) hc
  obtain ⟨g', hg, hv, hh⟩ := h.hp.newBox (hA n (Nat.le_refl _) (by omega)) T hr h1
  refine wp_val (v := .pointer (some ⟨w.heap.size, 0, none⟩)) (w' := w.alloc (.cells z.cells T (0, 0))) ?_ (hn _ _ _ g' _ _ hm hg hv (notin_weak hh))
  simp [execOp, ho, Instr.alloc, zeroValue, typeInfo, hi, hz, newVar, newRow]

theorem S.slice {T e : TypeId} {x : Operand} {x' : Opd} {lo hi : Option Operand} {lo' hi' : Option Opd} {inf : TypeInfo} {k : Nat} (ho : o.op = .slice T x lo hi none) (hx : okOpd x x' = true)
    (hlo : okOO lo lo' = true) (hhi : okOO hi hi' = true)
    (ht : P.underlying T = some (.slice e)) (hi0 : P.info? e = some inf) (hk : inf.size = k)
    (h : Rel P N A w0 F0 J0 g s a w) (hm : mop false P (.slice k x' lo' hi') n s K) (hn : Goes P A w0 F0 J0 g s.hp n o a K next) : o.wp P a w next Q := by
  have rx := h.val hx
  simp only [mop] at hm
  have hadd : ∀ (p : Option Addr) (c d : Nat), p.map (·.add (c + d)) = (p.map (·.add c)).map (·.add d) := by
    intro p c d
    cases p with
    | none => rfl
    | some p =>
      obtain ⟨b, q, sp⟩ := p
      by_cases hc : c = 0
      · subst hc; simp [Addr.add]
      · by_cases hd : d = 0
        · subst hd; simp [Addr.add]
        · simp [Addr.add, hc, hd, Nat.add_assoc]
  have bnd : ∀ (d : Nat) (op : Option Operand) (op' : Option Opd) (Kb : Nat → Prop), okOO op op' = true → bound s d op' Kb →
      ∃ l, Kb l ∧ bdV a op d l := by
    intro d op op' Kb hop hb
    cases op with
    | none =>
      cases op' with
      | none => exact ⟨d, hb, rfl⟩
      | some => cases hop
    | some p =>
      cases op' with
      | none => cases hop
      | some q =>
        simp only [bound] at hb
        have rp := h.val hop
        split at hb
        · rename_i kk z hz
          rw [hz] at rp
          generalize hv : a.eval p = v at rp
          cases rp
          exact ⟨z.toNat, hb.2, kk, by rw [show ((z.toNat : Nat) : Int) = z by omega]; exact hv⟩
        · exact hb.elim
  have hrun : ∀ {p : Option Addr} {len cap l hh : Nat}, a.eval x = .slice p len cap → len ≤ cap → l ≤ hh → hh ≤ cap →
      bdV a lo 0 l → bdV a hi len hh →
      (execOp a.eval o).run P w = .ok (.value (.slice (if cap = l then p else p.map (·.add (l * k))) (hh - l) (cap - l))) w := by
    intro p len cap l hh e1 e2 e3 e4 e5 e6
    have hlc : hh ≤ cap := e4
    have hlc' : l ≤ cap := by omega
    cases lo with
    | none =>
      simp only [bdV] at e5; subst e5
      cases hi with
      | none =>
        simp only [bdV] at e6; subst e6
        simp [execOp, ho, e1, Instr.sliceAt, run_underlying ht, Instr.slice, Instr.sliceBounds, sizeOf, typeInfo, hi0, hk]
      | some q =>
        obtain ⟨kk, e6⟩ := e6
        simp [execOp, ho, e1, Instr.sliceAt, run_underlying ht, Instr.slice, Instr.sliceBounds, Instr.sliceBound, asIntOf, e6, hlc, sizeOf, typeInfo, hi0, hk]
    | some q =>
      obtain ⟨kk, e5⟩ := e5
      cases hi with
      | none =>
        simp only [bdV] at e6; subst e6
        simp [execOp, ho, e1, Instr.sliceAt, run_underlying ht, Instr.slice, Instr.sliceBounds, Instr.sliceBound, asIntOf, e5, e3, sizeOf, typeInfo, hi0, hk]
      | some r =>
        obtain ⟨kk', e6⟩ := e6
        simp [execOp, ho, e1, Instr.sliceAt, run_underlying ht, Instr.slice, Instr.sliceBounds, Instr.sliceBound, asIntOf, e5, e6, hlc, e3, sizeOf, typeInfo, hi0, hk]
  split at hm
  · rename_i id off len hb
    rw [hb] at rx
    generalize hv : a.eval x = v at rx
    have key : ∀ k', (∀ l, g.inj id = some l → l.k = k') → k' = k → (bound s 0 lo' fun l => bound s len hi' fun hh => l ≤ hh ∧ hh ≤ len ∧ K (.sr id (off + l) (hh - l)) [] [id]) → o.wp P a w next Q := by
      intro k' hlk e1 hbb
      obtain ⟨l, hbb, el⟩ := bnd _ _ _ _ hlo hbb
      obtain ⟨hh, ⟨e3, e4, hK⟩, eh⟩ := bnd _ _ _ _ hhi hbb
      cases rx with
      | sr _ _ _ cap lc hl h1 h2 =>
        have hkk := hlk lc hl
        by_cases ec : cap = l
        · refine hn.same h hK ?_ (hrun hv h2 e3 (by omega) el eh)
          have : hh - l = 0 := by omega
          rw [this, show cap - l = 0 by omega]; exact .sr0 _ _ _
        · refine hn.same h hK (v := .slice (some ⟨lc.b, lc.base + (off + l) * lc.k, none⟩) (hh - l) (cap - l)) (.sr _ _ _ (cap - l) lc hl (by omega) (by omega)) ?_
          rw [hrun hv h2 e3 (by omega) el eh, if_neg ec]
          have : (⟨lc.b, lc.base + off * lc.k, none⟩ : Addr).add (l * k) = ⟨lc.b, lc.base + (off + l) * lc.k, none⟩ := by
            rw [hkk, e1, Nat.add_mul]
            by_cases e0 : l * k = 0
            · simp [Addr.add, e0]
            · simp [Addr.add, e0]; omega
          simp [this]
      | sr0 p =>
        refine hn.same h hK ?_ (hrun hv (Nat.le_refl _) e3 e4 el eh)
        have : hh - l = 0 := by omega
        rw [this, show 0 - l = 0 by omega]; exact .sr0 _ _ _
    split at hm
    · rename_i t k' es hob
      refine key k' (fun l hl => ?_) hm.1 hm.2
      obtain ⟨_, ⟨_, h2⟩ | ⟨l', h2, hk', _⟩⟩ := h.hp.objs id _ hob
      · rw [hl] at h2; cases h2
      · rw [hl] at h2; cases h2; exact hk'
    · rename_i t k' es hob
      refine key k' (fun l hl => ?_) hm.1 hm.2
      obtain ⟨_, ⟨_, h2⟩ | ⟨l', h2, hk', _⟩⟩ := h.hp.objs id _ hob
      · rw [hl] at h2; cases h2
      · rw [hl] at h2; cases h2; exact hk'
    · rename_i t k' es C hob
      obtain ⟨_, l', h2, hC, hk', _⟩ := h.hp.objs id _ hob
      obtain ⟨e1, hlen0, hbb⟩ := hm
      obtain ⟨l, hbb, el⟩ := bnd _ _ _ _ hlo hbb
      obtain ⟨hh, ⟨e3, e4, hK⟩, eh⟩ := bnd _ _ _ _ hhi hbb
      cases rx with
      | sr _ _ _ cap lc hl h1 h2' =>
        rw [hl] at h2; cases h2
        have hle2 := h2'
        have e4' : hh ≤ cap := by omega
        by_cases ec : cap = l
        · refine hn.same h hK ?_ (hrun hv h2' e3 e4' el eh)
          have : hh - l = 0 := by omega
          rw [this, show cap - l = 0 by omega]; exact .sr0 _ _ _
        · refine hn.same h hK (v := .slice (some ⟨l'.b, l'.base + (off + l) * l'.k, none⟩) (hh - l) (cap - l)) (.sr _ _ _ (cap - l) l' hl (by omega) (by omega)) ?_
          rw [hrun hv h2' e3 e4' el eh, if_neg ec]
          have : (⟨l'.b, l'.base + off * l'.k, none⟩ : Addr).add (l * k) = ⟨l'.b, l'.base + (off + l) * l'.k, none⟩ := by
            rw [hk', e1, Nat.add_mul]
            by_cases e0 : l * k = 0
            · simp [Addr.add, e0]
            · simp [Addr.add, e0]; omega
          simp [this]
      | sr0 p => omega
    · exact hm.elim
  · rename_i t k' es hb
    rw [hb] at rx
    generalize hv : a.eval x = v at rx
    obtain ⟨rfl, hbb⟩ := hm
    obtain ⟨l, hbb, el⟩ := bnd _ _ _ _ hlo hbb
    obtain ⟨hh, ⟨e3, e4, hK⟩, eh⟩ := bnd _ _ _ _ hhi hbb
    have hl2 : ((es.drop l).take (hh - l)).length = hh - l := by simp; omega
    cases rx with
    | s _ _ _ _ hd =>
      cases hd with
      | a0 p c =>
        refine hn.same h hK ?_ (hrun hv (Nat.zero_le _) e3 (by simp at e4; omega) el eh)
        have : hh - l = 0 := by simp at e4; omega
        rw [this]; refine .s _ _ _ _ ?_
        rw [List.take_zero]; exact .a0 _ _ _
      | a b off cap len cs E z _ _ vs hI hlen hkk hcap hc hr =>
        subst hlen
        by_cases ec : cap = l
        · refine hn.same h hK ?_ (hrun hv hcap e3 (by omega) el eh)
          have : hh - l = 0 := by omega
          rw [this]; refine .s _ _ _ _ ?_
          rw [List.take_zero]; exact .a0 _ _ _
        · refine hn.same h hK (v := .slice (some ⟨b, off + l * k', none⟩) (hh - l) (cap - l)) ?_ ?_
          · refine .s _ _ _ _ (.a b (off + l * k') (cap - l) (hh - l) cs E z _ _ (fun i j => vs (l + i) j) hI hl2.symm (fun e he => hkk e (List.mem_of_mem_drop (List.mem_of_mem_take he))) (by omega) (fun i j hi hj => ?_) (fun i j hi hj => ?_))
            · rw [hl2] at hi
              rw [← hc (l + i) j (by omega) hj, Nat.add_mul]; congr 1; omega
            · rw [hl2] at hi
              have : cellD ((es.drop l).take (hh - l)) i j = cellD es (l + i) j := by
                simp [cellD, List.getD, List.getElem?_take_of_lt hi]
              rw [this]; exact hr (l + i) j (by omega) hj
          · rw [hrun hv hcap e3 (by omega) el eh, if_neg ec]
            have : (⟨b, off, none⟩ : Addr).add (l * k') = ⟨b, off + l * k', none⟩ := by
              by_cases e0 : l * k' = 0
              · simp [Addr.add, e0]
              · simp [Addr.add, e0]
            simp [this]
  · rename_i k' hb
    rw [hb] at rx
    generalize hv : a.eval x = v at rx
    obtain ⟨l, hbb, el⟩ := bnd _ _ _ _ hlo hm
    obtain ⟨hh, ⟨rfl, rfl, hK⟩, eh⟩ := bnd _ _ _ _ hhi hbb
    cases rx with
    | nl p => exact hn.same h hK (.nl _ _) (by rw [hrun hv (Nat.le_refl _) (Nat.le_refl _) (Nat.le_refl _) el eh])
  · exact hm.elim
end
end Go.Fw
