/-
  Composite values, literals of slices.
-/
import Derived.Test.YtdfbdbbjnihmaaaFwK
import Derived.Great.BuildSlice
namespace Go.Fw
set_option linter.unusedVariables false
set_option linter.unusedSimpArgs false
section
variable {P : Program} {N : FrS} {A : Nat → Prop} {w0 : World} {F0 : List Nat} {J0 : Imm} {g : Env} {s : MS} {a : Act} {w : World} {hp : List (Nat × MO)}
variable {n : Nat} {o : Oper} {K : MK} {next : Act → World → Prop} {Q : Exit → Act → World → Prop}

/-- The parts of a composite value: each operand, its place. -/
def okParts (place : Nat → Option (Nat × Nat)) : List (Nat × Operand) → List (Nat × Nat × Opd) → Bool
  | [], [] => true
  | (i, x) :: r, (off, k, y) :: r' => decide (place i = some (off, k)) && okOpd x y && okParts place r r'
  | _, _ => false

theorem fill_build (h : Rel P N A w0 F0 J0 g s a w) {place : Nat → Option (Nat × Nat)} : ∀ {parts : List (Nat × Operand)} {parts' : List (Nat × Nat × Opd)} {cells : Array Value} {ms : List MV} {Kc : List MV → Prop},
    okParts place parts parts' = true → RVL P g cells.toList ms → (∀ x ∈ cells.toList, x.oneCell' = true) → buildC s parts' ms Kc →
    ∃ cells' ms', Instr.fill place cells (parts.map fun x => (x.1, a.eval x.2)) = some cells' ∧ RVL P g cells'.toList ms' ∧ (∀ x ∈ cells'.toList, x.oneCell' = true) ∧ Kc ms' := by
  intro parts
  induction parts with
  | nil =>
    intro parts' cells ms Kc hok hr h1 hb
    cases parts' with
    | nil => exact ⟨cells, ms, rfl, hr, h1, hb⟩
    | cons => simp [okParts] at hok
  | cons p r ih =>
    intro parts' cells ms Kc hok hr h1 hb
    cases parts' with
    | nil => simp [okParts] at hok
    | cons p' r' =>
      obtain ⟨i, x⟩ := p
      obtain ⟨off, k, y⟩ := p'
      simp [okParts] at hok
      obtain ⟨⟨hpl, hx⟩, hrest⟩ := hok
      simp only [buildC] at hb
      split at hb
      · rename_i xs hxs
        obtain ⟨hlen, hle, hb⟩ := hb
        obtain ⟨hc, hc1⟩ := (h.val hx).cells hxs
        have hl := hc.length
        have hl2 := hr.length
        simp at hl hl2
        have hsz : (a.eval x).cells.size = k := by omega
        have hfit : off + (a.eval x).cells.size ≤ cells.size := by omega
        have hfold : ((a.eval x).cells.zipIdx.foldl (fun cs (c, j) => cs.setIfInBounds (off + j) c) cells).toList = splice cells.toList off (a.eval x).cells.toList := by
          have := fold_splice (a.eval x).cells.toList 0 off cells
          rw [Nat.add_zero] at this
          rw [← this, ← Array.foldl_toList]
          simp
        obtain ⟨cells', ms', e1, e2, e3, e4⟩ := ih (cells := (a.eval x).cells.zipIdx.foldl (fun cs (c, j) => cs.setIfInBounds (off + j) c) cells) hrest (by rw [hfold]; exact hc.splice off hr)
          (by rw [hfold]; exact splice_one (fun x : Value => x.oneCell' = true) _ _ _ hc1 h1) hb
        refine ⟨cells', ms', ?_, e2, e3, e4⟩
        simp only [List.map_cons, Instr.fill, hpl]
        rw [if_neg (by simp [hsz]; omega)]
        exact e1
      · exact hb.elim

theorem S.build {T : TypeId} {parts : Array (Nat × Operand)} {zero : List MV} {parts' : List (Nat × Nat × Opd)} {z : Array Value} {place : Nat → Option (Nat × Nat)} (ho : o.op = .build T parts)
    (hbl : ∀ ps, P.built T ps = Instr.fill place z ps) (hz : cOKs z.toList zero = true) (hp : okParts place parts.toList parts' = true)
    (h : Rel P N A w0 F0 J0 g s a w) (hm : mop false P (.build zero parts') n s K) (hn : Goes P A w0 F0 J0 g s.hp n o a K next) : o.wp P a w next Q := by
  simp only [mop] at hm
  obtain ⟨hr, h1⟩ := cOKs_RV (P := P) (g := g) hz
  obtain ⟨cells', ms', e1, e2, e3, e4⟩ := fill_build h hp hr h1 hm
  refine hn.same h e4 (.agg cells' ms' e2 e3) ?_
  have hb : P.built T (parts.map fun (i, x) => (i, a.eval x)).toList = some cells' := by
    rw [hbl, Array.toList_map]; exact e1
  simp [execOp, ho, run_build w T _ cells' hb]

/-- A slice literal's parts, in order. -/
def okRows : Nat → List (Nat × Operand) → List Opd → Bool
  | _, [], [] => true
  | i, (j, x) :: r, y :: r' => i == j && okOpd x y && okRows (i + 1) r r'
  | _, _, _ => false

theorem okRows_len : ∀ {i : Nat} {ps : List (Nat × Operand)} {ys : List Opd}, okRows i ps ys = true → ps.length = ys.length
  | _, [], [], _ => rfl
  | i, (j, x) :: r, y :: r', h => by simp [okRows] at h; simp [okRows_len h.2]
  | _, [], _ :: _, h => by simp [okRows] at h
  | _, _ :: _, [], h => by simp [okRows] at h

theorem rowsV_frz {k : Nat} : ∀ {ys : List Opd} {t es u}, rowsV s k ys = some (t, es, u) → Frz s.hp u ∧ es.length = ys.length ∧ (∀ e ∈ es, e.length = k) := by
  intro ys
  induction ys with
  | nil => intro t es u h; simp [rowsV] at h; obtain ⟨_, rfl, rfl⟩ := h; exact ⟨fun x hx => (by cases hx), rfl, by simp⟩
  | cons y r ih =>
    intro t es u h
    simp only [rowsV] at h
    split at h
    · split at h
      · rename_i t1 ds u1 hds
        split at h
        · rename_i t2 es2 u2 h2
          split at h
          · rename_i hl
            cases h
            obtain ⟨h3, h4, h5⟩ := ih h2
            refine ⟨?_, by simp [h4], by simp [hl]; exact h5⟩
            intro x hx
            rcases List.mem_append.1 hx with hx | hx
            · exact toDs_frz hds x hx
            · exact h3 x hx
          · cases h
        · cases h
      · cases h
    · cases h

theorem fill_rows (h : Rel P N A w0 F0 J0 g s a w) {k : Nat} {g' : Env} {hp' : List (Nat × MO)} (h' : HRel P A w0 F0 J0 g' hp' w) (hle : g.le g')
    (hfz2 : ∀ id t k es, s.obj id = some (.fz t k es) → look hp' id = some (.fz t k es)) :
    ∀ {ps : List (Nat × Operand)} {ys : List Opd} {i0 : Nat} {cells : Array Value} {t es u}, okRows i0 ps ys = true → (i0 + ps.length) * k ≤ cells.size →
    rowsV s k ys = some (t, es, u) → (∀ x ∈ u, ∃ t k es, s.obj x.1 = some (.arr t k es) ∧ look hp' x.1 = some (.fz t k es)) →
    ∃ cells', Instr.fill (fun i => some (i * k, k)) cells (ps.map fun x => (x.1, a.eval x.2)) = some cells' ∧ cells'.size = cells.size ∧ (∀ p, p < i0 * k → cells'[p]? = cells[p]?) ∧
      ∀ i j, i < es.length → j < k → ∃ v, cells'[(i0 + i) * k + j]? = some v ∧ DR (g'.im t) v (cellD es i j) := by
  intro ps
  induction ps with
  | nil =>
    intro ys i0 cells t es u hok hsz hb _
    cases ys with
    | nil =>
      simp [rowsV] at hb
      obtain ⟨rfl, rfl, rfl⟩ := hb
      exact ⟨cells, rfl, rfl, fun _ _ => rfl, by simp⟩
    | cons => simp [okRows] at hok
  | cons p r ih =>
    intro ys i0 cells t es u hok hsz hb hf
    cases ys with
    | nil => simp [okRows] at hok
    | cons y r' =>
      obtain ⟨i, x⟩ := p
      simp [okRows] at hok
      obtain ⟨⟨rfl, hx⟩, hrest⟩ := hok
      simp only [rowsV] at hb
      split at hb
      · rename_i xs hxs
        split at hb
        · rename_i t1 ds u1 hds
          split at hb
          · rename_i t2 es2 u2 hv2
            split at hb
            · rename_i hlen
              cases hb
              obtain ⟨hc, hc1⟩ := (h.val hx).cells hxs
              have hD := toDs_DR (g := g) h' hle hfz2 hc hds (fun x hx => hf x (List.mem_append_left _ hx))
              have hl := hD.1
              simp at hl
              have hck : (a.eval x).cells.size = k := by omega
              have hmul : (i0 + (r.length + 1)) * k ≤ cells.size := by simpa using hsz
              have hfold : ((a.eval x).cells.zipIdx.foldl (fun cs (c, j) => cs.setIfInBounds (i0 * k + j) c) cells).toList = splice cells.toList (i0 * k) (a.eval x).cells.toList := by
                have := fold_splice (a.eval x).cells.toList 0 (i0 * k) cells
                rw [Nat.add_zero] at this
                rw [← this, ← Array.foldl_toList]
                simp
              have hsize1 : ((a.eval x).cells.zipIdx.foldl (fun cs (c, j) => cs.setIfInBounds (i0 * k + j) c) cells).size = cells.size := by
                rw [← Array.length_toList, hfold, splice_length, Array.length_toList]
              have hfit : i0 * k + k ≤ cells.size := by
                have : (i0 + 1) * k ≤ (i0 + (r.length + 1)) * k := Nat.mul_le_mul_right _ (by omega)
                rw [Nat.add_mul i0 1] at this; omega
              have hget1 : ∀ p : Nat, ((a.eval x).cells.zipIdx.foldl (fun cs (c, j) => cs.setIfInBounds (i0 * k + j) c) cells)[p]? = (splice cells.toList (i0 * k) (a.eval x).cells.toList)[p]? := fun p => by
                rw [← Array.getElem?_toList, hfold]
              obtain ⟨cells', e1, e2, e3, e4⟩ := ih (i0 := i0 + 1) (cells := (a.eval x).cells.zipIdx.foldl (fun cs (c, j) => cs.setIfInBounds (i0 * k + j) c) cells) hrest
                (by rw [hsize1]; rw [show i0 + 1 + r.length = i0 + (r.length + 1) by omega]; exact hmul) hv2 (fun x hx => hf x (List.mem_append_right _ hx))
              refine ⟨cells', ?_, by rw [e2, hsize1], fun p hp => ?_, fun i j hi hj => ?_⟩
              · simp only [List.map_cons, Instr.fill]
                rw [if_neg (by simp [hck]; omega)]
                exact e1
              · rw [e3 p (by rw [Nat.add_mul]; omega), hget1, splice_get, if_neg (by omega)]; simp
              · cases i with
                | zero =>
                  refine ⟨(a.eval x).cells.toList.getD j undef, ?_, ?_⟩
                  · rw [Nat.add_zero, e3 (i0 * k + j) (by rw [Nat.add_mul]; omega), hget1, splice_get, if_pos ⟨by omega, by simp; omega, by simp; omega⟩]
                    rw [show i0 * k + j - i0 * k = j by omega]
                    simp [List.getD, show j < (a.eval x).cells.size by omega]
                  · have := hD.2 j ((a.eval x).cells.toList.getD j undef) (by simp [List.getD, show j < (a.eval x).cells.size by omega])
                    have e0 : cellD (ds :: es2) 0 j = ds.getD j default := rfl
                    rw [e0]
                    cases t1
                    · exact this
                    · cases t2
                      · exact this.mono (fun b o x => h'.JI b o x)
                      · exact this
                | succ i =>
                  obtain ⟨v, hv, hr⟩ := e4 i j (by simpa using hi) hj
                  refine ⟨v, by rw [show i0 + (i + 1) = i0 + 1 + i by omega]; exact hv, ?_⟩
                  have e0 : cellD (ds :: es2) (i + 1) j = cellD es2 i j := rfl
                  rw [e0]
                  cases t1
                  · cases t2
                    · exact hr
                    · exact hr.mono (fun b o x => h'.JI b o x)
                  · exact hr
            · cases hb
          · cases hb
        · cases hb
      · cases hb

theorem S.buildSlice {T e : TypeId} {len : Nat} {parts : Array (Nat × Operand)} {ys : List Opd} {inf : TypeInfo} {k : Nat} {z : Value} (ho : o.op = .buildSlice T len parts)
    (ht : P.underlying T = some (.slice e)) (hi : P.info? e = some inf) (hk : inf.size = k) (hz : inf.zero = some z) (hk0 : 0 < k) (hlen : parts.toList.length = len) (hsm : len * k ≤ 16777216)
    (hp : okRows 0 parts.toList ys = true) (hA : ∀ id, n ≤ id → id < n + 64 → A id)
    (h : Rel P N A w0 F0 J0 g s a w) (hm : mop false P (.buildSlice k ys) n s K) (hn : Goes P A w0 F0 J0 g s.hp n o a K next) : o.wp P a w next Q := by
  simp only [mop] at hm
  split at hm
  · rename_i t es u hv
    obtain ⟨hfz, hel, hek⟩ := rowsV_frz hv
    obtain ⟨g1, hg1, hi1, h1, hinv, hoth, hall⟩ := h.hp.freezes s.hp u hfz (fun id o x => .inl x)
    have hpl := okRows_len hp
    have hfz2 : ∀ id t k es, s.obj id = some (.fz t k es) → look (upds s.hp u) id = some (.fz t k es) := fun i t1 k1 es1 hf => by
      rcases hinv i _ hf with e | ⟨_, _, _, e, _⟩
      · exact e
      · cases e
    have hrun : ∃ cells : Array Value, (Instr.buildSlice T len (parts.map fun (i, x) => (i, a.eval x))).run P w = .ok (.slice (some ⟨w.heap.size, 0, none⟩) len len) (w.alloc (.cells cells e)) ∧ cells.size = len * k ∧
        ∀ i j, i < es.length → j < k → ∃ v, cells[i * k + j]? = some v ∧ DR (g1.im t) v (cellD es i j) := by
      by_cases hl0 : len = 0
      · subst hl0
        have hps : parts = #[] := by simpa using hlen
        subst hps
        refine ⟨#[], ?_, by simp, fun i j hi' => ?_⟩
        · simp [Instr.buildSlice, run_underlying ht, sizeOf, typeInfo, hi, Instr.fill, newRow, Array.range_zero']
        · rw [hel, ← hpl] at hi'; simp at hi'
      · obtain ⟨cells, e1, e2, _, e4⟩ := fill_rows h h1 hg1 hfz2 (k := k) (cells := (Array.range (len * k)).map (z.cells[· % z.cells.size]!)) hp (by rw [Nat.zero_add, hlen]; simp) hv (fun x hx => hall x hx)
        refine ⟨cells, ?_, by rw [e2]; simp, fun i j hi' hj' => by have := e4 i j hi' hj'; simpa using this⟩
        refine run_buildSlice w T e len _ cells inf z ht hi hz (by rw [hk]; omega) ?_ ?_
        · have := Nat.mul_pos (Nat.pos_of_ne_zero hl0) hk0; rw [hk]; omega
        · rw [hk, Array.toList_map]; exact e1
    obtain ⟨cells, hrun, hcs, hcells⟩ := hrun
    have hA0 := hA n (Nat.le_refl _) (by omega)
    have hinj := (h1.avail n hA0).1
    have hle := Env.le_at (l := ⟨w.heap.size, 0, k, len⟩) hinj
    have hys : ys.length = len := by rw [← hpl, hlen]
    refine wp_val (v := .slice (some ⟨w.heap.size, 0, none⟩) len len) (w' := w.alloc (.cells cells e)) (by simp [execOp, ho, hrun]) (hn _ _ _ (g1.at n ⟨w.heap.size, 0, k, len⟩) _ _ hm (hg1.trans hle) ?_ ?_)
    · have := RV.sr (P := P) (g := g1.at n ⟨w.heap.size, 0, k, len⟩) n 0 len len ⟨w.heap.size, 0, k, len⟩ (by simp [Env.at]) (by simp) (Nat.le_refl _)
      rw [hys]; simpa using this
    · rw [upds_append]
      refine notin_weak (h1.alloc hA0 rfl (o := .cells cells e (0, 0)) (mo := .arr t k es) ⟨hek, .inr ⟨⟨w.heap.size, 0, k, len⟩, by simp [Env.at], rfl, cells, e, heap_alloc_new w _, by simp [hcs], by simp [hel, hys], fun i j hi' hj' => ?_⟩⟩)
      obtain ⟨v, hv', hr⟩ := hcells i j hi' hj'
      exact ⟨v, by simpa using hv', hr.mono (hle.im t)⟩
  · exact hm.elim
end
end Go.Fw
