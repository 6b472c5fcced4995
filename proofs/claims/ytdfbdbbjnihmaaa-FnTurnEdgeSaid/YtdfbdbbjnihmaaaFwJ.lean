/-
  Stores, composite values, literals of slices, make.
-/
import Derived.Test.YtdfbdbbjnihmaaaFwI
namespace Go.Fw
set_option linter.unusedVariables false
set_option linter.unusedSimpArgs false
section
variable {P : Program} {N : FrS} {A : Nat → Prop} {w0 : World} {F0 : List Nat} {J0 : Imm} {g : Env} {s : MS} {a : Act} {w : World} {hp : List (Nat × MO)}
variable {n : Nat} {o : Oper} {K : MK} {next : Act → World → Prop} {Q : Exit → Act → World → Prop}

theorem upds_append (hp : List (Nat × MO)) : ∀ (u v : Upd), upds hp (u ++ v) = upds (upds hp u) v := by
  intro u
  induction u generalizing hp with
  | nil => intro v; rfl
  | cons x r ih =>
    intro v
    obtain ⟨id, o⟩ := x
    cases o <;> simp only [List.cons_append, upds, ih]

/-- Every entry freezes an array of hp. -/
def Frz (hp : List (Nat × MO)) (u : Upd) : Prop := ∀ x ∈ u, ∃ t k es, x.2 = some (.fz t k es) ∧ look hp x.1 = some (.arr t k es)

theorem HRel.freezes (hp0 : List (Nat × MO)) : ∀ (u : Upd) {hp : List (Nat × MO)} {g : Env}, HRel P A w0 F0 J0 g hp w → Frz hp0 u →
    (∀ id o, look hp0 id = some o → look hp id = some o ∨ ∃ t k es, o = .arr t k es ∧ look hp id = some (.fz t k es)) →
    ∃ g', g.le g' ∧ g'.inj = g.inj ∧ HRel P A w0 F0 J0 g' (upds hp u) w ∧
      (∀ id o, look hp0 id = some o → look (upds hp u) id = some o ∨ ∃ t k es, o = .arr t k es ∧ look (upds hp u) id = some (.fz t k es)) ∧
      (∀ id, (∀ x ∈ u, x.1 ≠ id) → look (upds hp u) id = look hp id) ∧
      (∀ x ∈ u, ∃ t k es, look hp0 x.1 = some (.arr t k es) ∧ look (upds hp u) x.1 = some (.fz t k es)) := by
  intro u
  induction u with
  | nil => intro hp g h _ hinv; exact ⟨g, Env.le.refl g, rfl, h, hinv, fun _ _ => rfl, by simp⟩
  | cons x r ih =>
    intro hp g h hf hinv
    obtain ⟨t, k, es, e1, e2⟩ := hf x (by simp)
    obtain ⟨id, ox⟩ := x
    simp at e1 e2; subst e1
    have hr : Frz hp0 r := fun y hy => hf y (List.mem_cons_of_mem _ hy)
    have step : ∃ g1, g.le g1 ∧ g1.inj = g.inj ∧ HRel P A w0 F0 J0 g1 (put hp id (.fz t k es)) w := by
      rcases hinv id _ e2 with hl | ⟨t', k', es', e3, hl⟩
      · exact h.freeze hl
      · cases e3
        refine ⟨g, Env.le.refl g, rfl, ?_⟩
        have same : ∀ i, look (put hp id (.fz t k es)) i = look hp i := fun i => by
          rw [look_put]; by_cases e : id = i
          · subst e; simp [hl]
          · simp [e]
        exact ⟨fun i o x => h.objs i o (by rwa [same] at x), fun i x => ⟨(h.avail i x).1, by rw [same]; exact (h.avail i x).2⟩,
          fun i1 i2 o1 o2 l1 l2 a1 a2 => h.sep i1 i2 o1 o2 l1 l2 (by rwa [same] at a1) (by rwa [same] at a2), fun i o l a1 => h.disj i o l (by rwa [same] at a1),
          fun i o l a1 => h.fresh i o l (by rwa [same] at a1), h.imm, h.JI, h.Jf, h.ext⟩
    obtain ⟨g1, hg1, hi1, h1⟩ := step
    have hinv1 : ∀ i o, look hp0 i = some o → look (put hp id (.fz t k es)) i = some o ∨ ∃ t2 k2 es2, o = .arr t2 k2 es2 ∧ look (put hp id (.fz t k es)) i = some (.fz t2 k2 es2) := fun i o hio => by
      by_cases e : id = i
      · subst e
        rw [e2] at hio; cases hio
        exact .inr ⟨t, k, es, rfl, by rw [look_put]; simp⟩
      · simp only [look_put, if_neg e]; exact hinv i o hio
    obtain ⟨g2, hg2, hi2, h2, hinv2, hoth, hall⟩ := ih h1 hr hinv1
    refine ⟨g2, hg1.trans hg2, hi2.trans hi1, by simpa [upds] using h2, by simpa [upds] using hinv2, fun i hi => ?_, fun x hx => ?_⟩
    · simp only [upds]
      rw [hoth i (fun y hy => hi y (List.mem_cons_of_mem _ hy)), look_put, if_neg (hi (id, some (.fz t k es)) (by simp))]
    · simp only [upds]
      rcases List.mem_cons.1 hx with e | hx
      · subst e
        refine ⟨t, k, es, e2, ?_⟩
        rcases hinv2 id _ e2 with hl | ⟨t', k', es', e3, hl⟩
        · by_cases hin : ∃ y ∈ r, y.1 = id
          · obtain ⟨y, hy, e⟩ := hin
            obtain ⟨t', k', es', f1, f2⟩ := hall y hy
            rw [e, e2] at f1; cases f1
            rw [e] at f2; exact f2
          · rw [hoth id (fun y hy e => hin ⟨y, hy, e⟩), look_put]; simp
        · cases e3; exact hl
      · exact hall x hx

theorem toD_frz {m : MV} {t d u} (hd : toD s m = some (t, d, u)) : Frz s.hp u := by
  intro x hx
  cases m <;> simp [toD] at hd
  case i => obtain ⟨_, _, rfl⟩ := hd; cases hx
  case b => obtain ⟨_, _, rfl⟩ := hd; cases hx
  case s => obtain ⟨_, _, rfl⟩ := hd; cases hx
  case nl => obtain ⟨_, _, rfl⟩ := hd; cases hx
  case sr id off len =>
    split at hd
    · rename_i t' k' es hob
      simp at hd
      obtain ⟨_, rfl, rfl, rfl⟩ := hd
      simp at hx; subst hx
      exact ⟨_, _, _, rfl, hob⟩
    · simp at hd
      obtain ⟨_, rfl, rfl, rfl⟩ := hd
      cases hx
    · simp at hd

theorem toDs_frz : ∀ {ms : List MV} {t ds u}, toDs s ms = some (t, ds, u) → Frz s.hp u := by
  intro ms
  induction ms with
  | nil => intro t ds u h; simp [toDs] at h; obtain ⟨_, _, rfl⟩ := h; intro x hx; cases hx
  | cons m r ih =>
    intro t ds u h
    simp only [toDs] at h
    split at h
    · rename_i t1 d1 u1 h1
      split at h
      · rename_i t2 d2 u2 h2
        cases h
        intro x hx
        rcases List.mem_append.1 hx with hx | hx
        · exact toD_frz h1 x hx
        · exact ih h2 x hx
      · cases h
    · cases h

/-- The data of a cell, once the objects are frozen. -/
theorem toD_DR {g' : Env} {hp' : List (Nat × MO)} (h' : HRel P A w0 F0 J0 g' hp' w) (hle : g.le g') {v : Value} {m : MV} (hv : RV P g v m) {t d u} (hd : toD s m = some (t, d, u))
    (hfz : ∀ x ∈ u, ∃ t k es, s.obj x.1 = some (.arr t k es) ∧ look hp' x.1 = some (.fz t k es))
    (hfz2 : ∀ id t k es, s.obj id = some (.fz t k es) → look hp' id = some (.fz t k es)) : DR (g'.im t) v d := by
  cases m <;> simp [toD] at hd
  case i => obtain ⟨rfl, rfl, rfl⟩ := hd; cases hv; exact .i _ _
  case b => obtain ⟨rfl, rfl, rfl⟩ := hd; cases hv; exact .b _
  case s => obtain ⟨rfl, rfl, rfl⟩ := hd; cases hv with | s _ _ _ _ hh => exact hh.mono (hle.im _)
  case nl => obtain ⟨rfl, rfl, rfl⟩ := hd; cases hv; exact .a0 _ _ _
  case sr id off len =>
    have key : ∀ (t' : Bool) (k' : Nat) (es : List (List D)), look hp' id = some (.fz t' k' es) → off + len ≤ es.length → DR (g'.im t') v (.a k' ((es.drop off).take len)) := by
      intro t' k' es hl hle'
      have hlen : ((es.drop off).take len).length = len := by simp; omega
      obtain ⟨hkk, hrep⟩ := h'.objs id _ hl
      cases hv with
      | sr0 p => rw [List.take_zero]; exact .a0 _ _ _
      | sr _ _ _ cap l hlj h1 h2 =>
        have hlj' := hle.inj _ _ hlj
        rcases hrep with ⟨_, h3⟩ | ⟨l', h3, hk, cs, E, z, hI, hsz, hC, hc⟩
        · rw [hlj'] at h3; cases h3
        · rw [hlj'] at h3; cases h3
          refine .a l.b (l.base + off * l.k) cap len cs E z k' _ (fun i j => cs.getD (l.base + (off + i) * k' + j) undef) hI hlen.symm (fun e he => hkk e (List.mem_of_mem_drop (List.mem_of_mem_take he))) h2 (fun i j hi hj => ?_) (fun i j hi hj => ?_)
          · rw [hlen] at hi
            obtain ⟨u', hu, _⟩ := hc (off + i) j (by omega) hj
            show _ = some (cs.getD _ undef)
            rw [Array.getD_eq_getD_getElem?, hu, ← hu, hk, Nat.add_mul]
            rw [show l.base + off * k' + i * k' + j = l.base + (off * k' + i * k') + j by omega, ← Nat.add_mul, hu]; rfl
          · rw [hlen] at hi
            obtain ⟨u', hu, hr⟩ := hc (off + i) j (by omega) hj
            have e1 : cellD ((es.drop off).take len) i j = cellD es (off + i) j := by simp [cellD, List.getD, List.getElem?_take_of_lt hi]
            rw [e1]
            show DR _ (cs.getD _ undef) _
            rw [Array.getD_eq_getD_getElem?, hu]; exact hr
    split at hd
    · rename_i t' k' es hob
      simp at hd
      obtain ⟨hle', rfl, rfl, rfl⟩ := hd
      obtain ⟨t2, k2, es2, f1, f2⟩ := hfz (id, some (.fz t' k' es)) (by simp)
      rw [show s.obj id = _ from hob] at f1; cases f1
      exact key _ _ _ f2 hle'
    · rename_i t' k' es hob
      simp at hd
      obtain ⟨hle', rfl, rfl, rfl⟩ := hd
      exact key _ _ _ (hfz2 id _ _ _ hob) hle'
    · simp at hd

theorem toDs_DR {g' : Env} {hp' : List (Nat × MO)} (h' : HRel P A w0 F0 J0 g' hp' w) (hle : g.le g')
    (hfz2 : ∀ id t k es, s.obj id = some (.fz t k es) → look hp' id = some (.fz t k es)) : ∀ {vs : List Value} {ms : List MV} {t ds u}, RVL P g vs ms → toDs s ms = some (t, ds, u) →
    (∀ x ∈ u, ∃ t k es, s.obj x.1 = some (.arr t k es) ∧ look hp' x.1 = some (.fz t k es)) →
    ds.length = vs.length ∧ ∀ j v, vs[j]? = some v → DR (g'.im t) v (ds.getD j default) := by
  intro vs
  induction vs with
  | nil => intro ms t ds u hr h _; cases hr; simp [toDs] at h; obtain ⟨_, rfl, _⟩ := h; exact ⟨rfl, by simp⟩
  | cons v vs ih =>
    intro ms t ds u hr h hf
    cases hr with
    | cons _ _ m ms hv hvs =>
      simp only [toDs] at h
      split at h
      · rename_i t1 d1 u1 h1
        split at h
        · rename_i t2 d2 u2 h2
          cases h
          have hd1 := toD_DR h' hle hv h1 (fun x hx => hf x (List.mem_append_left _ hx)) hfz2
          have hd2 := ih hvs h2 (fun x hx => hf x (List.mem_append_right _ hx))
          have mono1 : ∀ b o, g'.im t1 b = some o → g'.im false b = some o := fun b o x => by cases t1; exact x; exact h'.JI b o x
          refine ⟨by simp [hd2.1], fun j v' hj => ?_⟩
          have weak : ∀ (ta tb : Bool) {v : Value} {d : D}, DR (g'.im ta) v d → (ta && tb) = true ∨ (ta && tb) = false → DR (g'.im (ta && tb)) v d := fun ta tb v d hh hc => by
            cases ta <;> cases tb <;> first | exact hh | exact hh.mono (fun b o x => h'.JI b o x)
          cases j with
          | zero => simp at hj; subst hj; exact weak t1 t2 hd1 (by cases (t1 && t2) <;> simp)
          | succ j =>
            simp at hj
            have := hd2.2 j v' hj
            rw [Bool.and_comm]
            exact weak t2 t1 this (by cases (t2 && t1) <;> simp)
        · cases h
      · cases h
end
end Go.Fw
