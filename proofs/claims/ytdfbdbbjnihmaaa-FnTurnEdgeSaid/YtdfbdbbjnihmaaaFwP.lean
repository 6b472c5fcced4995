/-
  What was lent comes back.
-/
import Derived.Test.YtdfbdbbjnihmaaaFwO
namespace Go.Fw
set_option linter.unusedVariables false
set_option linter.unusedSimpArgs false
section
variable {P : Program} {N : FrS} {A : Nat → Prop} {w0 : World} {F0 : List Nat} {J0 : Imm} {g : Env} {s : MS} {a : Act} {w : World} {hp : List (Nat × MO)}

inductive Back (P : Program) (J' : Imm) (w' : World) (inj : Nat → Option Loc) (s : MS) : MV → Option Nat → List Nat → Prop
  | none (m G) : Back P J' w' inj s m none G
  | arr0 (id t k es t' k' es') (h1 : s.obj id = some (.arr t k es)) (h2 : inj id = none) (h3 : es' = []) (h4 : es'.length = es.length) : Back P J' w' inj s (.ow t' k' es') (some id) []
  | arr (id t k es t' k' es' l) (h1 : s.obj id = some (.arr t k es)) (h2 : inj id = some l) (h3 : es'.length = es.length) (h4 : k' = k → BRep J' w' l k es' ∧ ∀ e ∈ es', e.length = k) :
      Back P J' w' inj s (.ow t' k' es') (some id) [l.b]
  | box (id : Nat) (cs0 cs : List MV) (l : Loc) (cells : Array Value) (E : TypeId) (F) (h1 : s.obj id = some (.box cs0)) (h2 : inj id = some l) (hb : w'.heap[l.b]? = some (.cells cells E (0, 0))) (hsz : l.base + cs.length ≤ cells.size)
      (ho : ∀ v ∈ cells.toList, v.oneCell' = true) (h : OwnL P J' J' w' ((cells.toList.drop l.base).take cs.length) cs F) : Back P J' w' inj s (.pw cs) (some id) (l.b :: F)
  | off (id m G) (h1 : ∀ t k es, s.obj id = some (.arr t k es) → ∀ t' k' es', m ≠ .ow t' k' es') (h2 : ∀ cs, s.obj id = some (.box cs) → ∀ cs', m ≠ .pw cs') : Back P J' w' inj s m (some id) G

inductive BackL (P : Program) (J' : Imm) (w' : World) (inj : Nat → Option Loc) (s : MS) : List MV → List (Option Nat) → List Nat → Prop
  | nil : BackL P J' w' inj s [] [] []
  | cons (m ms i is F G) (h : Back P J' w' inj s m i F) (hs : BackL P J' w' inj s ms is G) : BackL P J' w' inj s (m :: ms) (i :: is) (F ++ G)

theorem Back.inj {J' : Imm} {inj inj' : Nat → Option Loc} {m : MV} {i : Option Nat} {G : List Nat} (h : Back P J' w inj s m i G) (e : ∀ id, i = some id → inj' id = inj id) : Back P J' w inj' s m i G := by
  cases h with
  | none => exact .none _ _
  | arr0 id t k es t' k' es' h1 h2 h3 h4 => exact .arr0 id t k es t' k' es' h1 (by rw [e id rfl]; exact h2) h3 h4
  | arr id t k es t' k' es' l h1 h2 h3 h4 => exact .arr id t k es t' k' es' l h1 (by rw [e id rfl]; exact h2) h3 h4
  | box id cs0 cs l cells E F h1 h2 hb hsz ho h => exact .box id cs0 cs l cells E F h1 (by rw [e id rfl]; exact h2) hb hsz ho h
  | off id m G h1 h2 => exact .off id m G h1 h2

theorem BackL.inj {J' : Imm} {inj inj' : Nat → Option Loc} : ∀ {ms : List MV} {is : List (Option Nat)} {G : List Nat}, BackL P J' w inj s ms is G → (∀ id, some id ∈ is → inj' id = inj id) → BackL P J' w inj' s ms is G
  | _, _, _, .nil, _ => .nil
  | _, _, _, .cons m ms i is F G h hs, e => .cons m ms i is F G (h.inj (fun id hi => e id (by simp [hi]))) (hs.inj (fun id hi => e id (by simp [hi])))

/-- An object that was handed over is there again. -/
theorem HRel.back (h : HRel P A w0 F0 J0 g hp w) {n : Nat} (hA : ¬ A n) (hn : look hp n = none) {mo : MO} (hfree : ∀ l, g.inj n = some l → (∀ id o l1, look hp id = some o → o.live = true → g.inj id = some l1 → l1.b ≠ l.b) ∧
    g.I l.b = none ∧ (w0.heap.size ≤ l.b ∨ l.b ∈ F0)) (ho : ORep P g w n mo) : HRel P A w0 F0 J0 g (put hp n mo) w := by
  refine ⟨fun id o1 h1 => ?_, fun id hid => ?_, fun id1 id2 o1 o2 l1 l2 a1 a2 b1 b2 c1 c2 e => ?_, fun id o1 l1 a1 b1 c1 => ?_, fun id o1 l1 a1 b1 c1 => ?_, h.imm, h.JI, h.Jf, h.ext⟩
  · rw [look_put] at h1
    by_cases e : n = id
    · subst e; simp at h1; subst h1; exact ho
    · rw [if_neg e] at h1; exact h.objs id o1 h1
  · have hne : n ≠ id := fun e => hA (e ▸ hid)
    have := h.avail id hid
    rw [look_put, if_neg hne]; exact this
  · rw [look_put] at a1 a2
    by_cases e1 : n = id1
    · by_cases e2 : n = id2
      · exact e1.symm.trans e2
      · rw [if_neg e2] at a2; subst e1
        exact absurd e.symm ((hfree l1 c1).1 id2 o2 l2 a2 b2 c2)
    · rw [if_neg e1] at a1
      by_cases e2 : n = id2
      · subst e2; exact absurd e ((hfree l2 c2).1 id1 o1 l1 a1 b1 c1)
      · rw [if_neg e2] at a2; exact h.sep id1 id2 o1 o2 l1 l2 a1 a2 b1 b2 c1 c2 e
  · rw [look_put] at a1
    by_cases e1 : n = id
    · subst e1; exact (hfree l1 c1).2.1
    · rw [if_neg e1] at a1; exact h.disj id o1 l1 a1 b1 c1
  · rw [look_put] at a1
    by_cases e1 : n = id
    · subst e1; exact (hfree l1 c1).2.2
    · rw [if_neg e1] at a1; exact h.fresh id o1 l1 a1 b1 c1

theorem imp_ge (t : Option Bool) : ∀ f m n1, (imp t f m n1).2.2 ≥ n1 := by
  intro f
  induction f with
  | zero => intro m n1; exact Nat.le_refl _
  | succ f ihf =>
    have hl : ∀ (ms : List MV) n1, (impL (imp t f) ms n1).2.2 ≥ n1 := by
      intro ms
      induction ms with
      | nil => intro n1; exact Nat.le_refl _
      | cons m ms ihm => intro n1; simp only [impL]; exact Nat.le_trans (ihf m n1) (ihm _)
    intro m n1
    cases m <;> simp only [imp] <;> first | exact Nat.le_refl _ | exact hl _ _ | (have := hl ‹List MV› (n1 + 1); omega) | omega
theorem impL_ge (t : Option Bool) (f : Nat) : ∀ (ms : List MV) n1, (impL (imp t f) ms n1).2.2 ≥ n1 := by
  intro ms
  induction ms with
  | nil => intro n1; exact Nat.le_refl _
  | cons m ms ihm => intro n1; simp only [impL]; exact Nat.le_trans (imp_ge t f m n1) (ihm _)
theorem impL_len (t : Option Bool) (f : Nat) : ∀ (ms : List MV) n1, (impL (imp t f) ms n1).1.length = ms.length := by
  intro ms
  induction ms with
  | nil => intro n1; rfl
  | cons m ms ihm => intro n1; simp [impL, ihm]

theorem imp_ownL {t : Option Bool} {I' J' : Imm} (f : Nat) {A : Nat → Prop} {g : Env} {hp : List (Nat × MO)} {vs : List Value} {ms : List MV} {G : List Nat} {n : Nat} (h : HRel P A w0 F0 J0 g hp w)
    (hJ : ∀ t' b o, (if t' then J' else I') b = some o → g.im (t.getD t') b = some o) (hII : ∀ b o, I' b = some o → g.I b = some o) (ho : OwnL P I' J' w vs ms G) (hnd : G.Nodup) (hfree : Free g hp w0 F0 G) (hA : ∀ id, n ≤ id → id < (impL (imp t f) ms n).2.2 → A id) :
    ∃ g', Imported P A w0 F0 J0 g hp w G n (impL (imp t f) ms n).2.2 (impL (imp t f) ms n).2.1 g' ∧ RVL P g' vs (impL (imp t f) ms n).1 := by
  have h1 : Own P I' J' w (.tuple vs.toArray) (.tup ms) G := .tup _ _ _ (by simpa using ho)
  obtain ⟨g', hi, hv⟩ := imp_own (t := t) (f + 1) (n := n) h hJ hII h1 hnd hfree (by simpa only [imp] using hA)
  refine ⟨g', by simpa only [imp] using hi, ?_⟩
  simp only [imp] at hv
  cases hv with
  | tup _ _ hh => simpa using hh

theorem outK_pure {t : Bool} {J' : Imm} : ∀ {outs : List MV} {is : List (Option Nat)} {inj : Nat → Option Loc} {n : Nat} {G : List Nat} {Ku : Upd → Nat → Prop},
    BackL P J' w inj s outs is G → outK t s is outs n Ku → ∃ u n', Ku u n' ∧ n ≤ n' := by
  intro outs
  induction outs with
  | nil => intro is inj n G Ku hb hk; cases hb; simp only [outK] at hk; exact ⟨[], n, hk, Nat.le_refl _⟩
  | cons m ms ih =>
    intro is inj n G Ku hb hk
    cases hb with
    | cons _ _ i is F G hb1 hb2 =>
      cases hb1 with
      | none => simp only [outK] at hk; exact ih hb2 hk
      | off q _ _ h1 h2 =>
        simp only [outK] at hk
        split at hk
        · rename_i e; exact absurd rfl (h1 _ _ _ e _ _ _)
        · rename_i e; exact absurd rfl (h2 _ e _)
        · exact ih hb2 hk
      | arr0 q t0 k es t' k' es' h1 h2 h3 h4 =>
        simp only [outK, h1] at hk
        obtain ⟨u, n', e1, e2⟩ := ih hb2 hk.2.2
        exact ⟨_, n', e1, e2⟩
      | arr q t0 k es t' k' es' l h1 h2 h3 h4 =>
        simp only [outK, h1] at hk
        obtain ⟨u, n', e1, e2⟩ := ih hb2 hk.2.2
        exact ⟨_, n', e1, e2⟩
      | box q cs0 cs l cells E F h1 h2 hbk hsz ho hown =>
        simp only [outK, h1] at hk
        obtain ⟨u, n', e1, e2⟩ := ih hb2 hk
        exact ⟨_, n', e1, Nat.le_trans (impL_ge (some t) 2 cs n) e2⟩

theorem outs_sound {t : Bool} {J' : Imm} : ∀ {outs : List MV} {is : List (Option Nat)} {A : Nat → Prop} {g : Env} {hp : List (Nat × MO)} {n : Nat} {G : List Nat} {Ku : Upd → Nat → Prop},
    HRel P A w0 F0 J0 g hp w → (∀ b o, J' b = some o → g.im t b = some o) → BackL P J' w g.inj s outs is G → G.Nodup → Free g hp w0 F0 G →
    (∀ id, some id ∈ is → look hp id = none ∧ ¬ A id) → (is.filterMap _root_.id).Nodup → outK t s is outs n Ku →
    ∃ u n', Ku u n' ∧ n ≤ n' ∧ ((∀ id, n ≤ id → id < n' → A id) → ∃ g', g.le g' ∧ g'.I = g.I ∧ g'.J = g.J ∧ HRel P (fun id => A id ∧ ¬(n ≤ id ∧ id < n')) w0 F0 J0 g' (upds hp u) w ∧
      (∀ id o l1, look (upds hp u) id = some o → o.live = true → g'.inj id = some l1 → (look hp id = some o ∧ g.inj id = some l1) ∨ l1.b ∈ G)) := by
  intro outs
  induction outs with
  | nil =>
    intro is A g hp n G Ku h hJ hb hnd hfree his hisn hk
    cases hb
    simp only [outK] at hk
    exact ⟨[], n, hk, Nat.le_refl _, fun _ => ⟨g, Env.le.refl g, rfl, rfl, h.weaken (fun _ x => x.1), fun id o l1 x _ z => .inl ⟨x, z⟩⟩⟩
  | cons m ms ih =>
    intro is A g hp n G Ku h hJ hb hnd hfree his hisn hk
    cases hb with
    | cons _ _ i is F G hb1 hb2 =>
      have hnd1 := List.nodup_append.1 hnd
      have pass : outK t s is ms n Ku → (is.filterMap _root_.id).Nodup → ∃ u n', Ku u n' ∧ n ≤ n' ∧ ((∀ id, n ≤ id → id < n' → A id) → ∃ g', g.le g' ∧ g'.I = g.I ∧ g'.J = g.J ∧ HRel P (fun id => A id ∧ ¬(n ≤ id ∧ id < n')) w0 F0 J0 g' (upds hp u) w ∧
          (∀ id o l1, look (upds hp u) id = some o → o.live = true → g'.inj id = some l1 → (look hp id = some o ∧ g.inj id = some l1) ∨ l1.b ∈ F ++ G)) := by
        intro hk hisn
        obtain ⟨u, n', h1, h2, h3⟩ := ih h hJ hb2 hnd1.2.1 (fun b hb => hfree b (List.mem_append_right _ hb)) (fun id hi => his id (List.mem_cons_of_mem _ hi)) hisn hk
        refine ⟨u, n', h1, h2, fun hA => ?_⟩
        obtain ⟨g', e1, e2, e3, e4, e5⟩ := h3 hA
        refine ⟨g', e1, e2, e3, e4, fun id o l1 x y z => ?_⟩
        rcases e5 id o l1 x y z with c | c
        · exact .inl c
        · exact .inr (List.mem_append_right _ c)
      cases hb1 with
      | none =>
        simp only [outK] at hk
        exact pass hk (by simpa using hisn)
      | off q _ _ h1 h2 =>
        have hisn' : (is.filterMap _root_.id).Nodup := (List.nodup_cons.1 (show (q :: is.filterMap _root_.id).Nodup from hisn)).2
        simp only [outK] at hk
        split at hk
        · rename_i e; exact absurd rfl (h1 _ _ _ e _ _ _)
        · rename_i e; exact absurd rfl (h2 _ e _)
        · exact pass hk hisn'
      | arr0 q t0 k es t' k' es' h1 h2 h3 h4 =>
        have hisn2 := List.nodup_cons.1 (show (q :: is.filterMap _root_.id).Nodup from hisn)
        simp only [outK, h1] at hk
        obtain ⟨rfl, _, hk⟩ := hk
        obtain ⟨hl0, hnA⟩ := his q (by simp)
        subst h3
        have hback := h.back (n := q) hnA hl0 (mo := .arr t k' []) (fun l hl => by rw [h2] at hl; cases hl) ⟨by simp, .inl ⟨rfl, h2⟩⟩
        obtain ⟨u, n', e1, e2, e3⟩ := ih hback hJ hb2 hnd1.2.1 (fun b hb => by
            obtain ⟨f1, f2, f3⟩ := hfree b (List.mem_append_right _ hb)
            refine ⟨f1, f2, fun i o l x y z => ?_⟩
            rw [look_put] at x
            by_cases e : q = i
            · subst e; rw [h2] at z; cases z
            · rw [if_neg e] at x; exact f3 i o l x y z) (fun i hi => by
            obtain ⟨a1, a2⟩ := his i (List.mem_cons_of_mem _ hi)
            refine ⟨?_, a2⟩
            rw [look_put, if_neg (fun e => hisn2.1 (by subst e; exact List.mem_filterMap.2 ⟨_, hi, rfl⟩))]; exact a1) hisn2.2 hk
        refine ⟨_, n', e1, e2, fun hA => ?_⟩
        obtain ⟨g', p1, p2, p3, p4, p5⟩ := e3 hA
        refine ⟨g', p1, p2, p3, p4, fun i o l1 x y z => ?_⟩
        rcases p5 i o l1 x y z with ⟨c1, c2⟩ | c
        · rw [look_put] at c1
          by_cases e : q = i
          · subst e; rw [h2] at c2; cases c2
          · rw [if_neg e] at c1; exact .inl ⟨c1, c2⟩
        · exact .inr (by simpa using c)
      | arr q t0 k es t' k' es' l h1 h2 h3 h4 =>
        have hisn2 := List.nodup_cons.1 (show (q :: is.filterMap _root_.id).Nodup from hisn)
        simp only [outK, h1] at hk
        obtain ⟨rfl, _, hk⟩ := hk
        obtain ⟨hl0, hnA⟩ := his q (by simp)
        obtain ⟨hbr, hke⟩ := h4 rfl
        obtain ⟨f1, f2, f3⟩ := hfree l.b (by simp)
        have hbr' : BRep (g.im t) w l k' es' := by
          obtain ⟨e1, cs, E, e2, e3, e4, e5⟩ := hbr
          refine ⟨e1, cs, E, e2, e3, e4, fun i j hi hj => ?_⟩
          obtain ⟨u, hu, hr⟩ := e5 i j hi hj
          exact ⟨u, hu, hr.mono hJ⟩
        have hback := h.back (n := q) hnA hl0 (mo := .arr t k' es') (fun l' hl => by rw [h2] at hl; cases hl; exact ⟨f3, f1, f2⟩) ⟨hke, .inr ⟨l, h2, hbr'⟩⟩
        obtain ⟨u, n', e1, e2, e3⟩ := ih hback hJ hb2 hnd1.2.1 (fun b hb => by
            obtain ⟨c1, c2, c3⟩ := hfree b (List.mem_append_right _ hb)
            refine ⟨c1, c2, fun i o l1 x y z => ?_⟩
            rw [look_put] at x
            by_cases e : q = i
            · subst e; rw [h2] at z; cases z
              exact hnd1.2.2 l.b (by simp) b hb
            · rw [if_neg e] at x; exact c3 i o l1 x y z) (fun i hi => by
            obtain ⟨a1, a2⟩ := his i (List.mem_cons_of_mem _ hi)
            refine ⟨?_, a2⟩
            rw [look_put, if_neg (fun e => hisn2.1 (by subst e; exact List.mem_filterMap.2 ⟨_, hi, rfl⟩))]; exact a1) hisn2.2 hk
        refine ⟨_, n', e1, e2, fun hA => ?_⟩
        obtain ⟨g', p1, p2, p3, p4, p5⟩ := e3 hA
        refine ⟨g', p1, p2, p3, p4, fun i o l1 x y z => ?_⟩
        rcases p5 i o l1 x y z with ⟨c1, c2⟩ | c
        · rw [look_put] at c1
          by_cases e : q = i
          · subst e; rw [h2] at c2; cases c2; exact .inr (by simp)
          · rw [if_neg e] at c1; exact .inl ⟨c1, c2⟩
        · exact .inr (List.mem_append_right _ c)
      | box q cs0 cs l cells E F h1 h2 hbk hsz ho hown =>
        have hisn2 := List.nodup_cons.1 (show (q :: is.filterMap _root_.id).Nodup from hisn)
        simp only [outK, h1] at hk
        obtain ⟨hl0, hnA⟩ := his q (by simp)
        have hndF := List.nodup_cons.1 hnd1.1
        have hge := impL_ge (some t) 2 cs n
        by_cases hAA : ∀ id, n ≤ id → id < (impL (imp (some t) 2) cs n).2.2 → A id
        · obtain ⟨g1, ⟨hle1, hI1, hJ1, hn1, hr1, hb1', ho1⟩, hv1⟩ := imp_ownL (t := some t) 2 (n := n) h (fun t' b o x => hJ b o (by cases t' <;> exact x)) (fun b o x => by have := hJ b o x; cases t; exact this; exact h.JI b o this) hown hndF.2 (fun b hb => hfree b (by simp [hb])) hAA
          obtain ⟨f1, f2, f3⟩ := hfree l.b (by simp)
          obtain ⟨o1a, o1b⟩ := ho1 q (fun e => hnA (hAA q e.1 e.2))
          have hlen := impL_len (some t) 2 cs n
          have hback := hr1.back (n := q) (fun e => hnA e.1) (by rw [o1a]; exact hl0) (mo := .box (impL (imp (some t) 2) cs n).1) (fun l' hl => by
              rw [o1b, h2] at hl; cases hl
              refine ⟨fun i o l1 x y z e => ?_, by rw [hI1]; exact f1, f2⟩
              rcases hb1' i o l1 x y z with ⟨c1, c2⟩ | c
              · exact f3 i o l1 c1 y c2 e
              · rw [e] at c; exact hndF.1 c) ⟨l, cells, E, by rw [o1b]; exact h2, hbk, by rw [hlen]; exact hsz, ho, by rw [hlen]; exact hv1⟩
          obtain ⟨u, n', e1, e2, e3⟩ := ih (n := (impL (imp (some t) 2) cs n).2.2) hback (fun b o x => by cases t; exact hle1.I b o (hJ b o x); exact hle1.J b o (hJ b o x)) (hb2.inj (fun i hi => by
              obtain ⟨_, a2⟩ := his i (List.mem_cons_of_mem _ hi)
              exact (ho1 i (fun e => a2 (hAA i e.1 e.2))).2)) hnd1.2.1 (fun b hb => by
              obtain ⟨c1, c2, c3⟩ := hfree b (List.mem_append_right _ hb)
              refine ⟨by rw [hI1]; exact c1, c2, fun i o l1 x y z e => ?_⟩
              rw [look_put] at x
              by_cases e' : q = i
              · subst e'; rw [o1b, h2] at z; cases z
                exact hnd1.2.2 l.b (by simp) b hb e
              · rw [if_neg e'] at x
                rcases hb1' i o l1 x y z with ⟨d1, d2⟩ | d
                · exact c3 i o l1 d1 y d2 e
                · exact hnd1.2.2 l1.b (by simp [d]) b hb e) (fun i hi => by
              obtain ⟨a1, a2⟩ := his i (List.mem_cons_of_mem _ hi)
              refine ⟨?_, fun e => a2 e.1⟩
              rw [look_put, if_neg (fun e => hisn2.1 (by subst e; exact List.mem_filterMap.2 ⟨_, hi, rfl⟩)), (ho1 i (fun e => a2 (hAA i e.1 e.2))).1]; exact a1) hisn2.2 hk
          refine ⟨_, n', e1, Nat.le_trans hn1 e2, fun hA => ?_⟩
          obtain ⟨g', p1, p2, p3, p4, p5⟩ := e3 (fun i a b => ⟨hA i (Nat.le_trans hn1 a) b, by omega⟩)
          have hups : upds hp ((impL (imp (some t) 2) cs n).2.1.map (fun x => (x.1, some x.2)) ++ [(q, some (.box (impL (imp (some t) 2) cs n).1))] ++ u) =
              upds (put (upds hp (somes (impL (imp (some t) 2) cs n).2.1)) q (.box (impL (imp (some t) 2) cs n).1)) u := by
            rw [upds_append, upds_append]; rfl
          refine ⟨g', hle1.trans p1, p2.trans hI1, p3.trans hJ1, ?_, fun i o l1 x y z => ?_⟩
          · rw [hups]
            exact p4.weaken (fun i hi => ⟨⟨hi.1, fun e => hi.2 ⟨e.1, Nat.lt_of_lt_of_le e.2 e2⟩⟩, fun e => hi.2 ⟨Nat.le_trans hn1 e.1, e.2⟩⟩)
          · rw [hups] at x
            rcases p5 i o l1 x y z with ⟨c1, c2⟩ | c
            · rw [look_put] at c1
              by_cases e : q = i
              · subst e; rw [o1b, h2] at c2; cases c2; exact .inr (by simp)
              · rw [if_neg e] at c1
                rcases hb1' i o l1 c1 y c2 with c3 | c3
                · exact .inl c3
                · exact .inr (by simp [c3])
            · exact .inr (List.mem_append_right _ c)
        · obtain ⟨u, n', e1, e2⟩ := outK_pure hb2 hk
          exact ⟨_, n', e1, Nat.le_trans hge e2, fun hA => absurd (fun i a b => hA i a (Nat.lt_of_lt_of_le b e2)) hAA⟩
end
end Go.Fw
