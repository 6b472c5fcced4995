/-
  What a call brings back.
-/
import Derived.Test.YtdfbdbbjnihmaaaFwN
namespace Go.Fw
set_option linter.unusedVariables false
set_option linter.unusedSimpArgs false
section
variable {P : Program} {N : FrS} {A : Nat → Prop} {w0 : World} {F0 : List Nat} {J0 : Imm} {g : Env} {s : MS} {a : Act} {w : World} {hp : List (Nat × MO)}

mutual
theorem Own.mono {P : Program} {I J I' J' : Imm} {w : World} (hI : ∀ b o, I b = some o → I' b = some o) (hJ : ∀ b o, J b = some o → J' b = some o) {v : Value} {m : MV} {F : List Nat} : Own P I J w v m F → Own P I' J' w v m F
  | .imm v m h => .imm v m (RV.mono (Env.le.mk (g := ⟨I, J, noInj⟩) (g' := ⟨I', J', noInj⟩) hI hJ (fun _ _ x => x)) h)
  | .ow0 p t k => .ow0 p t k
  | .ow l t k es cap len h1 h2 h3 h4 hb => .ow l t k es cap len h1 h2 h3 h4 (by
      obtain ⟨e1, cs, E, e2, e3, e4, e5⟩ := hb
      refine ⟨e1, cs, E, e2, e3, e4, fun i j hi hj => ?_⟩
      obtain ⟨v, hv, hr⟩ := e5 i j hi hj
      refine ⟨v, hv, hr.mono ?_⟩
      intro b o x
      cases t
      · exact hI b o x
      · exact hJ b o x)
  | .pw b base cells E cs F hb hsz h1 h => .pw b base cells E cs F hb hsz h1 (OwnL.mono hI hJ h)
  | .agg vs cs F h h1 => .agg vs cs F (OwnL.mono hI hJ h) h1
  | .tup vs cs F h => .tup vs cs F (OwnL.mono hI hJ h)
theorem OwnL.mono {P : Program} {I J I' J' : Imm} {w : World} (hI : ∀ b o, I b = some o → I' b = some o) (hJ : ∀ b o, J b = some o → J' b = some o) {vs : List Value} {ms : List MV} {F : List Nat} : OwnL P I J w vs ms F → OwnL P I' J' w vs ms F
  | .nil => .nil
  | .cons v vs m ms F G h hs => .cons v vs m ms F G (Own.mono hI hJ h) (OwnL.mono hI hJ hs)
end

theorem imp_imm {t : Option Bool} {I' J' : Imm} (hJ : ∀ t' b o, (if t' then J' else I') b = some o → g.im (t.getD t') b = some o) (hJI : ∀ b o, g.J b = some o → g.I b = some o) (hII : ∀ b o, I' b = some o → g.I b = some o) : ∀ (f : Nat) {v : Value} {m : MV} {n : Nat}, RV P ⟨I', J', noInj⟩ v m →
    (imp t f m n).2.1 = [] ∧ (imp t f m n).2.2 = n ∧ RV P g v (imp t f m n).1 := by
  intro f
  induction f with
  | zero => intro v m n _; exact ⟨rfl, rfl, .u _⟩
  | succ f ih =>
    intro v m n h
    have list : ∀ {vs : List Value} {ms : List MV} {n : Nat}, RVL P ⟨I', J', noInj⟩ vs ms → (impL (imp t f) ms n).2.1 = [] ∧ (impL (imp t f) ms n).2.2 = n ∧ RVL P g vs (impL (imp t f) ms n).1 := by
      intro vs
      induction vs with
      | nil => intro ms n hh; cases hh; exact ⟨rfl, rfl, .nil⟩
      | cons v vs ihl =>
        intro ms n hh
        cases hh with
        | cons _ _ m ms h1 h2 =>
          obtain ⟨a1, a2, a3⟩ := ih (n := n) h1
          obtain ⟨b1, b2, b3⟩ := ihl (n := (imp t f m n).2.2) h2
          simp only [impL]
          exact ⟨by rw [a1, b1]; rfl, by rw [b2, a2], .cons _ _ _ _ a3 b3⟩
    have hI : ∀ t', ∀ b o, (⟨I', J', noInj⟩ : Env).im t' b = some o → g.im (t.getD t') b = some o := fun t' b o x => hJ t' b o (by cases t' <;> exact x)
    cases h with
    | i => exact ⟨rfl, rfl, .i _ _⟩
    | b => exact ⟨rfl, rfl, .b _⟩
    | s t' k es v hd => exact ⟨rfl, rfl, .s _ _ _ _ (hd.mono (hI t'))⟩
    | nl => exact ⟨rfl, rfl, .nl _ _⟩
    | sr _ _ _ _ _ hl => cases hl
    | sr0 => exact ⟨rfl, rfl, .u _⟩
    | pr _ _ _ _ hl => cases hl
    | pd t' cs off bb o cells E z vs hh hc hr => exact ⟨rfl, rfl, .pd _ _ _ bb o cells E z vs (hI t' _ _ hh) hc (fun j hj => (hr j hj).mono (hI t'))⟩
    | agg vs cs hr h1 =>
      obtain ⟨b1, b2, b3⟩ := list (n := n) hr
      exact ⟨b1, b2, .agg _ _ b3 h1⟩
    | tup vs cs hr =>
      obtain ⟨b1, b2, b3⟩ := list (n := n) hr
      exact ⟨b1, b2, .tup _ _ b3⟩
    | fn ff fv cv dom φ h0 hh =>
      refine ⟨rfl, rfl, .fn ff fv cv dom φ h0 (fun w' xs hw => hh w' xs (fun b o x => hw b o (hII b o x)))⟩
    | clo => exact ⟨rfl, rfl, .u _⟩
    | pf bb o cells E z v dom φ hh hc hf =>
      refine ⟨rfl, rfl, .pf bb o cells E z v dom φ (hII _ _ hh) hc ?_⟩
      cases hf with
      | fn f fv cv _ _ h0 hq => exact .fn f fv cv _ _ h0 (fun w' xs hw => hq w' xs (fun b o x => hw b o (hII b o x)))
    | un => exact ⟨rfl, rfl, .u _⟩
    | u => exact ⟨rfl, rfl, .u _⟩

def somes (l : List (Nat × MO)) : Upd := l.map fun y => (y.1, some y.2)

/-- These blocks are nobody's yet. -/
def Free (g : Env) (hp : List (Nat × MO)) (w0 : World) (F0 : List Nat) (G : List Nat) : Prop :=
  ∀ b ∈ G, g.I b = none ∧ (w0.heap.size ≤ b ∨ b ∈ F0) ∧ ∀ id o l, look hp id = some o → o.live = true → g.inj id = some l → l.b ≠ b

/-- What an import comes to. -/
def Imported (P : Program) (A : Nat → Prop) (w0 : World) (F0 : List Nat) (J0 : Imm) (g : Env) (hp : List (Nat × MO)) (w : World) (G : List Nat) (n n' : Nat) (l : List (Nat × MO)) (g' : Env) : Prop :=
  g.le g' ∧ g'.I = g.I ∧ g'.J = g.J ∧ n ≤ n' ∧ HRel P (fun id => A id ∧ ¬(n ≤ id ∧ id < n')) w0 F0 J0 g' (upds hp (somes l)) w ∧
    (∀ id o l1, look (upds hp (somes l)) id = some o → o.live = true → g'.inj id = some l1 → (look hp id = some o ∧ g.inj id = some l1) ∨ l1.b ∈ G) ∧
    (∀ id, ¬(n ≤ id ∧ id < n') → look (upds hp (somes l)) id = look hp id ∧ g'.inj id = g.inj id)

theorem upds_somes_append (hp : List (Nat × MO)) (l l' : List (Nat × MO)) : upds hp (somes (l ++ l')) = upds (upds hp (somes l)) (somes l') := by
  simp [somes, upds_append]

theorem Imported.none (h : HRel P A w0 F0 J0 g hp w) (n : Nat) : Imported P A w0 F0 J0 g hp w [] n n [] g :=
  ⟨Env.le.refl g, rfl, rfl, Nat.le_refl _, h.weaken (fun _ x => x.1), fun id o l1 a _ c => .inl ⟨a, c⟩, fun _ _ => ⟨rfl, rfl⟩⟩

theorem imp_own {t : Option Bool} {I' J' : Imm} : ∀ (f : Nat) {A : Nat → Prop} {g : Env} {hp : List (Nat × MO)} {v : Value} {m : MV} {G : List Nat} {n : Nat}, HRel P A w0 F0 J0 g hp w →
    (∀ t' b o, (if t' then J' else I') b = some o → g.im (t.getD t') b = some o) → (∀ b o, I' b = some o → g.I b = some o) → Own P I' J' w v m G → G.Nodup → Free g hp w0 F0 G → (∀ id, n ≤ id → id < (imp t f m n).2.2 → A id) →
    ∃ g', Imported P A w0 F0 J0 g hp w G n (imp t f m n).2.2 (imp t f m n).2.1 g' ∧ RV P g' v (imp t f m n).1 := by
  intro f
  induction f with
  | zero => intro A g hp v m G n h _ _ _ _ _ _; exact ⟨g, ⟨Env.le.refl g, rfl, rfl, Nat.le_refl _, h.weaken (fun _ x => x.1), fun id o l1 a _ c => .inl ⟨a, c⟩, fun _ _ => ⟨rfl, rfl⟩⟩, .u _⟩
  | succ f ih =>
    have list : ∀ {vs : List Value} {A : Nat → Prop} {g : Env} {hp : List (Nat × MO)} {ms : List MV} {G : List Nat} {n : Nat}, HRel P A w0 F0 J0 g hp w → (∀ t' b o, (if t' then J' else I') b = some o → g.im (t.getD t') b = some o) → (∀ b o, I' b = some o → g.I b = some o) →
        OwnL P I' J' w vs ms G → G.Nodup → Free g hp w0 F0 G → (∀ id, n ≤ id → id < (impL (imp t f) ms n).2.2 → A id) →
        ∃ g', Imported P A w0 F0 J0 g hp w G n (impL (imp t f) ms n).2.2 (impL (imp t f) ms n).2.1 g' ∧ RVL P g' vs (impL (imp t f) ms n).1 := by
      intro vs
      induction vs with
      | nil => intro A g hp ms G n h _ _ ho _ _ _; cases ho; exact ⟨g, Imported.none h n, .nil⟩
      | cons v vs ihl =>
        intro A g hp ms G n h hJ hII ho hnd hfree hA
        cases ho with
        | cons _ _ m ms G1 G2 h1 h2 =>
          simp only [impL] at hA ⊢
          have hnd1 := (List.nodup_append.1 hnd)
          have hsuf : ∀ {n1}, (impL (imp t f) ms n1).2.2 ≥ n1 := by
            intro n1
            have hi : ∀ f m n1, (imp t f m n1).2.2 ≥ n1 := by
              intro f
              induction f with
              | zero => intro m n1; exact Nat.le_refl _
              | succ f ihf =>
                have hl : ∀ (ms : List MV) n1, (impL (imp t f) ms n1).2.2 ≥ n1 := by
                  intro ms
                  induction ms with
                  | nil => intro n1; exact Nat.le_refl _
                  | cons m ms ihm => intro n1; simp only [impL]; exact Nat.le_trans (ihf m n1) (ihm _)
                intro m n1
                cases m <;> simp only [imp] <;> first | exact Nat.le_refl _ | exact hl _ _ | (have := hl ‹List MV› (n1 + 1); omega) | omega
            clear hA hnd hnd1 h2 h1 hfree
            induction ms generalizing n1 with
            | nil => exact Nat.le_refl _
            | cons m ms ihm => simp only [impL]; exact Nat.le_trans (hi f m n1) ihm
          obtain ⟨g1, ⟨hle1, hI1, hJ1, hn1, hr1, hb1, ho1⟩, hv1⟩ := ih (n := n) h hJ hII h1 hnd1.1 (fun b hb => hfree b (List.mem_append_left _ hb)) (fun id a b => hA id a (Nat.lt_of_lt_of_le b hsuf))
          obtain ⟨g2, ⟨hle2, hI2, hJ2, hn2, hr2, hb2, ho2⟩, hv2⟩ := ihl (n := (imp t f m n).2.2) hr1 (fun t' b o x => hle1.im _ b o (hJ t' b o x)) (fun b o x => hle1.I b o (hII b o x)) h2 hnd1.2.1
            (fun b hb => by
              obtain ⟨f1, f2, f3⟩ := hfree b (List.mem_append_right _ hb)
              refine ⟨by rw [hI1]; exact f1, f2, fun id o l x y z e => ?_⟩
              rcases hb1 id o l x y z with ⟨c1, c2⟩ | c
              · exact f3 id o l c1 y c2 e
              · exact (hnd1.2.2 l.b c b hb) e) (fun id a b => ⟨hA id (Nat.le_trans hn1 a) b, by omega⟩)
          refine ⟨g2, ⟨hle1.trans hle2, hI2.trans hI1, hJ2.trans hJ1, Nat.le_trans hn1 hn2, ?_, fun id o l1 x y z => ?_, fun id hid => ?_⟩, .cons _ _ _ _ (RV.mono hle2 hv1) hv2⟩
          · rw [upds_somes_append]
            exact hr2.weaken (fun id hid => ⟨⟨hid.1, fun e => hid.2 ⟨e.1, Nat.lt_of_lt_of_le e.2 hn2⟩⟩, fun e => hid.2 ⟨Nat.le_trans hn1 e.1, e.2⟩⟩)
          · rw [upds_somes_append] at x
            rcases hb2 id o l1 x y z with ⟨c1, c2⟩ | c
            · rcases hb1 id o l1 c1 y c2 with c3 | c3
              · exact .inl c3
              · exact .inr (List.mem_append_left _ c3)
            · exact .inr (List.mem_append_right _ c)
          · rw [upds_somes_append]
            obtain ⟨p1, p2⟩ := ho1 id (fun e => hid ⟨e.1, Nat.lt_of_lt_of_le e.2 hn2⟩)
            obtain ⟨q1, q2⟩ := ho2 id (fun e => hid ⟨Nat.le_trans hn1 e.1, e.2⟩)
            exact ⟨q1.trans p1, q2.trans p2⟩
    intro A g hp v m G n h hJ hII ho hnd hfree hA
    cases ho with
    | imm v m hv =>
      obtain ⟨a1, a2, a3⟩ := imp_imm (g := g) hJ h.JI hII (f + 1) (n := n) hv
      rw [a1, a2]
      exact ⟨g, Imported.none h n, a3⟩
    | ow0 p t' k =>
      simp only [imp] at hA ⊢
      have hAn := hA n (Nat.le_refl _) (Nat.lt_succ_self _)
      refine ⟨g, ⟨Env.le.refl g, rfl, rfl, Nat.le_succ _, (h.ghost hAn (t.getD t') k).weaken (fun id x => ⟨x.1, fun e => x.2 ⟨by omega, by omega⟩⟩), fun id o l1 x y z => ?_, fun id hid => ⟨?_, rfl⟩⟩, .sr0 _ _ _⟩
      · simp only [somes, List.map_cons, List.map_nil, upds] at x
        rw [look_put] at x
        by_cases e : n = id
        · subst e; rw [(h.avail _ hAn).1] at z; cases z
        · rw [if_neg e] at x; exact .inl ⟨x, z⟩
      · simp only [somes, List.map_cons, List.map_nil, upds]
        rw [look_put, if_neg (by omega)]
    | ow l0 t' k es cap len hlen hcap hC hk hb0 =>
      simp only [imp] at hA ⊢
      have hAn := hA n (Nat.le_refl _) (Nat.lt_succ_self _)
      obtain ⟨f1, f2, f3⟩ := hfree l0.b (by simp)
      have hinj := (h.avail n hAn).1
      let l : Loc := ⟨l0.b, l0.base, l0.k, cap⟩
      have hb : BRep (if t' then J' else I') w l k es := by
        obtain ⟨e1, cs, E, e2, e3, e4, e5⟩ := hb0
        refine ⟨e1, cs, E, e2, ?_, by show es.length ≤ cap; omega, e5⟩
        have : cap * k ≤ l0.C * k := Nat.mul_le_mul_right _ hC
        show l0.base + cap * k ≤ cs.size
        omega
      have hle := Env.le_at (l := l) hinj
      have hb' : BRep (g.im (t.getD t')) w l k es := by
        obtain ⟨e1, cs, E, e2, e3, e4, e5⟩ := hb
        refine ⟨e1, cs, E, e2, e3, e4, fun i j hi hj => ?_⟩
        obtain ⟨u, hu, hr⟩ := e5 i j hi hj
        exact ⟨u, hu, hr.mono (fun b o x => hJ t' b o x)⟩
      have had := h.adopt hAn (l := l) (mo := .arr (t.getD t') k es) (w' := w) f3 f1 f2 (WExt.refl w _) ⟨hk, .inr ⟨l, by simp [Env.at], by
        obtain ⟨e1, cs, E, e2, e3, e4, e5⟩ := hb'
        refine ⟨e1, cs, E, e2, e3, e4, fun i j hi hj => ?_⟩
        obtain ⟨u, hu, hr⟩ := e5 i j hi hj
        exact ⟨u, hu, hr.mono (hle.im _)⟩⟩⟩
      refine ⟨g.at n l, ⟨hle, rfl, rfl, Nat.le_succ _, had.weaken (fun id x => ⟨x.1, fun e => x.2 ⟨by omega, by omega⟩⟩), fun id o l1 x y z => ?_, fun id hid => ⟨?_, ?_⟩⟩, ?_⟩
      · simp only [somes, List.map_cons, List.map_nil, upds] at x
        rw [look_put] at x
        by_cases e : n = id
        · subst e; simp [Env.at] at z; subst z; exact .inr (by simp [l])
        · rw [if_neg e] at x; simp [Env.at, Ne.symm e] at z; exact .inl ⟨x, z⟩
      · simp only [somes, List.map_cons, List.map_nil, upds]
        rw [look_put, if_neg (by omega)]
      · simp [Env.at, show id ≠ n by omega]
      · subst hlen
        have := RV.sr (P := P) (g := g.at n l) n 0 es.length cap l (by simp [Env.at]) (by simp [l]) hcap
        simpa [l] using this
    | pw b base cells E cs F hb hsz h1 hown =>
      simp only [imp] at hA ⊢
      have hnd1 := List.nodup_cons.1 hnd
      have hge : n + 1 ≤ (impL (imp t f) cs (n + 1)).2.2 := by
        have hi : ∀ f m n1, (imp t f m n1).2.2 ≥ n1 := by
          intro f
          induction f with
          | zero => intro m n1; exact Nat.le_refl _
          | succ f ihf =>
            have hl : ∀ (ms : List MV) n1, (impL (imp t f) ms n1).2.2 ≥ n1 := by
              intro ms
              induction ms with
              | nil => intro n1; exact Nat.le_refl _
              | cons m ms ihm => intro n1; simp only [impL]; exact Nat.le_trans (ihf m n1) (ihm _)
            intro m n1
            cases m <;> simp only [imp] <;> first | exact Nat.le_refl _ | exact hl _ _ | (have := hl ‹List MV› (n1 + 1); omega) | omega
        have hl : ∀ (ms : List MV) n1, (impL (imp t f) ms n1).2.2 ≥ n1 := by
          intro ms
          induction ms with
          | nil => intro n1; exact Nat.le_refl _
          | cons m ms ihm => intro n1; simp only [impL]; exact Nat.le_trans (hi f m n1) (ihm _)
        exact hl cs (n + 1)
      have hAn := hA n (Nat.le_refl _) (by omega)
      obtain ⟨g1, ⟨hle1, hI1, hJ1, hn1, hr1, hb1, ho1⟩, hv1⟩ := list (n := n + 1) h hJ hII hown hnd1.2 (fun c hc => hfree c (List.mem_cons_of_mem _ hc)) (fun id a b => hA id (by omega) b)
      obtain ⟨f1, f2, f3⟩ := hfree b (by simp)
      have hAn1 : (fun id => A id ∧ ¬(n + 1 ≤ id ∧ id < (impL (imp t f) cs (n + 1)).2.2)) n := ⟨hAn, by omega⟩
      have hinj := (hr1.avail n hAn1).1
      have hle := Env.le_at (l := ⟨b, base, 1, 1⟩) hinj
      have hlen := hv1.length
      have hlen0 : (impL (imp t f) cs (n + 1)).1.length = cs.length := by
        have : ∀ (ms : List MV) n1, (impL (imp t f) ms n1).1.length = ms.length := by
          intro ms
          induction ms with
          | nil => intro n1; rfl
          | cons m ms ihm => intro n1; simp [impL, ihm]
        exact this _ _
      have had := hr1.adopt hAn1 (l := ⟨b, base, 1, 1⟩) (mo := .box (impL (imp t f) cs (n + 1)).1) (w' := w) (fun id o l x y z e => by
          rcases hb1 id o l x y z with ⟨c1, c2⟩ | c
          · exact f3 id o l c1 y c2 e
          · simp at e; rw [e] at c; exact hnd1.1 c) (by rw [hI1]; exact f1) f2 (WExt.refl w _)
          ⟨⟨b, base, 1, 1⟩, cells, E, by simp [Env.at], hb, by rw [hlen0]; exact hsz, h1, by rw [hlen0]; exact RVL.mono hle hv1⟩
      refine ⟨g1.at n ⟨b, base, 1, 1⟩, ⟨hle1.trans hle, by rw [← hI1]; rfl, by rw [← hJ1]; rfl, by omega, ?_, fun id o l1 x y z => ?_, fun id hid => ⟨?_, ?_⟩⟩, ?_⟩
      · rw [upds_somes_append]
        exact had.weaken (fun id x => ⟨⟨x.1, fun e => x.2 ⟨by omega, e.2⟩⟩, fun e => x.2 ⟨by omega, by omega⟩⟩)
      · rw [upds_somes_append] at x
        simp only [somes, List.map_cons, List.map_nil, upds] at x
        rw [look_put] at x
        by_cases e : n = id
        · subst e; simp [Env.at] at z; subst z; exact .inr (by simp)
        · rw [if_neg e] at x; simp [Env.at, Ne.symm e] at z
          rcases hb1 id o l1 x y z with c | c
          · exact .inl c
          · exact .inr (by simp [c])
      · rw [upds_somes_append]
        simp only [somes, List.map_cons, List.map_nil, upds]
        rw [look_put, if_neg (by omega)]
        exact (ho1 id (by omega)).1
      · simp [Env.at, show id ≠ n by omega]
        exact (ho1 id (by omega)).2
      · have := RV.pr (P := P) (g := g1.at n ⟨b, base, 1, 1⟩) n 0 0 ⟨b, base, 1, 1⟩ (by simp [Env.at])
        simpa using this
    | agg vs cs _ hown h1 =>
      simp only [imp] at hA ⊢
      obtain ⟨g1, hh, hv1⟩ := list (n := n) h hJ hII hown hnd hfree hA
      exact ⟨g1, hh, .agg _ _ hv1 h1⟩
    | tup vs cs _ hown =>
      simp only [imp] at hA ⊢
      obtain ⟨g1, hh, hv1⟩ := list (n := n) h hJ hII hown hnd hfree hA
      exact ⟨g1, hh, .tup _ _ hv1⟩
end
end Go.Fw
