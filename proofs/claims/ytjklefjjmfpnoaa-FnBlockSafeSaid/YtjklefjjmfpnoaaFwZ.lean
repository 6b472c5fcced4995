/-
  Calls, regions, standard forms: what the loaded code comes to.
-/
import Derived.Test.YtjklefjjmfpnoaaFwM
import Derived.Great.BuildSlice
namespace Go.Fw
set_option linter.unusedVariables false
set_option linter.unusedSimpArgs false
section
variable {P : Program} {N : FrS} {A : Nat → Prop} {w0 : World} {F0 : List Nat} {J0 : Imm} {g : Env} {s : MS} {a : Act} {w : World} {hp : List (Nat × MO)}

mutual
theorem Own.mono {P : Program} {I J I' J' : Imm} {w : World} (hI : ∀ b o, I b = some o → I' b = some o) (hJ : ∀ b o, J b = some o → J' b = some o) {v : Value} {m : MV} {F : List Nat} : Own P I J w v m F → Own P I' J' w v m F
  | .imm v m h => .imm v m (RV.mono (Env.le.mk (g := ⟨I, J, noInj⟩) (g' := ⟨I', J', noInj⟩) hI hJ (fun _ _ x => x)) h)
  | .ow0 p t k => .ow0 p t k
  | .ow l t k es cap len h1 h2 h3 h4 hb => .ow l t k es cap len h1 h2 h3 h4 (by
      obtain ⟨e1, cs, E, e2, e3, e4, e5⟩ := hb
      refine ⟨e1, cs, E, e2, e3, e4, fun i j hi hj => ?_⟩
      obtain ⟨v, hv, hr⟩ := e5 i j hi hj
      refine ⟨v, hv, hr.mono ?_⟩
      intro b o x
      cases t
      · exact hI b o x
      · exact hJ b o x)
  | .pw b base cells E cs F hb hsz h1 h => .pw b base cells E cs F hb hsz h1 (OwnL.mono hI hJ h)
  | .on0 p k => .on0 p k
  | .on l hs k ess cap h1 h2 h => .on l hs k ess cap h1 h2 h
  | .agg vs cs F h h1 => .agg vs cs F (OwnL.mono hI hJ h) h1
  | .tup vs cs F h => .tup vs cs F (OwnL.mono hI hJ h)
theorem OwnL.mono {P : Program} {I J I' J' : Imm} {w : World} (hI : ∀ b o, I b = some o → I' b = some o) (hJ : ∀ b o, J b = some o → J' b = some o) {vs : List Value} {ms : List MV} {F : List Nat} : OwnL P I J w vs ms F → OwnL P I' J' w vs ms F
  | .nil => .nil
  | .cons v vs m ms F G h hs => .cons v vs m ms F G (Own.mono hI hJ h) (OwnL.mono hI hJ hs)
end

theorem imp_imm {t : Option Bool} {I' J' : Imm} (hJ : ∀ t' b o, (if t' then J' else I') b = some o → g.im (t.getD t') b = some o) (hJI : ∀ b o, g.J b = some o → g.I b = some o) (hII : ∀ b o, I' b = some o → g.I b = some o) : ∀ (f : Nat) {v : Value} {m : MV} {n : Nat}, RV P ⟨I', J', noInj⟩ v m →
    (imp t f m n).2.1 = [] ∧ (imp t f m n).2.2 = n ∧ RV P g v (imp t f m n).1 := by
  intro f
  induction f with
  | zero => intro v m n _; exact ⟨rfl, rfl, .u _⟩
  | succ f ih =>
    intro v m n h
    have list : ∀ {vs : List Value} {ms : List MV} {n : Nat}, RVL P ⟨I', J', noInj⟩ vs ms → (impL (imp t f) ms n).2.1 = [] ∧ (impL (imp t f) ms n).2.2 = n ∧ RVL P g vs (impL (imp t f) ms n).1 := by
      intro vs
      induction vs with
      | nil => intro ms n hh; cases hh; exact ⟨rfl, rfl, .nil⟩
      | cons v vs ihl =>
        intro ms n hh
        cases hh with
        | cons _ _ m ms h1 h2 =>
          obtain ⟨a1, a2, a3⟩ := ih (n := n) h1
          obtain ⟨b1, b2, b3⟩ := ihl (n := (imp t f m n).2.2) h2
          simp only [impL]
          exact ⟨by rw [a1, b1]; rfl, by rw [b2, a2], .cons _ _ _ _ a3 b3⟩
    have hI : ∀ t', ∀ b o, (⟨I', J', noInj⟩ : Env).im t' b = some o → g.im (t.getD t') b = some o := fun t' b o x => hJ t' b o (by cases t' <;> exact x)
    cases h with
    | i => exact ⟨rfl, rfl, .i _ _⟩
    | b => exact ⟨rfl, rfl, .b _⟩
    | s t' k es v hd => exact ⟨rfl, rfl, .s _ _ _ _ (hd.mono (hI t'))⟩
    | nl => exact ⟨rfl, rfl, .nl _ _⟩
    | sr _ _ _ _ _ hl => cases hl
    | sr0 => exact ⟨rfl, rfl, .u _⟩
    | sn _ _ _ _ _ hl => cases hl
    | pr _ _ _ _ hl => cases hl
    | pd t' cs off bb o cells E z vs hh hc hr => exact ⟨rfl, rfl, .pd _ _ _ bb o cells E z vs (hI t' _ _ hh) hc (fun j hj => (hr j hj).mono (hI t'))⟩
    | agg vs cs hr h1 =>
      obtain ⟨b1, b2, b3⟩ := list (n := n) hr
      exact ⟨b1, b2, .agg _ _ b3 h1⟩
    | tup vs cs hr =>
      obtain ⟨b1, b2, b3⟩ := list (n := n) hr
      exact ⟨b1, b2, .tup _ _ b3⟩
    | fn ff fv cv dom φ h0 hh =>
      refine ⟨rfl, rfl, .fn ff fv cv dom φ h0 (fun w' xs hw => hh w' xs (fun b o x => hw b o (hII b o x)))⟩
    | clo => exact ⟨rfl, rfl, .u _⟩
    | pf bb o cells E z v dom φ hh hc hf =>
      refine ⟨rfl, rfl, .pf bb o cells E z v dom φ (hII _ _ hh) hc ?_⟩
      cases hf with
      | fn f fv cv _ _ h0 hq => exact .fn f fv cv _ _ h0 (fun w' xs hw => hq w' xs (fun b o x => hw b o (hII b o x)))
    | un => exact ⟨rfl, rfl, .u _⟩
    | u => exact ⟨rfl, rfl, .u _⟩
    | nr _ _ _ _ hl => cases hl

def somes (l : List (Nat × MO)) : Upd := l.map fun y => (y.1, some y.2)

/-- These blocks are nobody's yet. -/
def Free (g : Env) (hp : List (Nat × MO)) (w0 : World) (F0 : List Nat) (G : List Nat) : Prop :=
  ∀ b ∈ G, g.I b = none ∧ (w0.heap.size ≤ b ∨ b ∈ F0) ∧ ∀ id o l, look hp id = some o → o.live = true → g.inj id = some l → b ∉ o.blks l

/-- What an import comes to. -/
def Imported (P : Program) (A : Nat → Prop) (w0 : World) (F0 : List Nat) (J0 : Imm) (g : Env) (hp : List (Nat × MO)) (w : World) (G : List Nat) (n n' : Nat) (l : List (Nat × MO)) (g' : Env) : Prop :=
  g.le g' ∧ g'.I = g.I ∧ g'.J = g.J ∧ n ≤ n' ∧ HRel P (fun id => A id ∧ ¬(n ≤ id ∧ id < n')) w0 F0 J0 g' (upds hp (somes l)) w ∧
    (∀ id o l1, look (upds hp (somes l)) id = some o → o.live = true → g'.inj id = some l1 → (look hp id = some o ∧ g.inj id = some l1) ∨ ∀ b ∈ o.blks l1, b ∈ G) ∧
    (∀ id, ¬(n ≤ id ∧ id < n') → look (upds hp (somes l)) id = look hp id ∧ g'.inj id = g.inj id)

theorem upds_somes_append (hp : List (Nat × MO)) (l l' : List (Nat × MO)) : upds hp (somes (l ++ l')) = upds (upds hp (somes l)) (somes l') := by
  simp [somes, upds_append]

theorem Imported.none (h : HRel P A w0 F0 J0 g hp w) (n : Nat) : Imported P A w0 F0 J0 g hp w [] n n [] g :=
  ⟨Env.le.refl g, rfl, rfl, Nat.le_refl _, h.weaken (fun _ x => x.1), fun id o l1 a _ c => .inl ⟨a, c⟩, fun _ _ => ⟨rfl, rfl⟩⟩

theorem imp_own {t : Option Bool} {I' J' : Imm} : ∀ (f : Nat) {A : Nat → Prop} {g : Env} {hp : List (Nat × MO)} {v : Value} {m : MV} {G : List Nat} {n : Nat}, HRel P A w0 F0 J0 g hp w →
    (∀ t' b o, (if t' then J' else I') b = some o → g.im (t.getD t') b = some o) → (∀ b o, I' b = some o → g.I b = some o) → Own P I' J' w v m G → G.Nodup → Free g hp w0 F0 G → (∀ id, n ≤ id → id < (imp t f m n).2.2 → A id) →
    ∃ g', Imported P A w0 F0 J0 g hp w G n (imp t f m n).2.2 (imp t f m n).2.1 g' ∧ RV P g' v (imp t f m n).1 := by
  intro f
  induction f with
  | zero => intro A g hp v m G n h _ _ _ _ _ _; exact ⟨g, ⟨Env.le.refl g, rfl, rfl, Nat.le_refl _, h.weaken (fun _ x => x.1), fun id o l1 a _ c => .inl ⟨a, c⟩, fun _ _ => ⟨rfl, rfl⟩⟩, .u _⟩
  | succ f ih =>
    have list : ∀ {vs : List Value} {A : Nat → Prop} {g : Env} {hp : List (Nat × MO)} {ms : List MV} {G : List Nat} {n : Nat}, HRel P A w0 F0 J0 g hp w → (∀ t' b o, (if t' then J' else I') b = some o → g.im (t.getD t') b = some o) → (∀ b o, I' b = some o → g.I b = some o) →
        OwnL P I' J' w vs ms G → G.Nodup → Free g hp w0 F0 G → (∀ id, n ≤ id → id < (impL (imp t f) ms n).2.2 → A id) →
        ∃ g', Imported P A w0 F0 J0 g hp w G n (impL (imp t f) ms n).2.2 (impL (imp t f) ms n).2.1 g' ∧ RVL P g' vs (impL (imp t f) ms n).1 := by
      intro vs
      induction vs with
      | nil => intro A g hp ms G n h _ _ ho _ _ _; cases ho; exact ⟨g, Imported.none h n, .nil⟩
      | cons v vs ihl =>
        intro A g hp ms G n h hJ hII ho hnd hfree hA
        cases ho with
        | cons _ _ m ms G1 G2 h1 h2 =>
          simp only [impL] at hA ⊢
          have hnd1 := (List.nodup_append.1 hnd)
          have hsuf : ∀ {n1}, (impL (imp t f) ms n1).2.2 ≥ n1 := by
            intro n1
            have hi : ∀ f m n1, (imp t f m n1).2.2 ≥ n1 := by
              intro f
              induction f with
              | zero => intro m n1; exact Nat.le_refl _
              | succ f ihf =>
                have hl : ∀ (ms : List MV) n1, (impL (imp t f) ms n1).2.2 ≥ n1 := by
                  intro ms
                  induction ms with
                  | nil => intro n1; exact Nat.le_refl _
                  | cons m ms ihm => intro n1; simp only [impL]; exact Nat.le_trans (ihf m n1) (ihm _)
                intro m n1
                cases m <;> simp only [imp] <;> first | exact Nat.le_refl _ | exact hl _ _ | (have := hl ‹List MV› (n1 + 1); omega) | omega
            clear hA hnd hnd1 h2 h1 hfree
            induction ms generalizing n1 with
            | nil => exact Nat.le_refl _
            | cons m ms ihm => simp only [impL]; exact Nat.le_trans (hi f m n1) ihm
          obtain ⟨g1, ⟨hle1, hI1, hJ1, hn1, hr1, hb1, ho1⟩, hv1⟩ := ih (n := n) h hJ hII h1 hnd1.1 (fun b hb => hfree b (List.mem_append_left _ hb)) (fun id a b => hA id a (Nat.lt_of_lt_of_le b hsuf))
          obtain ⟨g2, ⟨hle2, hI2, hJ2, hn2, hr2, hb2, ho2⟩, hv2⟩ := ihl (n := (imp t f m n).2.2) hr1 (fun t' b o x => hle1.im _ b o (hJ t' b o x)) (fun b o x => hle1.I b o (hII b o x)) h2 hnd1.2.1
            (fun b hb => by
              obtain ⟨f1, f2, f3⟩ := hfree b (List.mem_append_right _ hb)
              refine ⟨by rw [hI1]; exact f1, f2, fun id o l x y z e => ?_⟩
              rcases hb1 id o l x y z with ⟨c1, c2⟩ | c
              · exact f3 id o l c1 y c2 e
              · exact hnd1.2.2 b (c b e) b hb rfl) (fun id a b => ⟨hA id (Nat.le_trans hn1 a) b, by omega⟩)
          refine ⟨g2, ⟨hle1.trans hle2, hI2.trans hI1, hJ2.trans hJ1, Nat.le_trans hn1 hn2, ?_, fun id o l1 x y z => ?_, fun id hid => ?_⟩, .cons _ _ _ _ (RV.mono hle2 hv1) hv2⟩
          · rw [upds_somes_append]
            exact hr2.weaken (fun id hid => ⟨⟨hid.1, fun e => hid.2 ⟨e.1, Nat.lt_of_lt_of_le e.2 hn2⟩⟩, fun e => hid.2 ⟨Nat.le_trans hn1 e.1, e.2⟩⟩)
          · rw [upds_somes_append] at x
            rcases hb2 id o l1 x y z with ⟨c1, c2⟩ | c
            · rcases hb1 id o l1 c1 y c2 with c3 | c3
              · exact .inl c3
              · exact .inr fun d hd => List.mem_append_left _ (c3 d hd)
            · exact .inr fun d hd => List.mem_append_right _ (c d hd)
          · rw [upds_somes_append]
            obtain ⟨p1, p2⟩ := ho1 id (fun e => hid ⟨e.1, Nat.lt_of_lt_of_le e.2 hn2⟩)
            obtain ⟨q1, q2⟩ := ho2 id (fun e => hid ⟨Nat.le_trans hn1 e.1, e.2⟩)
            exact ⟨q1.trans p1, q2.trans p2⟩
    intro A g hp v m G n h hJ hII ho hnd hfree hA
    cases ho with
    | imm v m hv =>
      obtain ⟨a1, a2, a3⟩ := imp_imm (g := g) hJ h.JI hII (f + 1) (n := n) hv
      rw [a1, a2]
      exact ⟨g, Imported.none h n, a3⟩
    | ow0 p t' k =>
      simp only [imp] at hA ⊢
      have hAn := hA n (Nat.le_refl _) (Nat.lt_succ_self _)
      refine ⟨g, ⟨Env.le.refl g, rfl, rfl, Nat.le_succ _, (h.ghost hAn (t.getD t') k).weaken (fun id x => ⟨x.1, fun e => x.2 ⟨by omega, by omega⟩⟩), fun id o l1 x y z => ?_, fun id hid => ⟨?_, rfl⟩⟩, .sr0 _ _ _⟩
      · simp only [somes, List.map_cons, List.map_nil, upds] at x
        rw [look_put] at x
        by_cases e : n = id
        · subst e; rw [(h.avail _ hAn).1] at z; cases z
        · rw [if_neg e] at x; exact .inl ⟨x, z⟩
      · simp only [somes, List.map_cons, List.map_nil, upds]
        rw [look_put, if_neg (by omega)]
    | ow l0 t' k es cap len hlen hcap hC hk hb0 =>
      simp only [imp] at hA ⊢
      have hAn := hA n (Nat.le_refl _) (Nat.lt_succ_self _)
      obtain ⟨f1, f2, f3⟩ := hfree l0.b (by simp)
      have hinj := (h.avail n hAn).1
      let l : Loc := ⟨l0.b, l0.base, l0.k, cap, []⟩
      have hb : BRep (if t' then J' else I') w l k es := by
        obtain ⟨e1, cs, E, e2, e3, e4, e5⟩ := hb0
        refine ⟨e1, cs, E, e2, ?_, by show es.length ≤ cap; omega, e5⟩
        have : cap * k ≤ l0.C * k := Nat.mul_le_mul_right _ hC
        show l0.base + cap * k ≤ cs.size
        omega
      have hle := Env.le_at (l := l) hinj
      have hb' : BRep (g.im (t.getD t')) w l k es := by
        obtain ⟨e1, cs, E, e2, e3, e4, e5⟩ := hb
        refine ⟨e1, cs, E, e2, e3, e4, fun i j hi hj => ?_⟩
        obtain ⟨u, hu, hr⟩ := e5 i j hi hj
        exact ⟨u, hu, hr.mono (fun b o x => hJ t' b o x)⟩
      have had := h.adopt1 hAn (l := l) (mo := .arr (t.getD t') k es) (w' := w) f3 f1 f2 (by obtain ⟨_, cs, E, e2, _⟩ := hb0; exact (Array.getElem?_eq_some_iff.1 e2).1) (WExt.refl w _) ⟨hk, .inr ⟨l, by simp [Env.at], by
        obtain ⟨e1, cs, E, e2, e3, e4, e5⟩ := hb'
        refine ⟨e1, cs, E, e2, e3, e4, fun i j hi hj => ?_⟩
        obtain ⟨u, hu, hr⟩ := e5 i j hi hj
        exact ⟨u, hu, hr.mono (hle.im _)⟩⟩⟩
      refine ⟨g.at n l, ⟨hle, rfl, rfl, Nat.le_succ _, had.weaken (fun id x => ⟨x.1, fun e => x.2 ⟨by omega, by omega⟩⟩), fun id o l1 x y z => ?_, fun id hid => ⟨?_, ?_⟩⟩, ?_⟩
      · simp only [somes, List.map_cons, List.map_nil, upds] at x
        rw [look_put] at x
        by_cases e : n = id
        · subst e; simp [Env.at] at z; subst z; rw [if_pos rfl] at x; cases x; exact .inr (by simp [l, MO.blks])
        · rw [if_neg e] at x; simp [Env.at, Ne.symm e] at z; exact .inl ⟨x, z⟩
      · simp only [somes, List.map_cons, List.map_nil, upds]
        rw [look_put, if_neg (by omega)]
      · simp [Env.at, show id ≠ n by omega]
      · subst hlen
        have := RV.sr (P := P) (g := g.at n l) n 0 es.length cap l (by simp [Env.at]) (by simp [l]) hcap
        simpa [l] using this
    | pw b base cells E cs F hb hsz h1 hown =>
      simp only [imp] at hA ⊢
      have hnd1 := List.nodup_cons.1 hnd
      have hge : n + 1 ≤ (impL (imp t f) cs (n + 1)).2.2 := by
        have hi : ∀ f m n1, (imp t f m n1).2.2 ≥ n1 := by
          intro f
          induction f with
          | zero => intro m n1; exact Nat.le_refl _
          | succ f ihf =>
            have hl : ∀ (ms : List MV) n1, (impL (imp t f) ms n1).2.2 ≥ n1 := by
              intro ms
              induction ms with
              | nil => intro n1; exact Nat.le_refl _
              | cons m ms ihm => intro n1; simp only [impL]; exact Nat.le_trans (ihf m n1) (ihm _)
            intro m n1
            cases m <;> simp only [imp] <;> first | exact Nat.le_refl _ | exact hl _ _ | (have := hl ‹List MV› (n1 + 1); omega) | omega
        have hl : ∀ (ms : List MV) n1, (impL (imp t f) ms n1).2.2 ≥ n1 := by
          intro ms
          induction ms with
          | nil => intro n1; exact Nat.le_refl _
          | cons m ms ihm => intro n1; simp only [impL]; exact Nat.le_trans (hi f m n1) (ihm _)
        exact hl cs (n + 1)
      have hAn := hA n (Nat.le_refl _) (by omega)
      obtain ⟨g1, ⟨hle1, hI1, hJ1, hn1, hr1, hb1, ho1⟩, hv1⟩ := list (n := n + 1) h hJ hII hown hnd1.2 (fun c hc => hfree c (List.mem_cons_of_mem _ hc)) (fun id a b => hA id (by omega) b)
      obtain ⟨f1, f2, f3⟩ := hfree b (by simp)
      have hAn1 : (fun id => A id ∧ ¬(n + 1 ≤ id ∧ id < (impL (imp t f) cs (n + 1)).2.2)) n := ⟨hAn, by omega⟩
      have hinj := (hr1.avail n hAn1).1
      have hle := Env.le_at (l := ⟨b, base, 1, 1, []⟩) hinj
      have hlen := hv1.length
      have hlen0 : (impL (imp t f) cs (n + 1)).1.length = cs.length := by
        have : ∀ (ms : List MV) n1, (impL (imp t f) ms n1).1.length = ms.length := by
          intro ms
          induction ms with
          | nil => intro n1; rfl
          | cons m ms ihm => intro n1; simp [impL, ihm]
        exact this _ _
      have had := hr1.adopt1 hAn1 (l := ⟨b, base, 1, 1, []⟩) (mo := .box (impL (imp t f) cs (n + 1)).1) (w' := w) (fun id o l x y z e => by
          rcases hb1 id o l x y z with ⟨c1, c2⟩ | c
          · exact f3 id o l c1 y c2 e
          · exact hnd1.1 (c _ e)) (by rw [hI1]; exact f1) f2 (Array.getElem?_eq_some_iff.1 hb).1 (WExt.refl w _)
          ⟨⟨b, base, 1, 1, []⟩, cells, E, by simp [Env.at], hb, by rw [hlen0]; exact hsz, h1, by rw [hlen0]; exact RVL.mono hle hv1⟩
      refine ⟨g1.at n ⟨b, base, 1, 1, []⟩, ⟨hle1.trans hle, by rw [← hI1]; rfl, by rw [← hJ1]; rfl, by omega, ?_, fun id o l1 x y z => ?_, fun id hid => ⟨?_, ?_⟩⟩, ?_⟩
      · rw [upds_somes_append]
        exact had.weaken (fun id x => ⟨⟨x.1, fun e => x.2 ⟨by omega, e.2⟩⟩, fun e => x.2 ⟨by omega, by omega⟩⟩)
      · rw [upds_somes_append] at x
        simp only [somes, List.map_cons, List.map_nil, upds] at x
        rw [look_put] at x
        by_cases e : n = id
        · subst e; simp [Env.at] at z; subst z; rw [if_pos rfl] at x; cases x; exact .inr (by simp [MO.blks])
        · rw [if_neg e] at x; simp [Env.at, Ne.symm e] at z
          rcases hb1 id o l1 x y z with c | c
          · exact .inl c
          · exact .inr fun d hd => List.mem_cons_of_mem _ (c d hd)
      · rw [upds_somes_append]
        simp only [somes, List.map_cons, List.map_nil, upds]
        rw [look_put, if_neg (by omega)]
        exact (ho1 id (by omega)).1
      · simp [Env.at, show id ≠ n by omega]
        exact (ho1 id (by omega)).2
      · have := RV.pr (P := P) (g := g1.at n ⟨b, base, 1, 1, []⟩) n 0 0 ⟨b, base, 1, 1, []⟩ (by simp [Env.at])
        simpa using this
    | on0 p k =>
      simp only [imp] at hA ⊢
      have hAn := hA n (Nat.le_refl _) (Nat.lt_succ_self _)
      refine ⟨g, ⟨Env.le.refl g, rfl, rfl, Nat.le_succ _, (h.ghostN hAn k).weaken (fun id x => ⟨x.1, fun e => x.2 (by omega)⟩), fun id o l1 x y z => ?_, fun id hid => ⟨?_, rfl⟩⟩, .sr0 _ _ _⟩
      · simp only [somes, List.map_cons, List.map_nil, upds] at x
        rw [look_put] at x
        by_cases e : n = id
        · subst e; rw [(h.avail _ hAn).1] at z; cases z
        · rw [if_neg e] at x; exact .inl ⟨x, z⟩
      · simp only [somes, List.map_cons, List.map_nil, upds]
        rw [look_put, if_neg (by omega)]
    | on l hs k ess cap hcap hC hN =>
      simp only [imp] at hA ⊢
      have hAn := hA n (Nat.le_refl _) (Nat.lt_succ_self _)
      have hinj := (h.avail n hAn).1
      have hle := Env.le_at (l := { l with C := cap }) hinj
      have hN' : NRep w { l with C := cap } hs k ess := by
        obtain ⟨h1, h2, h3, h4, ⟨cs, E, e1, e2, e3, e4⟩, h5⟩ := hN
        exact ⟨h1, h2, h3, h4, ⟨cs, E, e1, by show l.base + cap ≤ cs.size; omega, hcap, e4⟩, h5⟩
      have hlt := hN.lt
      have had := h.adopt hAn (l := { l with C := cap }) (mo := .nst hs k ess) (w' := w) (Fw := []) (fun id o l1 a1 b1 c1 b hb' => (hfree b hb').2.2 id o l1 a1 b1 c1) (fun b hb' => (hfree b hb').1) (fun b hb' => (hfree b hb').2.1) hlt (by simp) (WExt.refl w _)
        (.inr ⟨_, by simp [Env.at], hN'⟩)
      refine ⟨g.at n { l with C := cap }, ⟨hle, rfl, rfl, Nat.le_succ _, had.weaken (fun id x => ⟨x.1, fun e => x.2 (by omega)⟩), fun id o l1 x y z => ?_, fun id hid => ⟨?_, ?_⟩⟩, ?_⟩
      · simp only [somes, List.map_cons, List.map_nil, upds] at x
        rw [look_put] at x
        by_cases e : n = id
        · subst e; simp [Env.at] at z; subst z; rw [if_pos rfl] at x; cases x; exact .inr fun d hd => hd
        · rw [if_neg e] at x; simp [Env.at, Ne.symm e] at z; exact .inl ⟨x, z⟩
      · simp only [somes, List.map_cons, List.map_nil, upds]
        rw [look_put, if_neg (by omega)]
      · simp [Env.at, show id ≠ n by omega]
      · have := RV.sr (P := P) (g := g.at n { l with C := cap }) n 0 hs.length cap { l with C := cap } (by simp [Env.at]) (by simp) hcap
        rw [← hN.2.2.1]
        simpa using this
    | agg vs cs _ hown h1 =>
      simp only [imp] at hA ⊢
      obtain ⟨g1, hh, hv1⟩ := list (n := n) h hJ hII hown hnd hfree hA
      exact ⟨g1, hh, .agg _ _ hv1 h1⟩
    | tup vs cs _ hown =>
      simp only [imp] at hA ⊢
      obtain ⟨g1, hh, hv1⟩ := list (n := n) h hJ hII hown hnd hfree hA
      exact ⟨g1, hh, .tup _ _ hv1⟩
end
end Go.Fw
namespace Go.Fw
set_option linter.unusedVariables false
set_option linter.unusedSimpArgs false
section
variable {P : Program} {N : FrS} {A : Nat → Prop} {w0 : World} {F0 : List Nat} {J0 : Imm} {g : Env} {s : MS} {a : Act} {w : World} {hp : List (Nat × MO)}

inductive Back (P : Program) (J' : Imm) (w' : World) (inj : Nat → Option Loc) (s : MS) : MV → Option Nat → List Nat → Prop
  | none (m G) : Back P J' w' inj s m none G
  | arr0 (id t k es t' k' es') (h1 : s.obj id = some (.arr t k es)) (h2 : inj id = none) (h3 : es' = []) (h4 : es'.length = es.length) : Back P J' w' inj s (.ow t' k' es') (some id) []
  | arr (id t k es t' k' es' l) (h1 : s.obj id = some (.arr t k es)) (h2 : inj id = some l) (h3 : es'.length = es.length) (h4 : k' = k → BRep J' w' l k es' ∧ ∀ e ∈ es', e.length = k) :
      Back P J' w' inj s (.ow t' k' es') (some id) [l.b]
  | box (id : Nat) (cs0 cs : List MV) (l : Loc) (cells : Array Value) (E : TypeId) (F) (h1 : s.obj id = some (.box cs0)) (h2 : inj id = some l) (hb : w'.heap[l.b]? = some (.cells cells E (0, 0))) (hsz : l.base + cs.length ≤ cells.size)
      (ho : ∀ v ∈ cells.toList, v.oneCell' = true) (h : OwnL P J' J' w' ((cells.toList.drop l.base).take cs.length) cs F) : Back P J' w' inj s (.pw cs) (some id) (l.b :: F)
  | nst0 (id hs k ess hs' k' ess') (h1 : s.obj id = some (.nst hs k ess)) (h2 : inj id = none) (h3 : hs' = []) (h4 : ess' = []) : Back P J' w' inj s (.on hs' k' ess') (some id) []
  | nst (id hs k ess hs' k' ess' l) (h1 : s.obj id = some (.nst hs k ess)) (h2 : inj id = some l) (G) (h3 : hs' = hs → k' = k → NRep w' l hs k ess' ∧ ∀ b ∈ l.b :: hs.flatMap hb, b ∈ G) : Back P J' w' inj s (.on hs' k' ess') (some id) G
  | off (id m G) (h1 : ∀ t k es, s.obj id = some (.arr t k es) → ∀ t' k' es', m ≠ .ow t' k' es') (h2 : ∀ cs, s.obj id = some (.box cs) → ∀ cs', m ≠ .pw cs')
      (h3 : ∀ hs k ess, s.obj id = some (.nst hs k ess) → ∀ hs' k' ess', m ≠ .on hs' k' ess') : Back P J' w' inj s m (some id) G

inductive BackL (P : Program) (J' : Imm) (w' : World) (inj : Nat → Option Loc) (s : MS) : List MV → List (Option Nat) → List Nat → Prop
  | nil : BackL P J' w' inj s [] [] []
  | cons (m ms i is F G) (h : Back P J' w' inj s m i F) (hs : BackL P J' w' inj s ms is G) : BackL P J' w' inj s (m :: ms) (i :: is) (F ++ G)

theorem Back.inj {J' : Imm} {inj inj' : Nat → Option Loc} {m : MV} {i : Option Nat} {G : List Nat} (h : Back P J' w inj s m i G) (e : ∀ id, i = some id → inj' id = inj id) : Back P J' w inj' s m i G := by
  cases h with
  | none => exact .none _ _
  | arr0 id t k es t' k' es' h1 h2 h3 h4 => exact .arr0 id t k es t' k' es' h1 (by rw [e id rfl]; exact h2) h3 h4
  | arr id t k es t' k' es' l h1 h2 h3 h4 => exact .arr id t k es t' k' es' l h1 (by rw [e id rfl]; exact h2) h3 h4
  | box id cs0 cs l cells E F h1 h2 hb hsz ho h => exact .box id cs0 cs l cells E F h1 (by rw [e id rfl]; exact h2) hb hsz ho h
  | nst0 id hs k ess hs' k' ess' h1 h2 h3 h4 => exact .nst0 id hs k ess hs' k' ess' h1 (by rw [e id rfl]; exact h2) h3 h4
  | nst id hs k ess hs' k' ess' l h1 h2 G h3 => exact .nst id hs k ess hs' k' ess' l h1 (by rw [e id rfl]; exact h2) G h3
  | off id m G h1 h2 h3 => exact .off id m G h1 h2 h3

theorem BackL.inj {J' : Imm} {inj inj' : Nat → Option Loc} : ∀ {ms : List MV} {is : List (Option Nat)} {G : List Nat}, BackL P J' w inj s ms is G → (∀ id, some id ∈ is → inj' id = inj id) → BackL P J' w inj' s ms is G
  | _, _, _, .nil, _ => .nil
  | _, _, _, .cons m ms i is F G h hs, e => .cons m ms i is F G (h.inj (fun id hi => e id (by simp [hi]))) (hs.inj (fun id hi => e id (by simp [hi])))

/-- An object that was handed over is there again. -/
theorem HRel.back (h : HRel P A w0 F0 J0 g hp w) {n : Nat} (hA : ¬ A n) (hn : look hp n = none) {mo : MO} (hfree : ∀ l, g.inj n = some l → ∀ b ∈ mo.blks l, (∀ id o l1, look hp id = some o → o.live = true → g.inj id = some l1 → b ∉ o.blks l1) ∧
    g.I b = none ∧ (w0.heap.size ≤ b ∨ b ∈ F0)) (hlt : ∀ l, g.inj n = some l → ∀ b ∈ mo.blks l, b < w.heap.size) (ho : ORep P g w n mo) : HRel P A w0 F0 J0 g (put hp n mo) w := by
  refine ⟨fun id o1 h1 => ?_, fun id hid => ?_, fun id1 id2 o1 o2 l1 l2 a1 a2 b1 b2 c1 c2 d e1' e2' => ?_, fun id o1 l1 a1 b1 c1 d hd => ?_, fun id o1 l1 a1 b1 c1 d hd => ?_, fun id o1 l1 a1 b1 c1 d hd => ?_, h.imm, h.JI, h.Jf, h.ext⟩
  · rw [look_put] at h1
    by_cases e : n = id
    · subst e; simp at h1; subst h1; exact ho
    · rw [if_neg e] at h1; exact h.objs id o1 h1
  · have hne : n ≠ id := fun e => hA (e ▸ hid)
    have := h.avail id hid
    rw [look_put, if_neg hne]; exact this
  · rw [look_put] at a1 a2
    by_cases e1 : n = id1
    · by_cases e2 : n = id2
      · exact e1.symm.trans e2
      · rw [if_neg e2] at a2; subst e1
        rw [if_pos rfl] at a1; cases a1
        exact absurd e2' ((hfree l1 c1 d e1').1 id2 o2 l2 a2 b2 c2)
    · rw [if_neg e1] at a1
      by_cases e2 : n = id2
      · subst e2
        rw [if_pos rfl] at a2; cases a2
        exact absurd e1' ((hfree l2 c2 d e2').1 id1 o1 l1 a1 b1 c1)
      · rw [if_neg e2] at a2; exact h.sepB id1 id2 o1 o2 l1 l2 a1 a2 b1 b2 c1 c2 d e1' e2'
  · rw [look_put] at a1
    by_cases e1 : n = id
    · subst e1; rw [if_pos rfl] at a1; cases a1; exact (hfree l1 c1 d hd).2.1
    · rw [if_neg e1] at a1; exact h.disjB id o1 l1 a1 b1 c1 d hd
  · rw [look_put] at a1
    by_cases e1 : n = id
    · subst e1; rw [if_pos rfl] at a1; cases a1; exact (hfree l1 c1 d hd).2.2
    · rw [if_neg e1] at a1; exact h.freshB id o1 l1 a1 b1 c1 d hd
  · rw [look_put] at a1
    by_cases e1 : n = id
    · subst e1; rw [if_pos rfl] at a1; cases a1; exact hlt l1 c1 d hd
    · rw [if_neg e1] at a1; exact h.ltB id o1 l1 a1 b1 c1 d hd

theorem imp_ge (t : Option Bool) : ∀ f m n1, (imp t f m n1).2.2 ≥ n1 := by
  intro f
  induction f with
  | zero => intro m n1; exact Nat.le_refl _
  | succ f ihf =>
    have hl : ∀ (ms : List MV) n1, (impL (imp t f) ms n1).2.2 ≥ n1 := by
      intro ms
      induction ms with
      | nil => intro n1; exact Nat.le_refl _
      | cons m ms ihm => intro n1; simp only [impL]; exact Nat.le_trans (ihf m n1) (ihm _)
    intro m n1
    cases m <;> simp only [imp] <;> first | exact Nat.le_refl _ | exact hl _ _ | (have := hl ‹List MV› (n1 + 1); omega) | omega
theorem impL_ge (t : Option Bool) (f : Nat) : ∀ (ms : List MV) n1, (impL (imp t f) ms n1).2.2 ≥ n1 := by
  intro ms
  induction ms with
  | nil => intro n1; exact Nat.le_refl _
  | cons m ms ihm => intro n1; simp only [impL]; exact Nat.le_trans (imp_ge t f m n1) (ihm _)
theorem impL_len (t : Option Bool) (f : Nat) : ∀ (ms : List MV) n1, (impL (imp t f) ms n1).1.length = ms.length := by
  intro ms
  induction ms with
  | nil => intro n1; rfl
  | cons m ms ihm => intro n1; simp [impL, ihm]

theorem imp_ownL {t : Option Bool} {I' J' : Imm} (f : Nat) {A : Nat → Prop} {g : Env} {hp : List (Nat × MO)} {vs : List Value} {ms : List MV} {G : List Nat} {n : Nat} (h : HRel P A w0 F0 J0 g hp w)
    (hJ : ∀ t' b o, (if t' then J' else I') b = some o → g.im (t.getD t') b = some o) (hII : ∀ b o, I' b = some o → g.I b = some o) (ho : OwnL P I' J' w vs ms G) (hnd : G.Nodup) (hfree : Free g hp w0 F0 G) (hA : ∀ id, n ≤ id → id < (impL (imp t f) ms n).2.2 → A id) :
    ∃ g', Imported P A w0 F0 J0 g hp w G n (impL (imp t f) ms n).2.2 (impL (imp t f) ms n).2.1 g' ∧ RVL P g' vs (impL (imp t f) ms n).1 := by
  have h1 : Own P I' J' w (.tuple vs.toArray) (.tup ms) G := .tup _ _ _ (by simpa using ho)
  obtain ⟨g', hi, hv⟩ := imp_own (t := t) (f + 1) (n := n) h hJ hII h1 hnd hfree (by simpa only [imp] using hA)
  refine ⟨g', by simpa only [imp] using hi, ?_⟩
  simp only [imp] at hv
  cases hv with
  | tup _ _ hh => simpa using hh

theorem outK_pure {t : Bool} {J' : Imm} : ∀ {outs : List MV} {is : List (Option Nat)} {inj : Nat → Option Loc} {n : Nat} {G : List Nat} {Ku : Upd → Nat → Prop},
    BackL P J' w inj s outs is G → outK t s is outs n Ku → ∃ u n', Ku u n' ∧ n ≤ n' := by
  intro outs
  induction outs with
  | nil => intro is inj n G Ku hb hk; cases hb; simp only [outK] at hk; exact ⟨[], n, hk, Nat.le_refl _⟩
  | cons m ms ih =>
    intro is inj n G Ku hb hk
    cases hb with
    | cons _ _ i is F G hb1 hb2 =>
      cases hb1 with
      | none => simp only [outK] at hk; exact ih hb2 hk
      | off q _ _ h1 h2 h3 =>
        simp only [outK] at hk
        split at hk
        · rename_i e; exact absurd rfl (h1 _ _ _ e _ _ _)
        · rename_i e; exact absurd rfl (h3 _ _ _ e _ _ _)
        · rename_i e; exact absurd rfl (h2 _ e _)
        · exact ih hb2 hk
      | nst0 q hs k ess hs' k' ess' h1 h2 h3 h4 =>
        simp only [outK, h1] at hk
        obtain ⟨u, n', e1, e2⟩ := ih hb2 hk.2.2
        exact ⟨_, n', e1, e2⟩
      | nst q hs k ess hs' k' ess' l h1 h2 G h3 =>
        simp only [outK, h1] at hk
        obtain ⟨u, n', e1, e2⟩ := ih hb2 hk.2.2
        exact ⟨_, n', e1, e2⟩
      | arr0 q t0 k es t' k' es' h1 h2 h3 h4 =>
        simp only [outK, h1] at hk
        obtain ⟨u, n', e1, e2⟩ := ih hb2 hk.2.2
        exact ⟨_, n', e1, e2⟩
      | arr q t0 k es t' k' es' l h1 h2 h3 h4 =>
        simp only [outK, h1] at hk
        obtain ⟨u, n', e1, e2⟩ := ih hb2 hk.2.2
        exact ⟨_, n', e1, e2⟩
      | box q cs0 cs l cells E F h1 h2 hbk hsz ho hown =>
        simp only [outK, h1] at hk
        obtain ⟨u, n', e1, e2⟩ := ih hb2 hk
        exact ⟨_, n', e1, Nat.le_trans (impL_ge (some t) 2 cs n) e2⟩

theorem outs_sound {t : Bool} {J' : Imm} : ∀ {outs : List MV} {is : List (Option Nat)} {A : Nat → Prop} {g : Env} {hp : List (Nat × MO)} {n : Nat} {G : List Nat} {Ku : Upd → Nat → Prop},
    HRel P A w0 F0 J0 g hp w → (∀ b o, J' b = some o → g.im t b = some o) → BackL P J' w g.inj s outs is G → G.Nodup → Free g hp w0 F0 G →
    (∀ id, some id ∈ is → look hp id = none ∧ ¬ A id) → (is.filterMap _root_.id).Nodup → outK t s is outs n Ku →
    ∃ u n', Ku u n' ∧ n ≤ n' ∧ ((∀ id, n ≤ id → id < n' → A id) → ∃ g', g.le g' ∧ g'.I = g.I ∧ g'.J = g.J ∧ HRel P (fun id => A id ∧ ¬(n ≤ id ∧ id < n')) w0 F0 J0 g' (upds hp u) w ∧
      (∀ id o l1, look (upds hp u) id = some o → o.live = true → g'.inj id = some l1 → (look hp id = some o ∧ g.inj id = some l1) ∨ ∀ b ∈ o.blks l1, b ∈ G)) := by
  intro outs
  induction outs with
  | nil =>
    intro is A g hp n G Ku h hJ hb hnd hfree his hisn hk
    cases hb
    simp only [outK] at hk
    exact ⟨[], n, hk, Nat.le_refl _, fun _ => ⟨g, Env.le.refl g, rfl, rfl, h.weaken (fun _ x => x.1), fun id o l1 x _ z => .inl ⟨x, z⟩⟩⟩
  | cons m ms ih =>
    intro is A g hp n G Ku h hJ hb hnd hfree his hisn hk
    cases hb with
    | cons _ _ i is F G hb1 hb2 =>
      have hnd1 := List.nodup_append.1 hnd
      have pass : outK t s is ms n Ku → (is.filterMap _root_.id).Nodup → ∃ u n', Ku u n' ∧ n ≤ n' ∧ ((∀ id, n ≤ id → id < n' → A id) → ∃ g', g.le g' ∧ g'.I = g.I ∧ g'.J = g.J ∧ HRel P (fun id => A id ∧ ¬(n ≤ id ∧ id < n')) w0 F0 J0 g' (upds hp u) w ∧
          (∀ id o l1, look (upds hp u) id = some o → o.live = true → g'.inj id = some l1 → (look hp id = some o ∧ g.inj id = some l1) ∨ ∀ b ∈ o.blks l1, b ∈ F ++ G)) := by
        intro hk hisn
        obtain ⟨u, n', h1, h2, h3⟩ := ih h hJ hb2 hnd1.2.1 (fun b hb => hfree b (List.mem_append_right _ hb)) (fun id hi => his id (List.mem_cons_of_mem _ hi)) hisn hk
        refine ⟨u, n', h1, h2, fun hA => ?_⟩
        obtain ⟨g', e1, e2, e3, e4, e5⟩ := h3 hA
        refine ⟨g', e1, e2, e3, e4, fun id o l1 x y z => ?_⟩
        rcases e5 id o l1 x y z with c | c
        · exact .inl c
        · exact .inr fun d hd => List.mem_append_right _ (c d hd)
      cases hb1 with
      | none =>
        simp only [outK] at hk
        exact pass hk (by simpa using hisn)
      | off q _ _ h1 h2 h3 =>
        have hisn' : (is.filterMap _root_.id).Nodup := (List.nodup_cons.1 (show (q :: is.filterMap _root_.id).Nodup from hisn)).2
        simp only [outK] at hk
        split at hk
        · rename_i e; exact absurd rfl (h1 _ _ _ e _ _ _)
        · rename_i e; exact absurd rfl (h3 _ _ _ e _ _ _)
        · rename_i e; exact absurd rfl (h2 _ e _)
        · exact pass hk hisn'
      | nst0 q hs k ess hs' k' ess' h1 h2 h3 h4 =>
        have hisn2 := List.nodup_cons.1 (show (q :: is.filterMap _root_.id).Nodup from hisn)
        simp only [outK, h1] at hk
        obtain ⟨rfl, rfl, hk⟩ := hk
        obtain ⟨hl0, hnA⟩ := his q (by simp)
        subst h3 h4
        have hback := h.back (n := q) hnA hl0 (mo := .nst [] k' []) (fun l hl => by rw [h2] at hl; cases hl) (fun l hl => by rw [h2] at hl; cases hl) (.inl ⟨rfl, rfl, h2⟩)
        obtain ⟨u, n', e1, e2, e3⟩ := ih hback hJ hb2 hnd1.2.1 (fun b hb => by
            obtain ⟨f1, f2, f3⟩ := hfree b (List.mem_append_right _ hb)
            refine ⟨f1, f2, fun i o l x y z => ?_⟩
            rw [look_put] at x
            by_cases e : q = i
            · subst e; rw [h2] at z; cases z
            · rw [if_neg e] at x; exact f3 i o l x y z) (fun i hi => by
            obtain ⟨a1, a2⟩ := his i (List.mem_cons_of_mem _ hi)
            refine ⟨?_, a2⟩
            rw [look_put, if_neg (fun e => hisn2.1 (by subst e; exact List.mem_filterMap.2 ⟨_, hi, rfl⟩))]; exact a1) hisn2.2 hk
        refine ⟨_, n', e1, e2, fun hA => ?_⟩
        obtain ⟨g', p1, p2, p3, p4, p5⟩ := e3 hA
        refine ⟨g', p1, p2, p3, p4, fun i o l1 x y z => ?_⟩
        rcases p5 i o l1 x y z with ⟨c1, c2⟩ | c
        · rw [look_put] at c1
          by_cases e : q = i
          · subst e; rw [h2] at c2; cases c2
          · rw [if_neg e] at c1; exact .inl ⟨c1, c2⟩
        · exact .inr (by simpa using c)
      | nst q hs k ess hs' k' ess' l h1 h2 _ h3 =>
        have hisn2 := List.nodup_cons.1 (show (q :: is.filterMap _root_.id).Nodup from hisn)
        simp only [outK, h1] at hk
        obtain ⟨rfl, rfl, hk⟩ := hk
        obtain ⟨hl0, hnA⟩ := his q (by simp)
        obtain ⟨hN, hG⟩ := h3 rfl rfl
        have hback := h.back (n := q) hnA hl0 (mo := .nst hs' k' ess') (fun l' hl b hb' => by rw [h2] at hl; cases hl; obtain ⟨f1, f2, f3⟩ := hfree b (List.mem_append_left _ (hG b hb')); exact ⟨f3, f1, f2⟩)
          (fun l' hl b hb' => by rw [h2] at hl; cases hl; exact hN.lt b hb') (.inr ⟨l, h2, hN⟩)
        obtain ⟨u, n', e1, e2, e3⟩ := ih hback hJ hb2 hnd1.2.1 (fun b hb => by
            obtain ⟨c1, c2, c3⟩ := hfree b (List.mem_append_right _ hb)
            refine ⟨c1, c2, fun i o l x y z => ?_⟩
            rw [look_put] at x
            by_cases e : q = i
            · subst e; rw [h2] at z; cases z
              rw [if_pos rfl] at x; cases x
              exact fun hm => hnd1.2.2 b (hG b hm) b hb rfl
            · rw [if_neg e] at x; exact c3 i o l x y z) (fun i hi => by
            obtain ⟨a1, a2⟩ := his i (List.mem_cons_of_mem _ hi)
            refine ⟨?_, a2⟩
            rw [look_put, if_neg (fun e => hisn2.1 (by subst e; exact List.mem_filterMap.2 ⟨_, hi, rfl⟩))]; exact a1) hisn2.2 hk
        refine ⟨_, n', e1, e2, fun hA => ?_⟩
        obtain ⟨g', p1, p2, p3, p4, p5⟩ := e3 hA
        refine ⟨g', p1, p2, p3, p4, fun i o l1 x y z => ?_⟩
        rcases p5 i o l1 x y z with ⟨c1, c2⟩ | c
        · rw [look_put] at c1
          by_cases e : q = i
          · subst e; rw [h2] at c2; cases c2
            rw [if_pos rfl] at c1; cases c1
            exact .inr fun d hd => List.mem_append_left _ (hG d hd)
          · rw [if_neg e] at c1; exact .inl ⟨c1, c2⟩
        · exact .inr fun d hd => List.mem_append_right _ (c d hd)
      | arr0 q t0 k es t' k' es' h1 h2 h3 h4 =>
        have hisn2 := List.nodup_cons.1 (show (q :: is.filterMap _root_.id).Nodup from hisn)
        simp only [outK, h1] at hk
        obtain ⟨rfl, _, hk⟩ := hk
        obtain ⟨hl0, hnA⟩ := his q (by simp)
        subst h3
        have hback := h.back (n := q) hnA hl0 (mo := .arr t k' []) (fun l hl => by rw [h2] at hl; cases hl) (fun l hl => by rw [h2] at hl; cases hl) ⟨by simp, .inl ⟨rfl, h2⟩⟩
        obtain ⟨u, n', e1, e2, e3⟩ := ih hback hJ hb2 hnd1.2.1 (fun b hb => by
            obtain ⟨f1, f2, f3⟩ := hfree b (List.mem_append_right _ hb)
            refine ⟨f1, f2, fun i o l x y z => ?_⟩
            rw [look_put] at x
            by_cases e : q = i
            · subst e; rw [h2] at z; cases z
            · rw [if_neg e] at x; exact f3 i o l x y z) (fun i hi => by
            obtain ⟨a1, a2⟩ := his i (List.mem_cons_of_mem _ hi)
            refine ⟨?_, a2⟩
            rw [look_put, if_neg (fun e => hisn2.1 (by subst e; exact List.mem_filterMap.2 ⟨_, hi, rfl⟩))]; exact a1) hisn2.2 hk
        refine ⟨_, n', e1, e2, fun hA => ?_⟩
        obtain ⟨g', p1, p2, p3, p4, p5⟩ := e3 hA
        refine ⟨g', p1, p2, p3, p4, fun i o l1 x y z => ?_⟩
        rcases p5 i o l1 x y z with ⟨c1, c2⟩ | c
        · rw [look_put] at c1
          by_cases e : q = i
          · subst e; rw [h2] at c2; cases c2
          · rw [if_neg e] at c1; exact .inl ⟨c1, c2⟩
        · exact .inr (by simpa using c)
      | arr q t0 k es t' k' es' l h1 h2 h3 h4 =>
        have hisn2 := List.nodup_cons.1 (show (q :: is.filterMap _root_.id).Nodup from hisn)
        simp only [outK, h1] at hk
        obtain ⟨rfl, _, hk⟩ := hk
        obtain ⟨hl0, hnA⟩ := his q (by simp)
        obtain ⟨hbr, hke⟩ := h4 rfl
        obtain ⟨f1, f2, f3⟩ := hfree l.b (by simp)
        have hbr' : BRep (g.im t) w l k' es' := by
          obtain ⟨e1, cs, E, e2, e3, e4, e5⟩ := hbr
          refine ⟨e1, cs, E, e2, e3, e4, fun i j hi hj => ?_⟩
          obtain ⟨u, hu, hr⟩ := e5 i j hi hj
          exact ⟨u, hu, hr.mono hJ⟩
        have hback := h.back (n := q) hnA hl0 (mo := .arr t k' es') (fun l' hl b hb' => by rw [h2] at hl; cases hl; rw [List.mem_singleton.1 hb']; exact ⟨f3, f1, f2⟩) (fun l' hl b hb' => by
            rw [h2] at hl; cases hl; rw [List.mem_singleton.1 hb']
            obtain ⟨_, cs, E, e2, _⟩ := hbr'; exact (Array.getElem?_eq_some_iff.1 e2).1) ⟨hke, .inr ⟨l, h2, hbr'⟩⟩
        obtain ⟨u, n', e1, e2, e3⟩ := ih hback hJ hb2 hnd1.2.1 (fun b hb => by
            obtain ⟨c1, c2, c3⟩ := hfree b (List.mem_append_right _ hb)
            refine ⟨c1, c2, fun i o l1 x y z => ?_⟩
            rw [look_put] at x
            by_cases e : q = i
            · subst e; rw [h2] at z; cases z
              rw [if_pos rfl] at x; cases x
              exact fun hm => hnd1.2.2 b (by simpa [MO.blks] using hm) b hb rfl
            · rw [if_neg e] at x; exact c3 i o l1 x y z) (fun i hi => by
            obtain ⟨a1, a2⟩ := his i (List.mem_cons_of_mem _ hi)
            refine ⟨?_, a2⟩
            rw [look_put, if_neg (fun e => hisn2.1 (by subst e; exact List.mem_filterMap.2 ⟨_, hi, rfl⟩))]; exact a1) hisn2.2 hk
        refine ⟨_, n', e1, e2, fun hA => ?_⟩
        obtain ⟨g', p1, p2, p3, p4, p5⟩ := e3 hA
        refine ⟨g', p1, p2, p3, p4, fun i o l1 x y z => ?_⟩
        rcases p5 i o l1 x y z with ⟨c1, c2⟩ | c
        · rw [look_put] at c1
          by_cases e : q = i
          · subst e; rw [h2] at c2; cases c2; rw [if_pos rfl] at c1; cases c1; exact .inr (by simp [MO.blks])
          · rw [if_neg e] at c1; exact .inl ⟨c1, c2⟩
        · exact .inr fun d hd => List.mem_append_right _ (c d hd)
      | box q cs0 cs l cells E F h1 h2 hbk hsz ho hown =>
        have hisn2 := List.nodup_cons.1 (show (q :: is.filterMap _root_.id).Nodup from hisn)
        simp only [outK, h1] at hk
        obtain ⟨hl0, hnA⟩ := his q (by simp)
        have hndF := List.nodup_cons.1 hnd1.1
        have hge := impL_ge (some t) 2 cs n
        by_cases hAA : ∀ id, n ≤ id → id < (impL (imp (some t) 2) cs n).2.2 → A id
        · obtain ⟨g1, ⟨hle1, hI1, hJ1, hn1, hr1, hb1', ho1⟩, hv1⟩ := imp_ownL (t := some t) 2 (n := n) h (fun t' b o x => hJ b o (by cases t' <;> exact x)) (fun b o x => by have := hJ b o x; cases t; exact this; exact h.JI b o this) hown hndF.2 (fun b hb => hfree b (by simp [hb])) hAA
          obtain ⟨f1, f2, f3⟩ := hfree l.b (by simp)
          obtain ⟨o1a, o1b⟩ := ho1 q (fun e => hnA (hAA q e.1 e.2))
          have hlen := impL_len (some t) 2 cs n
          have hback := hr1.back (n := q) (fun e => hnA e.1) (by rw [o1a]; exact hl0) (mo := .box (impL (imp (some t) 2) cs n).1) (fun l' hl b hb' => by
              rw [o1b, h2] at hl; cases hl
              rw [List.mem_singleton.1 hb']
              refine ⟨fun i o l1 x y z e => ?_, by rw [hI1]; exact f1, f2⟩
              rcases hb1' i o l1 x y z with ⟨c1, c2⟩ | c
              · exact f3 i o l1 c1 y c2 e
              · exact hndF.1 (c _ e)) (fun l' hl b hb' => by
              rw [o1b, h2] at hl; cases hl
              rw [List.mem_singleton.1 hb']
              exact (Array.getElem?_eq_some_iff.1 hbk).1) ⟨l, cells, E, by rw [o1b]; exact h2, hbk, by rw [hlen]; exact hsz, ho, by rw [hlen]; exact hv1⟩
          obtain ⟨u, n', e1, e2, e3⟩ := ih (n := (impL (imp (some t) 2) cs n).2.2) hback (fun b o x => by cases t; exact hle1.I b o (hJ b o x); exact hle1.J b o (hJ b o x)) (hb2.inj (fun i hi => by
              obtain ⟨_, a2⟩ := his i (List.mem_cons_of_mem _ hi)
              exact (ho1 i (fun e => a2 (hAA i e.1 e.2))).2)) hnd1.2.1 (fun b hb => by
              obtain ⟨c1, c2, c3⟩ := hfree b (List.mem_append_right _ hb)
              refine ⟨by rw [hI1]; exact c1, c2, fun i o l1 x y z e => ?_⟩
              rw [look_put] at x
              by_cases e' : q = i
              · subst e'; rw [o1b, h2] at z; cases z
                rw [if_pos rfl] at x; cases x
                rw [List.mem_singleton.1 e] at hb
                exact hnd1.2.2 l.b (by simp) l.b hb rfl
              · rw [if_neg e'] at x
                rcases hb1' i o l1 x y z with ⟨d1, d2⟩ | d
                · exact c3 i o l1 d1 y d2 e
                · exact hnd1.2.2 b (by simp [d b e]) b hb rfl) (fun i hi => by
              obtain ⟨a1, a2⟩ := his i (List.mem_cons_of_mem _ hi)
              refine ⟨?_, fun e => a2 e.1⟩
              rw [look_put, if_neg (fun e => hisn2.1 (by subst e; exact List.mem_filterMap.2 ⟨_, hi, rfl⟩)), (ho1 i (fun e => a2 (hAA i e.1 e.2))).1]; exact a1) hisn2.2 hk
          refine ⟨_, n', e1, Nat.le_trans hn1 e2, fun hA => ?_⟩
          obtain ⟨g', p1, p2, p3, p4, p5⟩ := e3 (fun i a b => ⟨hA i (Nat.le_trans hn1 a) b, by omega⟩)
          have hups : upds hp ((impL (imp (some t) 2) cs n).2.1.map (fun x => (x.1, some x.2)) ++ [(q, some (.box (impL (imp (some t) 2) cs n).1))] ++ u) =
              upds (put (upds hp (somes (impL (imp (some t) 2) cs n).2.1)) q (.box (impL (imp (some t) 2) cs n).1)) u := by
            rw [upds_append, upds_append]; rfl
          refine ⟨g', hle1.trans p1, p2.trans hI1, p3.trans hJ1, ?_, fun i o l1 x y z => ?_⟩
          · rw [hups]
            exact p4.weaken (fun i hi => ⟨⟨hi.1, fun e => hi.2 ⟨e.1, Nat.lt_of_lt_of_le e.2 e2⟩⟩, fun e => hi.2 ⟨Nat.le_trans hn1 e.1, e.2⟩⟩)
          · rw [hups] at x
            rcases p5 i o l1 x y z with ⟨c1, c2⟩ | c
            · rw [look_put] at c1
              by_cases e : q = i
              · subst e; rw [o1b, h2] at c2; cases c2; rw [if_pos rfl] at c1; cases c1; exact .inr (by simp [MO.blks])
              · rw [if_neg e] at c1
                rcases hb1' i o l1 c1 y c2 with c3 | c3
                · exact .inl c3
                · exact .inr fun d hd => by simp [c3 d hd]
            · exact .inr fun d hd => List.mem_append_right _ (c d hd)
        · obtain ⟨u, n', e1, e2⟩ := outK_pure hb2 hk
          exact ⟨_, n', e1, Nat.le_trans hge e2, fun hA => absurd (fun i a b => hA i a (Nat.lt_of_lt_of_le b e2)) hAA⟩
end
end Go.Fw
namespace Go.Fw
set_option linter.unusedVariables false
set_option linter.unusedSimpArgs false
section
variable {P : Program} {N : FrS} {A : Nat → Prop} {w0 : World} {F0 : List Nat} {J0 : Imm} {g : Env} {s : MS} {a : Act} {w : World} {hp : List (Nat × MO)}
variable {n : Nat} {o : Oper} {K : MK} {next : Act → World → Prop} {Q : Exit → Act → World → Prop}

def blk (g : Env) (hp : List (Nat × MO)) (id : Nat) : List Nat :=
  match g.inj id, look hp id with
  | some l, some o => o.blks l
  | _, _ => []

theorem mem_blk {b id : Nat} : b ∈ blk g hp id ↔ ∃ l o, g.inj id = some l ∧ look hp id = some o ∧ b ∈ o.blks l := by
  unfold blk
  cases h : g.inj id with
  | none => simp
  | some l =>
    cases h2 : look hp id with
    | none => simp
    | some o => simp
theorem blk_eq {id : Nat} {o : MO} {l : Loc} (ho : look hp id = some o) (hl : g.inj id = some l) : blk g hp id = o.blks l := by simp [blk, ho, hl]

/-- One argument: the value, what it is handed over as, the object that comes back, the objects handed over, their blocks. -/
inductive Arg (P : Program) (I' J' : Imm) (w : World) (g : Env) (s : MS) : Value → MV → Option Nat → List Nat → List Nat → Prop
  | plain (v x ids F) (h : Own P I' J' w v x F) (hF : F.Sublist (ids.flatMap (blk g s.hp))) (hl : ∀ i ∈ ids, ∃ o, s.obj i = some o ∧ o.live = true) : Arg P I' J' w g s v x none ids F
  | arr (v x) (id : Nat) (t k es l len cap) (h1 : s.obj id = some (.arr t k es)) (h2 : g.inj id = some l) (hv : v = .slice (some ⟨l.b, l.base, none⟩) len cap) (hlen : len = es.length) (hcap : cap ≤ l.C) (hc0 : 0 < cap) (hlk : l.k = k)
      (h : Own P I' J' w v x [l.b]) : Arg P I' J' w g s v x (some id) [id] [l.b]
  | arr0 (v x) (id : Nat) (t k es p) (h1 : s.obj id = some (.arr t k es)) (he : es.length = 0) (hv : v = .slice p 0 0) (h : Own P I' J' w v x []) : Arg P I' J' w g s v x (some id) [id] []
  | box (v x) (id : Nat) (cs l ids F) (h1 : s.obj id = some (.box cs)) (h2 : g.inj id = some l) (hv : v = .pointer (some ⟨l.b, l.base, none⟩)) (h : Own P I' J' w v x (l.b :: F)) (hF : F.Sublist (ids.flatMap (blk g s.hp)))
      (hl : ∀ i ∈ ids, ∃ o, s.obj i = some o ∧ o.live = true) : Arg P I' J' w g s v x (some id) (id :: ids) (l.b :: F)
  | nst (v x) (id : Nat) (hs k ess l cap) (h1 : s.obj id = some (.nst hs k ess)) (h2 : g.inj id = some l) (hv : v = .slice (some ⟨l.b, l.base, none⟩) ess.length cap) (hc0 : 0 < cap)
      (h : Own P I' J' w v x (l.b :: hs.flatMap hb)) : Arg P I' J' w g s v x (some id) [id] (l.b :: hs.flatMap hb)
  | nst0 (v x) (id : Nat) (hs k ess p) (h1 : s.obj id = some (.nst hs k ess)) (he : ess = []) (hv : v = .slice p 0 0) (h : Own P I' J' w v x []) : Arg P I' J' w g s v x (some id) [id] []

inductive ArgL (P : Program) (I' J' : Imm) (w : World) (g : Env) (s : MS) : List Value → List MV → List (Option Nat) → List Nat → List Nat → Prop
  | nil : ArgL P I' J' w g s [] [] [] [] []
  | cons (v vs x xs i is ids gs F G) (h : Arg P I' J' w g s v x i ids F) (hs : ArgL P I' J' w g s vs xs is gs G) : ArgL P I' J' w g s (v :: vs) (x :: xs) (i :: is) (ids ++ gs) (F ++ G)

theorem takeC_own (h : HRel P A w0 F0 J0 g s.hp w) {al : Bool} {v : Value} {m : MV} {Kt : MV → List Nat → Prop} (hv : RV P g v m) (hk : takeC s al m Kt) :
    ∃ x ids, Kt x ids ∧ (∀ i ∈ ids, ∃ o, s.obj i = some o ∧ o.live = true) ∧ ∀ I' J' : Imm, (∀ b o, g.I b = some o → I' b = some o) → (∀ b o, (if al then g.I else g.J) b = some o → J' b = some o) →
      ∃ F, Own P I' J' w v x F ∧ F.Sublist (ids.flatMap (blk g s.hp)) := by
  cases m <;> simp only [takeC] at hk
  case i => cases hv; exact ⟨_, _, hk, by simp, fun I' J' _ _ => ⟨[], .imm _ _ (.i _ _), by simp⟩⟩
  case b => cases hv; exact ⟨_, _, hk, by simp, fun I' J' _ _ => ⟨[], .imm _ _ (.b _), by simp⟩⟩
  case s t k es =>
    cases hv with
    | s _ _ _ _ hd =>
      refine ⟨_, _, hk, by simp, fun I' J' hI hJ => ⟨[], .imm _ _ (.s _ _ _ _ (hd.mono (fun b o x => ?_))), by simp⟩⟩
      cases al
      · cases t
        · exact hI b o x
        · exact hJ b o x
      · rw [Bool.or_true]
        exact hJ b o (by cases t; exact x; exact h.JI b o x)
  case nl k => cases hv; exact ⟨_, _, hk, by simp, fun I' J' _ _ => ⟨[], .ow0 _ _ _, by simp⟩⟩
  case sr id off len =>
    split at hk
    · rename_i t k es hob
      obtain ⟨rfl, rfl, hk⟩ := hk
      refine ⟨_, _, hk, by simp [MS.obj] at hob ⊢; exact ⟨_, hob, rfl⟩, fun I' J' hI hJ => ?_⟩
      obtain ⟨hek, hrep⟩ := h.objs id _ hob
      generalize hln : es.length = ln at hv
      cases hv with
      | sr0 p =>
        have : es = [] := List.eq_nil_of_length_eq_zero hln
        subst this
        exact ⟨[], .ow0 _ _ _, by simp⟩
      | sr _ _ _ cap l hl h1 h2 =>
        rcases hrep with ⟨_, h3⟩ | ⟨l', h3, hlk, cs, E, h4, h5, h6, h7⟩
        · rw [hl] at h3; cases h3
        · rw [hl] at h3; cases h3
          refine ⟨[l.b], ?_, by simp [blk_eq (show look s.hp id = _ from hob) hl, MO.blks]⟩
          have := Own.ow (P := P) (I := I') (J := J') (w := w) l false k es cap ln hln.symm h2 (by omega) hek ⟨hlk, cs, E, h4, h5, h6, fun i j hi hj => by
            obtain ⟨u, hu, hr⟩ := h7 i j hi hj
            exact ⟨u, hu, hr.mono (fun b o x => hI b o (by cases t; exact x; exact h.JI b o x))⟩⟩
          simpa using this
    · exact hk.elim
  all_goals exact hk.elim

theorem takeL_own (h : HRel P A w0 F0 J0 g s.hp w) {al : Bool} : ∀ {vs : List Value} {ms : List MV} {Kt : List MV → List Nat → Prop}, RVL P g vs ms → takeL s al ms Kt →
    ∃ xs ids, Kt xs ids ∧ (∀ i ∈ ids, ∃ o, s.obj i = some o ∧ o.live = true) ∧ ∀ I' J' : Imm, (∀ b o, g.I b = some o → I' b = some o) → (∀ b o, (if al then g.I else g.J) b = some o → J' b = some o) →
      ∃ F, OwnL P I' J' w vs xs F ∧ F.Sublist (ids.flatMap (blk g s.hp)) := by
  intro vs
  induction vs with
  | nil => intro ms Kt hv hk; cases hv; exact ⟨_, _, hk, by simp, fun I' J' _ _ => ⟨[], .nil, by simp⟩⟩
  | cons v vs ih =>
    intro ms Kt hv hk
    cases hv with
    | cons _ _ m ms h1 h2 =>
      simp only [takeL] at hk
      obtain ⟨x, ids, hk, l1, o1⟩ := takeC_own h h1 hk
      obtain ⟨xs, ids', hk, l2, o2⟩ := ih h2 hk
      refine ⟨_, _, hk, fun i hi => ?_, fun I' J' hI hJ => ?_⟩
      · rcases List.mem_append.1 hi with hi | hi
        · exact l1 i hi
        · exact l2 i hi
      · obtain ⟨F, p1, p2⟩ := o1 I' J' hI hJ
        obtain ⟨G, q1, q2⟩ := o2 I' J' hI hJ
        exact ⟨F ++ G, .cons _ _ _ _ _ _ p1 q1, by rw [List.flatMap_append]; exact p2.append q2⟩

theorem flatI_cons (b : Bk) (is : List Bk) : flatI (b :: is) = flatI [b] ++ flatI is := by
  cases b <;> simp [flatI]

theorem ArgL.append {I' J' : Imm} : ∀ {vs xs is gs F}, ArgL P I' J' w g s vs xs is gs F → ∀ {vs' xs' is' gs' F'}, ArgL P I' J' w g s vs' xs' is' gs' F' →
    ArgL P I' J' w g s (vs ++ vs') (xs ++ xs') (is ++ is') (gs ++ gs') (F ++ F')
  | _, _, _, _, _, .nil, _, _, _, _, _, k => k
  | _, _, _, _, _, .cons v vs x xs i is ids gs F G h hs, _, _, _, _, _, k => by
    have := ArgL.cons _ _ _ _ _ _ _ _ _ _ h (hs.append k)
    simpa [List.append_assoc] using this

theorem ArgL.one {I' J' : Imm} {v x i ids F} (h : Arg P I' J' w g s v x i ids F) : ArgL P I' J' w g s [v] [x] [i] ids F := by
  have := ArgL.cons _ _ _ _ _ _ _ _ _ _ h .nil
  simpa using this

/-- Values, cell by cell. -/
inductive FlatV : List Value → List Bk → List Value → Prop
  | nil : FlatV [] [] []
  | one (v vs i is fvs) (h : FlatV vs is fvs) : FlatV (v :: vs) (.one i :: is) (v :: fvs)
  | many (cells : Array Value) (vs js is fvs) (hl : cells.toList.length = js.length) (h : FlatV vs is fvs) : FlatV (.agg cells :: vs) (.many js :: is) (cells.toList ++ fvs)

theorem OwnL.rep {I' J' : Imm} : ∀ (vs : List Value), OwnL P I' J' w vs (List.replicate vs.length .u) []
  | [] => .nil
  | v :: vs => by
    have := OwnL.cons (P := P) (I := I') (J := J') (w := w) v vs .u _ [] [] (.imm _ _ (.u v)) (OwnL.rep vs)
    simpa [List.replicate_succ] using this
theorem OwnL.of_RVL2 {I' J' : Imm} : ∀ {vs : List Value} {ms : List MV}, RVL P ⟨I', J', noInj⟩ vs ms → OwnL P I' J' w vs ms []
  | _, _, .nil => .nil
  | _, _, .cons v vs m ms h hs => by
    have := OwnL.cons (P := P) (I := I') (J := J') (w := w) v vs m ms [] [] (.imm _ _ h) (OwnL.of_RVL2 hs)
    simpa using this
theorem OwnL.app2 {I' J' : Imm} : ∀ {vs vs' : List Value} {ms ms' : List MV} {F F' : List Nat}, OwnL P I' J' w vs ms F → OwnL P I' J' w vs' ms' F' → OwnL P I' J' w (vs ++ vs') (ms ++ ms') (F ++ F')
  | _, _, _, _, _, _, .nil, k => k
  | _, _, _, _, _, _, .cons v vs m ms F G h hs, k => by
    have := OwnL.cons _ _ _ _ _ _ h (hs.app2 k)
    simpa [List.append_assoc] using this

theorem FlatV.outs {I' J' : Imm} : ∀ {vs is fvs}, FlatV vs is fvs → ∀ {outs G}, OwnL P I' J' w vs outs G → ∃ G', OwnL P I' J' w fvs (flatO is outs) G' ∧ G'.Sublist G
  | _, _, _, .nil, _, _, ho => by cases ho; exact ⟨[], .nil, by simp⟩
  | _, _, _, .one v vs i is fvs h, _, _, ho => by
    cases ho with
    | cons _ _ m ms F G h1 h2 =>
      obtain ⟨G', p1, p2⟩ := h.outs h2
      exact ⟨_, .cons _ _ _ _ _ _ h1 p1, (List.Sublist.refl F).append p2⟩
  | _, _, _, .many cells vs js is fvs hl h, _, _, ho => by
    cases ho with
    | cons _ _ m ms F G h1 h2 =>
      obtain ⟨G', p1, p2⟩ := h.outs h2
      have fb : ∃ F', OwnL P I' J' w cells.toList (List.replicate js.length .u) F' ∧ F'.Sublist F := ⟨[], by rw [← hl]; exact OwnL.rep _, by simp⟩
      have hc : ∃ F', OwnL P I' J' w cells.toList (cellsO js.length m) F' ∧ F'.Sublist F := by
        cases m with
        | agg cs =>
          simp only [cellsO]
          split
          · cases h1 with
            | imm _ _ hr => cases hr with | agg _ _ hr _ => exact ⟨[], OwnL.of_RVL2 hr, by simp⟩
            | agg _ _ _ hr _ => exact ⟨F, hr, List.Sublist.refl F⟩
          · exact fb
        | _ => exact fb
      obtain ⟨F', q1, q2⟩ := hc
      exact ⟨_, q1.app2 p1, q2.append p2⟩

theorem lendC_own (h : HRel P A w0 F0 J0 g s.hp w) {v : Value} {m : MV} {Kt : MV → Option Nat → List Nat → Prop} (hv : RV P g v m) (hk : lendC s m Kt) :
    ∃ x i ids, Kt x i ids ∧ ∀ I' J' : Imm, (∀ b o, g.I b = some o → I' b = some o) → ∃ F, Arg P I' J' w g s v x i ids F := by
  cases m <;> simp only [lendC] at hk
  case i => cases hv; exact ⟨_, none, [], hk, fun I' J' _ => ⟨[], .plain _ _ _ _ (.imm _ _ (.i _ _)) (by simp) (by simp)⟩⟩
  case b => cases hv; exact ⟨_, none, [], hk, fun I' J' _ => ⟨[], .plain _ _ _ _ (.imm _ _ (.b _)) (by simp) (by simp)⟩⟩
  case nl k => cases hv; exact ⟨_, none, [], hk, fun I' J' _ => ⟨[], .plain _ _ _ _ (.ow0 _ _ _) (by simp) (by simp)⟩⟩
  case sr id off len =>
    split at hk
    · rename_i t k es hob
      obtain ⟨rfl, rfl, hk⟩ := hk
      refine ⟨_, some id, [id], hk, fun I' J' hI => ?_⟩
      obtain ⟨hek, hrep⟩ := h.objs id _ hob
      generalize hln : es.length = ln at hv
      cases hv with
      | sr0 p =>
        have : es = [] := List.eq_nil_of_length_eq_zero hln
        subst this
        exact ⟨[], .arr0 _ _ id t k [] p hob rfl rfl (.ow0 _ _ _)⟩
      | sr _ _ _ cap l hl c1 c2 =>
        rcases hrep with ⟨_, h3⟩ | ⟨l', h3, hlk, cs, E, h4, h5, h6, h7⟩
        · rw [hl] at h3; cases h3
        · rw [hl] at h3; cases h3
          have := Own.ow (P := P) (I := I') (J := J') (w := w) l false k es cap ln hln.symm c2 (by omega) hek ⟨hlk, cs, E, h4, h5, h6, fun i j hi hj => by
            obtain ⟨u, hu, hr⟩ := h7 i j hi hj
            exact ⟨u, hu, hr.mono (fun b o x => hI b o (by cases t; exact x; exact h.JI b o x))⟩⟩
          by_cases hc0 : cap = 0
          · subst hc0
            have hl0 : ln = 0 := by omega
            subst hl0
            have hes : es = [] := List.eq_nil_of_length_eq_zero hln
            subst hes
            exact ⟨[], .arr0 _ _ id t k [] _ hob rfl rfl (.ow0 _ _ _)⟩
          · exact ⟨[l.b], .arr _ _ id t k es l ln cap hob hl (by simp) hln.symm (by omega) (by omega) hlk (by simpa using this)⟩
    · rename_i hs k ess hob
      obtain ⟨rfl, rfl, hk⟩ := hk
      refine ⟨_, some id, [id], hk, fun I' J' hI => ?_⟩
      have empty : ess = [] → ∀ p, hs = [] → ∃ F, Arg P I' J' w g s (.slice p 0 0) (.on hs k ess) (some id) [id] F := fun he p hh => by
        subst he hh
        exact ⟨[], .nst0 _ _ id [] k [] p hob rfl rfl (.on0 _ _)⟩
      generalize hln : ess.length = ln at hv
      rcases h.objs id _ hob with ⟨e1, e2, h3⟩ | ⟨l', h3, hN⟩
      · cases hv with
        | sr0 p => exact empty e2 p e1
        | sr _ _ _ cap l hl c1 c2 => rw [hl] at h3; cases h3
      · have hhl : hs.length = ess.length := hN.2.2.1
        cases hv with
        | sr0 p => exact empty (List.eq_nil_of_length_eq_zero hln) p (List.eq_nil_of_length_eq_zero (by omega))
        | sr _ _ _ cap l hl c1 c2 =>
          rw [hl] at h3; cases h3
          by_cases hc0 : cap = 0
          · subst hc0
            obtain rfl : ln = 0 := by omega
            exact empty (List.eq_nil_of_length_eq_zero hln) _ (List.eq_nil_of_length_eq_zero (by omega))
          · have := Own.on (P := P) (I := I') (J := J') (w := w) l' hs k ess cap (by omega) (by omega) hN
            subst hln
            rw [hhl] at this
            rw [Nat.zero_mul, Nat.add_zero]
            exact ⟨_, .nst _ _ id hs k ess l' cap hob hl rfl (by omega) this⟩
    · exact hk.elim
  all_goals exact hk.elim

theorem lendL_own (h : HRel P A w0 F0 J0 g s.hp w) : ∀ {vs : List Value} {ms : List MV} {Kt : List MV → List (Option Nat) → List Nat → Prop}, RVL P g vs ms → lendL s ms Kt →
    ∃ xs is ids, Kt xs is ids ∧ is.length = vs.length ∧ ∀ I' J' : Imm, (∀ b o, g.I b = some o → I' b = some o) → ∃ F, ArgL P I' J' w g s vs xs is ids F := by
  intro vs
  induction vs with
  | nil => intro ms Kt hv hk; cases hv; exact ⟨_, _, _, hk, rfl, fun I' J' _ => ⟨[], .nil⟩⟩
  | cons v vs ih =>
    intro ms Kt hv hk
    cases hv with
    | cons _ _ m ms h1 h2 =>
      simp only [lendL] at hk
      obtain ⟨x, i, ids, hk, o1⟩ := lendC_own h h1 hk
      obtain ⟨xs, is, ids', hk, hl, o2⟩ := ih h2 hk
      refine ⟨_, _, _, hk, by simp [hl], fun I' J' hI => ?_⟩
      obtain ⟨F, p⟩ := o1 I' J' hI
      obtain ⟨G, q⟩ := o2 I' J' hI
      exact ⟨_, .cons _ _ _ _ _ _ _ _ _ _ p q⟩

theorem args_sound (h : HRel P A w0 F0 J0 g s.hp w) {al : Bool} : ∀ {vs : List Value} {ms : List Mode} {mvs : List MV} {Ka : List MV → List Bk → List Nat → List Nat → Prop}, RVL P g vs mvs → argsK P s al ms mvs Ka →
    ∃ xs is gs rs, Ka xs is gs rs ∧ ∀ I' J' : Imm, (∀ b o, w.heap[b]? = some o → Reads g s.hp rs b → I' b = some o) → (∀ b o, (if al then g.I else g.J) b = some o → J' b = some o) →
      ∃ F fvs fxs, ArgL P I' J' w g s fvs fxs (flatI is) gs F ∧ OwnL P I' J' w vs xs F ∧ FlatV vs is fvs := by
  intro vs
  induction vs with
  | nil =>
    intro ms mvs Ka hv hk
    cases hv
    cases ms with
    | nil => exact ⟨_, _, _, _, hk, fun I' J' _ _ => ⟨[], [], [], .nil, .nil, .nil⟩⟩
    | cons => simp [argsK] at hk
  | cons v vs ih =>
    intro ms mvs Ka hv hk
    cases hv with
    | cons _ _ m mvs h1 h2 =>
      cases ms with
      | nil => simp [argsK] at hk
      | cons o ms =>
        have fncase : ∀ f a b, m = .clo f a b → o = .fn → (∃ dom φ, FnOk P s f a b dom φ ∧ argsK P s al ms mvs fun xs is gs rs => Ka (.fn dom φ :: xs) (.one none :: is) gs (readsM s (.clo f a b) ++ rs)) →
            ∃ xs is gs rs, Ka xs is gs rs ∧ ∀ I' J' : Imm, (∀ b o, w.heap[b]? = some o → Reads g s.hp rs b → I' b = some o) → (∀ b o, (if al then g.I else g.J) b = some o → J' b = some o) →
              ∃ F fvs fxs, ArgL P I' J' w g s fvs fxs (flatI is) gs F ∧ OwnL P I' J' w (v :: vs) xs F ∧ FlatV (v :: vs) is fvs := by
          intro f a b hm _ hh
          subst hm
          obtain ⟨dom, φ, hok, hk⟩ := hh
          obtain ⟨xs, is, gs, rs, hk, hrest⟩ := ih h2 hk
          refine ⟨_, _, _, _, hk, fun I' J' hI hJ => ?_⟩
          obtain ⟨G, fvs, fxs, hG, hO, hV⟩ := hrest I' J' (fun b o x y => hI b o x (y.mono (fun i hi => List.mem_append_right _ hi))) hJ
          cases h1 with
          | clo _ fv cv _ _ c1 c2 =>
            have hc := FnOk.calls h hok c1 c2 (I' := I') (rs := readsM s (.clo f a b) ++ rs) hI (fun i hi => List.mem_append_left _ hi)
            have := ArgL.cons _ _ _ _ _ _ [] _ [] _ (.plain (I' := I') (J' := J') (w := w) (g := g) (s := s) _ (.fn dom φ) [] [] (.imm _ _ (.fn f fv cv dom φ hc.1 hc.2)) (by simp) (by simp)) hG
            exact ⟨_, _, _, by simpa [flatI] using this, by simpa using OwnL.cons _ _ _ _ [] _ (.imm _ _ (.fn f fv cv dom φ hc.1 hc.2)) hO, .one _ _ _ _ _ hV⟩
        have fn2case : ∀ dom φ, m = .fn dom φ → o = .fn → (argsK P s al ms mvs fun xs is gs rs => Ka (.fn dom φ :: xs) (.one none :: is) gs rs) →
            ∃ xs is gs rs, Ka xs is gs rs ∧ ∀ I' J' : Imm, (∀ b o, w.heap[b]? = some o → Reads g s.hp rs b → I' b = some o) → (∀ b o, (if al then g.I else g.J) b = some o → J' b = some o) →
              ∃ F fvs fxs, ArgL P I' J' w g s fvs fxs (flatI is) gs F ∧ OwnL P I' J' w (v :: vs) xs F ∧ FlatV (v :: vs) is fvs := by
          intro dom φ hm _ hk2
          subst hm
          obtain ⟨xs, is, gs, rs, hk2, hrest⟩ := ih h2 hk2
          refine ⟨_, _, _, _, hk2, fun I' J' hI hJ => ?_⟩
          obtain ⟨G, fvs, fxs, hG, hO, hV⟩ := hrest I' J' hI hJ
          cases h1 with
          | fn f fv cv _ _ h0 hh =>
            have := ArgL.cons _ _ _ _ _ _ [] _ [] _ (.plain (I' := I') (J' := J') (w := w) (g := g) (s := s) _ (.fn dom φ) [] [] (.imm _ _ (.fn f fv cv dom φ h0 (fun w' xs hw => hh w' xs (fun b o x => hw b o (h.I_of hI b o x))))) (by simp) (by simp)) hG
            exact ⟨_, _, _, by simpa [flatI] using this, by simpa using OwnL.cons _ _ _ _ [] _ (.imm _ _ (.fn f fv cv dom φ h0 (fun w' xs hw => hh w' xs (fun b o x => hw b o (h.I_of hI b o x))))) hO, .one _ _ _ _ _ hV⟩
        have nlcase : ∀ k, m = .nl k → o = .fn → (argsK P s al ms mvs fun xs is gs rs => Ka (.nl k :: xs) (.one none :: is) gs rs) →
            ∃ xs is gs rs, Ka xs is gs rs ∧ ∀ I' J' : Imm, (∀ b o, w.heap[b]? = some o → Reads g s.hp rs b → I' b = some o) → (∀ b o, (if al then g.I else g.J) b = some o → J' b = some o) →
              ∃ F fvs fxs, ArgL P I' J' w g s fvs fxs (flatI is) gs F ∧ OwnL P I' J' w (v :: vs) xs F ∧ FlatV (v :: vs) is fvs := by
          intro k hm _ hk2
          subst hm
          obtain ⟨xs, is, gs, rs, hk2, hrest⟩ := ih h2 hk2
          refine ⟨_, _, _, _, hk2, fun I' J' hI hJ => ?_⟩
          obtain ⟨G, fvs, fxs, hG, hO, hV⟩ := hrest I' J' hI hJ
          cases h1 with
          | nl p =>
            have := ArgL.cons _ _ _ _ _ _ [] _ [] _ (.plain (I' := I') (J' := J') (w := w) (g := g) (s := s) _ (.nl k) [] [] (.imm _ _ (.nl p k)) (by simp) (by simp)) hG
            exact ⟨_, _, _, by simpa [flatI] using this, by simpa using OwnL.cons _ _ _ _ [] _ (.imm _ _ (.nl p k)) hO, .one _ _ _ _ _ hV⟩
        have gen : (argK s al o m fun x i g => argsK P s al ms mvs fun xs is gs rs => Ka (x :: xs) (i :: is) (g ++ gs) ((if o = .im then readsA s m else []) ++ rs)) →
            ∃ xs is gs rs, Ka xs is gs rs ∧ ∀ I' J' : Imm, (∀ b o, w.heap[b]? = some o → Reads g s.hp rs b → I' b = some o) → (∀ b o, (if al then g.I else g.J) b = some o → J' b = some o) →
              ∃ F fvs fxs, ArgL P I' J' w g s fvs fxs (flatI is) gs F ∧ OwnL P I' J' w (v :: vs) xs F ∧ FlatV (v :: vs) is fvs := by
          intro hk
          -- one argument, then the others
          have step : ∃ x i ids, (argsK P s al ms mvs fun xs is gs rs => Ka (x :: xs) (i :: is) (ids ++ gs) ((if o = .im then readsA s m else []) ++ rs)) ∧
              ∀ I' J' : Imm, (∀ b o', w.heap[b]? = some o' → Reads g s.hp (if o = .im then readsA s m else []) b → I' b = some o') → (∀ b o, (if al then g.I else g.J) b = some o → J' b = some o) →
                ∃ F fv fx, ArgL P I' J' w g s fv fx (flatI [i]) ids F ∧ Own P I' J' w v x F ∧ ∀ vs is fvs, FlatV vs is fvs → FlatV (v :: vs) (i :: is) (fv ++ fvs) := by
            have one : ∀ {I' J' : Imm} {x : MV} {i : Option Nat} {ids F : List Nat}, Arg P I' J' w g s v x i ids F →
                ∃ F fv fx, ArgL P I' J' w g s fv fx (flatI [.one i]) ids F ∧ Own P I' J' w v x F ∧ ∀ vs is fvs, FlatV vs is fvs → FlatV (v :: vs) (.one i :: is) (fv ++ fvs) := by
              intro I' J' x i ids F ha
              have ho : Own P I' J' w v x F := by
                cases ha <;> assumption
              exact ⟨F, [v], [x], by simpa [flatI] using ArgL.one ha, ho, fun vs is fvs hf => .one _ _ _ _ _ hf⟩
            cases o with
            | im =>
              simp only [argK] at hk
              split at hk
              · rename_i x hx
                refine ⟨_, _, _, hk, fun I' J' hI hJ => one (.plain _ _ [] [] (.imm _ _ (closeM_RV h (rs := readsA s m) (fun b o x y => hI b o x (by simpa using y)) hJ h1 hx (fun i hi => hi))) (by simp) (by simp))⟩
              · exact hk.elim
            | fn => cases m <;> simp [argK] at hk
            | co =>
              have hco : ∀ (m' : MV), (∀ cs, m' ≠ .agg cs) → m = m' → takeC s al m' (fun x is => argsK P s al ms mvs fun xs is' gs rs => Ka (x :: xs) (.one none :: is') (is ++ gs) ((if Mode.co = .im then readsA s m else []) ++ rs)) →
                  ∃ x i ids, (argsK P s al ms mvs fun xs is gs rs => Ka (x :: xs) (i :: is) (ids ++ gs) ((if Mode.co = .im then readsA s m else []) ++ rs)) ∧
                  ∀ I' J' : Imm, (∀ b o', w.heap[b]? = some o' → Reads g s.hp (if Mode.co = .im then readsA s m else []) b → I' b = some o') → (∀ b o, (if al then g.I else g.J) b = some o → J' b = some o) →
                  ∃ F fv fx, ArgL P I' J' w g s fv fx (flatI [i]) ids F ∧ Own P I' J' w v x F ∧ ∀ vs is fvs, FlatV vs is fvs → FlatV (v :: vs) (i :: is) (fv ++ fvs) := by
                intro m' _ hm hk
                subst hm
                obtain ⟨x, ids, hk, l1, o1⟩ := takeC_own h h1 hk
                refine ⟨x, .one none, ids, hk, fun I' J' hI hJ => ?_⟩
                obtain ⟨F, p1, p2⟩ := o1 I' J' (h.I_of hI) hJ
                exact one (.plain _ _ _ _ p1 p2 l1)
              cases m
              case agg cs =>
                simp only [argK] at hk
                cases h1 with
                | agg us _ hr ho1 =>
                  obtain ⟨xs, ids, hk, l1, o1⟩ := takeL_own h hr hk
                  refine ⟨.agg xs, .one none, ids, hk, fun I' J' hI hJ => ?_⟩
                  obtain ⟨F, p1, p2⟩ := o1 I' J' (h.I_of hI) hJ
                  exact one (.plain _ _ _ _ (.agg _ _ _ p1 ho1) p2 l1)
              all_goals exact hco _ (by simp) rfl (by simpa only [argK] using hk)
            | io =>
              have hlend : ∀ (m' : MV), m = m' → lendC s m' (fun x i ids => argsK P s al ms mvs fun xs is' gs rs => Ka (x :: xs) (.one i :: is') (ids ++ gs) ((if Mode.io = .im then readsA s m else []) ++ rs)) →
                  ∃ x i ids, (argsK P s al ms mvs fun xs is gs rs => Ka (x :: xs) (i :: is) (ids ++ gs) ((if Mode.io = .im then readsA s m else []) ++ rs)) ∧
                  ∀ I' J' : Imm, (∀ b o', w.heap[b]? = some o' → Reads g s.hp (if Mode.io = .im then readsA s m else []) b → I' b = some o') → (∀ b o, (if al then g.I else g.J) b = some o → J' b = some o) →
                  ∃ F fv fx, ArgL P I' J' w g s fv fx (flatI [i]) ids F ∧ Own P I' J' w v x F ∧ ∀ vs is fvs, FlatV vs is fvs → FlatV (v :: vs) (i :: is) (fv ++ fvs) := by
                intro m' hm hk
                subst hm
                obtain ⟨x, i, ids, hk, o1⟩ := lendC_own h h1 hk
                refine ⟨x, .one i, ids, hk, fun I' J' hI hJ => ?_⟩
                obtain ⟨F, p⟩ := o1 I' J' (h.I_of hI)
                exact one p
              cases m with
              | agg cs =>
                simp only [argK] at hk
                cases h1 with
                | agg us _ hr ho1 =>
                  obtain ⟨xs, is, ids, hk, hl, o1⟩ := lendL_own h hr hk
                  refine ⟨.agg xs, .many is, ids, hk, fun I' J' hI hJ => ?_⟩
                  obtain ⟨F, p⟩ := o1 I' J' (h.I_of hI)
                  have ho : ∀ {vs xs is gs F}, ArgL P I' J' w g s vs xs is gs F → OwnL P I' J' w vs xs F := by
                    intro vs xs is gs F p
                    induction p with
                    | nil => exact .nil
                    | cons v vs x xs i is ids gs F G hA hs ih =>
                      refine .cons _ _ _ _ _ _ ?_ ih
                      cases hA <;> assumption
                  exact ⟨F, us.toList, xs, by simpa [flatI] using p, .agg _ _ _ (ho p) ho1, fun vs is' fvs hf => .many _ _ _ _ _ hl.symm hf⟩
              | pr id i off =>
                simp only [argK] at hk
                split at hk
                · rename_i cs hob
                  obtain ⟨rfl, rfl, hk⟩ := hk
                  cases h1 with
                  | pr _ _ _ l hl =>
                    obtain ⟨l', cells, E, c1, c2, c3, c4, c5⟩ := h.objs id _ hob
                    rw [hl] at c1; cases c1
                    obtain ⟨xs, ids, hk, l1, o1⟩ := takeL_own h c5 hk
                    refine ⟨.pw xs, .one (some id), id :: ids, hk, fun I' J' hI hJ => ?_⟩
                    obtain ⟨F, p1, p2⟩ := o1 I' J' (h.I_of hI) hJ
                    have hlx : xs.length = cs.length := by
                      have e1 := c5.length
                      have : ∀ {vs : List Value} {ms : List MV} {F : List Nat}, OwnL P I' J' w vs ms F → vs.length = ms.length := by
                        intro vs
                        induction vs with
                        | nil => intro ms F hh; cases hh; rfl
                        | cons v vs ihv => intro ms F hh; cases hh with | cons _ _ _ _ _ _ _ hs => simp [ihv hs]
                      rw [← this p1, e1]
                    have := Own.pw (P := P) (I := I') (J := J') (w := w) l.b l.base cells E xs F c2 (by rw [hlx]; exact c3) c4 (by rw [hlx]; exact p1)
                    exact one (.box _ _ id cs l ids F hob hl (by simp) (by simpa using this) p2 l1)
                · exact hk.elim
              | nl k => exact hlend _ rfl (by simpa only [argK] using hk)
              | sr id off len => exact hlend _ rfl (by simpa only [argK] using hk)
              | i k n => exact hlend _ rfl (by simpa only [argK] using hk)
              | b x => exact hlend _ rfl (by simpa only [argK] using hk)
              | _ => simp only [argK, lendC] at hk
          obtain ⟨x, i, ids, hk, harg⟩ := step
          obtain ⟨xs, is, gs, rs, hk, hrest⟩ := ih h2 hk
          refine ⟨_, _, _, _, hk, fun I' J' hI hJ => ?_⟩
          obtain ⟨F, fv, fx, hF, hO, hV⟩ := harg I' J' (fun b o x y => hI b o x (y.mono (fun i hi => List.mem_append_left _ hi))) hJ
          obtain ⟨G, fvs, fxs, hG, hO', hV'⟩ := hrest I' J' (fun b o x y => hI b o x (y.mono (fun i hi => List.mem_append_right _ hi))) hJ
          exact ⟨F ++ G, fv ++ fvs, fx ++ fxs, by rw [flatI_cons]; exact hF.append hG, .cons _ _ _ _ _ _ hO hO', hV _ _ _ hV'⟩
        cases o with
        | fn =>
          cases m
          case clo f a b => exact fncase f a b rfl rfl (by simpa only [argsK] using hk)
          case fn dom φ => exact fn2case dom φ rfl rfl (by simpa only [argsK] using hk)
          case nl k => exact nlcase k rfl rfl (by simpa only [argsK] using hk)
          all_goals (exfalso; simp only [argsK, argK] at hk)
        | im => exact gen (by cases m <;> simpa only [argsK] using hk)
        | io => exact gen (by cases m <;> simpa only [argsK] using hk)
        | co => exact gen (by cases m <;> simpa only [argsK] using hk)
end
end Go.Fw
namespace Go.Fw
set_option linter.unusedVariables false
set_option linter.unusedSimpArgs false
section
variable {P : Program} {N : FrS} {A : Nat → Prop} {w0 : World} {F0 : List Nat} {J0 : Imm} {g : Env} {s : MS} {a : Act} {w : World} {hp : List (Nat × MO)}
variable {n : Nat} {o : Oper} {K : MK} {next : Act → World → Prop} {Q : Exit → Act → World → Prop}

theorem Arg.own {I' J' : Imm} {v x i ids F} (h : Arg P I' J' w g s v x i ids F) : Own P I' J' w v x F ∧ F.Sublist (ids.flatMap (blk g s.hp)) ∧ (∀ j ∈ ids, ∃ o, s.obj j = some o ∧ o.live = true) ∧ (∀ j, i = some j → j ∈ ids) := by
  cases h with
  | plain _ _ h hF hl => exact ⟨h, hF, hl, by simp⟩
  | arr id t k es l len cap h1 h2 hv hlen hcap hc0 hlk h => exact ⟨h, by simp [blk_eq (show look s.hp id = _ from h1) h2, MO.blks], by simp; exact ⟨_, h1, rfl⟩, by simp⟩
  | nst id hs k ess l cap h1 h2 hv hc0 h => exact ⟨h, by simp [blk_eq (show look s.hp id = _ from h1) h2, MO.blks], by simp; exact ⟨_, h1, rfl⟩, by simp⟩
  | nst0 id hs k ess p h1 he hv h => exact ⟨h, by simp, by simp; exact ⟨_, h1, rfl⟩, by simp⟩
  | arr0 id t k es p h1 he hv h => exact ⟨h, by simp, by simp; exact ⟨_, h1, rfl⟩, by simp⟩
  | box id cs l ids F h1 h2 hv h hF hl =>
    refine ⟨h, ?_, fun j hj => ?_, by simp⟩
    · rw [List.flatMap_cons]
      have : blk g s.hp id = [l.b] := by rw [blk_eq (show look s.hp id = _ from h1) h2]; rfl
      rw [this]; exact hF.cons_cons _
    · rcases List.mem_cons.1 hj with e | hj
      · subst e; exact ⟨_, h1, rfl⟩
      · exact hl j hj

theorem ArgL.own {I' J' : Imm} : ∀ {vs xs is gs F}, ArgL P I' J' w g s vs xs is gs F → OwnL P I' J' w vs xs F ∧ F.Sublist (gs.flatMap (blk g s.hp)) ∧ (∀ j ∈ gs, ∃ o, s.obj j = some o ∧ o.live = true) ∧ (∀ j, some j ∈ is → j ∈ gs)
  | _, _, _, _, _, .nil => ⟨.nil, by simp, by simp, by simp⟩
  | _, _, _, _, _, .cons v vs x xs i is ids gs F G h hs => by
    obtain ⟨a1, a2, a3, a4⟩ := h.own
    obtain ⟨b1, b2, b3, b4⟩ := hs.own
    refine ⟨.cons _ _ _ _ _ _ a1 b1, by rw [List.flatMap_append]; exact a2.append b2, fun j hj => ?_, fun j hj => ?_⟩
    · rcases List.mem_append.1 hj with hj | hj
      · exact a3 j hj
      · exact b3 j hj
    · rcases List.mem_cons.1 hj with e | hj
      · exact List.mem_append_left _ (a4 j e.symm)
      · exact List.mem_append_right _ (b4 j hj)

theorem ArgL.ids_nodup {I' J' : Imm} : ∀ {vs xs is gs F}, ArgL P I' J' w g s vs xs is gs F → gs.Nodup → (is.filterMap _root_.id).Nodup
  | _, _, _, _, _, .nil, _ => by simp
  | _, _, _, _, _, .cons v vs x xs i is ids gs F G h hs, hnd => by
    have hn := List.nodup_append.1 hnd
    have ih := hs.ids_nodup hn.2.1
    cases i with
    | none => simpa using ih
    | some j =>
      show (j :: is.filterMap _root_.id).Nodup
      refine List.nodup_cons.2 ⟨fun hm => ?_, ih⟩
      obtain ⟨q, hq, e⟩ := List.mem_filterMap.1 hm
      simp at e; subst e
      exact hn.2.2 j (h.own.2.2.2 j rfl) j (hs.own.2.2.2 j hq) rfl

/-- Two objects do not lie in one block. -/
theorem HRel.apart (h : HRel P A w0 F0 J0 g hp w) {i j : Nat} {b : Nat} (hi : ∃ o, look hp i = some o ∧ o.live = true) (hj : ∃ o, look hp j = some o ∧ o.live = true) (hbi : b ∈ blk g hp i) (hbj : b ∈ blk g hp j) : i = j := by
  obtain ⟨o1, a1, b1⟩ := hi
  obtain ⟨o2, a2, b2⟩ := hj
  obtain ⟨l1, p1, c1, q1, d1⟩ := mem_blk.1 hbi
  obtain ⟨l2, p2, c2, q2, d2⟩ := mem_blk.1 hbj
  rw [a1] at q1; cases q1
  rw [a2] at q2; cases q2
  exact h.sepB i j o1 o2 l1 l2 a1 a2 b1 b2 c1 c2 b d1 d2

theorem HRel.blk_nodup (h : HRel P A w0 F0 J0 g hp w) {i : Nat} (hi : ∃ o, look hp i = some o ∧ o.live = true) : (blk g hp i).Nodup := by
  obtain ⟨o, ho, hl⟩ := hi
  cases hinj : g.inj i with
  | none => simp [blk, hinj]
  | some l =>
    rw [blk_eq ho hinj]
    have := h.objs i o ho
    cases o with
    | nst hs k ess =>
      rcases this with ⟨_, _, h3⟩ | ⟨l', h3, hN⟩
      · rw [hinj] at h3; cases h3
      · rw [hinj] at h3; cases h3; exact hN.2.2.2.1
    | _ => simp [MO.blks]

theorem back_of (h : HRel P A w0 F0 J0 g s.hp w) {I' Jc J' : Imm} {w' : World} {F' : List Nat} (hw : WExt w F' w') (Ft : List Nat) (hF' : ∀ b ∈ F', b ∈ Ft) :
    ∀ {vs xs is gs F outs G}, ArgL P I' Jc w g s vs xs is gs F → OwnL P J' J' w' vs outs G → gs.Nodup → G.Nodup → (∀ b ∈ G, w.heap.size ≤ b ∨ b ∈ Ft) →
    (∀ b ∈ Ft, b ∈ F ∨ ∃ j, j ∉ gs ∧ (∃ o, s.obj j = some o ∧ o.live = true) ∧ b ∈ blk g s.hp j) →
    ∃ G', BackL P J' w' g.inj s outs is G' ∧ G'.Nodup ∧ ∀ b ∈ G', b ∈ G ∨ (b ∉ Ft ∧ b < w.heap.size ∧ ∃ j ∈ gs, b ∈ blk g s.hp j) := by
  intro vs
  induction vs with
  | nil => intro xs is gs F outs G ha ho _ _ _ _; cases ha; cases ho; exact ⟨[], .nil, by simp, by simp⟩
  | cons v vs ih =>
    intro xs is gs F outs G ha ho hgs hG hGf hFt
    cases ha with
    | cons _ _ x xs i is ids gs F1 F2 h1 hs =>
    cases ho with
    | cons _ _ m ms G1 G2 o1 os =>
      have hgn := List.nodup_append.1 hgs
      have hGn := List.nodup_append.1 hG
      obtain ⟨hown, hsub, hlive, hio⟩ := h1.own
      obtain ⟨_, hsub2, hlive2, hio2⟩ := hs.own
      have hFt2 : ∀ b ∈ Ft, b ∈ F2 ∨ ∃ j, j ∉ gs ∧ (∃ o, s.obj j = some o ∧ o.live = true) ∧ b ∈ blk g s.hp j := fun b hb => by
        rcases hFt b hb with hb | ⟨j, hj, hl, hbj⟩
        · rcases List.mem_append.1 hb with hb | hb
          · obtain ⟨j, hj, hbj⟩ := List.mem_flatMap.1 (hsub.subset hb)
            exact .inr ⟨j, fun e => hgn.2.2 j hj j e rfl, hlive j hj, hbj⟩
          · exact .inl hb
        · exact .inr ⟨j, fun e => hj (List.mem_append_right _ e), hl, hbj⟩
      obtain ⟨G', q1, q2, q3⟩ := ih hs os hgn.2.1 hGn.2.1 (fun b hb => hGf b (List.mem_append_right _ hb)) hFt2
      -- the first one's own blocks go before the others'
      have build : ∀ (H : List Nat), Back P J' w' g.inj s m i H → H.Nodup → (∀ b ∈ H, b ∈ G1 ∨ (b ∉ Ft ∧ b < w.heap.size ∧ ∃ j ∈ ids, b ∈ blk g s.hp j)) →
          ∃ G', BackL P J' w' g.inj s (m :: ms) (i :: is) G' ∧ G'.Nodup ∧ ∀ b ∈ G', b ∈ G1 ++ G2 ∨ (b ∉ Ft ∧ b < w.heap.size ∧ ∃ j ∈ ids ++ gs, b ∈ blk g s.hp j) := by
        intro H hb hnd hH
        refine ⟨H ++ G', .cons _ _ _ _ _ _ hb q1, ?_, fun b hb => ?_⟩
        · refine List.nodup_append.2 ⟨hnd, q2, fun x hx y hy e => ?_⟩
          subst e
          rcases hH x hx with c1 | ⟨c1, c2, j, hj, cj⟩
          · rcases q3 x hy with d1 | ⟨d1, d2, _⟩
            · exact hGn.2.2 x c1 x d1 rfl
            · rcases hGf x (List.mem_append_left _ c1) with f | f
              · omega
              · exact d1 f
          · rcases q3 x hy with d1 | ⟨d1, d2, j', hj', cj'⟩
            · rcases hGf x (List.mem_append_right _ d1) with f | f
              · omega
              · exact c1 f
            · have := h.apart (hlive j hj) (hlive2 j' hj') cj cj'
              subst this
              exact hgn.2.2 j hj j hj' rfl
        · rcases List.mem_append.1 hb with hb | hb
          · rcases hH b hb with c | ⟨c1, c2, j, hj, cj⟩
            · exact .inl (List.mem_append_left _ c)
            · exact .inr ⟨c1, c2, j, List.mem_append_left _ hj, cj⟩
          · rcases q3 b hb with c | ⟨c1, c2, j, hj, cj⟩
            · exact .inl (List.mem_append_right _ c)
            · exact .inr ⟨c1, c2, j, List.mem_append_right _ hj, cj⟩
      cases h1 with
      | plain => exact build [] (.none _ _) (by simp) (by simp)
      | arr id t k es l len cap e1 e2 hv hlen hcap hc0 hlk hh =>
        obtain ⟨hek, hrep⟩ := h.objs id _ e1
        have hcell : ∃ (cs : Array Value) (E : TypeId), w.heap[l.b]? = some (.cells cs E (0, 0)) ∧ l.base + l.C * k ≤ cs.size := by
          rcases hrep with ⟨_, h3⟩ | ⟨l', h3, _, cs, E, h4, h5, _⟩
          · rw [e2] at h3; cases h3
          · rw [e2] at h3; cases h3; exact ⟨cs, E, h4, h5⟩
        obtain ⟨cs, E, c1, c2⟩ := hcell
        obtain ⟨cs', c3, c4⟩ := hw.shape _ _ _ _ c1
        by_cases hm : ∃ t' k' es', m = .ow t' k' es'
        · obtain ⟨t', k', es', rfl⟩ := hm
          subst hv
          generalize hvv : Value.slice (some ⟨l.b, l.base, none⟩) len cap = vv at o1
          cases o1 with
          | imm _ _ hi => cases hi
          | ow0 p => simp at hvv; omega
          | ow l2 _ _ _ cap2 len2 hlen2 hcap2 hC2 hk2 hb2 =>
            simp at hvv
            obtain ⟨⟨hb, hbase⟩, rfl, rfl⟩ := hvv
            refine build [l.b] (.arr id t k es t' k' es' l e1 e2 (by omega) (fun hkk => ?_)) (by simp) (by simp [hb])
            subst hkk
            refine ⟨?_, hk2⟩
            obtain ⟨p1, cs2, E2, p2, p3, p4, p5⟩ := hb2
            rw [← hb, c3] at p2; cases p2
            refine ⟨by omega, cs', E, c3, by omega, by omega, fun i j hi hj => ?_⟩
            obtain ⟨u, hu, hr⟩ := p5 i j hi hj
            exact ⟨u, by rw [hbase]; exact hu, by cases t' <;> exact hr⟩
        · exact build [] (.off _ _ _ (fun _ _ _ _ t' k' es' e => hm ⟨t', k', es', e⟩) (fun cs hob => by rw [e1] at hob; cases hob) (fun _ _ _ hob => by rw [e1] at hob; cases hob)) (by simp) (by simp)
      | arr0 id t k es p e1 he hv hh =>
        obtain ⟨hek, hrep⟩ := h.objs id _ e1
        by_cases hm : ∃ t' k' es', m = .ow t' k' es'
        · obtain ⟨t', k', es', rfl⟩ := hm
          have hes' : es' = [] := by
            subst hv
            generalize hvv : Value.slice p 0 0 = vv at o1
            cases o1 with
            | imm _ _ hi => cases hi
            | ow0 => rfl
            | ow l2 _ _ _ cap2 len2 hlen2 hcap2 hC2 hk2 hb2 =>
              simp at hvv
              exact List.eq_nil_of_length_eq_zero (by omega)
          subst hes'
          cases hinj : g.inj id with
          | none => exact build [] (.arr0 id t k es t' k' [] e1 hinj rfl (by simp [he])) (by simp) (by simp)
          | some l =>
            rcases hrep with ⟨_, h3⟩ | ⟨l', h3, hlk, cs, E, h4, h5, _⟩
            · rw [hinj] at h3; cases h3
            · rw [hinj] at h3; cases h3
              have hlb : l.b < w.heap.size := (Array.getElem?_eq_some_iff.1 h4).1
              obtain ⟨cs', c3, c4⟩ := hw.shape _ _ _ _ h4
              have hmine : l.b ∈ blk g s.hp id := mem_blk.2 ⟨l, _, hinj, e1, by simp [MO.blks]⟩
              have hnot : l.b ∉ Ft := fun hin => by
                rcases hFt l.b hin with hb | ⟨j, hj, hl, hbj⟩
                · simp at hb
                  obtain ⟨j, hj, hbj⟩ := List.mem_flatMap.1 (hsub2.subset hb)
                  have := h.apart ⟨_, e1, rfl⟩ (hlive2 j hj) hmine hbj
                  subst this
                  exact hgn.2.2 id (by simp) id hj rfl
                · have := h.apart ⟨_, e1, rfl⟩ hl hmine hbj
                  subst this
                  exact hj (by simp)
              refine build [l.b] (.arr id t k es t' k' [] l e1 hinj (by simp [he]) (fun hkk => ⟨⟨by omega, cs', E, c3, by omega, by simp, by simp⟩, by simp⟩)) (by simp) ?_
              intro b hb
              simp at hb; subst hb
              exact .inr ⟨hnot, hlb, id, by simp, hmine⟩
        · exact build [] (.off _ _ _ (fun _ _ _ _ t' k' es' e => hm ⟨t', k', es', e⟩) (fun cs hob => by rw [e1] at hob; cases hob) (fun _ _ _ hob => by rw [e1] at hob; cases hob)) (by simp) (by simp)
      | nst id hs k ess l cap e1 e2 hv hc0 hh =>
        by_cases hm : ∃ hs' k' ess', m = .on hs' k' ess'
        · obtain ⟨hs', k', ess', rfl⟩ := hm
          rcases h.objs id _ e1 with ⟨_, _, h3⟩ | ⟨l', h3, hN⟩
          · rw [e2] at h3; cases h3
          rw [e2] at h3; cases h3
          obtain ⟨n1, n2, n3, n4, ⟨cs, E, c1, c2, c5, c6⟩, n5⟩ := hN
          obtain ⟨cs', c3, c4⟩ := hw.shape _ _ _ _ c1
          subst hv
          generalize hvv : Value.slice (some ⟨l.b, l.base, none⟩) ess.length cap = vv at o1
          cases o1 with
          | imm _ _ hi => cases hi
          | on0 p => simp at hvv; omega
          | on l2 _ _ _ cap2 hcap2 hC2 hN2 =>
            simp at hvv
            obtain ⟨⟨hb1, hbase⟩, hlen2, rfl⟩ := hvv
            refine build _ (.nst id hs k ess hs' k' ess' l e1 e2 (l2.b :: hs'.flatMap hb) (fun q1 q2 => ?_)) hGn.1 (fun b hb => .inl hb)
            subst q1 q2
            obtain ⟨m1, m2, m3, m4, ⟨cs2, E2, d1, d2, d3, d4⟩, m5⟩ := hN2
            rw [← hb1, c3] at d1; cases d1
            refine ⟨⟨n1, n2, m3, n4, ⟨cs', E, c3, by omega, c5, fun i v hv => by rw [hbase]; exact d4 i v hv⟩, m5⟩, fun b hb' => by rw [← hb1]; exact hb'⟩
        · exact build [] (.off _ _ _ (fun _ _ _ hob => by rw [e1] at hob; cases hob) (fun cs hob => by rw [e1] at hob; cases hob) (fun _ _ _ _ hs' k' ess' e => hm ⟨hs', k', ess', e⟩)) (by simp) (by simp)
      | nst0 id hs k ess p e1 he hv hh =>
        by_cases hm : ∃ hs' k' ess', m = .on hs' k' ess'
        · obtain ⟨hs', k', ess', rfl⟩ := hm
          have hes' : hs' = [] ∧ ess' = [] := by
            subst hv
            generalize hvv : Value.slice p 0 0 = vv at o1
            cases o1 with
            | imm _ _ hi => cases hi
            | on0 => exact ⟨rfl, rfl⟩
            | on l2 _ _ _ cap2 hcap2 hC2 hN2 =>
              simp at hvv
              have h0 : hs' = [] := List.eq_nil_of_length_eq_zero (by omega)
              exact ⟨h0, List.eq_nil_of_length_eq_zero (by have := hN2.2.2.1; rw [h0] at this; simpa using this.symm)⟩
          obtain ⟨rfl, rfl⟩ := hes'
          subst he
          cases hinj : g.inj id with
          | none => exact build [] (.nst0 id hs k [] [] k' [] e1 hinj rfl rfl) (by simp) (by simp)
          | some l =>
            rcases h.objs id _ e1 with ⟨_, _, h3⟩ | ⟨l', h3, hN⟩
            · rw [hinj] at h3; cases h3
            rw [hinj] at h3; cases h3
            obtain ⟨n1, n2, n3, n4, ⟨cs, E, c1, c2, c5, c6⟩, n5⟩ := hN
            obtain rfl : hs = [] := List.eq_nil_of_length_eq_zero (by simpa using n3)
            have hlb : l.b < w.heap.size := (Array.getElem?_eq_some_iff.1 c1).1
            obtain ⟨cs', c3, c4⟩ := hw.shape _ _ _ _ c1
            have hmine : l.b ∈ blk g s.hp id := mem_blk.2 ⟨l, _, hinj, e1, by simp [MO.blks]⟩
            have hnot : l.b ∉ Ft := fun hin => by
              rcases hFt l.b hin with hb | ⟨j, hj, hl, hbj⟩
              · simp at hb
                obtain ⟨j, hj, hbj⟩ := List.mem_flatMap.1 (hsub2.subset hb)
                have := h.apart ⟨_, e1, rfl⟩ (hlive2 j hj) hmine hbj
                subst this
                exact hgn.2.2 id (by simp) id hj rfl
              · have := h.apart ⟨_, e1, rfl⟩ hl hmine hbj
                subst this
                exact hj (by simp)
            refine build [l.b] (.nst id [] k [] [] k' [] l e1 hinj [l.b] (fun _ _ => ⟨⟨n1, n2, rfl, by simp, ⟨cs', E, c3, by omega, by simp, by simp⟩, by simp⟩, by simp⟩)) (by simp) ?_
            intro b hb
            simp at hb; subst hb
            exact .inr ⟨hnot, hlb, id, by simp, hmine⟩
        · exact build [] (.off _ _ _ (fun _ _ _ hob => by rw [e1] at hob; cases hob) (fun cs hob => by rw [e1] at hob; cases hob) (fun _ _ _ _ hs' k' ess' e => hm ⟨hs', k', ess', e⟩)) (by simp) (by simp)
      | box id cs l ids F e1 e2 hv hh hF hl =>
        by_cases hm : ∃ cs', m = .pw cs'
        · obtain ⟨cs', rfl⟩ := hm
          subst hv
          generalize hvv : Value.pointer (some ⟨l.b, l.base, none⟩) = vv at o1
          cases o1 with
          | imm _ _ hi => cases hi
          | pw b base cells E _ F2 hb hsz ho1 hown2 =>
            simp at hvv
            obtain ⟨rfl, rfl⟩ := hvv
            exact build (l.b :: F2) (.box id cs cs' l cells E F2 e1 e2 hb hsz ho1 hown2) hGn.1 (fun b hb => .inl hb)
        · exact build [] (.off _ _ _ (fun _ _ _ hob => by rw [e1] at hob; cases hob) (fun _ _ cs' e => hm ⟨cs', e⟩) (fun _ _ _ hob => by rw [e1] at hob; cases hob)) (by simp) (by simp)

theorem HRel.after (h : HRel P A w0 F0 J0 g hp w) {w' : World} {F : List Nat} {J' : Imm} {al : Bool} (hw : WExt w F w') (hlive : ∀ id o l, look hp id = some o → o.live = true → g.inj id = some l → ∀ b ∈ o.blks l, b ∉ F)
    (hFI : ∀ b ∈ F, g.I b = none) (hFf : ∀ b ∈ F, w0.heap.size ≤ b ∨ b ∈ F0) (hJ : ∀ b o, (if al then g.I else g.J) b = some o → J' b = some o)
    (hJ' : ∀ b o, J' b = some o → w'.heap[b]? = some o ∧ ((if al then g.I else g.J) b = some o ∨ w.heap.size ≤ b ∨ b ∈ F)) :
    ∃ g', g.le g' ∧ g'.inj = g.inj ∧ (∀ b o, J' b = some o → g'.im (!al) b = some o) ∧ (∀ b, g'.I b = none ↔ (g.I b = none ∧ J' b = none)) ∧ HRel P A w0 F0 J0 g' hp w' := by
  have hJI : ∀ b o, (if al then g.I else g.J) b = some o → g.I b = some o := fun b o x => by
    cases al
    · exact h.JI b o (by simpa using x)
    · simpa using x
  have hagree : ∀ b o o', g.I b = some o → J' b = some o' → o = o' := fun b o o' x y => by
    have h1 := h.imm b o x
    have hb : b ∉ F := fun e => by rw [hFI b e] at x; cases x
    have h2 := hw.block b (Array.getElem?_eq_some_iff.1 h1).1 hb
    have h3 := (hJ' b o' y).1
    rw [h2, h1] at h3; cases h3; rfl
  have hIle : ∀ b o, g.I b = some o → (if (J' b).isSome then J' b else g.I b) = some o := fun b o x => by
    cases hj : J' b with
    | none => simpa using x
    | some o' => rw [hagree b o o' x hj]; simp
  have hJle : ∀ b o, g.J b = some o → (if al then g.J b else J' b) = some o := fun b o x => by
    cases al
    · exact hJ b o (by simpa using x)
    · simpa using x
  refine ⟨⟨fun b => if (J' b).isSome then J' b else g.I b, fun b => if al then g.J b else J' b, g.inj⟩, ⟨hIle, hJle, fun _ _ x => x⟩, rfl, fun b o x => ?_, fun b => ?_, ?_⟩
  · cases al
    · exact x
    · show (if (J' b).isSome then J' b else g.I b) = some o
      simp [x]
  · cases hj : J' b <;> simp [hj]
  · refine ⟨fun id o x => ?_, h.avail, h.sepB, fun id o l x y z d hd => ?_, h.freshB, fun id o l x y z d hd => Nat.lt_of_lt_of_le (h.ltB id o l x y z d hd) hw.size, fun b o x => ?_, fun b o x => ?_, fun b o x => ?_, h.ext.trans hw (fun b hb hlt => ?_)⟩
    · refine (h.objs id o x).move ⟨hIle, hJle, fun _ _ y => y⟩ (fun y => y) (fun l hl hi b hb => ?_)
      exact hw.block _ (h.ltB id o l x hl hi b hb) (hlive id o l x hl hi b hb)
    · have h1 := h.disjB id o l x y z d hd
      show (if (J' d).isSome then J' d else g.I d) = none
      cases hj : J' d with
      | none => simpa using h1
      | some o' =>
        exfalso
        rcases (hJ' _ _ hj).2 with c | c | c
        · have := hJI _ _ c; rw [h1] at this; cases this
        · have := h.ltB id o l x y z d hd; omega
        · exact hlive id o l x y z d hd c
    · have x' : (if (J' b).isSome then J' b else g.I b) = some o := x
      cases hj : J' b with
      | none =>
        simp [hj] at x'
        have h1 := h.imm b o x'
        rw [hw.block b (Array.getElem?_eq_some_iff.1 h1).1 (fun e => by rw [hFI b e] at x'; cases x')]; exact h1
      | some o' => simp [hj] at x'; subst x'; exact (hJ' _ _ hj).1
    · have x' : (if al then g.J b else J' b) = some o := x
      show (if (J' b).isSome then J' b else g.I b) = some o
      cases al
      · simp at x'; simp [x']
      · simp at x'; exact hIle b o (h.JI b o x')
    · have x' : (if al then g.J b else J' b) = some o := x
      cases al
      · simp at x'
        rcases (hJ' _ _ x').2 with c | c | c
        · exact h.Jf b o (by simpa using c)
        · exact .inr (.inl (Nat.le_trans h.ext.size c))
        · rcases hFf b c with f | f
          · exact .inr (.inl f)
          · exact .inr (.inr f)
      · simp at x'; exact h.Jf b o x'
    · rcases hFf b hb with f | f
      · omega
      · exact f

theorem S.call {f : FuncId} {al : Bool} {ms : List Mode} {args : Array Operand} {args' : List Opd} {ts : Array TypeId} {fd : Func} (ho : o.op = .call { callee := .value (.func f), args := args, argTypes := ts })
    (hargs : args.toList.length = args'.length ∧ ∀ (i : Nat) (x : Operand) (y : Opd), args.toList[i]? = some x → args'[i]? = some y → okOpd x y = true)
    (hf : P.funcs[f]? = some fd) (hname : (fd.name == "runtime.NumGoroutine") = false) (hbody : fd.body.isNone = false) (hA : ∀ id, n ≤ id → id < n + 64 → A id)
    (h : Rel P N A w0 F0 J0 g s a w) (hm : mop false P (.call f al ms args') n s K) (hn : Goes P A w0 F0 J0 g s.hp n o a K next) : o.wp P a w next Q := by
  have hvals : RVL P g (args.map a.eval).toList (args'.map s.val) := by
    refine RVL.of_get (by simpa using hargs.1) (fun i v m e1 e2 => ?_)
    simp only [Array.toList_map, List.getElem?_map, Option.map_eq_some_iff] at e1 e2
    obtain ⟨x, hx1, rfl⟩ := e1
    obtain ⟨y, hy1, rfl⟩ := e2
    exact h.val (hargs.2 i x y hx1 hy1)
  simp only [mop] at hm
  obtain ⟨xs, is, gs, rs, ⟨hgs, hrs, hcK⟩, hargL⟩ := args_sound h.hp hvals hm
  obtain ⟨Qc, hM, hcont⟩ : ∃ Q, MCall P f xs Q ∧ ∀ o r, Q o r → _ := by simpa only [callK, Bool.false_eq_true, if_false] using hcK
  have hgsl : ∀ j ∈ gs, ∃ o, look s.hp j = some o ∧ o.live = true := by
    obtain ⟨F, _, _, hF, _, _⟩ := hargL (fun b => w.heap[b]?) (if al then g.I else g.J) (fun b o x _ => x) (fun b o x => x)
    exact hF.own.2.2.1
  have hblkI : ∀ j ∈ gs, ∀ b ∈ blk g s.hp j, g.I b = none ∧ (w0.heap.size ≤ b ∨ b ∈ F0) ∧ b < w.heap.size := fun j hj b hb => by
    obtain ⟨o1, a1, b1⟩ := hgsl j hj
    obtain ⟨l, o2, c1, c2, c3⟩ := mem_blk.1 hb
    rw [a1] at c2; cases c2
    exact ⟨h.hp.disjB j o1 l a1 b1 c1 b c3, h.hp.freshB j o1 l a1 b1 c1 b c3, h.hp.ltB j o1 l a1 b1 c1 b c3⟩
  have hJI : ∀ b o, (if al then g.I else g.J) b = some o → g.I b = some o := fun b o x => by
    cases al
    · exact h.hp.JI b o (by simpa using x)
    · simpa using x
  obtain ⟨F, fvs, fxs, hF, hown, hflat⟩ := hargL (fun b => if b ∈ gs.flatMap (blk g s.hp) then none else w.heap[b]?) (if al then g.I else g.J) (fun b o x y => by
      show (if b ∈ gs.flatMap (blk g s.hp) then none else w.heap[b]?) = some o
      rw [if_neg]
      · exact x
      · intro hb
        obtain ⟨j, hj, hbj⟩ := List.mem_flatMap.1 hb
        rcases y with y | ⟨i, oi, l, y1, y2, y3, y4, y5⟩
        · exact y (hblkI j hj b hbj).1
        · have := h.hp.apart ⟨oi, y2, y3⟩ (hgsl j hj) (mem_blk.2 ⟨l, oi, y4, y2, y5⟩) hbj
          subst this
          exact hrs i y1 hj) (fun b o x => x)
  obtain ⟨_, hsub, _, hio⟩ := hF.own
  have hFb : ∀ b ∈ F, ∃ j ∈ gs, b ∈ blk g s.hp j := fun b hb => List.mem_flatMap.1 (hsub.subset hb)
  have hFnd : F.Nodup := by
    refine List.Sublist.nodup hsub ?_
    have : ∀ (l : List Nat), l.Nodup → (∀ j ∈ l, j ∈ gs) → (l.flatMap (blk g s.hp)).Nodup := by
      intro l
      induction l with
      | nil => intro _ _; simp
      | cons j l ih =>
        intro hnd hl
        have hn1 := List.nodup_cons.1 hnd
        rw [List.flatMap_cons]
        refine List.nodup_append.2 ⟨h.hp.blk_nodup (hgsl j (hl j (by simp))), ih hn1.2 (fun i hi => hl i (List.mem_cons_of_mem _ hi)), fun x hx y hy e => ?_⟩
        subst e
        obtain ⟨i, hi, hxi⟩ := List.mem_flatMap.1 hy
        have := h.hp.apart (hgsl j (hl j (by simp))) (hgsl i (hl i (List.mem_cons_of_mem _ hi))) hx hxi
        subst this
        exact hn1.1 hi
    exact this gs hgs (fun _ x => x)
  have hcall := hM w (if al then g.I else g.J) (args.map a.eval) F (fun b o x => ⟨h.hp.imm b o (hJI b o x), fun hb => by
      obtain ⟨j, hj, hbj⟩ := hFb b hb
      have h1 := (hblkI j hj b hbj).1
      rw [hJI b o x] at h1; cases h1⟩) hFnd (hown.mono (fun b o x => by
      simp only [heapBut]
      by_cases hb : b ∈ gs.flatMap (blk g s.hp)
      · simp [hb] at x
      · simp only [hb, if_false] at x
        rw [if_neg (fun e => hb (hsub.subset e))]; exact x) (fun _ _ x => x))
  have hexec : (execOp a.eval o).run P w = .ok (.enter f (args.map a.eval)) w := by
    have hname' : ¬ fd.name = "runtime.NumGoroutine" := by simpa using hname
    have hbody' : ¬ fd.body = none := by intro e; rw [e] at hbody; cases hbody
    simp [execOp, ho, resolve, Act.eval, Deferred.ofValue, invoke, callFunc, run_program, hf, hname', hbody']
  simp only [Oper.wp, hexec, Oper.upon]
  refine hcall.mono ?_
  rintro e w' ⟨v, outs, r, J', G, rfl, hq, hw, hJJ, hJ', hGn, hGf, hownL⟩
  show next (a.put o.dst v) w'
  cases hownL with
  | cons _ _ _ _ Gr Go hr houts =>
    have hGs := List.nodup_append.1 hGn
    obtain ⟨hk1, hk2⟩ := h.hp.kills gs
    have hnotF : ∀ id o l, look (upds s.hp (gs.map (·, none))) id = some o → o.live = true → g.inj id = some l → ∀ b ∈ o.blks l, b ∉ F := fun i oi l x y z b hbl hb => by
      obtain ⟨x1, x2⟩ := hk2 i oi x
      obtain ⟨j, hj, hbj⟩ := hFb b hb
      have := h.hp.apart ⟨oi, x1, y⟩ (hgsl j hj) (mem_blk.2 ⟨l, oi, z, x1, hbl⟩) hbj
      subst this
      exact x2 hj
    obtain ⟨g1, hle1, hinj1, hJ1, hI1, hr1⟩ := hk1.after (al := al) hw hnotF (fun b hb => by obtain ⟨j, hj, hbj⟩ := hFb b hb; exact (hblkI j hj b hbj).1)
      (fun b hb => by obtain ⟨j, hj, hbj⟩ := hFb b hb; exact (hblkI j hj b hbj).2.1) hJJ (fun b o x => ⟨(hJ' b o x).1, (hJ' b o x).2.2⟩)
    obtain ⟨Go', houts', hsubo⟩ := hflat.outs houts
    obtain ⟨G', hback, hG'n, hG'0⟩ := back_of h.hp (w' := w') (F' := F) hw F (fun _ x => x) hF houts' hgs (hsubo.nodup hGs.2.1) (fun b hb => hGf b (List.mem_append_right _ (hsubo.subset hb))) (fun b hb => .inl hb)
    have hG' : ∀ b ∈ G', b ∈ Go ∨ (b ∉ F ∧ b < w.heap.size ∧ ∃ j ∈ gs, b ∈ blk g s.hp j) := fun b hb => (hG'0 b hb).imp (fun x => hsubo.subset x) (fun x => x)
    -- nobody holds the blocks that come back
    have hfreeAll : ∀ b, (b ∈ Gr ++ Go ∨ (b ∉ F ∧ b < w.heap.size ∧ ∃ j ∈ gs, b ∈ blk g s.hp j)) → g1.I b = none ∧ (w0.heap.size ≤ b ∨ b ∈ F0) ∧ ∀ id o l, look (upds s.hp (gs.map (·, none))) id = some o → o.live = true → g1.inj id = some l → b ∉ o.blks l := by
      intro b hb
      have hgI : g.I b = none := by
        rcases hb with hb | ⟨_, _, j, hj, hbj⟩
        · rcases hGf b hb with c | c
          · cases hI : g.I b with
            | none => rfl
            | some o' => have := (Array.getElem?_eq_some_iff.1 (h.hp.imm b o' hI)).1; omega
          · obtain ⟨j, hj, hbj⟩ := hFb b c; exact (hblkI j hj b hbj).1
        · exact (hblkI j hj b hbj).1
      have hJn : J' b = none := by
        cases hj' : J' b with
        | none => rfl
        | some o' =>
          exfalso
          obtain ⟨_, d2, d3⟩ := hJ' b o' hj'
          rcases hb with hb | ⟨c1, c2, _⟩
          · exact d2 hb
          · rcases d3 with d | d | d
            · have := hJI b o' d; rw [hgI] at this; cases this
            · omega
            · exact c1 d
      refine ⟨(hI1 b).2 ⟨hgI, hJn⟩, ?_, fun i oi l x y z e => ?_⟩
      · rcases hb with hb | ⟨_, _, j, hj, hbj⟩
        · rcases hGf b hb with c | c
          · exact .inl (Nat.le_trans h.hp.ext.size c)
          · obtain ⟨j, hj, hbj⟩ := hFb b c; exact (hblkI j hj b hbj).2.1
        · exact (hblkI j hj b hbj).2.1
      · rw [hinj1] at z
        obtain ⟨x1, x2⟩ := hk2 i oi x
        have hjj : ∀ j ∈ gs, b ∈ blk g s.hp j → False := fun j hj hbj => by
          have := h.hp.apart ⟨oi, x1, y⟩ (hgsl j hj) (mem_blk.2 ⟨l, oi, z, x1, e⟩) hbj
          subst this
          exact x2 hj
        rcases hb with hb | ⟨_, _, j, hj, hbj⟩
        · rcases hGf b hb with c | c
          · have := h.hp.ltB i oi l x1 y z b e; omega
          · obtain ⟨j, hj, hbj⟩ := hFb b c; exact hjj j hj hbj
        · exact hjj j hj hbj
    have his : ∀ id, some id ∈ flatI is → look (upds s.hp (gs.map (·, none))) id = none ∧ ¬ A id := fun j hj => by
      have hjg := hio j hj
      obtain ⟨oj, a1, b1⟩ := hgsl j hjg
      refine ⟨?_, fun e => by rw [(h.hp.avail j e).2] at a1; cases a1⟩
      cases hl : look (upds s.hp (gs.map (·, none))) j with
      | none => rfl
      | some o' => exact absurd hjg (hk2 j o' hl).2
    have hQ := hcont outs r hq
    obtain ⟨u, n1, ⟨hn64, hK⟩, hnn1, hrest⟩ := outs_sound (t := !al) (J' := J') hr1 (fun b o x => hJ1 b o x) (hback.inj (fun _ _ => by rw [hinj1])) hG'n
      (fun b hb => hfreeAll b (by
        rcases hG' b hb with c | c
        · exact .inl (List.mem_append_right _ c)
        · exact .inr c)) his (hF.ids_nodup hgs) hQ
    have hge := imp_ge (some (!al)) 4 r n1
    obtain ⟨g2, hle2, hI2, hJ2, hr2, hb2⟩ := hrest (fun i c d => hA i c (by omega))
    have hdisj : ∀ b ∈ Gr, b ∉ G' := fun b hb hb' => by
      rcases hG' b hb' with c | ⟨c1, c2, _⟩
      · exact hGs.2.2 b hb b c rfl
      · rcases hGf b (List.mem_append_left _ hb) with d | d
        · omega
        · exact c1 d
    obtain ⟨g3, ⟨hle3, hI3, hJ3, hn3, hr3, _, _⟩, hv3⟩ := imp_own (t := some (!al)) 4 (n := n1) hr2 (fun t' b o x => hle2.im _ b o (hJ1 b o (by cases t' <;> exact x))) (fun b o x => by have := hle2.im _ b o (hJ1 b o x); cases al; exact hr2.JI b o this; exact this) hr hGs.1 (fun b hb => by
        obtain ⟨c1, c2, c3⟩ := hfreeAll b (.inl (List.mem_append_left _ hb))
        refine ⟨by rw [hI2]; exact c1, c2, fun i oi l x y z e => ?_⟩
        rcases hb2 i oi l x y z with ⟨d1, d2⟩ | d
        · exact c3 i oi l d1 y d2 e
        · exact hdisj b hb (d b e)) (fun i c d => ⟨hA i (by omega) (by omega), by omega⟩)
    refine hn _ _ _ g3 w' v hK (hle1.trans (hle2.trans hle3)) hv3 ?_
    rw [List.append_assoc, upds_append, upds_append]
    exact hr3.weaken (fun i hi => ⟨⟨hi.1, fun e => hi.2 ⟨e.1, by omega⟩⟩, fun e => hi.2 ⟨by omega, by omega⟩⟩)
end
end Go.Fw
namespace Go.Fw
set_option linter.unusedVariables false
set_option linter.unusedSimpArgs false
section
variable {P : Program} {N : FrS} {A : Nat → Prop} {w0 : World} {F0 : List Nat} {J0 : Imm} {g : Env} {s : MS} {a : Act} {w : World} {hp : List (Nat × MO)}
variable {n : Nat} {o : Oper} {K : MK} {next : Act → World → Prop} {Q : Exit → Act → World → Prop}

theorem flatD_val {m : MV} {d : D} {v : Value} (hm : flatD m = some d) (h : RV P g v m) : v = d.val ∧ d.isFlat = true := by
  cases m <;> simp [flatD] at hm
  · subst hm; cases h; exact ⟨rfl, rfl⟩
  · subst hm; cases h; exact ⟨rfl, rfl⟩

theorem flatM_val {m : MV} {x : FV} {v : Value} (hm : flatM m = some x) (h : RV P g v m) : v = x.val ∧ x.isFlat = true := by
  cases m
  case agg cs =>
    simp only [flatM, Option.map_eq_some_iff] at hm
    obtain ⟨ds, hds, rfl⟩ := hm
    obtain ⟨hlen, hget⟩ := mapO_get hds
    cases h with
    | agg vs _ hr h1 =>
      have hl := hr.length
      have hcell : ∀ i (hi : i < ds.length), vs.toList[i]? = some (ds[i].val) ∧ ds[i].isFlat = true := fun i hi => by
        have hi' : i < cs.length := by omega
        obtain ⟨d, e1, e2⟩ := hget i _ (List.getElem?_eq_getElem hi')
        have hv : i < vs.toList.length := by omega
        have := flatD_val e1 (hr.get i _ _ (List.getElem?_eq_getElem hv) (List.getElem?_eq_getElem hi'))
        rw [List.getElem?_eq_getElem hi] at e2; cases e2
        exact ⟨by rw [List.getElem?_eq_getElem hv, this.1], this.2⟩
      refine ⟨?_, ?_⟩
      · simp only [FV.val]
        congr 1
        apply Array.ext'
        refine List.ext_getElem? (fun i => ?_)
        by_cases hi : i < ds.length
        · rw [(hcell i hi).1]; simp [hi]
        · rw [List.getElem?_eq_none (by omega), List.getElem?_eq_none (by simp; omega)]
      · simp only [FV.isFlat, List.all_eq_true]
        intro d hd
        obtain ⟨i, hi, rfl⟩ := List.mem_iff_getElem.1 hd
        exact (hcell i hi).2
  all_goals
    simp only [flatM, Option.map_eq_some_iff] at hm
    obtain ⟨d, hd, rfl⟩ := hm
    exact flatD_val hd h

theorem S.callv {f : Operand} {f' : Opd} {args : Array Operand} {args' : List Opd} {ts : Array TypeId} (ho : o.op = .call { callee := .value f, args := args, argTypes := ts }) (hf : okOpd f f' = true)
    (hargs : args.toList.length = args'.length ∧ ∀ (i : Nat) (x : Operand) (y : Opd), args.toList[i]? = some x → args'[i]? = some y → okOpd x y = true)
    (h : Rel P N A w0 F0 J0 g s a w) (hm : mop false P (.callv f' args') n s K) (hn : Goes P A w0 F0 J0 g s.hp n o a K next) : o.wp P a w next Q := by
  have rf := h.val hf
  simp only [mop] at hm
  have hvals : ∀ xs, mapO flatM (args'.map s.val) = some xs → (args.map a.eval) = (xs.map FV.val).toArray ∧ ∀ x ∈ xs, x.isFlat = true := by
    intro xs hxs
    obtain ⟨hlen, hget⟩ := mapO_get hxs
    simp at hlen
    have hcell : ∀ i (hi : i < xs.length), (args.map a.eval).toList[i]? = some (xs[i].val) ∧ xs[i].isFlat = true := fun i hi => by
      have hi' : i < args'.length := by omega
      have hi2 : i < args.toList.length := by omega
      obtain ⟨d, e1, e2⟩ := hget i (s.val args'[i]) (by simp [hi'])
      rw [List.getElem?_eq_getElem hi] at e2; cases e2
      have := flatM_val e1 (h.val (hargs.2 i _ _ (List.getElem?_eq_getElem hi2) (List.getElem?_eq_getElem hi')))
      refine ⟨?_, this.2⟩
      rw [← this.1]
      simp only [Array.toList_map, List.getElem?_map, List.getElem?_eq_getElem hi2, Option.map_some]
    refine ⟨?_, fun x hx => ?_⟩
    · apply Array.ext'
      refine List.ext_getElem? (fun i => ?_)
      by_cases hi : i < xs.length
      · rw [(hcell i hi).1]; simp [hi]
      · rw [List.getElem?_eq_none (by simp at hargs ⊢; omega), List.getElem?_eq_none (by simp; omega)]
    · obtain ⟨i, hi, rfl⟩ := List.mem_iff_getElem.1 hx
      exact (hcell i hi).2
  have fin : ∀ (F : FuncId) (fv cv : Array Value) (xs : List FV) (dom : List FV → Prop) (φ : List FV → FV) (rd : List Nat), a.eval f = .func (.func F) fv cv → Callable P F → args.map a.eval = (xs.map FV.val).toArray →
      Calls P F (fv ++ (xs.map FV.val).toArray ++ cv) w (fun e w'' => e = .returned (φ xs).val ∧ (φ xs).isFlat = true ∧ WExt w [] w'') → K (φ xs).mv [] rd → o.wp P a w next Q := by
    intro F fv cv xs dom φ rd hfv ⟨fd, hfd, hname, hbody⟩ hx hcall hK
    have hexec : (execOp a.eval o).run P w = .ok (.enter F (fv ++ (xs.map FV.val).toArray ++ cv)) w := by
      have hname' : ¬ fd.name = "runtime.NumGoroutine" := by simpa using hname
      have hbody' : ¬ fd.body = none := by intro e; rw [e] at hbody; cases hbody
      simp [execOp, ho, resolve, hfv, Deferred.ofValue, invoke, callFunc, run_program, hfd, hname', hbody', hx]
    simp only [Oper.wp, hexec, Oper.upon]
    refine hcall.mono ?_
    rintro e w' ⟨rfl, hfl, hw⟩
    show next (a.put o.dst (φ xs).val) w'
    obtain ⟨g1, hle, _, _, _, hr⟩ := h.hp.after (al := false) (J' := g.J) hw (by simp) (by simp) (by simp) (fun b o x => by simpa using x) (fun b o x => ⟨by
      have h1 := h.hp.imm b o (h.hp.JI b o x)
      rw [hw.block b (Array.getElem?_eq_some_iff.1 h1).1 (by simp)]; exact h1, .inl (by simpa using x)⟩)
    exact hn _ _ _ g1 w' _ hK hle (FV_RV hfl) (hr.weaken (fun _ x => x.1))
  split at hm
  · rename_i dom φ xs hfn hxs
    obtain ⟨hx, hflat⟩ := hvals xs hxs
    rw [hfn] at rf
    generalize hv : a.eval f = v at rf
    cases rf with
    | fn F fv cv _ _ hc hh => exact fin F fv cv xs dom φ [] hv hc hx (hh w xs (fun b o x => h.hp.imm b o x) hflat hm.1) hm.2
  · rename_i F first caps xs hfn hxs
    obtain ⟨hx, hflat⟩ := hvals xs hxs
    rw [hfn] at rf
    generalize hv : a.eval f = v at rf
    obtain ⟨dom, φ, hok, hdom, hK⟩ := hm
    cases rf with
    | clo _ fv cv _ _ c1 c2 =>
      obtain ⟨hc, hh⟩ := FnOk.calls h.hp hok c1 c2 (I' := fun b => w.heap[b]?) (rs := readsM s (.clo F first caps)) (fun b o x _ => x) (fun _ x => x)
      exact fin F fv cv xs dom φ _ hv hc hx (hh w xs (fun b o x => x) hflat hdom) hK
  · exact hm.elim
end
end Go.Fw
namespace Go.Fw
set_option linter.unusedVariables false
set_option linter.unusedSimpArgs false
section
variable {P : Program} {N : FrS} {A : Nat → Prop} {w0 : World} {F0 : List Nat} {J0 : Imm} {g : Env} {s : MS} {a : Act} {w : World} {hp : List (Nat × MO)}
variable {n : Nat} {o : Oper} {K : MK} {next : Act → World → Prop} {Q : Exit → Act → World → Prop}

theorem DR.flat_val {I : Imm} {v : Value} {d : D} (h : DR I v d) (hf : d.isFlat = true) : v = d.val := by
  cases h with
  | i => rfl
  | b => rfl
  | a0 => simp [D.isFlat] at hf
  | a => simp [D.isFlat] at hf

theorem S.nestNil {T e : TypeId} {parts : Array (Nat × Operand)} {inf : TypeInfo} {k : Nat} (ho : o.op = .buildSlice T 0 parts) (hp0 : parts.toList = [])
    (ht : P.underlying T = some (.slice e)) (hi : P.info? e = some inf) (hA : ∀ id, n ≤ id → id < n + 64 → A id)
    (h : Rel P N A w0 F0 J0 g s a w) (hm : mop false P (.nestNil k) n s K) (hn : Goes P A w0 F0 J0 g s.hp n o a K next) : o.wp P a w next Q := by
  simp only [mop] at hm
  have hps : parts = #[] := by simpa using hp0
  subst hps
  have hA0 := hA n (Nat.le_refl _) (by omega)
  have hinj := (h.hp.avail n hA0).1
  have hle := Env.le_at (l := ⟨w.heap.size, 0, 1, 0, []⟩) hinj
  refine wp_val (v := .slice (some ⟨w.heap.size, 0, none⟩) 0 0) (w' := w.alloc (.cells #[] e)) ?_ (hn _ _ _ (g.at n ⟨w.heap.size, 0, 1, 0, []⟩) _ _ hm hle (.sr0 _ _ _) ?_)
  · simp [execOp, ho, Instr.buildSlice, run_underlying ht, sizeOf, typeInfo, hi, Instr.fill, newRow, Array.range_zero']
  · refine notin_weak (h.hp.alloc hA0 rfl (o := .cells #[] e (0, 0)) (mo := .nst [] k []) (.inr ⟨⟨w.heap.size, 0, 1, 0, []⟩, by simp [Env.at], rfl, rfl, rfl, by simp, ⟨#[], e, heap_alloc_new w _, by simp, by simp, by simp⟩, by simp⟩))

theorem S.boxRow {T e : TypeId} {parts : Array (Nat × Operand)} {x : Operand} {x' : Opd} {inf : TypeInfo} {z : Value} (ho : o.op = .buildSlice T 1 parts) (hp0 : parts.toList = [(0, x)]) (hx : okOpd x x' = true)
    (ht : P.underlying T = some (.slice e)) (hi : P.info? e = some inf) (hk : inf.size = 1) (hz : inf.zero = some z) (hA : ∀ id, n ≤ id → id < n + 64 → A id)
    (h : Rel P N A w0 F0 J0 g s a w) (hm : mop false P (.boxRow x') n s K) (hn : Goes P A w0 F0 J0 g s.hp n o a K next) : o.wp P a w next Q := by
  have rx := h.val hx
  simp only [mop] at hm
  split at hm
  · rename_i id off len hb
    rw [hb] at rx
    have hps : parts = #[(0, x)] := Array.ext' hp0
    subst hps
    have hv1 : (a.eval x).cells = #[a.eval x] ∧ (a.eval x).oneCell' = true := by
      generalize a.eval x = v at rx
      cases rx <;> exact ⟨rfl, rfl⟩
    generalize hv : a.eval x = v at rx hv1
    have hA0 := hA n (Nat.le_refl _) (by omega)
    have hinj := (h.hp.avail n hA0).1
    have hle := Env.le_at (l := ⟨w.heap.size, 0, 1, 1, []⟩) hinj
    have hrun : (Instr.buildSlice T 1 (#[(0, x)].map fun (i, x) => (i, a.eval x))).run P w = .ok (.slice (some ⟨w.heap.size, 0, none⟩) 1 1) (w.alloc (.cells #[v] e)) := by
      refine run_buildSlice w T e 1 _ #[v] inf z ht hi hz (by rw [hk]; omega) (by rw [hk]; omega) ?_
      have e1 : Array.range 1 = #[0] := rfl
      simp [hk, hv, hv1.1, Instr.fill, e1]
    have hrun2 : (execOp a.eval o).run P w = .ok (.value (.slice (some ⟨w.heap.size, 0, none⟩) 1 1)) (w.alloc (.cells #[v] e)) := by simp [execOp, ho] at hrun ⊢; simp [hrun]
    refine wp_val hrun2 (hn _ _ _ (g.at n ⟨w.heap.size, 0, 1, 1, []⟩) _ _ hm hle ?_ ?_)
    · have := RV.sr (P := P) (g := g.at n ⟨w.heap.size, 0, 1, 1, []⟩) n 0 1 1 ⟨w.heap.size, 0, 1, 1, []⟩ (by simp [Env.at]) (by simp) (Nat.le_refl _)
      simpa using this
    · refine notin_weak (h.hp.alloc hA0 rfl (o := .cells #[v] e (0, 0)) (mo := .box [.sr id off len]) ⟨⟨w.heap.size, 0, 1, 1, []⟩, #[v], e, by simp [Env.at], heap_alloc_new w _, by simp, by simp [hv1.2], ?_⟩)
      exact .cons _ _ _ _ (rx.mono hle) .nil
  · exact hm.elim

theorem S.rowAddr {T e : TypeId} {x i : Operand} {x' i' : Opd} {inf : TypeInfo} (ho : o.op = .indexAddr T x i) (hx : okOpd x x' = true) (hi' : okOpd i i' = true)
    (ht : P.underlying T = some (.slice e)) (hi : P.info? e = some inf) (hk : inf.size = 1)
    (h : Rel P N A w0 F0 J0 g s a w) (hm : mop false P (.rowAddr x' i') n s K) (hn : Goes P A w0 F0 J0 g s.hp n o a K next) : o.wp P a w next Q := by
  have rx := h.val hx
  have ri := h.val hi'
  simp only [mop] at hm
  split at hm
  · rename_i id off len kk z hb hz
    rw [hb] at rx; rw [hz] at ri
    generalize hv : a.eval x = v at rx
    generalize hv' : a.eval i = v' at ri
    cases ri
    split at hm
    · rename_i hs k ess hob
      obtain ⟨rfl, e1, e3, e4, hK⟩ := hm
      cases rx with
      | sr0 => simp at e4; omega
      | sr _ _ _ cap l hl h1 h2 =>
        have hlk : l.k = 1 := by
          rcases h.hp.objs id _ hob with ⟨_, _, h3⟩ | ⟨l', h3, hN⟩
          · rw [hl] at h3; cases h3
          · rw [hl] at h3; cases h3; exact hN.1
        refine hn.same h hK (RV.pr id z.toNat 0 l hl) ?_
        have hadd : ∀ (b q m : Nat), (⟨b, q, none⟩ : Addr).add m = ⟨b, q + m, none⟩ := fun b q m => by
          by_cases e : m = 0
          · subst e; simp [Addr.add]
          · simp [Addr.add, e]
        simp [execOp, ho, hv, hv', Instr.indexAt, asIntOf, run_underlying ht, e3, e4, sizeOf, typeInfo, hi, hk, hadd, hlk]
    · exact hm.elim
  · exact hm.elim

theorem S.rowLoad {T : TypeId} {x : Operand} {y : Opd} {d : TypeDesc} {inf : TypeInfo} (ho : o.op = .load T x) (hx : okOpd x y = true)
    (ht : P.underlying T = some d) (hd : isAggD d = false) (hi : P.info? T = some inf) (hk : inf.size = 1)
    (h : Rel P N A w0 F0 J0 g s a w) (hm : mop false P (.rowLoad y) n s K) (hn : Goes P A w0 F0 J0 g s.hp n o a K next) : o.wp P a w next Q := by
  have rx := h.val hx
  simp only [mop] at hm
  split at hm
  · rename_i id i off hb
    rw [hb] at rx
    generalize hv : a.eval x = v at rx
    cases rx with
    | pr _ _ _ l hl =>
      split at hm
      · rename_i hs k ess hob
        obtain ⟨rfl, hi2, hK⟩ := hm
        rcases h.hp.objs id _ hob with ⟨_, h4, h3⟩ | ⟨l', h3, hN⟩
        · rw [hl] at h3; cases h3
        · rw [hl] at h3; cases h3
          obtain ⟨n1, n2, n3, n4, ⟨cs, E, c1, c2, c5, c6⟩, n5⟩ := hN
          have hil : i < hs.length := by omega
          have hh : hs[i]? = some hs[i] := List.getElem?_eq_getElem hil
          generalize hs[i] = v at hh
          have hcell := c6 i v hh
          have hrun := run_loadAt (P := P) (w := w) (T := T) (q := l.base + i) (vs := fun _ => v) ht hd hi hk (fun _ => rfl) c1 (fun j hj => by
            obtain rfl : j = 0 := by omega
            rw [Nat.add_zero]; exact hcell)
          refine hn.same h (hK v) (RV.nr v id i l hl (by rw [n2]; exact hh)) ?_
          rw [n1, Nat.mul_one, Nat.add_zero] at hv
          simp at hrun
          simp [execOp, ho, hv, hrun]
      · exact hm.elim
  · exact hm.elim

/-- An array of the call's own as a row. -/
theorem row_of (h : HRel P A w0 F0 J0 g s.hp w) {cid m : Nat} {t : Bool} {k : Nat} {es : List (List D)} {v : Value} (hob : s.obj cid = some (.arr t k es)) (hv : RV P g v (.sr cid 0 m)) (hm : m = es.length) (hf : Flat es) :
    RowRep w v k es ∧ (hb v).Nodup ∧ ∀ b ∈ hb v, ∃ l, g.inj cid = some l ∧ b ∈ (MO.arr t k es).blks l := by
  obtain ⟨hek, hrep⟩ := h.objs cid _ hob
  subst hm
  generalize hln : es.length = ln at hv
  cases hv with
  | sr0 p =>
    have : es = [] := List.eq_nil_of_length_eq_zero hln
    refine ⟨⟨hek, hf, .inl ⟨this, p, rfl⟩⟩, ?_, ?_⟩ <;> cases p <;> simp [hb]
  | sr _ _ _ cap l hl c1 c2 =>
    rcases hrep with ⟨_, h3⟩ | ⟨l', h3, hlk, cs, E, h4, h5, h6, h7⟩
    · rw [hl] at h3; cases h3
    rw [hl] at h3; cases h3
    rw [Nat.zero_mul, Nat.add_zero]
    by_cases hc0 : cap = 0
    · subst hc0
      obtain rfl : ln = 0 := by omega
      exact ⟨⟨hek, hf, .inl ⟨List.eq_nil_of_length_eq_zero hln, _, rfl⟩⟩, by simp [hb], by simp [hb]⟩
    · subst hln
      refine ⟨⟨hek, hf, .inr ⟨_, _, cap, cs, E, rfl, c2, by omega, h4, ?_, fun i j hi hj => ?_⟩⟩, by simp [hb, hc0], fun b hb' => ⟨_, hl, ?_⟩⟩
      · have : cap = l.C := by omega
        rw [this]; exact h5
      · obtain ⟨u, hu, hr⟩ := h7 i j hi hj
        rw [hu, hr.flat_val (cellD_flat hf i j)]
      · simp [hb, hc0] at hb'; subst hb'; simp [MO.blks]

theorem S.appendRow {T e : TypeId} {x y : Operand} {x' y' : Opd} {inf : TypeInfo} {z : Value} {bytes : Nat} (ho : o.op = .call { callee := .builtin .append, args := #[x, y], argTypes := #[T, T] })
    (hx : okOpd x x' = true) (hy : okOpd y y' = true) (ht : P.underlying T = some (.slice e)) (hi : P.info? e = some inf) (hk : inf.size = 1) (hby : inf.bytes = bytes) (hb0 : 0 < bytes)
    (hz : inf.zero = some z) (hzl : z.cells.size = 1) (hA : ∀ id, n ≤ id → id < n + 64 → A id)
    (h : Rel P N A w0 F0 J0 g s a w) (hm : mop false P (.appendRow bytes x' y') n s K) (hn : Goes P A w0 F0 J0 g s.hp n o a K next) : o.wp P a w next Q := by
  have rx := h.val hx
  have ry := h.val hy
  simp only [mop] at hm
  have hexec : ∀ {v : Value} {w' : World}, (Builtin.append_ #[T, T] o.type #[a.eval x, a.eval y]).run P w = .ok v w' → (execOp a.eval o).run P w = .ok (.value v) w' := by
    intro v w' e1
    simp [execOp, ho, resolve, invoke, builtin, e1]
  have hA0 := hA n (Nat.le_refl _) (by omega)
  split at hm
  · rename_i id off len bid boff hbx hby'
    rw [hbx] at rx; rw [hby'] at ry
    split at hm
    · rename_i hs k ess cid coff m hob1 hob2
      split at hm
      · rename_i t k' es hob3
        obtain ⟨rfl, rfl, rfl, rfl, rfl, hml, hfl, hbd, hK⟩ := hm
        -- the row that is appended
        generalize hvy : a.eval y = vy at ry
        cases ry with
        | sr _ _ _ capy lb hlb d1 d2 =>
        obtain ⟨lb', cells, Eb, f1, f2, f3, f4, f5⟩ := h.hp.objs bid _ hob2
        rw [hlb] at f1; cases f1
        simp at f3
        obtain ⟨hv, hhv, rhv⟩ : ∃ hv, cells[lb.base]? = some hv ∧ RV P g hv (.sr cid 0 m) := by
          have hlt : lb.base < cells.size := by omega
          refine ⟨cells[lb.base], by simp [hlt], ?_⟩
          exact f5.get 0 cells[lb.base] _ (by rw [List.getElem?_take_of_lt (by simp), List.getElem?_drop, Array.getElem?_toList]; simp [hlt]) (by simp)
        have hone : hv.oneCell' = true := f4 hv (Array.mem_toList_iff.2 (Array.mem_of_getElem? hhv))
        obtain ⟨hrow, hvn, hvb⟩ := row_of h.hp hob3 rhv hml hfl
        have hK := hK hv
        have hncell : ∀ j u, [hv][j]? = some u → w.cell? ((⟨lb.b, lb.base, none⟩ : Addr).add j) = some u := fun j u hj => by
          cases j with
          | zero =>
            simp at hj; subst hj
            rw [show (⟨lb.b, lb.base, none⟩ : Addr).add 0 = ⟨lb.b, lb.base, none⟩ by simp [Addr.add], cell_of_row w lb.b lb.base cells Eb _ f2, hhv]
          | succ j => simp at hj
        have hn1 : ∀ u ∈ [hv], u.oneCell' = true := by simpa using hone
        rw [hvy, Nat.zero_mul, Nat.add_zero] at hexec
        -- who is who
        have hne1 : id ≠ cid := fun e => by rw [e] at hob1; rw [show s.obj cid = _ from hob3] at hob1; cases hob1
        have hbI : ∀ b ∈ hb hv, g.I b = none ∧ (w0.heap.size ≤ b ∨ b ∈ F0) ∧ b < w.heap.size := fun b hb' => by
          obtain ⟨l, e1, e2⟩ := hvb b hb'
          exact ⟨h.hp.disjB cid _ l hob3 rfl e1 b e2, h.hp.freshB cid _ l hob3 rfl e1 b e2, h.hp.ltB cid _ l hob3 rfl e1 b e2⟩
        obtain ⟨hk1, hk2⟩ := h.hp.kills [id, bid, cid]
        have hoth : ∀ i oi l1, look (upds s.hp ([id, bid, cid].map (·, none))) i = some oi → oi.live = true → g.inj i = some l1 → ∀ b ∈ hb hv, b ∉ oi.blks l1 := fun i oi l1 a1 a2 a3 b hb' hm => by
          obtain ⟨l, e1, e2⟩ := hvb b hb'
          obtain ⟨p1, p2⟩ := hk2 i oi a1
          have := h.hp.sepB i cid oi _ l1 l p1 hob3 a2 rfl a3 e1 b hm e2
          subst this; simp at p2
        have hups : ∀ q : Upd, upds s.hp ((id, none) :: (bid, none) :: (cid, none) :: q) = upds (upds s.hp ([id, bid, cid].map (·, none))) q := fun q => rfl
        have hbd2 : (ess.length + 1) * bytes ≤ 140737488355328 := Int.ofNat_le.1 (by rw [Int.natCast_mul]; exact hbd)
        have hbd3 : ess.length + 1 ≤ 140737488355328 := Nat.le_trans (Nat.le_mul_of_pos_right _ hb0) hbd2
        have hrep := h.hp.objs id _ hob1
        have hlen : hs.length = ess.length := by
          rcases hrep with ⟨q1, q2, _⟩ | ⟨l, _, hN⟩
          · rw [q1, q2]; rfl
          · exact hN.2.2.1
        -- blocks of the rows that are there
        have hold : ∀ b ∈ hs.flatMap hb, g.I b = none ∧ (w0.heap.size ≤ b ∨ b ∈ F0) ∧ b < w.heap.size ∧ b ∉ hb hv ∧ ∀ i oi l1, look (upds s.hp ([id, bid, cid].map (·, none))) i = some oi → oi.live = true → g.inj i = some l1 → b ∉ oi.blks l1 := fun b hb' => by
          rcases hrep with ⟨q1, _, _⟩ | ⟨l, hl, hN⟩
          · rw [q1] at hb'; cases hb'
          · have hin : b ∈ (MO.nst hs k' ess).blks l := List.mem_cons_of_mem _ hb'
            refine ⟨h.hp.disjB id _ l hob1 rfl hl b hin, h.hp.freshB id _ l hob1 rfl hl b hin, h.hp.ltB id _ l hob1 rfl hl b hin, fun hm => ?_, fun i oi l1 a1 a2 a3 hm => ?_⟩
            · obtain ⟨lc, e1, e2⟩ := hvb b hm
              exact hne1 (h.hp.sepB id cid _ _ l lc hob1 hob3 rfl rfl hl e1 b hin e2)
            · obtain ⟨p1, p2⟩ := hk2 i oi a1
              have := h.hp.sepB i id oi _ l1 l p1 hob1 a2 rfl a3 hl b hm hin
              subst this; simp at p2
        have hrows : ∀ (i : Nat) (v : Value) (es' : List (List D)), hs[i]? = some v → ess[i]? = some es' → RowRep w v k' es' := fun i v es' e1 e2 => by
          rcases hrep with ⟨q1, _, _⟩ | ⟨l, hl, hN⟩
          · subst q1; simp at e1
          · exact hN.2.2.2.2.2 i v es' e1 e2
        have hndo : (hs.flatMap hb).Nodup := by
          rcases hrep with ⟨q1, _, _⟩ | ⟨l, hl, hN⟩
          · rw [q1]; simp
          · exact (List.nodup_cons.1 hN.2.2.2.1).2
        have hfm : (hs ++ [hv]).flatMap hb = hs.flatMap hb ++ hb hv := by simp
        have hnd2 : (hs.flatMap hb ++ hb hv).Nodup := List.nodup_append.2 ⟨hndo, hvn, fun b1 hb1 b2 hb2 e => (hold b1 hb1).2.2.2.1 (e ▸ hb2)⟩
        -- the outcome, wherever the row lies
        have fin : ∀ (w' : World) (b q capx : Nat) (cs : Array Value) (Fw : List Nat) (w1 : World), HRel P A w0 F0 J0 g (upds s.hp ([id, bid, cid].map (·, none))) w1 → (∀ c < w.heap.size, w1.heap[c]? = w.heap[c]?) → w.heap.size ≤ w1.heap.size → WExt w1 Fw w' → (∀ c ∈ Fw, c = b) →
            w'.heap[b]? = some (.cells cs e (0, 0)) ∨ (∃ E, w'.heap[b]? = some (.cells cs E (0, 0))) → q + capx ≤ cs.size → ess.length + 1 ≤ capx → (∀ (i : Nat) (v : Value), (hs ++ [hv])[i]? = some v → cs[q + i]? = some v) →
            g.I b = none → (w0.heap.size ≤ b ∨ b ∈ F0) → (∀ i oi l1, look (upds s.hp ([id, bid, cid].map (·, none))) i = some oi → oi.live = true → g.inj i = some l1 → b ∉ oi.blks l1) →
            b ∉ hs.flatMap hb → b ∉ hb hv → (execOp a.eval o).run P w = .ok (.value (.slice (some ⟨b, q, none⟩) (ess.length + 1) capx)) w' → o.wp P a w next Q := by
          intro w' b q capx cs Fw w1 hr1 hsame hszw hw hFw hheap hfit hroom hcs hI hfr hfree hn1' hn2' hrun
          obtain ⟨E, hheap⟩ : ∃ E, w'.heap[b]? = some (.cells cs E (0, 0)) := by
            rcases hheap with q | q
            · exact ⟨_, q⟩
            · exact q
          have hinj := (hr1.avail n hA0).1
          have hle := Env.le_at (l := ⟨b, q, 1, capx, hs ++ [hv]⟩) hinj
          have hkeep : ∀ c, c < w.heap.size → c ≠ b → w'.heap[c]? = w.heap[c]? := fun c hc hcb => by
            rw [hw.block c (by omega) (fun hm => hcb (hFw c hm)), hsame c hc]
          refine wp_val hrun (hn _ _ _ (g.at n ⟨b, q, 1, capx, hs ++ [hv]⟩) _ _ hK hle ?_ ?_)
          · have := RV.sr (P := P) (g := g.at n ⟨b, q, 1, capx, hs ++ [hv]⟩) n 0 (ess.length + 1) capx ⟨b, q, 1, capx, hs ++ [hv]⟩ (by simp [Env.at]) (by simp) hroom
            simpa using this
          · rw [hups]
            have hcn : cid ≠ n := fun e => by have := (h.hp.avail n hA0).2; rw [← e] at this; rw [show look s.hp cid = _ from hob3] at this; cases this
            have hal : ORep P (g.at n ⟨b, q, 1, capx, hs ++ [hv]⟩) w' cid (.al (some n) ess.length) := by
              have e1 : (g.at n ⟨b, q, 1, capx, hs ++ [hv]⟩).inj cid = g.inj cid := by simp [Env.at, hcn]
              have e2 : (hs ++ [hv])[ess.length]? = some hv := by rw [← hlen]; simp
              simp only [ORep]
              refine ⟨⟨b, q, 1, capx, hs ++ [hv]⟩, hv, by simp [Env.at], e2, ?_⟩
              rw [e1]
              clear e2
              cases rhv with
              | sr0 p => exact .inl ⟨_, rfl⟩
              | sr _ _ _ cap l hl h1 h2 => exact .inr ⟨l, _, cap, hl, by rw [Nat.zero_mul, Nat.add_zero]⟩
            have hmb : ∀ c ∈ (MO.nst (hs ++ [hv]) k' (ess ++ [es])).blks ⟨b, q, 1, capx, hs ++ [hv]⟩, c = b ∨ c ∈ hs.flatMap hb ∨ c ∈ hb hv := fun c hc => by
              simp only [MO.blks, hfm, List.mem_cons, List.mem_append] at hc; exact hc
            refine notin_weak (HRel.alias (n := cid) (mo := .al (some n) ess.length) (hr1.adopt hA0 (Fw := Fw) (mo := .nst (hs ++ [hv]) k' (ess ++ [es])) (fun i oi l1 a1 a2 a3 c hc => ?_) (fun c hc => ?_) (fun c hc => ?_) (fun c hc => ?_) (fun c hc => by rw [hFw c hc]; exact MO.mem _ _) hw
              (.inr ⟨⟨b, q, 1, capx, hs ++ [hv]⟩, by simp [Env.at], rfl, rfl, by simp [hlen], ?_, ⟨cs, E, hheap, hfit, by simpa [hlen] using hroom, hcs⟩, fun i v es' e1 e2 => ?_⟩)) (fun hAc => by have := (h.hp.avail cid hAc.1).2; rw [show look s.hp cid = _ from hob3] at this; cases this) rfl hal)
            · rcases hmb c hc with rfl | q | q
              · exact hfree i oi l1 a1 a2 a3
              · exact (hold c q).2.2.2.2 i oi l1 a1 a2 a3
              · exact hoth i oi l1 a1 a2 a3 c q
            · rcases hmb c hc with rfl | q | q
              · exact hI
              · exact (hold c q).1
              · exact (hbI c q).1
            · rcases hmb c hc with rfl | q | q
              · exact hfr
              · exact (hold c q).2.1
              · exact (hbI c q).2.1
            · have := hw.size
              rcases hmb c hc with rfl | q | q
              · exact (Array.getElem?_eq_some_iff.1 hheap).1
              · have := (hold c q).2.2.1; omega
              · have := (hbI c q).2.2; omega
            · rw [hfm]
              refine List.nodup_cons.2 ⟨fun hm => ?_, hnd2⟩
              rcases List.mem_append.1 hm with q | q
              · exact hn1' q
              · exact hn2' q
            · by_cases hil : i < hs.length
              · rw [List.getElem?_append_left hil] at e1
                rw [List.getElem?_append_left (by omega)] at e2
                refine (hrows i v es' e1 e2).move fun c hc => hkeep c ?_ ?_
                · exact (hold c (List.mem_flatMap.2 ⟨v, List.mem_of_getElem? e1, hc⟩)).2.2.1
                · intro e; subst e; exact hn1' (List.mem_flatMap.2 ⟨v, List.mem_of_getElem? e1, hc⟩)
              · rw [List.getElem?_append_right (by omega)] at e1
                rw [List.getElem?_append_right (by omega)] at e2
                have hi0 : i - hs.length = 0 := by
                  cases hq : i - hs.length with
                  | zero => rfl
                  | succ q => rw [hq] at e1; simp at e1
                rw [hi0] at e1; rw [show i - ess.length = 0 by omega] at e2
                simp at e1 e2; subst e1 e2
                refine hrow.move fun c hc => hkeep c (hbI c hc).2.2 ?_
                intro e; subst e; exact hn2' hc
        -- a new row
        have hge := grownCap_ge w (ess.length + 1)
        have newrow : ∀ (olds : List Value) (capx : Nat), olds = hs → (execOp a.eval o).run P w = .ok (.value (.slice (some ⟨w.heap.size, 0, none⟩) (ess.length + 1) (grownCap w (ess.length + 1) capx e)))
              (w.drew.alloc (.cells (olds.toArray ++ [hv].toArray ++ Builtin.zeroCells z.cells (grownCap w (ess.length + 1) capx e - (ess.length + 1))) e)) → o.wp P a w next Q := by
          intro olds capx hol hrun
          subst hol
          have hsz : (olds.toArray ++ [hv].toArray ++ Builtin.zeroCells z.cells (grownCap w (ess.length + 1) capx e - (ess.length + 1))).size = grownCap w (ess.length + 1) capx e := by
            have := grownCap_ge w (ess.length + 1) capx e
            simp only [Array.size_append, List.size_toArray, size_zeroCells, hzl, hlen, Nat.mul_one, List.length_cons, List.length_nil]
            omega
          refine fin _ w.heap.size 0 (grownCap w (ess.length + 1) capx e) _ [] w.drew hk1.drew (fun _ _ => rfl) (Nat.le_refl _) (WExt.alloc _ _ _) (by simp) (.inl (heap_alloc_new w.drew _)) (by rw [hsz]; omega) (grownCap_ge w _ _ _) (fun i v hi' => ?_) ?_ (.inl h.hp.ext.size) ?_ ?_ ?_ hrun
          · have hil : i < (olds ++ [hv]).length := (List.getElem?_eq_some_iff.1 hi').1
            rw [Nat.zero_add, Array.getElem?_append_left (by simp at hil ⊢; omega)]
            rw [← Array.getElem?_toList]
            simpa using hi'
          · cases hI : g.I w.heap.size with
            | none => rfl
            | some ob => have := (Array.getElem?_eq_some_iff.1 (h.hp.imm _ _ hI)).1; omega
          · intro i oi l1 a1 a2 a3 hm
            obtain ⟨p1, _⟩ := hk2 i oi a1
            have := h.hp.ltB i oi l1 p1 a2 a3 _ hm; omega
          · intro hm; have := (hold _ hm).2.2.1; omega
          · intro hm; have := (hbI _ hm).2.2; omega
        generalize hvx : a.eval x = vx at rx
        rw [hvx] at hexec
        generalize hln : ess.length = ln at rx
        cases rx with
        | sr0 px =>
          have he0 : ess = [] := List.eq_nil_of_length_eq_zero hln
          have hh0 : hs = [] := List.eq_nil_of_length_eq_zero (by omega)
          subst he0 hh0
          cases px with
          | none =>
            have hr := run_append_nil (P := P) w T o.type e inf z ht hi hz ⟨lb.b, lb.base, none⟩ 1 capy [hv] (by simp [hk]) hncell (by omega) (by omega) (by rw [hby]; simp at hbd2; omega)
            refine newrow [] 0 rfl (hexec ?_)
            simpa using hr
          | some px =>
            have hgrow := growslice_fits (bytes := bytes) (show 0 < 0 + 1 by omega) (by simpa using hbd2)
            have hr := run_append_grow (P := P) w T o.type e inf z ht hi hz px 0 0 [] (by simp) (by simp) ⟨lb.b, lb.base, none⟩ 1 capy [hv] (by simp [hk]) hncell (by omega) (by omega) (by rw [hby]; simpa using hgrow)
            exact newrow [] 0 rfl (hexec hr)
        | sr _ _ _ capx lx hlx c1 c2 =>
          subst hln
          rcases hrep with ⟨_, _, h3⟩ | ⟨l', h3, hN⟩
          · rw [hlx] at h3; cases h3
          rw [hlx] at h3; cases h3
          obtain ⟨n1, n2, n3, n4, ⟨cs, E, g1, g2, g3, g4⟩, n5⟩ := hN
          rw [Nat.zero_mul, Nat.add_zero] at hexec
          have hn0 := List.nodup_cons.1 n4
          have hmem : lx.b ∈ (MO.nst hs k' ess).blks lx := MO.mem _ _
          have hcap : capx = lx.C := by omega
          by_cases hroom : ess.length + 1 ≤ capx
          · have hfit2 : lx.base + ess.length * inf.size + [hv].length ≤ cs.size := by rw [hk]; simp; omega
            have hrun := run_append_in (P := P) (w := w) (ty := o.type) (c := capy) ht hi g1 (p := ⟨lb.b, lb.base, none⟩) (m := 1) (by simp [hk]) hncell hn1 hroom hfit2
            have hw := WExt.setRow (w := w) (cs' := (splice cs.toList (lx.base + ess.length * inf.size) [hv]).toArray) g1 (by simp [splice_length])
            refine fin _ lx.b lx.base capx _ [lx.b] w hk1 (fun _ _ => rfl) (Nat.le_refl _) hw (by simp) (.inr ⟨_, setRow_heap w lx.b cs _ E _ g1⟩) (by simp [splice_length]; omega) hroom (fun i v hi' => ?_) (h.hp.disjB id _ lx hob1 rfl hlx _ hmem) (h.hp.freshB id _ lx hob1 rfl hlx _ hmem) ?_ hn0.1 ?_ (hexec hrun)
            · rw [List.getElem?_toArray, splice_get, hk]
              by_cases hil : i < hs.length
              · rw [List.getElem?_append_left hil] at hi'
                rw [if_neg (by omega), Array.getElem?_toList]
                exact g4 i v hi'
              · have hil2 : i < (hs ++ [hv]).length := (List.getElem?_eq_some_iff.1 hi').1
                simp at hil2
                have hie : i = ess.length := by omega
                rw [List.getElem?_append_right (by omega), show i - hs.length = 0 by omega] at hi'
                subst hie
                rw [if_pos ⟨by omega, by simp, by simp; omega⟩, show lx.base + ess.length - (lx.base + ess.length * 1) = 0 by omega]
                exact hi'
            · intro i oi l1 a1 a2 a3 hm
              obtain ⟨p1, p2⟩ := hk2 i oi a1
              have := h.hp.sepB i id oi _ l1 lx p1 hob1 a2 rfl a3 hlx _ hm hmem
              subst this; simp at p2
            · intro hm
              obtain ⟨lc, e1, e2⟩ := hvb _ hm
              exact hne1 (h.hp.sepB id cid _ _ lx lc hob1 hob3 rfl rfl hlx e1 _ hmem e2)
          · have hgrow := growslice_fits (bytes := bytes) (show capx < ess.length + 1 by omega) hbd2
            have hr := run_append_grow (P := P) w T o.type e inf z ht hi hz ⟨lx.b, lx.base, none⟩ ess.length capx hs (by rw [hk, hlen, Nat.mul_one]) (fun j u hj => by
                have hadd : (⟨lx.b, lx.base, none⟩ : Addr).add j = ⟨lx.b, lx.base + j, none⟩ := by
                  by_cases e : j = 0
                  · subst e; simp [Addr.add]
                  · simp [Addr.add, e]
                rw [hadd, cell_of_row w lx.b (lx.base + j) cs E _ g1]
                exact g4 j u hj) ⟨lb.b, lb.base, none⟩ 1 capy [hv] (by simp [hk]) hncell (by omega) (by omega) (by rw [hby]; exact hgrow)
            exact newrow hs capx rfl (hexec hr)
      · exact hm.elim
    · exact hm.elim
  · exact hm.elim

theorem flatMap_apart : ∀ {hs : List Value} {i j : Nat} {u v : Value}, (hs.flatMap hb).Nodup → hs[i]? = some u → hs[j]? = some v → i ≠ j → ∀ b ∈ hb u, b ∉ hb v
  | [], i, j, u, v, _, h, _, _ => by simp at h
  | x :: hs, i, j, u, v, hnd, h1, h2, hne => by
    rw [List.flatMap_cons] at hnd
    have hn := List.nodup_append.1 hnd
    intro b b1 b2
    cases i with
    | zero =>
      cases j with
      | zero => exact hne rfl
      | succ j =>
        simp at h1 h2; subst h1
        exact hn.2.2 b b1 b (List.mem_flatMap.2 ⟨v, List.mem_of_getElem? h2, b2⟩) rfl
    | succ i =>
      cases j with
      | zero =>
        simp at h1 h2; subst h2
        exact hn.2.2 b b2 b (List.mem_flatMap.2 ⟨u, List.mem_of_getElem? h1, b1⟩) rfl
      | succ j => exact flatMap_apart hn.2.1 (by simpa using h1) (by simpa using h2) (by omega) b b1 b2

theorem RowRep.own {I J : Imm} {v : Value} {k : Nat} {es : List (List D)} (h : RowRep w v k es) : Own P I J w v (.ow true k es) (hb v) := by
  obtain ⟨h1, h2, ⟨rfl, p, rfl⟩ | ⟨b, q, cap, cs, E, rfl, e2, e3, e4, e5, e6⟩⟩ := h
  · have : hb (.slice p 0 0) = [] := by cases p <;> simp [hb]
    rw [this]; exact .ow0 _ _ _
  · have : hb (.slice (some ⟨b, q, none⟩) es.length cap) = [b] := by simp [hb]; omega
    rw [this]
    exact .ow ⟨b, q, k, cap, []⟩ true k es cap es.length rfl e2 (Nat.le_refl _) h1 ⟨rfl, cs, E, e4, e5, e2, fun i j hi hj => ⟨_, e6 i j hi hj, val_DR (cellD_flat h2 i j)⟩⟩
theorem RowRep.of_own {I J : Imm} {t : Bool} {v : Value} {k : Nat} {es : List (List D)} {F : List Nat} (h : Own P I J w v (.ow t k es) F) (hf : Flat es) : RowRep w v k es := by
  cases h with
  | imm _ _ hr => cases hr
  | ow0 p => exact ⟨by simp, hf, .inl ⟨rfl, p, rfl⟩⟩
  | ow l _ _ _ cap len hlen hcap hC hk hb0 =>
    subst hlen
    by_cases hc0 : cap = 0
    · subst hc0
      have he : es = [] := List.eq_nil_of_length_eq_zero (by omega)
      subst he
      exact ⟨by simp, hf, .inl ⟨rfl, _, rfl⟩⟩
    · obtain ⟨e1, cs, E, e2, e3, e4, e5⟩ := hb0
      refine ⟨hk, hf, .inr ⟨l.b, l.base, cap, cs, E, rfl, hcap, by omega, e2, ?_, fun i j hi hj => ?_⟩⟩
      · have : cap * k ≤ l.C * k := Nat.mul_le_mul_right _ hC
        omega
      · obtain ⟨u, hu, hr⟩ := e5 i j hi hj
        rw [hu, hr.flat_val (cellD_flat hf i j)]

theorem S.callRow {f : FuncId} {x y : Operand} {x' y' : Opd} {ts : Array TypeId} {fd : Func} (ho : o.op = .call { callee := .value (.func f), args := #[x, y], argTypes := ts })
    (hx : okOpd x x' = true) (hy : okOpd y y' = true)
    (hf : P.funcs[f]? = some fd) (hname : (fd.name == "runtime.NumGoroutine") = false) (hbody : fd.body.isNone = false)
    (h : Rel P N A w0 F0 J0 g s a w) (hm : mop false P (.callRow f x' y') n s K) (hn : Goes P A w0 F0 J0 g s.hp n o a K next) : o.wp P a w next Q := by
  have rx := h.val hx
  have ry := h.val hy
  simp only [mop] at hm
  split at hm
  · rename_i h0 id i c hbx hby
    rw [hbx] at rx; rw [hby] at ry
    split at hm
    · rename_i hs k ess hob
      obtain ⟨hil, hm⟩ := hm
      obtain ⟨es, hes⟩ : ∃ es, ess[i]? = some es := ⟨_, List.getElem?_eq_getElem hil⟩
      obtain ⟨es', r, hM, hfl, hK⟩ := hm es hes
      generalize hvx : a.eval x = vx at rx
      generalize hvy : a.eval y = vy at ry
      cases ry
      cases rx with
      | nr _ _ _ l hl hr =>
      rcases h.hp.objs id _ hob with ⟨_, _, h3⟩ | ⟨l', h3, hN⟩
      · rw [hl] at h3; cases h3
      rw [hl] at h3; cases h3
      have hN0 := hN
      obtain ⟨n1, n2, n3, n4, ⟨cs, E, c1, c2, c5, c6⟩, n5⟩ := hN
      rw [n2] at hr
      have hrow := n5 i _ es hr hes
      have hsub : ∀ b ∈ hb h0, b ∈ (MO.nst hs k ess).blks l := fun b hb' => rows_blks hr hb'
      have hnd := List.nodup_cons.1 n4
      have hFn : (hb h0).Nodup := by
        cases h0 <;> simp [hb]
        rename_i p ln cap
        cases p <;> simp [hb]
        split <;> simp
      have hcall := hM w g.J #[h0, .int .i64 c] (hb h0) (fun b o x => ⟨h.hp.imm b o (h.hp.JI b o x), fun hb' => by
          have := h.hp.disjB id _ l hob rfl hl b (hsub b hb')
          rw [h.hp.JI b o x] at this; cases this⟩) hFn (by
          have := OwnL.cons (P := P) (I := heapBut w (hb h0)) (J := g.J) (w := w) _ _ _ _ (hb h0) [] hrow.own (.cons _ _ _ _ [] [] (.imm _ _ (.i .i64 c)) .nil)
          simpa using this)
      have hexec : (execOp a.eval o).run P w = .ok (.enter f #[h0, .int .i64 c]) w := by
        have hname' : ¬ fd.name = "runtime.NumGoroutine" := by simpa using hname
        have hbody' : ¬ fd.body = none := by intro e; rw [e] at hbody; cases hbody
        have ev : a.eval (.func f) = .func (.func f) #[] #[] := rfl
        simp [execOp, ho, resolve, ev, Deferred.ofValue, invoke, callFunc, run_program, hf, hname', hbody', hvx, hvy]
      simp only [Oper.wp, hexec, Oper.upon]
      refine hcall.mono ?_
      rintro e w' ⟨v, outs, r', J', G, rfl, ⟨rfl, rfl⟩, hw, hJJ, hJ', hGn, hGf, hownL⟩
      show next (a.put o.dst v) w'
      have hrow' : RowRep w' h0 k es' ∧ v = .int .i64 r := by
        cases hownL with
        | cons _ _ _ _ Gr Go hr' houts =>
          refine ⟨?_, ?_⟩
          · cases houts with
            | cons _ _ _ _ _ _ h1 _ => exact RowRep.of_own h1 hfl
          · cases hr' with
            | imm _ _ q => cases q; rfl
      obtain ⟨hrow', rfl⟩ := hrow'
      refine hn _ _ _ g w' _ hK (Env.le.refl g) (.i _ _) ?_
      have hwr := h.hp.writeF (n := id) (mo := .nst hs k ess) (mo' := .nst hs k (ess.set i es')) (w' := w') (Fw := hb h0) hob rfl hl rfl hsub hw (.inr ⟨l, hl, n1, n2, by simp [n3], n4, ?_, fun j v es2 e1 e2 => ?_⟩)
      · exact hwr.weaken (fun _ x => x.1)
      · refine ⟨cs, E, ?_, c2, c5, c6⟩
        rw [hw.block l.b (Array.getElem?_eq_some_iff.1 c1).1 (fun hm => hnd.1 (List.mem_flatMap.2 ⟨h0, List.mem_of_getElem? hr, hm⟩))]; exact c1
      · by_cases hij : i = j
        · subst hij
          rw [hr] at e1; cases e1
          rw [List.getElem?_set_self hil] at e2; cases e2
          exact hrow'
        · rw [List.getElem?_set_ne hij] at e2
          refine (n5 j v es2 e1 e2).move fun b hb' => hw.block b (hN0.lt b (rows_blks e1 hb')) (fun hm => ?_)
          exact flatMap_apart hnd.2 e1 hr (Ne.symm hij) b hb' hm
    · exact hm.elim
  · exact hm.elim
end
end Go.Fw
namespace Go.Fw
set_option linter.unusedVariables false
set_option linter.unusedSimpArgs false

def tyAg (P : Program) (T : TypeId) (ag : Bool) : Bool :=
  match P.underlying T with
  | some d => isAggD d == ag
  | none => false
def tySz (P : Program) (T : TypeId) (k : Nat) : Bool :=
  match P.info? T with
  | some i => i.size == k
  | none => false
def elemT (P : Program) (T : TypeId) : Option TypeId :=
  match P.underlying T with
  | some (.slice e) => some e
  | _ => none
def arrT (P : Program) (T : TypeId) : Option (Nat × TypeId) :=
  match P.underlying T with
  | some (.array n e) => some (n, e)
  | _ => none
def fieldT (P : Program) (T : TypeId) (f : Nat) : Option Field :=
  match P.underlying T with
  | some (.struct fs) => fs[f]?
  | _ => none
def okOpds : List Operand → List Opd → Bool
  | [], [] => true
  | x :: xs, y :: ys => okOpd x y && okOpds xs ys
  | _, _ => false
def dOK1 : Value → D → Bool
  | .int k n, .i k' n' => k == k' && n == n'
  | .bool x, .b y => x == y
  | .slice none 0 0, .a _ [] => true
  | _, _ => false
def dOKs : List Value → List D → Bool
  | [], [] => true
  | v :: vs, d :: ds => dOK1 v d && dOKs vs ds
  | _, _ => false
/-- The places of a composite type's parts, its zero cells. -/
def placesT (P : Program) (T : TypeId) : Option ((Nat → Option (Nat × Nat)) × Array Value) :=
  match P.info? T, P.underlying T with
  | some it, some (.array _ e) =>
    match it.zero, P.info? e with
    | some z, some ie => some (fun i => some (i * ie.size, ie.size), z.cells)
    | _, _ => none
  | some it, some (.struct fields) =>
    match it.zero, fields.toList.mapM (fun f => (P.info? f.type).map fun i => (f.offset, i.size)) with
    | some z, some places => some (fun i => places.toArray[i]?, z.cells)
    | _, _ => none
  | _, _ => none

def okOp (P : Program) (o : Op) (m : MOp) : Bool :=
  match m with
  | .mov y => match o with | .move x | .assign x => okOpd x y | _ => false
  | .pick c' a' b' => match o with | .pick c a b => okOpd c c' && okOpd a a' && okOpd b b' | _ => false
  | .box _ y => match o with | .box _ x => okOpd x y | _ => false
  | .alloc cs => match o with
    | .alloc T =>
      match P.info? T with
      | some i => match i.zero with | some z => cOKs z.cells.toList cs | none => false
      | none => false
    | _ => false
  | .build zero parts' => match o with
    | .build T parts =>
      match placesT P T with
      | some (pl, z) => cOKs z.toList zero && okParts pl parts.toList parts'
      | none => false
    | _ => false
  | .buildSlice k ys => match o with
    | .buildSlice T len parts =>
      match elemT P T with
      | some e => match P.info? e with
        | some i => i.size == k && i.zero.isSome && decide (0 < k) && parts.toList.length == len && decide (len * k ≤ 16777216) && okRows 0 parts.toList ys
        | none => false
      | none => false
    | _ => false
  | .load ag k y => match o with | .load T x => okOpd x y && tyAg P T ag && tySz P T k && (ag || k == 1) | _ => false
  | .store k a x => match o with | .store T p v => okOpd p a && okOpd v x && tySz P T k | _ => false
  | .nilCheck y => match o with | .nilCheck x => okOpd x y | _ => false
  | .bin op x' y' => match o with | .binOp op' _ x y _ => op == op' && okOpd x x' && okOpd y y' | _ => false
  | .binb neg x' y' => match o with | .binOp op T x y _ => (op == if neg then .neq else .eql) && okOpd x x' && okOpd y y' && (match P.underlying T with | some .bool => true | _ => false) | _ => false
  | .nilq neg x' => match o with | .binOp op T x y _ => (op == if neg then .neq else .eql) && okOpd x x' && (elemT P T).isSome && (match y with | .const (.slice none 0 0) => true | _ => false) | _ => false
  | .eqAgg neg sig x' y' => match o with
    | .binOp op T x y _ => (op == if neg then .neq else .eql) && okOpd x x' && okOpd y y' && flatTy P 8 T == some sig && (match P.underlying T with | some (.struct _) => true | _ => false) && !P.eqGuardType P.depth T
    | _ => false
  | .un op x' => match o with | .unOp op' _ x => op == op' && okOpd x x' | _ => false
  | .conv dst x' => match o with | .convert T T' x => okOpd x x' && (P.underlying T).isSome && (match P.underlying T' with | some (.int k) => k == dst | _ => false) | _ => false
  | .makeSlice k bytes zero l c => match o with
    | .makeSlice T x y =>
      okOpd x l && okOpd y c &&
      match elemT P T with
      | some e => match P.info? e with
        | some i => i.size == k && i.bytes == bytes && decide (0 < bytes) && zero.length == k && (match i.zero with | some z => z.cells.size == k && dOKs z.cells.toList zero | none => false)
        | none => false
      | none => false
    | _ => false
  | .slice k x' lo' hi' => match o with
    | .slice T x lo hi none => okOpd x x' && okOO lo lo' && okOO hi hi' && (match elemT P T with | some e => tySz P e k | none => false)
    | _ => false
  | .fieldAddr off x' => match o with
    | .fieldAddr T x f => okOpd x x' && (match fieldT P T f with | some fd => fd.offset == off && (match P.info? fd.type with | some i => i.size != 0 | none => false) | none => false)
    | _ => false
  | .field ag k off x' => match o with
    | .field T x f => okOpd x x' && (match fieldT P T f with | some fd => fd.offset == off && tyAg P fd.type ag && tySz P fd.type k && (ag || k == 1) | none => false)
    | _ => false
  | .indexAddr k x' i' => match o with
    | .indexAddr T x i => okOpd x x' && okOpd i i' && (match elemT P T with | some e => tySz P e k | none => false)
    | _ => false
  | .arrAddr n k x' i' => match o with
    | .indexAddr T x i => okOpd x x' && okOpd i i' && (match arrT P T with | some (m, e) => m == n && tySz P e k | none => false)
    | _ => false
  | .arrIndex ag n k x' i' => match o with
    | .index T x i => okOpd x x' && okOpd i i' && (match arrT P T with | some (m, e) => m == n && tySz P e k && tyAg P e ag && (ag || k == 1) | none => false)
    | _ => false
  | .extract x' i' => match o with | .extract x i => okOpd x x' && i == i' | _ => false
  | .len x' => match o with
    | .call { callee := .builtin .len, args := args, argTypes := ts } =>
      match args.toList with
      | [x] => okOpd x x' && (match ts[0]? with | some T => (elemT P T).isSome | none => false)
      | _ => false
    | _ => false
  | .append k bytes _ x' y' => match o with
    | .call { callee := .builtin .append, args := args, argTypes := ts } =>
      match args.toList, ts.toList with
      | [x, y], [T, T'] => okOpd x x' && okOpd y y' && T == T' &&
        (match elemT P T with
        | some e => match P.info? e with
          | some i => i.size == k && decide (0 < k) && i.bytes == bytes && decide (0 < bytes) && (match i.zero with | some z => z.cells.size == k | none => false)
          | none => false
        | none => false)
      | _, _ => false
    | _ => false
  | .minmax mx x' y' => match o with
    | .call { callee := .builtin b, args := args, argTypes := _ } =>
      match args.toList with
      | [x, y] => (b == if mx then .max else .min) && okOpd x x' && okOpd y y'
      | _ => false
    | _ => false
  | .call f _ _ args' => match o with
    | .call { callee := .value (.func f'), args := args, argTypes := _ } => f == f' && okOpds args.toList args' &&
      (match P.funcs[f]? with | some fd => !(fd.name == "runtime.NumGoroutine") && !fd.body.isNone | none => false)
    | _ => false
  | .callv f' args' => match o with
    | .call { callee := .value f, args := args, argTypes := _ } => okOpd f f' && okOpds args.toList args'
    | _ => false
  | .mkfn f' first' caps' => match o with
    | .makeFunc (.func f) first caps => f == f' && okOpds first.toList first' && okOpds caps.toList caps'
    | _ => false
  | .cap x' => match o with
    | .call { callee := .builtin .cap, args := args, argTypes := ts } =>
      match args.toList with
      | [x] => okOpd x x' && (match ts[0]? with | some T => (elemT P T).isSome | none => false)
      | _ => false
    | _ => false
  | .copy k x' y' => match o with
    | .call { callee := .builtin .copy, args := args, argTypes := ts } =>
      match args.toList with
      | [x, y] => okOpd x x' && okOpd y y' &&
        (match ts[0]? with
        | some T => match elemT P T with
          | some e => match P.info? e with
            | some i => i.size == k && decide (0 < k)
            | none => false
          | none => false
        | none => false)
      | _ => false
    | _ => false
  | .clear k zero x' => match o with
    | .call { callee := .builtin .clear, args := args, argTypes := ts } =>
      match args.toList with
      | [x] => okOpd x x' &&
        (match ts[0]? with
        | some T => match elemT P T with
          | some e => match P.info? e with
            | some i => i.size == k && decide (0 < k) && zero.length == k && (match i.zero with | some z => z.cells.size == k && dOKs z.cells.toList zero | none => false)
            | none => false
          | none => false
        | none => false)
      | _ => false
    | _ => false
  | .appendMk k bytes zero x' y' => match o with
    | .call { callee := .builtin .append, args := args, argTypes := ts } =>
      match args.toList, ts.toList with
      | [x, y], [T, TI] => okOpd x x' && okOpd y y' && (match P.underlying TI with | some (.int _) => true | _ => false) &&
        (match elemT P T with
        | some e => match P.info? e with
          | some i => i.size == k && decide (0 < k) && i.bytes == bytes && decide (0 < bytes) && zero.length == k && (match i.zero with | some z => z.cells.size == k && dOKs z.cells.toList zero | none => false)
          | none => false
        | none => false)
      | _, _ => false
    | _ => false
  | .overlaps f x' y' => match o with
    | .call { callee := .value (.func f'), args := args, argTypes := _ } =>
      match args.toList with
      | [x, y] => f == f' && okOpd x x' && okOpd y y'
      | _ => false
    | _ => false
  | .sliceHd k x' hi' => match o with
    | .slice T x none hi none => okOpd x x' && okOO hi hi' && (match elemT P T with | some e => tySz P e k | none => false)
    | _ => false
  | .sliceTr k x' hi' => match o with
    | .slice T x none hi none => okOpd x x' && okOO hi hi' && (match elemT P T with | some e => tySz P e k | none => false)
    | _ => false
  | .dead => true
  | .nestNil _ => match o with
    | .buildSlice T len parts => len == 0 && parts.toList.isEmpty && (match elemT P T with | some e => (P.info? e).isSome | none => false)
    | _ => false
  | .boxRow x' => match o with
    | .buildSlice T len parts => len == 1 && (match parts.toList with | [(i, x)] => i == 0 && okOpd x x' | _ => false) &&
      (match elemT P T with | some e => (match P.info? e with | some i => i.size == 1 && i.zero.isSome | none => false) | none => false)
    | _ => false
  | .appendRow bytes x' y' => match o with
    | .call { callee := .builtin .append, args := args, argTypes := ts } =>
      match args.toList, ts.toList with
      | [x, y], [T, T'] => okOpd x x' && okOpd y y' && T == T' &&
        (match elemT P T with
        | some e => match P.info? e with
          | some i => i.size == 1 && i.bytes == bytes && decide (0 < bytes) && (match i.zero with | some z => z.cells.size == 1 | none => false)
          | none => false
        | none => false)
      | _, _ => false
    | _ => false
  | .rowAddr x' i' => match o with
    | .indexAddr T x i => okOpd x x' && okOpd i i' && (match elemT P T with | some e => tySz P e 1 | none => false)
    | _ => false
  | .rowLoad y => match o with | .load T x => okOpd x y && tyAg P T false && tySz P T 1 | _ => false
  | .callRow f x' y' => match o with
    | .call { callee := .value (.func f'), args := args, argTypes := _ } =>
      match args.toList with
      | [x, y] => f == f' && okOpd x x' && okOpd y y' && (match P.funcs[f]? with | some fd => !(fd.name == "runtime.NumGoroutine") && !fd.body.isNone | none => false)
      | _ => false
    | _ => false
  | .sliceUp k x' lo' hi' => match o with
    | .slice T x lo hi none => okOpd x x' && okOO lo lo' && okOO hi hi' && (match elemT P T with | some e => tySz P e k | none => false)
    | _ => false
  | .strIdx l i' => match o with
    | .index T (.const (.string bs)) i => okOpd i i' && (match P.underlying T with | some .string => true | _ => false) && bs.data.toList.map (·.toNat) == l
    | _ => false
  | .slice3 x' lo' hi' mx' => match o with
    | .slice T x lo (some hi) (some mx) => okOpd x x' && okOO lo lo' && okOO (some hi) hi' && okOO (some mx) mx' && (match elemT P T with | some e => (P.info? e).isSome | none => false)
    | _ => false
  | .appendIn k x' y' => match o with
    | .call { callee := .builtin .append, args := args, argTypes := ts } =>
      match args.toList, ts.toList with
      | [x, y], [T, T'] => okOpd x x' && okOpd y y' && T == T' &&
        (match elemT P T with
        | some e => match P.info? e with
          | some i => i.size == k && decide (0 < k)
          | none => false
        | none => false)
      | _, _ => false
    | _ => false

theorem okOpds_get : ∀ {xs : List Operand} {ys : List Opd}, okOpds xs ys = true → xs.length = ys.length ∧ ∀ (i : Nat) (x : Operand) (y : Opd), xs[i]? = some x → ys[i]? = some y → okOpd x y = true
  | [], [], _ => ⟨rfl, by simp⟩
  | x :: xs, y :: ys, h => by
    simp [okOpds] at h
    have ih := okOpds_get h.2
    refine ⟨by simp [ih.1], fun i x' y' h1 h2 => ?_⟩
    cases i with
    | zero => simp at h1 h2; subst h1 h2; exact h.1
    | succ i => exact ih.2 i x' y' (by simpa using h1) (by simpa using h2)
  | [], _ :: _, h => by simp [okOpds] at h
  | _ :: _, [], h => by simp [okOpds] at h

theorem dOKs_get : ∀ {vs : List Value} {ds : List D}, dOKs vs ds = true → vs.length = ds.length ∧ ∀ j, j < ds.length → DR (fun _ => none) (vs.getD j undef) (ds.getD j default)
  | [], [], _ => ⟨rfl, by simp⟩
  | v :: vs, d :: ds, h => by
    simp [dOKs] at h
    have ih := dOKs_get h.2
    refine ⟨by simp [ih.1], fun j hj => ?_⟩
    cases j with
    | zero =>
      have h1 := h.1
      show DR _ v d
      unfold dOK1 at h1
      split at h1
      · simp at h1; obtain ⟨rfl, rfl⟩ := h1; exact .i _ _
      · simp at h1; subst h1; exact .b _
      · exact .a0 _ _ _
      · cases h1
    | succ j => exact ih.2 j (by simpa using hj)
  | [], _ :: _, h => by simp [dOKs] at h
  | _ :: _, [], h => by simp [dOKs] at h

theorem placesT_built {P : Program} {T : TypeId} {pl z} (h : placesT P T = some (pl, z)) : ∀ ps, P.built T ps = Instr.fill pl z ps := by
  intro ps
  unfold placesT at h
  unfold Program.built
  split at h
  · rename_i it n e h1 h2
    split at h
    · rename_i z' ie h3 h4
      cases h
      simp [h1, h2, h3, h4]
    · cases h
  · rename_i it fields h1 h2
    split at h
    · rename_i z' pls h3 h4
      cases h
      simp [h1, h2, h3, h4]
    · cases h
  · cases h

theorem tyAg_get {P : Program} {T : TypeId} {ag : Bool} (h : tyAg P T ag = true) : ∃ d, P.underlying T = some d ∧ isAggD d = ag := by
  unfold tyAg at h
  split at h
  · rename_i d hd; exact ⟨d, hd, by simpa using h⟩
  · cases h
theorem tySz_get {P : Program} {T : TypeId} {k : Nat} (h : tySz P T k = true) : ∃ i, P.info? T = some i ∧ i.size = k := by
  unfold tySz at h
  split at h
  · rename_i d hd; exact ⟨d, hd, by simpa using h⟩
  · cases h
theorem elemT_get {P : Program} {T e : TypeId} (h : elemT P T = some e) : P.underlying T = some (.slice e) := by
  unfold elemT at h
  split at h
  · rename_i e' he; cases h; exact he
  · cases h
theorem arrT_get {P : Program} {T e : TypeId} {n : Nat} (h : arrT P T = some (n, e)) : P.underlying T = some (.array n e) := by
  unfold arrT at h
  split at h
  · rename_i e' he; cases h; exact he
  · cases h
theorem fieldT_get {P : Program} {T : TypeId} {f : Nat} {fd : Field} (h : fieldT P T f = some fd) : ∃ fs, P.underlying T = some (.struct fs) ∧ fs[f]? = some fd := by
  unfold fieldT at h
  split at h
  · rename_i fs hfs; exact ⟨fs, hfs, h⟩
  · cases h

section
variable {P : Program} {N : FrS} {A : Nat → Prop} {w0 : World} {F0 : List Nat} {J0 : Imm} {g : Env} {s : MS} {a : Act} {w : World} {hp : List (Nat × MO)}
variable {n : Nat} {o : Oper} {K : MK} {next : Act → World → Prop} {Q : Exit → Act → World → Prop}

theorem mop_sound {m : MOp} (hok : okOp P o.op m = true) (hA : ∀ id, n ≤ id → id < n + 64 → A id) (h : Rel P N A w0 F0 J0 g s a w) (hm : mop false P m n s K)
    (hn : Goes P A w0 F0 J0 g s.hp n o a K next) : o.wp P a w next Q := by
  generalize hop : o.op = op at hok
  cases m with
  | mov y =>
    simp only [okOp] at hok
    split at hok
    · exact S.mov (.inl hop) hok h hm hn
    · exact S.mov (.inr hop) hok h hm hn
    · cases hok
  | pick c' a' b' =>
    simp only [okOp] at hok
    split at hok
    · simp at hok; exact S.pick hop hok.1.1 hok.1.2 hok.2 h hm hn
    · cases hok
  | box k y =>
    simp only [okOp] at hok
    split at hok
    · exact S.box hop hok hA h hm hn
    · cases hok
  | alloc cs =>
    simp only [okOp] at hok
    split at hok
    · split at hok
      · rename_i i hi
        split at hok
        · rename_i z hz; exact S.alloc hop hi hz hok hA h hm hn
        · cases hok
      · cases hok
    · cases hok
  | build zero parts' =>
    simp only [okOp] at hok
    split at hok
    · split at hok
      · rename_i pl z hpl
        simp at hok
        exact S.build hop (placesT_built hpl) hok.1 hok.2 h hm hn
      · cases hok
    · cases hok
  | buildSlice k ys =>
    simp only [okOp] at hok
    split at hok
    · split at hok
      · rename_i e he
        split at hok
        · rename_i i hi
          simp at hok
          obtain ⟨⟨⟨⟨⟨h1, h2⟩, h3⟩, h4⟩, h5⟩, h6⟩ := hok
          obtain ⟨z, hz⟩ := Option.isSome_iff_exists.1 h2
          exact S.buildSlice hop (elemT_get he) hi h1 hz h3 (by simpa using h4) h5 h6 hA h hm hn
        · cases hok
      · cases hok
    · cases hok
  | load ag k y =>
    simp only [okOp] at hok
    split at hok
    · simp only [Bool.and_eq_true] at hok
      obtain ⟨⟨⟨h1, h2⟩, h3⟩, h4⟩ := hok
      obtain ⟨d, hd, hag⟩ := tyAg_get h2
      obtain ⟨i, hi, hk⟩ := tySz_get h3
      exact S.load hop h1 hd hag hi hk (fun e => by subst e; simpa using h4) h hm hn
    · cases hok
  | store k x y =>
    simp only [okOp] at hok
    split at hok
    · simp only [Bool.and_eq_true] at hok
      obtain ⟨i, hi, hk⟩ := tySz_get hok.2
      exact S.store hop hok.1.1 hok.1.2 hi hk h hm hn
    · cases hok
  | nilCheck y =>
    simp only [okOp] at hok
    split at hok
    · exact S.nilCheck hop hok h hm hn
    · cases hok
  | bin op' x' y' =>
    simp only [okOp] at hok
    split at hok
    · simp only [Bool.and_eq_true, beq_iff_eq] at hok
      obtain ⟨⟨rfl, h1⟩, h2⟩ := hok
      exact S.bin hop h1 h2 h hm hn
    · cases hok
  | binb neg x' y' =>
    simp only [okOp] at hok
    split at hok
    · simp only [Bool.and_eq_true, beq_iff_eq] at hok
      obtain ⟨⟨⟨h0, h1⟩, h2⟩, h3⟩ := hok
      split at h3
      · rename_i hu; exact S.binb hop h0 h1 h2 hu h hm hn
      · cases h3
    · cases hok
  | nilq neg x' =>
    simp only [okOp] at hok
    split at hok
    · simp only [Bool.and_eq_true, beq_iff_eq] at hok
      obtain ⟨⟨⟨h0, h1⟩, h2⟩, h3⟩ := hok
      obtain ⟨e, he⟩ := Option.isSome_iff_exists.1 h2
      split at h3
      · exact S.nilq hop h0 h1 (elemT_get he) rfl h hm hn
      · cases h3
    · cases hok
  | eqAgg neg sig x' y' =>
    simp only [okOp] at hok
    split at hok
    · simp only [Bool.and_eq_true, beq_iff_eq] at hok
      obtain ⟨⟨⟨⟨⟨h0, h1⟩, h2⟩, h3⟩, h4⟩, h5⟩ := hok
      split at h4
      · rename_i fs hfs
        exact S.eqAgg hop h0 h1 h2 h3 ⟨fs, hfs⟩ (by simpa using h5) h hm hn
      · cases h4
    · cases hok
  | un op' x' =>
    simp only [okOp] at hok
    split at hok
    · simp only [Bool.and_eq_true, beq_iff_eq] at hok
      obtain ⟨rfl, h1⟩ := hok
      exact S.un hop h1 h hm hn
    · cases hok
  | conv dst x' =>
    simp only [okOp] at hok
    split at hok
    · simp only [Bool.and_eq_true] at hok
      obtain ⟨⟨h1, h2⟩, h3⟩ := hok
      obtain ⟨d, hd⟩ := Option.isSome_iff_exists.1 h2
      split at h3
      · rename_i k hk
        simp at h3; subst h3
        exact S.conv hop h1 hd hk h hm hn
      · cases h3
    · cases hok
  | makeSlice k bytes zero l c =>
    simp only [okOp] at hok
    split at hok
    · simp only [Bool.and_eq_true] at hok
      obtain ⟨⟨h1, h2⟩, h3⟩ := hok
      split at h3
      · rename_i e he
        split at h3
        · rename_i i hi
          simp only [Bool.and_eq_true, beq_iff_eq, decide_eq_true_eq] at h3
          obtain ⟨⟨⟨⟨c1, c2⟩, c3⟩, c4⟩, c5⟩ := h3
          split at c5
          · rename_i z hz
            simp at c5
            have hd := dOKs_get c5.2
            refine S.makeSlice hop h1 h2 (elemT_get he) hi c1 c2 c3 hz c5.1 ⟨c4, fun j hj => ?_⟩ hA h hm hn
            have := hd.2 j (by omega)
            rw [← getD_toList]; exact this
          · cases c5
        · cases h3
      · cases h3
    · cases hok
  | slice k x' lo' hi' =>
    simp only [okOp] at hok
    split at hok
    · simp only [Bool.and_eq_true] at hok
      obtain ⟨⟨⟨h1, h2⟩, h3⟩, h4⟩ := hok
      split at h4
      · rename_i e he
        obtain ⟨i, hi, hk⟩ := tySz_get h4
        exact S.slice hop h1 h2 h3 (elemT_get he) hi hk h hm hn
      · cases h4
    · cases hok
  | fieldAddr off x' =>
    simp only [okOp] at hok
    split at hok
    · simp only [Bool.and_eq_true] at hok
      obtain ⟨h1, h2⟩ := hok
      split at h2
      · rename_i fd hfd
        obtain ⟨fs, hfs, hf⟩ := fieldT_get hfd
        simp only [Bool.and_eq_true, beq_iff_eq] at h2
        obtain ⟨h2, h3⟩ := h2
        split at h3
        · rename_i i hi
          exact S.fieldAddr hop h1 hfs hf h2 hi (by simpa using h3) h hm hn
        · cases h3
      · cases h2
    · cases hok
  | field ag k off x' =>
    simp only [okOp] at hok
    split at hok
    · simp only [Bool.and_eq_true] at hok
      obtain ⟨h1, h2⟩ := hok
      split at h2
      · rename_i fd hfd
        obtain ⟨fs, hfs, hf⟩ := fieldT_get hfd
        simp only [Bool.and_eq_true] at h2
        obtain ⟨⟨⟨c1, c2⟩, c3⟩, c4⟩ := h2
        obtain ⟨d, hd, hag⟩ := tyAg_get c2
        obtain ⟨i, hi, hk⟩ := tySz_get c3
        exact S.field hop h1 hfs hf (by simpa using c1) hd hag hi hk (fun e => by subst e; simpa using c4) h hm hn
      · cases h2
    · cases hok
  | indexAddr k x' i' =>
    simp only [okOp] at hok
    split at hok
    · simp only [Bool.and_eq_true] at hok
      obtain ⟨⟨h1, h2⟩, h3⟩ := hok
      split at h3
      · rename_i e he
        obtain ⟨i, hi, hk⟩ := tySz_get h3
        exact S.indexAddr hop h1 h2 (elemT_get he) hi hk h hm hn
      · cases h3
    · cases hok
  | arrAddr len k x' i' =>
    simp only [okOp] at hok
    split at hok
    · simp only [Bool.and_eq_true] at hok
      obtain ⟨⟨h1, h2⟩, h3⟩ := hok
      split at h3
      · rename_i m e he
        simp only [Bool.and_eq_true, beq_iff_eq] at h3
        obtain ⟨rfl, h3⟩ := h3
        obtain ⟨i, hi, hk⟩ := tySz_get h3
        exact S.arrAddr hop h1 h2 (arrT_get he) hi hk h hm hn
      · cases h3
    · cases hok
  | arrIndex ag len k x' i' =>
    simp only [okOp] at hok
    split at hok
    · simp only [Bool.and_eq_true] at hok
      obtain ⟨⟨h1, h2⟩, h3⟩ := hok
      split at h3
      · rename_i m e he
        simp only [Bool.and_eq_true, beq_iff_eq] at h3
        obtain ⟨⟨⟨rfl, h3⟩, h4⟩, h5⟩ := h3
        obtain ⟨i, hi, hk⟩ := tySz_get h3
        obtain ⟨d, hd, hag⟩ := tyAg_get h4
        exact S.arrIndex hop h1 h2 (arrT_get he) hi hk hd hag (fun e => by subst e; simpa using h5) h hm hn
      · cases h3
    · cases hok
  | extract x' i' =>
    simp only [okOp] at hok
    split at hok
    · simp only [Bool.and_eq_true, beq_iff_eq] at hok
      obtain ⟨h1, rfl⟩ := hok
      exact S.extract hop h1 h hm hn
    · cases hok
  | len x' =>
    simp only [okOp] at hok
    split at hok
    · rename_i args ts
      split at hok
      · rename_i x hargs
        obtain rfl : args = #[x] := Array.ext' hargs
        simp only [Bool.and_eq_true] at hok
        obtain ⟨h1, h2⟩ := hok
        split at h2
        · rename_i T hT
          obtain ⟨e, he⟩ := Option.isSome_iff_exists.1 h2
          exact S.len hop hT h1 (elemT_get he) h hm hn
        · cases h2
      · cases hok
    · cases hok
  | append k bytes drop x' y' =>
    simp only [okOp] at hok
    split at hok
    · rename_i args ts
      split at hok
      · rename_i x y T T' hargs hts
        obtain rfl : args = #[x, y] := Array.ext' hargs
        obtain rfl : ts = #[T, T'] := Array.ext' hts
        simp only [Bool.and_eq_true, beq_iff_eq] at hok
        obtain ⟨⟨⟨h1, h2⟩, rfl⟩, h3⟩ := hok
        split at h3
        · rename_i e he
          split at h3
          · rename_i i hi
            simp only [Bool.and_eq_true, beq_iff_eq, decide_eq_true_eq] at h3
            obtain ⟨⟨⟨⟨c1, c2⟩, c3⟩, c4⟩, c5⟩ := h3
            split at c5
            · rename_i z hz
              exact S.append hop h1 h2 (elemT_get he) hi c1 c2 c3 c4 hz (by simpa using c5) hA h hm hn
            · cases c5
          · cases h3
        · cases h3
      · cases hok
    · cases hok
  | minmax mx x' y' =>
    simp only [okOp] at hok
    split at hok
    · rename_i b args ts
      split at hok
      · rename_i x y hargs
        obtain rfl : args = #[x, y] := Array.ext' hargs
        simp only [Bool.and_eq_true, beq_iff_eq] at hok
        obtain ⟨⟨rfl, h1⟩, h2⟩ := hok
        exact S.minmax hop h1 h2 h hm hn
      · cases hok
    · cases hok
  | call f al ms args' =>
    simp only [okOp] at hok
    split at hok
    · simp only [Bool.and_eq_true, beq_iff_eq] at hok
      obtain ⟨⟨rfl, h1⟩, h2⟩ := hok
      split at h2
      · rename_i fd hfd
        simp only [Bool.and_eq_true, Bool.not_eq_true'] at h2
        exact S.call hop (okOpds_get h1) hfd h2.1 h2.2 hA h hm hn
      · cases h2
    · cases hok
  | callv f' args' =>
    simp only [okOp] at hok
    split at hok
    · simp only [Bool.and_eq_true] at hok
      exact S.callv hop hok.1 (okOpds_get hok.2) h hm hn
    · cases hok
  | mkfn f' first' caps' =>
    simp only [okOp] at hok
    split at hok
    · simp only [Bool.and_eq_true, beq_iff_eq] at hok
      obtain ⟨⟨rfl, h1⟩, h2⟩ := hok
      exact S.mkfn hop (okOpds_get h1) (okOpds_get h2) h hm hn
    · cases hok
  | cap x' =>
    simp only [okOp] at hok
    split at hok
    · rename_i args ts
      split at hok
      · rename_i x hargs
        obtain rfl : args = #[x] := Array.ext' hargs
        simp only [Bool.and_eq_true] at hok
        obtain ⟨h1, h2⟩ := hok
        split at h2
        · rename_i T hT
          obtain ⟨e, he⟩ := Option.isSome_iff_exists.1 h2
          exact S.cap hop hT h1 (elemT_get he) h hm hn
        · cases h2
      · cases hok
    · cases hok
  | copy k x' y' =>
    simp only [okOp] at hok
    split at hok
    · rename_i args ts
      split at hok
      · rename_i x y hargs
        obtain rfl : args = #[x, y] := Array.ext' hargs
        simp only [Bool.and_eq_true] at hok
        obtain ⟨⟨h1, h2⟩, h3⟩ := hok
        split at h3
        · rename_i T hT
          split at h3
          · rename_i e he
            split at h3
            · rename_i i hi
              simp only [Bool.and_eq_true, beq_iff_eq, decide_eq_true_eq] at h3
              exact S.copy hop hT h1 h2 (elemT_get he) hi h3.1 h3.2 h hm hn
            · cases h3
          · cases h3
        · cases h3
      · cases hok
    · cases hok
  | clear k zero x' =>
    simp only [okOp] at hok
    split at hok
    · rename_i args ts
      split at hok
      · rename_i x hargs
        obtain rfl : args = #[x] := Array.ext' hargs
        simp only [Bool.and_eq_true] at hok
        obtain ⟨h1, h3⟩ := hok
        split at h3
        · rename_i T hT
          split at h3
          · rename_i e he
            split at h3
            · rename_i i hi
              simp only [Bool.and_eq_true, beq_iff_eq, decide_eq_true_eq] at h3
              obtain ⟨⟨⟨c1, c3⟩, c4⟩, c5⟩ := h3
              split at c5
              · rename_i z hz
                simp at c5
                have hd := dOKs_get c5.2
                refine S.clear hop hT h1 (elemT_get he) hi c1 c3 hz c5.1 ⟨c4, fun j hj => ?_⟩ h hm hn
                have := hd.2 j (by omega)
                rw [← getD_toList]; exact this
              · cases c5
            · cases h3
          · cases h3
        · cases h3
      · cases hok
    · cases hok
  | appendMk k bytes zero x' y' =>
    simp only [okOp] at hok
    split at hok
    · rename_i args ts
      split at hok
      · rename_i x y T TI hargs hts
        obtain rfl : args = #[x, y] := Array.ext' hargs
        obtain rfl : ts = #[T, TI] := Array.ext' hts
        simp only [Bool.and_eq_true] at hok
        obtain ⟨⟨⟨h1, h2⟩, hI⟩, h3⟩ := hok
        split at hI
        · rename_i ik hik
          split at h3
          · rename_i e he
            split at h3
            · rename_i i hi
              simp only [Bool.and_eq_true, beq_iff_eq, decide_eq_true_eq] at h3
              obtain ⟨⟨⟨⟨⟨c1, c2⟩, c3⟩, c4⟩, c6⟩, c5⟩ := h3
              split at c5
              · rename_i z hz
                simp at c5
                have hd := dOKs_get c5.2
                refine S.appendMk hop h1 h2 (elemT_get he) hik hi c1 c2 c3 c4 hz c5.1 ⟨c6, fun j hj => ?_⟩ hA h hm hn
                have := hd.2 j (by omega)
                rw [← getD_toList]; exact this
              · cases c5
            · cases h3
          · cases h3
        · cases hI
      · cases hok
    · cases hok
  | overlaps f x' y' =>
    simp only [okOp] at hok
    split at hok
    · rename_i f' args ts
      split at hok
      · rename_i x y hargs
        obtain rfl : args = #[x, y] := Array.ext' hargs
        simp only [Bool.and_eq_true, beq_iff_eq] at hok
        obtain ⟨⟨rfl, h1⟩, h2⟩ := hok
        exact S.overlaps hop h1 h2 h hm hn
      · cases hok
    · cases hok
  | sliceHd k x' hi' =>
    simp only [okOp] at hok
    split at hok
    · simp only [Bool.and_eq_true] at hok
      obtain ⟨⟨h1, h3⟩, h4⟩ := hok
      split at h4
      · rename_i e he
        obtain ⟨i, hi, hk⟩ := tySz_get h4
        exact S.sliceHd hop h1 h3 (elemT_get he) hi hk h hm hn
      · cases h4
    · cases hok
  | dead => simp only [mop] at hm
  | nestNil k =>
    simp only [okOp] at hok
    split at hok
    · simp only [Bool.and_eq_true, beq_iff_eq] at hok
      obtain ⟨⟨rfl, h2⟩, h3⟩ := hok
      split at h3
      · rename_i e he
        obtain ⟨i, hi⟩ := Option.isSome_iff_exists.1 h3
        exact S.nestNil hop (by simpa using h2) (elemT_get he) hi hA h hm hn
      · cases h3
    · cases hok
  | boxRow x' =>
    simp only [okOp] at hok
    split at hok
    · simp only [Bool.and_eq_true, beq_iff_eq] at hok
      obtain ⟨⟨rfl, h2⟩, h3⟩ := hok
      split at h2
      · rename_i i x hps
        simp only [Bool.and_eq_true, beq_iff_eq] at h2
        obtain ⟨rfl, h2⟩ := h2
        split at h3
        · rename_i e he
          split at h3
          · rename_i inf hi
            simp only [Bool.and_eq_true, beq_iff_eq] at h3
            obtain ⟨z, hz⟩ := Option.isSome_iff_exists.1 h3.2
            exact S.boxRow hop hps h2 (elemT_get he) hi h3.1 hz hA h hm hn
          · cases h3
        · cases h3
      · cases h2
    · cases hok
  | appendRow bytes x' y' =>
    simp only [okOp] at hok
    split at hok
    · rename_i args ts
      split at hok
      · rename_i x y T T' hargs hts
        obtain rfl : args = #[x, y] := Array.ext' hargs
        obtain rfl : ts = #[T, T'] := Array.ext' hts
        simp only [Bool.and_eq_true, beq_iff_eq] at hok
        obtain ⟨⟨⟨h1, h2⟩, rfl⟩, h3⟩ := hok
        split at h3
        · rename_i e he
          split at h3
          · rename_i i hi
            simp only [Bool.and_eq_true, beq_iff_eq, decide_eq_true_eq] at h3
            obtain ⟨⟨⟨c1, c3⟩, c4⟩, c5⟩ := h3
            split at c5
            · rename_i z hz
              exact S.appendRow hop h1 h2 (elemT_get he) hi c1 c3 c4 hz (by simpa using c5) hA h hm hn
            · cases c5
          · cases h3
        · cases h3
      · cases hok
    · cases hok
  | rowAddr x' i' =>
    simp only [okOp] at hok
    split at hok
    · simp only [Bool.and_eq_true] at hok
      obtain ⟨⟨h1, h2⟩, h3⟩ := hok
      split at h3
      · rename_i e he
        obtain ⟨i, hi, hk⟩ := tySz_get h3
        exact S.rowAddr hop h1 h2 (elemT_get he) hi hk h hm hn
      · cases h3
    · cases hok
  | rowLoad y =>
    simp only [okOp] at hok
    split at hok
    · simp only [Bool.and_eq_true] at hok
      obtain ⟨⟨h1, h2⟩, h3⟩ := hok
      obtain ⟨d, hd, hag⟩ := tyAg_get h2
      obtain ⟨i, hi, hk⟩ := tySz_get h3
      exact S.rowLoad hop h1 hd hag hi hk h hm hn
    · cases hok
  | callRow f x' y' =>
    simp only [okOp] at hok
    split at hok
    · rename_i f' args ts
      split at hok
      · rename_i x y hargs
        obtain rfl : args = #[x, y] := Array.ext' hargs
        simp only [Bool.and_eq_true, beq_iff_eq] at hok
        obtain ⟨⟨⟨rfl, h1⟩, h2⟩, h3⟩ := hok
        split at h3
        · rename_i fd hfd
          simp only [Bool.and_eq_true, Bool.not_eq_true'] at h3
          exact S.callRow hop h1 h2 hfd h3.1 h3.2 h hm hn
        · cases h3
      · cases hok
    · cases hok
  | sliceTr k x' hi' =>
    simp only [okOp] at hok
    split at hok
    · simp only [Bool.and_eq_true] at hok
      obtain ⟨⟨h1, h3⟩, h4⟩ := hok
      split at h4
      · rename_i e he
        obtain ⟨i, hi, hk⟩ := tySz_get h4
        exact S.sliceTr hop h1 h3 (elemT_get he) hi hk h hm hn
      · cases h4
    · cases hok
  | sliceUp k x' lo' hi' =>
    simp only [okOp] at hok
    split at hok
    · simp only [Bool.and_eq_true] at hok
      obtain ⟨⟨⟨h1, h2⟩, h3⟩, h4⟩ := hok
      split at h4
      · rename_i e he
        obtain ⟨i, hi, hk⟩ := tySz_get h4
        exact S.sliceUp hop h1 h2 h3 (elemT_get he) hi hk h hm hn
      · cases h4
    · cases hok
  | strIdx l i' =>
    simp only [okOp] at hok
    split at hok
    · simp only [Bool.and_eq_true, beq_iff_eq] at hok
      obtain ⟨⟨h1, h2⟩, h3⟩ := hok
      split at h2
      · rename_i ht; exact S.strIdx hop h1 ht h3 h hm hn
      · cases h2
    · cases hok
  | slice3 x' lo' hi' mx' =>
    simp only [okOp] at hok
    split at hok
    · simp only [Bool.and_eq_true] at hok
      obtain ⟨⟨⟨⟨h1, h2⟩, h3⟩, h5⟩, h4⟩ := hok
      split at h4
      · rename_i e he
        obtain ⟨i, hi⟩ := Option.isSome_iff_exists.1 h4
        exact S.slice3 hop h1 h2 h3 h5 (elemT_get he) hi h hm hn
      · cases h4
    · cases hok
  | appendIn k x' y' =>
    simp only [okOp] at hok
    split at hok
    · rename_i args ts
      split at hok
      · rename_i x y T T' hargs hts
        obtain rfl : args = #[x, y] := Array.ext' hargs
        obtain rfl : ts = #[T, T'] := Array.ext' hts
        simp only [Bool.and_eq_true, beq_iff_eq] at hok
        obtain ⟨⟨⟨h1, h2⟩, rfl⟩, h3⟩ := hok
        split at h3
        · rename_i e he
          split at h3
          · rename_i i hi
            simp only [Bool.and_eq_true, beq_iff_eq, decide_eq_true_eq] at h3
            exact S.appendIn hop h1 h2 (elemT_get he) hi h3.1 h3.2 h hm hn
          · cases h3
        · cases h3
      · cases hok
    · cases hok
end
end Go.Fw
namespace Go.Fw
set_option linter.unusedVariables false
set_option linter.unusedSimpArgs false

def okGuard (N : Nat) (ops : Array Oper) : Option (Nat × Bool) → Option (Nat × Bool) → Bool
  | none, none => true
  | some (j, w), some (g, w') => w == w' && (match (ops[j]?).bind (·.dst) with | some t => t == g | none => false) && decide (g < N)
  | _, _ => false
def okDst (N : Nat) (fx : List Nat) : Option Nat → Option Nat → Bool
  | none, none => true
  | some t, some t' => t == t' && decide (t < N) && !fx.contains t
  | _, _ => false
def okOper (P : Program) (N : Nat) (fx : List Nat) (ops : Array Oper) (o : Oper) (m : MOper) : Bool :=
  okOp P o.op m.op && okDst N fx o.dst m.dst && okGuard N ops o.guard m.guard
def okOpers (P : Program) (N : Nat) (fx : List Nat) (ops : Array Oper) : List Oper → List MOper → Bool
  | [], [] => true
  | o :: l, m :: ms => okOper P N fx ops o m && okOpers P N fx ops l ms
  | _, _ => false

theorem okDst_get {N : Nat} {fx : List Nat} {d d' : Option Nat} (h : okDst N fx d d' = true) : d = d' ∧ ∀ t, d = some t → t < N ∧ t ∉ fx := by
  cases d <;> cases d' <;> simp [okDst] at h
  · exact ⟨rfl, by simp⟩
  · obtain ⟨⟨rfl, h⟩, h'⟩ := h; exact ⟨rfl, by simp [h, h']⟩

theorem okGuard_get {N : Nat} {ops : Array Oper} {j : Nat} {w : Bool} {gd : Option (Nat × Bool)} (h : okGuard N ops (some (j, w)) gd = true) :
    ∃ g, gd = some (g, w) ∧ (ops[j]?).bind (·.dst) = some g ∧ g < N := by
  cases gd with
  | none => simp [okGuard] at h
  | some p =>
    obtain ⟨g, w'⟩ := p
    simp only [okGuard, Bool.and_eq_true, beq_iff_eq, decide_eq_true_eq] at h
    obtain ⟨⟨rfl, h1⟩, h2⟩ := h
    split at h1
    · rename_i t ht; simp at h1; subst h1; exact ⟨_, rfl, ht, h2⟩
    · cases h1

theorem put_size (a : Act) (d : Option Nat) (v : Value) : (a.put d v).tmps.size = a.tmps.size := by
  cases d <;> simp [Act.put]
theorem put_defers (a : Act) (d : Option Nat) (v : Value) : (a.put d v).defers = a.defers := by
  cases d <;> simp [Act.put]

section
variable {P : Program} {N : FrS} {A : Nat → Prop} {w0 : World} {F0 : List Nat} {J0 : Imm} {g : Env} {s : MS} {a : Act} {w : World} {Q : Exit → Act → World → Prop}

theorem Rel.app {A' : Nat → Prop} {d : Option Nat} {v : Value} {m : MV} {u : Upd} {g' : Env} {w' : World} (h : Rel P N A w0 F0 J0 g s a w) (hd : ∀ t, d = some t → t < N.n ∧ t ∉ N.fx)
    (hg : g.le g') (hv : RV P g' v m) (hh : HRel P A' w0 F0 J0 g' (upds s.hp u) w') : Rel P N A' w0 F0 J0 g' (s.app d m u) (a.put d v) w' := by
  have hfix : ∀ t ∈ N.fx, (a.put d v).tmps.getD t undef = N.vals t := fun t ht => by
    cases d with
    | none => exact h.fix t ht
    | some d =>
      have e : d ≠ t := fun e => (hd d rfl).2 (e ▸ ht)
      rw [← h.fix t ht]
      simp [Act.put, Array.getD_eq_getD_getElem?, Array.getElem?_setIfInBounds_ne e]
  refine ⟨by rw [put_size]; exact h.size, hfix, by rw [put_defers]; exact h.defers, fun t m' ht => ?_, by cases d <;> exact hh⟩
  cases d with
  | none => exact RV.mono hg (h.slots t m' ht)
  | some d =>
    have hlt := (hd d rfl).1
    simp only [MS.app, MS.set, look_put] at ht
    by_cases e : d = t
    · subst e
      simp at ht; subst ht
      have : d < a.tmps.size := by rw [h.size]; exact hlt
      simpa [Act.put, Array.getD_eq_getD_getElem?, Array.getElem?_setIfInBounds, this] using hv
    · rw [if_neg e] at ht
      have := RV.mono hg (h.slots t m' ht)
      simpa [Act.put, Array.getD_eq_getD_getElem?, Array.getElem?_setIfInBounds_ne e] using this

theorem Rel.skip {d : Option Nat} (h : Rel P N A w0 F0 J0 g s a w) (hd : ∀ t, d = some t → t < N.n ∧ t ∉ N.fx) : Rel P N A w0 F0 J0 g (s.set d .un) (a.put d undef) w := by
  have := h.app (u := []) (A' := A) hd (Env.le.refl g) RV.un h.hp
  simpa [MS.app, upds] using this

theorem Rel.weaken {A' : Nat → Prop} (h : Rel P N A w0 F0 J0 g s a w) (hA : ∀ id, A' id → A id) : Rel P N A' w0 F0 J0 g s a w :=
  ⟨h.size, h.fix, h.defers, h.slots, h.hp.weaken hA⟩

theorem Rel.know {t : Nat} {x : Bool} (h : Rel P N A w0 F0 J0 g s a w) (hx : look s.fr t = some (.b x)) : a.tmps.getD t undef = .bool x := by
  have := h.slots t _ hx
  generalize a.tmps.getD t undef = v at this
  cases this; rfl

theorem Rel.refine {t : Nat} {x y : Bool} (h : Rel P N A w0 F0 J0 g s a w) (hx : look s.fr t = some (.b x)) (e : x = y) : Rel P N A w0 F0 J0 g (s.set (some t) (.b y)) a w := by
  subst e
  refine ⟨h.size, h.fix, h.defers, fun t' m ht => ?_, h.hp⟩
  simp only [MS.set, look_put] at ht
  by_cases e : t = t'
  · subst e; simp at ht; subst ht; exact h.slots _ _ hx
  · rw [if_neg e] at ht; exact h.slots _ _ ht

theorem yielded_b {ops : Array Oper} {j t : Nat} {x : Bool} (hj : (ops[j]?).bind (·.dst) = some t) (hv : a.tmps.getD t undef = .bool x) : yielded ops a.tmps j = some x := by
  have : a.tmps[t]? = some (.bool x) := by
    rw [Array.getD_eq_getD_getElem?] at hv
    cases ht : a.tmps[t]? with
    | none => rw [ht] at hv; cases hv
    | some y => rw [ht] at hv; simpa using hv
  simp [yielded, hj, this]

theorem yielded_un {ops : Array Oper} {j t : Nat} {x : Bool} (hj : (ops[j]?).bind (·.dst) = some t) (hv : a.tmps.getD t undef = undef) : (yielded ops a.tmps j == some x) = false := by
  unfold yielded
  rw [hj]
  simp only [Option.bind_some]
  cases ht : a.tmps[t]? with
  | none => rfl
  | some y =>
    have : y = undef := by rw [Array.getD_eq_getD_getElem?, ht] at hv; simpa using hv
    subst this; rfl

theorem look_of_val {t : Nat} {m : MV} (h : s.val (.t t) = m) (hm : m ≠ .u) : look s.fr t = some m := by
  simp only [MS.val] at h
  cases hl : look s.fr t with
  | none => rw [hl] at h; exact absurd h.symm hm
  | some x => rw [hl] at h; simpa using h

theorem mops_sound {ops : Array Oper} {K : MS → Prop} : ∀ (l : List Oper) (ms : List MOper) (n : Nat) (A : Nat → Prop) (s : MS) (g : Env) (a : Act) (w : World), okOpers P N.n N.fx ops l ms = true →
    (∀ id, n ≤ id → id < n + 64 * ms.length → A id) → Rel P N A w0 F0 J0 g s a w → mops P ms n s K →
    (∀ s' g' a' w', K s' → g.le g' → Rel P N (fun id => A id ∧ ¬(n ≤ id ∧ id < n + 64 * ms.length)) w0 F0 J0 g' s' a' w' → Q .normal a' w') → wpList P ops Q l a w := by
  intro l
  induction l with
  | nil =>
    intro ms n A s g a w hok hA h hm hq
    cases ms with
    | nil => exact hq s g a w hm (Env.le.refl g) (h.weaken fun _ x => x.1)
    | cons m ms => simp [okOpers] at hok
  | cons o l ih =>
    intro ms n A s g a w hok hA h hm hq
    cases ms with
    | nil => simp [okOpers] at hok
    | cons m ms =>
      simp only [okOpers, okOper, Bool.and_eq_true] at hok
      obtain ⟨⟨⟨h1, h2⟩, h3⟩, h4⟩ := hok
      obtain ⟨e2, h2⟩ := okDst_get h2
      have hlen : 64 * (m :: ms).length = 64 + 64 * ms.length := by simp; omega
      rw [hlen] at hA hq
      -- the rest, after the operation has been run or passed over
      have rest : ∀ (A' : Nat → Prop) (s' : MS) (g' : Env) (a' : Act) (w' : World), (∀ id, A' id ↔ (A id ∧ ¬(n ≤ id ∧ id < n + 64)) ∨ (A' = A ∧ A id)) → g.le g' → Rel P N A' w0 F0 J0 g' s' a' w' →
          mops P ms (n + 64) s' K → wpList P ops Q l a' w' := by
        intro A' s' g' a' w' hA' hg hr hk
        refine ih ms (n + 64) (fun id => A id ∧ ¬(n ≤ id ∧ id < n + 64)) s' g' a' w' h4 (fun id x y => ⟨hA id (by omega) (by omega), by omega⟩) (hr.weaken fun id x => (hA' id).2 (.inl x)) hk ?_
        intro s2 g2 a2 w2 hk2 hg2 hr2
        exact hq s2 g2 a2 w2 hk2 (hg.trans hg2) (hr2.weaken fun id x => ⟨⟨x.1, by omega⟩, by omega⟩)
      have run : ∀ (s1 : MS), s1.hp = s.hp → Rel P N A w0 F0 J0 g s1 a w → mop false P m.op n s1 (fun v u _ => mops P ms (n + 64) (s1.app m.dst v u) K) → o.wp P a w (wpList P ops Q l) Q := by
        intro s1 hs1 hr1 hm1
        refine mop_sound h1 (fun id x y => hA id x (by omega)) hr1 hm1 ?_
        intro v u rd g' w' x hk hg hv hh
        refine rest (fun id => A id ∧ ¬(n ≤ id ∧ id < n + 64)) (s1.app m.dst v u) g' _ w' (fun id => ⟨.inl, fun y => ?_⟩) hg ?_ hk
        · rcases y with y | y
          · exact y
          · have := congrFun y.1 id; rw [this]; exact y.2
        · rw [e2]; exact hr1.app (fun t ht => h2 t (e2 ▸ ht)) hg hv hh
      unfold wpList
      simp only [mops] at hm
      cases hgd : o.guard with
      | none =>
        rw [hgd] at h3
        have : m.guard = none := by
          cases hmg : m.guard with
          | none => rfl
          | some p => rw [hmg] at h3; simp [okGuard] at h3
        rw [this] at hm
        have hw : Region.wanted o (yielded ops a.tmps) = true := by simp [Region.wanted, hgd]
        simp only [hw, if_true]
        exact .inl (run s rfl h hm)
      | some p =>
        obtain ⟨j, want⟩ := p
        rw [hgd] at h3
        obtain ⟨t, ht, hj, hN⟩ := okGuard_get h3
        rw [ht] at hm
        simp only [] at hm
        split at hm
        · rename_i x hx
          have hl := look_of_val hx (by simp)
          have hy := yielded_b hj (h.know hl)
          by_cases e : x = want
          · have hw : Region.wanted o (yielded ops a.tmps) = true := by simp [Region.wanted, hgd, hy, e]
            simp only [hw, if_true]
            exact .inl (run (s.set (some t) (.b want)) rfl (h.refine hl e) (hm.1 e))
          · have e' : x = !want := by revert e; cases x <;> cases want <;> decide
            have hw : Region.wanted o (yielded ops a.tmps) = false := by simp [Region.wanted, hgd, hy, e]
            simp only [hw, Bool.false_eq_true, if_false]
            refine rest A _ g _ w (fun id => ⟨fun y => .inr ⟨rfl, y⟩, fun y => y.elim (·.1) (·.2)⟩) (Env.le.refl g) ?_ (hm.2 e')
            rw [e2]; exact (h.refine hl e').skip (fun t ht => h2 t (e2 ▸ ht))
        · rename_i hx
          have hl := look_of_val hx (by simp)
          have hu : a.tmps.getD t undef = undef := by
            have := h.slots t _ hl
            generalize a.tmps.getD t undef = v at this
            cases this; rfl
          have hw : Region.wanted o (yielded ops a.tmps) = false := by simp [Region.wanted, hgd, yielded_un hj hu]
          simp only [hw, Bool.false_eq_true, if_false]
          refine rest A _ g _ w (fun id => ⟨fun y => .inr ⟨rfl, y⟩, fun y => y.elim (·.1) (·.2)⟩) (Env.le.refl g) ?_ hm
          rw [e2]; exact h.skip (fun t ht => h2 t (e2 ▸ ht))
        · exact hm.elim

end
end Go.Fw
namespace Go.Fw
set_option linter.unusedVariables false
set_option linter.unusedSimpArgs false

def Opd.slots : Opd → List Nat
  | .t n => [n]
  | .v _ => []
def ooSlots : Option Opd → List Nat
  | some x => x.slots
  | none => []
def MOp.slots : MOp → List Nat
  | .mov x | .box _ x | .load _ _ x | .nilCheck x | .nilq _ x | .un _ x | .conv _ x | .fieldAddr _ x | .field _ _ _ x | .extract x _ | .len x | .strIdx _ x => x.slots
  | .pick a b c => a.slots ++ b.slots ++ c.slots
  | .alloc _ => []
  | .build _ ps => ps.flatMap (·.2.2.slots)
  | .buildSlice _ xs => xs.flatMap Opd.slots
  | .store _ x y | .bin _ x y | .binb _ x y | .eqAgg _ _ x y | .makeSlice _ _ _ x y | .indexAddr _ x y | .arrAddr _ _ x y | .arrIndex _ _ _ x y | .append _ _ _ x y | .minmax _ x y => x.slots ++ y.slots
  | .slice _ x lo hi => x.slots ++ ooSlots lo ++ ooSlots hi
  | .call _ _ _ xs => xs.flatMap Opd.slots
  | .callv f xs => f.slots ++ xs.flatMap Opd.slots
  | .mkfn _ xs ys => xs.flatMap Opd.slots ++ ys.flatMap Opd.slots
  | .cap x | .clear _ _ x => x.slots
  | .copy _ x y | .overlaps _ x y | .appendMk _ _ _ x y | .appendIn _ x y => x.slots ++ y.slots
  | .sliceHd _ x hi | .sliceTr _ x hi => x.slots ++ ooSlots hi
  | .dead | .nestNil _ => []
  | .boxRow x | .rowLoad x => x.slots
  | .appendRow _ x y | .rowAddr x y | .callRow _ x y => x.slots ++ y.slots
  | .sliceUp _ x lo hi => x.slots ++ ooSlots lo ++ ooSlots hi
  | .slice3 x lo hi mx => x.slots ++ ooSlots lo ++ ooSlots hi ++ ooSlots mx

def SameFr (s s' : MS) (l : List Nat) : Prop := ∀ t ∈ l, look s'.fr t = look s.fr t
def SameHp (s s' : MS) (l : List Nat) : Prop := ∀ t ∈ l, look s'.hp t = look s.hp t

section
variable {P : Program} {s s' : MS} {n : Nat} {K : MK}

theorem SameFr.left {l l' : List Nat} (h : SameFr s s' (l ++ l')) : SameFr s s' l := fun t ht => h t (List.mem_append_left _ ht)
theorem SameFr.right {l l' : List Nat} (h : SameFr s s' (l ++ l')) : SameFr s s' l' := fun t ht => h t (List.mem_append_right _ ht)
theorem SameHp.left {l l' : List Nat} (h : SameHp s s' (l ++ l')) : SameHp s s' l := fun t ht => h t (List.mem_append_left _ ht)
theorem SameHp.right {l l' : List Nat} (h : SameHp s s' (l ++ l')) : SameHp s s' l' := fun t ht => h t (List.mem_append_right _ ht)
theorem SameHp.obj {l : List Nat} (h : SameHp s s' l) {id : Nat} (hi : id ∈ l) : s'.obj id = s.obj id := h id hi

theorem val_local {x : Opd} (h : SameFr s s' x.slots) : s'.val x = s.val x := by
  cases x with
  | t k => simp only [MS.val]; rw [h k (by simp [Opd.slots])]
  | v m => rfl
theorem vals_local : ∀ {xs : List Opd}, SameFr s s' (xs.flatMap Opd.slots) → xs.map s'.val = xs.map s.val
  | [], _ => rfl
  | x :: xs, h => by
    rw [List.flatMap_cons] at h
    simp only [List.map_cons]; rw [val_local h.left, vals_local h.right]

theorem toD_local {m : MV} (h : SameHp s s' (srs [m])) : toD s' m = toD s m := by
  cases m <;> try rfl
  rename_i id off len
  simp only [toD]; rw [h.obj (by simp [srs])]
theorem toDs_local : ∀ {ms : List MV}, SameHp s s' (srs ms) → toDs s' ms = toDs s ms
  | [], _ => rfl
  | m :: ms, h => by
    have e : srs (m :: ms) = srs [m] ++ srs ms := by simp [srs]
    rw [e] at h
    simp only [toDs]; rw [toD_local h.left, toDs_local h.right]
theorem rowsV_local {k : Nat} : ∀ {xs : List Opd}, SameFr s s' (xs.flatMap Opd.slots) → SameHp s s' (xs.flatMap fun x => srs (((s.val x).cells).getD [])) → rowsV s' k xs = rowsV s k xs
  | [], _, _ => rfl
  | x :: xs, h, h' => by
    rw [List.flatMap_cons] at h h'
    simp only [rowsV]
    rw [val_local h.left, rowsV_local h.right h'.right]
    cases hc : (s.val x).cells with
    | none => rfl
    | some cs =>
      have h1 := h'.left
      rw [hc] at h1
      simp only [toDs_local (show SameHp s s' (srs cs) from h1)]

theorem readsD_mem {id off len : Nat} : id ∈ readsD s (.sr id off len) := by simp only [readsD]; split <;> simp
theorem closeD_local {m : MV} (h : SameHp s s' (readsD s m)) : closeD s' m = closeD s m := by
  cases m <;> try rfl
  rename_i id off len
  have h1 : s'.obj id = s.obj id := h.obj readsD_mem
  simp only [closeD]; rw [h1]
  cases ho : s.obj id with
  | none => rfl
  | some o =>
    cases o with
    | al nid i =>
      cases nid with
      | none => rfl
      | some nid =>
        have h2 : s'.obj nid = s.obj nid := h.obj (by simp [readsD, ho])
        simp only [h2]
    | _ => rfl
theorem readsD_local {m : MV} (h : SameHp s s' (readsD s m)) : readsD s' m = readsD s m := by
  cases m <;> try rfl
  rename_i id off len
  have h1 : s'.obj id = s.obj id := h.obj readsD_mem
  simp only [readsD]; rw [h1]
theorem mapO_same {α β : Type} {f f' : α → Option β} : ∀ {l : List α}, (∀ x ∈ l, f' x = f x) → mapO f' l = mapO f l
  | [], _ => rfl
  | x :: l, h => by
    simp only [mapO]; rw [h x (by simp), mapO_same (fun y hy => h y (by simp [hy]))]
theorem closeC_local {al : Bool} {m : MV} (h : SameHp s s' (readsC s m)) : closeC s' al m = closeC s al m := by
  cases m <;> try rfl
  · rename_i id off len
    simp only [closeC]; rw [h.obj (by simp [readsC])]
  · rename_i id i off
    have h1 : s'.obj id = s.obj id := by
      cases ho : s.obj id with
      | none => rw [← ho]; exact h.obj (by simp [readsC, ho])
      | some o => cases o <;> (rw [← ho]; exact h.obj (by simp [readsC, ho]))
    simp only [closeC]; rw [h1]
    cases ho : s.obj id with
    | none => rfl
    | some o =>
      cases o with
      | box cs =>
        have : mapO (closeD s') cs = mapO (closeD s) cs := by
          refine mapO_same fun x hx => closeD_local fun t ht => h t ?_
          simp only [readsC, ho, List.mem_cons, List.mem_flatMap]
          exact .inr ⟨x, hx, ht⟩
        split
        · rfl
        · rename_i cs' hn e; cases e; rw [this]
        · rfl
      | _ => rfl
  · rename_i f a b
    cases a <;> cases b <;> rfl
theorem flatMap_local {f f' : MV → List Nat} : ∀ {l : List MV}, (∀ c ∈ l, f' c = f c) → l.flatMap f' = l.flatMap f
  | [], _ => rfl
  | c :: l, h => by rw [List.flatMap_cons, List.flatMap_cons, h c (by simp), flatMap_local (fun d hd => h d (by simp [hd]))]
theorem readsC_local {c : MV} (hs : SameHp s s' (readsC s c)) : readsC s' c = readsC s c := by
  cases c <;> try rfl
  rename_i id i off
  have h1 : s'.obj id = s.obj id := by
    cases ho : s.obj id with
    | none => rw [← ho]; exact hs.obj (by simp [readsC, ho])
    | some o => cases o <;> (rw [← ho]; exact hs.obj (by simp [readsC, ho]))
  simp only [readsC]; rw [h1]
  cases ho : s.obj id with
  | none => rfl
  | some o =>
    cases o with
    | box cs =>
      have : cs.flatMap (readsD s') = cs.flatMap (readsD s) := flatMap_local fun c hc => readsD_local fun t ht => hs t (by
        simp only [readsC, ho, List.mem_cons, List.mem_flatMap]
        exact .inr ⟨c, hc, ht⟩)
      simp only [this]
    | _ => rfl
theorem readsA_local {c : MV} (hs : SameHp s s' (readsA s c)) : readsA s' c = readsA s c := by
  cases c with
  | agg cs =>
    simp only [readsA] at hs ⊢
    exact flatMap_local fun c hc => readsC_local fun t ht => hs t (by simp only [List.mem_flatMap]; exact ⟨c, hc, ht⟩)
  | sr a b c => exact readsC_local (c := .sr a b c) hs
  | pr a b c => exact readsC_local (c := .pr a b c) hs
  | _ => rfl
theorem readsM_local {c : MV} (hs : SameHp s s' (readsM s c)) : readsM s' c = readsM s c := by
  cases c with
  | clo f a b =>
    simp only [readsM] at hs ⊢
    rw [flatMap_local fun c hc => readsA_local fun t ht => hs.left t (by simp only [List.mem_flatMap]; exact ⟨c, hc, ht⟩),
      flatMap_local fun c hc => readsA_local fun t ht => hs.right t (by simp only [List.mem_flatMap]; exact ⟨c, hc, ht⟩)]
  | agg cs => exact readsA_local (c := .agg cs) hs
  | sr a b c => exact readsC_local (c := .sr a b c) hs
  | pr a b c => exact readsC_local (c := .pr a b c) hs
  | _ => rfl
theorem closeM_local {al : Bool} {m : MV} (h : SameHp s s' (readsA s m)) : closeM s' al m = closeM s al m := by
  cases m with
  | agg cs =>
    simp only [closeM]
    rw [mapO_same fun x hx => closeC_local fun t ht => h t (by simp only [readsA, List.mem_flatMap]; exact ⟨x, hx, ht⟩)]
  | sr a b c => exact closeC_local (al := al) (m := .sr a b c) h
  | pr a b c => exact closeC_local (al := al) (m := .pr a b c) h
  | clo f a b => exact closeC_local (al := al) (m := .clo f a b) h
  | _ => rfl
theorem FnOk_local {f : FuncId} {a b : List MV} {dom : List FV → Prop} {φ : List FV → FV} (h : SameHp s s' (readsM s (.clo f a b))) (hf : FnOk P s f a b dom φ) : FnOk P s' f a b dom φ := by
  unfold FnOk at *
  rw [mapO_same (f := closeM s false) fun x hx => closeM_local fun t ht => h t (by simp only [readsM, List.mem_append, List.mem_flatMap]; exact .inl ⟨x, hx, ht⟩),
    mapO_same (f := closeM s false) fun x hx => closeM_local fun t ht => h t (by simp only [readsM, List.mem_append, List.mem_flatMap]; exact .inr ⟨x, hx, ht⟩)]
  exact hf

theorem takeC_local {al : Bool} {m : MV} {K : MV → List Nat → Prop} (h : takeC s al m K) :
    ∃ x is, K x is ∧ ∀ s', SameHp s s' is → ∀ K' : MV → List Nat → Prop, K' x is → takeC s' al m K' := by
  cases m <;> simp only [takeC] at h <;> try exact h.elim
  case sr id off len =>
    split at h
    · rename_i t k es ho
      refine ⟨_, _, h.2.2, fun s' hs K' hk => ?_⟩
      simp only [takeC]; rw [hs.obj (by simp), ho]
      exact ⟨h.1, h.2.1, hk⟩
    · exact h.elim
  all_goals exact ⟨_, _, h, fun s' hs K' hk => by simpa only [takeC] using hk⟩
theorem takeL_local {al : Bool} : ∀ {ms : List MV} {K : List MV → List Nat → Prop}, takeL s al ms K →
    ∃ x is, K x is ∧ ∀ s', SameHp s s' is → ∀ K' : List MV → List Nat → Prop, K' x is → takeL s' al ms K'
  | [], K, h => ⟨_, _, h, fun s' _ K' hk => hk⟩
  | m :: ms, K, h => by
    simp only [takeL] at h
    obtain ⟨x, is, h1, l1⟩ := takeC_local h
    obtain ⟨y, js, h2, l2⟩ := takeL_local h1
    exact ⟨_, _, h2, fun s' hs K' hk => l1 s' hs.left _ (l2 s' hs.right _ hk)⟩

theorem lendC_local {m : MV} {K : MV → Option Nat → List Nat → Prop} (h : lendC s m K) :
    ∃ x i g, K x i g ∧ (∀ j, i = some j → j ∈ g) ∧ ∀ s', SameHp s s' g → ∀ K' : MV → Option Nat → List Nat → Prop, K' x i g → lendC s' m K' := by
  cases m <;> simp only [lendC] at h <;> try exact h.elim
  case sr id off len =>
    split at h
    · rename_i t k es ho
      refine ⟨_, _, _, h.2.2, by simp, fun s' hs K' hk => ?_⟩
      simp only [lendC]; rw [hs.obj (by simp), ho]
      exact ⟨h.1, h.2.1, hk⟩
    · rename_i hs0 k ess ho
      refine ⟨_, _, _, h.2.2, by simp, fun s' hs K' hk => ?_⟩
      simp only [lendC]; rw [hs.obj (by simp), ho]
      exact ⟨h.1, h.2.1, hk⟩
    · exact h.elim
  all_goals exact ⟨_, _, _, h, by simp, fun s' hs K' hk => by simpa only [lendC] using hk⟩
theorem lendL_local : ∀ {ms : List MV} {K : List MV → List (Option Nat) → List Nat → Prop}, lendL s ms K →
    ∃ x i g, K x i g ∧ (∀ j, some j ∈ i → j ∈ g) ∧ ∀ s', SameHp s s' g → ∀ K' : List MV → List (Option Nat) → List Nat → Prop, K' x i g → lendL s' ms K'
  | [], K, h => ⟨_, _, _, h, by simp, fun s' _ K' hk => hk⟩
  | m :: ms, K, h => by
    simp only [lendL] at h
    obtain ⟨x, i, g, h1, e1, l1⟩ := lendC_local h
    obtain ⟨y, is, gs, h2, e2, l2⟩ := lendL_local h1
    refine ⟨_, _, _, h2, fun j hj => ?_, fun s' hs K' hk => l1 s' hs.left _ (l2 s' hs.right _ hk)⟩
    rcases List.mem_cons.1 hj with e | hj
    · exact List.mem_append_left _ (e1 j e.symm)
    · exact List.mem_append_right _ (e2 j hj)

theorem argK_local {al : Bool} {o : Mode} {m : MV} {K : MV → Bk → List Nat → Prop} (h : argK s al o m K) :
    ∃ x i g, K x i g ∧ (∀ j, some j ∈ flatI [i] → j ∈ g) ∧ ∀ s', SameHp s s' ((if o = .im then readsA s m else []) ++ g) → ∀ K' : MV → Bk → List Nat → Prop, K' x i g → argK s' al o m K' := by
  cases o with
  | im =>
    simp only [argK] at h
    split at h
    · rename_i x hx
      refine ⟨x, _, [], h, by simp [flatI], fun s' hs K' hk => ?_⟩
      simp only [argK]
      rw [closeM_local (by simpa using hs), hx]; exact hk
    · exact h.elim
  | io =>
    have one : lendC s m (fun x i g => K x (.one i) g) → (∀ s' K', argK s' al .io m K' = lendC s' m (fun x i g => K' x (.one i) g)) →
        ∃ x i g, K x i g ∧ (∀ j, some j ∈ flatI [i] → j ∈ g) ∧ ∀ s', SameHp s s' ((if Mode.io = Mode.im then readsA s m else []) ++ g) → ∀ K' : MV → Bk → List Nat → Prop, K' x i g → argK s' al .io m K' := fun h e => by
      obtain ⟨x, i, g, h1, e1, l1⟩ := lendC_local h
      exact ⟨x, .one i, g, h1, fun j hj => e1 j (by simpa [flatI, eq_comm] using hj), fun s' hs K' hk => by rw [e]; exact l1 s' (by simpa using hs) _ hk⟩
    cases m with
    | agg cs =>
      simp only [argK] at h
      obtain ⟨x, i, g, h1, e1, l1⟩ := lendL_local h
      exact ⟨_, _, _, h1, fun j hj => e1 j (by simpa [flatI] using hj), fun s' hs K' hk => by simp only [argK]; exact l1 s' (by simpa using hs) _ hk⟩
    | pr id i off =>
      simp only [argK] at h
      split at h
      · rename_i cs ho
        obtain ⟨h1, h2, h⟩ := h
        obtain ⟨x, is, hk, l1⟩ := takeL_local h
        refine ⟨_, _, _, hk, by simp [flatI], fun s' hs K' hk' => ?_⟩
        simp only [argK]
        rw [hs.obj (by simp), ho]
        exact ⟨h1, h2, l1 s' (fun t ht => hs t (by simp [ht])) _ hk'⟩
      · exact h.elim
    | _ => exact one h (fun _ _ => rfl)
  | co =>
    have one : takeC s al m (fun x is => K x (.one none) is) → (∀ s' K', argK s' al .co m K' = takeC s' al m (fun x is => K' x (.one none) is)) →
        ∃ x i g, K x i g ∧ (∀ j, some j ∈ flatI [i] → j ∈ g) ∧ ∀ s', SameHp s s' ((if Mode.co = Mode.im then readsA s m else []) ++ g) → ∀ K' : MV → Bk → List Nat → Prop, K' x i g → argK s' al .co m K' := fun h e => by
      obtain ⟨x, is, h1, l1⟩ := takeC_local h
      exact ⟨x, _, is, h1, by simp [flatI], fun s' hs K' hk => by rw [e]; exact l1 s' (by simpa using hs) _ hk⟩
    cases m with
    | agg cs =>
      simp only [argK] at h
      obtain ⟨x, is, h1, l1⟩ := takeL_local h
      exact ⟨_, _, _, h1, by simp [flatI], fun s' hs K' hk => by simp only [argK]; exact l1 s' (by simpa using hs) _ hk⟩
    | _ => exact one h (fun _ _ => rfl)
  | fn => cases m <;> exact h.elim

theorem argsK_local {al : Bool} : ∀ {os : List Mode} {ms : List MV} {K : List MV → List Bk → List Nat → List Nat → Prop}, argsK P s al os ms K →
    ∃ xs is gs rs, K xs is gs rs ∧ (∀ j, some j ∈ flatI is → j ∈ gs) ∧ ∀ s', SameHp s s' (gs ++ rs) → ∀ K' : List MV → List Bk → List Nat → List Nat → Prop, K' xs is gs rs → argsK P s' al os ms K'
  | [], [], K, h => ⟨_, _, _, _, h, by simp [flatI], fun s' _ K' hk => hk⟩
  | [], _ :: _, K, h => by simp [argsK] at h
  | o :: os, [], K, h => by cases o <;> simp [argsK] at h
  | o :: os, m :: ms, K, h => by
    have gen : (argK s al o m fun x i g => argsK P s al os ms fun xs is gs rs => K (x :: xs) (i :: is) (g ++ gs) ((if o = .im then readsA s m else []) ++ rs)) →
        (∀ s' (K' : List MV → List Bk → List Nat → List Nat → Prop), (argK s' al o m fun x i g => argsK P s' al os ms fun xs is gs rs => K' (x :: xs) (i :: is) (g ++ gs) ((if o = .im then readsA s' m else []) ++ rs)) → argsK P s' al (o :: os) (m :: ms) K') →
        ∃ xs is gs rs, K xs is gs rs ∧ (∀ j, some j ∈ flatI is → j ∈ gs) ∧ ∀ s', SameHp s s' (gs ++ rs) → ∀ K' : List MV → List Bk → List Nat → List Nat → Prop, K' xs is gs rs → argsK P s' al (o :: os) (m :: ms) K' := by
      intro h e
      obtain ⟨x, i, g, h1, e1, l1⟩ := argK_local h
      obtain ⟨xs, is, gs, rs, h2, i2, l2⟩ := argsK_local h1
      have hfl : flatI (i :: is) = flatI [i] ++ flatI is := by cases i <;> simp [flatI]
      refine ⟨_, _, _, _, h2, fun j hj => by rw [hfl] at hj; exact (List.mem_append.1 hj).elim (fun x => List.mem_append_left _ (e1 j x)) (fun x => List.mem_append_right _ (i2 j x)), fun s' hs K' hk => e s' K' (l1 s' (fun t ht => hs t ?_) _ (l2 s' (fun t ht => hs t ?_) _ ?_))⟩
      · simp only [List.mem_append] at ht ⊢
        rcases ht with ht | ht
        · exact .inr (.inl ht)
        · exact .inl (.inl ht)
      · simp only [List.mem_append] at ht ⊢
        rcases ht with ht | ht
        · exact .inl (.inr ht)
        · exact .inr (.inr ht)
      · by_cases ho : o = .im
        · rw [if_pos ho] at hk ⊢
          rw [readsA_local (fun t ht => hs t (by simp [ho, ht]))]; exact hk
        · rw [if_neg ho] at hk ⊢; exact hk
    cases o with
    | fn =>
      cases m
      case fn dom φ =>
        simp only [argsK] at h
        obtain ⟨xs, is, gs, rs, h2, i2, l2⟩ := argsK_local h
        exact ⟨_, _, _, _, h2, by simpa [flatI] using i2, fun s' hs K' hk => by simp only [argsK]; exact l2 s' hs _ hk⟩
      case nl k =>
        simp only [argsK] at h
        obtain ⟨xs, is, gs, rs, h2, i2, l2⟩ := argsK_local h
        exact ⟨_, _, _, _, h2, by simpa [flatI] using i2, fun s' hs K' hk => by simp only [argsK]; exact l2 s' hs _ hk⟩
      case clo f a b =>
        simp only [argsK] at h
        obtain ⟨dom, φ, hf, h⟩ := h
        obtain ⟨xs, is, gs, rs, h2, i2, l2⟩ := argsK_local h
        refine ⟨_, _, _, _, h2, by simpa [flatI] using i2, fun s' hs K' hk => ?_⟩
        have hrs : SameHp s s' (readsM s (.clo f a b)) := fun t ht => hs t (by simp [ht])
        simp only [argsK]
        refine ⟨dom, φ, FnOk_local hrs hf, l2 s' (fun t ht => hs t ?_) _ (by rw [readsM_local hrs]; exact hk)⟩
        simp only [List.mem_append] at ht ⊢
        rcases ht with ht | ht
        · exact .inl ht
        · exact .inr (.inr ht)
      all_goals simp [argsK, argK] at h
    | im => exact gen (by simpa only [argsK] using h) (fun s' K' x => by simpa only [argsK] using x)
    | io => exact gen (by simpa only [argsK] using h) (fun s' K' x => by simpa only [argsK] using x)
    | co => exact gen (by simpa only [argsK] using h) (fun s' K' x => by simpa only [argsK] using x)

theorem outK_local {t : Bool} : ∀ {is : List (Option Nat)} {ms : List MV} {n : Nat} {K : Upd → Nat → Prop}, outK t s is ms n K →
    ∃ u n', K u n' ∧ ∀ s', (∀ id, some id ∈ is → s'.obj id = s.obj id) → ∀ K' : Upd → Nat → Prop, K' u n' → outK t s' is ms n K'
  | [], [], n, K, h => ⟨[], n, h, fun _ _ _ x => x⟩
  | [], _ :: _, n, K, h => by simp [outK] at h
  | none :: is, [], n, K, h => by simp [outK] at h
  | some id :: is, [], n, K, h => by simp [outK] at h
  | none :: is, m :: ms, n, K, h => by
    simp only [outK] at h
    obtain ⟨u, n', h1, l1⟩ := outK_local h
    exact ⟨u, n', h1, fun s' hs K' hk => by simp only [outK]; exact l1 s' (fun i hi => hs i (by simp [hi])) K' hk⟩
  | some id :: is, m :: ms, n, K, h => by
    simp only [outK] at h
    split at h
    · rename_i t0 k es t' k' es' ho
      obtain ⟨e1, e2, h⟩ := h
      obtain ⟨u, n', h1, l1⟩ := outK_local h
      refine ⟨_, n', h1, fun s' hs K' hk => ?_⟩
      simp only [outK]
      rw [hs id (by simp), ho]
      exact ⟨e1, e2, l1 s' (fun i hi => hs i (by simp [hi])) _ hk⟩
    · rename_i hs0 k ess hs' k' ess' ho
      obtain ⟨e1, e2, h⟩ := h
      obtain ⟨u, n', h1, l1⟩ := outK_local h
      refine ⟨_, n', h1, fun s' hs K' hk => ?_⟩
      simp only [outK]
      rw [hs id (by simp), ho]
      exact ⟨e1, e2, l1 s' (fun i hi => hs i (by simp [hi])) _ hk⟩
    · rename_i cs0 cs ho
      obtain ⟨u, n', h1, l1⟩ := outK_local h
      refine ⟨_, n', h1, fun s' hs K' hk => ?_⟩
      simp only [outK]
      rw [hs id (by simp), ho]
      exact l1 s' (fun i hi => hs i (by simp [hi])) _ hk
    · rename_i x1 x2 hx1 hx3 hx2
      obtain ⟨u, n', h1, l1⟩ := outK_local h
      refine ⟨u, n', h1, fun s' hs K' hk => ?_⟩
      simp only [outK]
      rw [hs id (by simp)]
      have := l1 s' (fun i hi => hs i (by simp [hi])) _ hk
      split
      · rename_i e1; exact absurd rfl (hx1 _ _ _ _ _ _ e1)
      · rename_i e1; exact absurd rfl (hx3 _ _ _ _ _ _ e1)
      · rename_i e1; exact absurd rfl (hx2 _ _ e1)
      · exact this

theorem bound_local {d : Nat} {o : Option Opd} {K : Nat → Prop} (h : bound s d o K) : ∃ l, K l ∧ ∀ s', SameFr s s' (ooSlots o) → ∀ K' : Nat → Prop, K' l → bound s' d o K' := by
  cases o with
  | none => exact ⟨d, h, fun s' _ K' hk => hk⟩
  | some x =>
    simp only [bound] at h
    split at h
    · rename_i k m hx
      refine ⟨_, h.2, fun s' hs K' hk => ?_⟩
      simp only [bound]; rw [val_local hs, hx]; exact ⟨h.1, hk⟩
    · exact h.elim
theorem intBin_local {op : BinOp} {k : IntKind} {a b : Int} {K : MV → Prop} (h : intBin op k a b K) : ∃ m, K m ∧ ∀ K' : MV → Prop, K' m → intBin op k a b K' := by
  cases op <;> simp only [intBin] at h
  case quo => exact ⟨_, h.2.2, fun K' hk => ⟨h.1, h.2.1, hk⟩⟩
  all_goals first
    | exact ⟨_, h.2, fun K' hk => ⟨h.1, hk⟩⟩
    | exact ⟨_, h, fun K' hk => hk⟩
theorem buildC_local : ∀ {ps : List (Nat × Nat × Opd)} {cs : List MV} {K : List MV → Prop}, buildC s ps cs K → ∃ cs', K cs' ∧ ∀ s', SameFr s s' (ps.flatMap (·.2.2.slots)) → ∀ K' : List MV → Prop, K' cs' → buildC s' ps cs K'
  | [], cs, K, h => ⟨cs, h, fun _ _ _ x => x⟩
  | (off, k, x) :: ps, cs, K, h => by
    simp only [buildC] at h
    split at h
    · rename_i xs hx
      obtain ⟨cs', h1, l1⟩ := buildC_local h.2.2
      refine ⟨cs', h1, fun s' hs K' hk => ?_⟩
      rw [List.flatMap_cons] at hs
      simp only [buildC]; rw [val_local hs.left, hx]
      exact ⟨h.1, h.2.1, l1 s' hs.right K' hk⟩
    · exact h.elim
theorem sliceOf_local {m : MV} {t k es rs} (h : sliceOf s m = some (t, k, es, rs)) (hs : SameHp s s' rs) : sliceOf s' m = some (t, k, es, rs) := by
  cases m <;> simp only [sliceOf] at h ⊢ <;> try exact h
  rename_i id off len
  have hi : id ∈ rs := by
    split at h
    · split at h
      · cases h; simp
      · cases h
    · split at h
      · cases h; simp
      · cases h
    · cases h
  rw [hs.obj hi]; exact h

end
end Go.Fw
namespace Go.Fw
set_option linter.unusedVariables false
set_option linter.unusedSimpArgs false

/-- An operation that may stand in a region that draws its order. -/
def MOp.plain : MOp → Bool
  | .nilq _ _ | .cap _ | .clear _ _ _ | .overlaps _ _ _ | .appendMk _ _ _ _ _ | .sliceUp _ _ _ _ | .slice3 _ _ _ _ | .sliceTr _ _ _ | .dead | .appendRow _ _ _ | .rowAddr _ _ | .rowLoad _ | .callRow _ _ _ => false
  | _ => true

section
variable {P : Program} {s : MS} {n : Nat} {K : MK} {o : MOp}

def Local (P : Program) (s : MS) (o : MOp) (n : Nat) (K : MK) : Prop :=
  ∃ m u rd, K m u rd ∧ ∀ s', SameFr s s' o.slots → SameHp s s' (rd ++ u.map (·.1)) → ∀ K' : MK, K' m u rd → mop true P o n s' K'

theorem mop_local (hp : o.plain = true) (h : mop true P o n s K) : Local P s o n K := by
  cases o <;> simp only [mop] at h
  case mov x => exact ⟨_, _, _, h, fun s' hs ho K' hk => by simp only [mop]; rw [val_local hs]; exact hk⟩
  case pick c a b =>
    split at h
    · rename_i x hx
      cases x
      · simp only [Bool.false_eq_true, if_false] at h
        exact ⟨_, _, _, h, fun s' hs ho K' hk => by
          simp only [mop]; rw [val_local (hs.left.left), hx, val_local hs.right]; exact hk⟩
      · simp only [if_true] at h
        exact ⟨_, _, _, h, fun s' hs ho K' hk => by
          simp only [mop]; rw [val_local (hs.left.left), hx, val_local hs.left.right]; exact hk⟩
    · exact h.elim
  case box k x =>
    split at h
    · rename_i cs hc
      exact ⟨_, _, _, h.2, fun s' hs ho K' hk => by simp only [mop]; rw [val_local hs, hc]; exact ⟨h.1, hk⟩⟩
    · exact h.elim
  case boxRow x =>
    split at h
    · rename_i id off len hx
      exact ⟨_, _, _, h, fun s' hs ho K' hk => by simp only [mop]; rw [val_local hs, hx]; exact hk⟩
    · exact h.elim
  case appendRow => cases hp
  case rowAddr => cases hp
  case rowLoad => cases hp
  case callRow => cases hp
  case nestNil k => exact ⟨_, _, _, h, fun s' hs ho K' hk => by simp only [mop]; exact hk⟩
  case alloc cs => exact ⟨_, _, _, h, fun s' hs ho K' hk => by simp only [mop]; exact hk⟩
  case build z ps =>
    obtain ⟨cs, h1, l1⟩ := buildC_local h
    exact ⟨_, _, _, h1, fun s' hs ho K' hk => by simp only [mop]; exact l1 s' hs _ hk⟩
  case buildSlice k ps =>
    split at h
    · rename_i t es u hr
      refine ⟨_, _, _, h, fun s' hs ho K' hk => ?_⟩
      simp only [mop]; rw [rowsV_local hs ho.left, hr]
      have e : (ps.flatMap fun x => srs (((s'.val x).cells).getD [])) = ps.flatMap fun x => srs (((s.val x).cells).getD []) := by
        clear hr h ho hk
        induction ps with
        | nil => rfl
        | cons p ps ih =>
          have hs' : SameFr s s' (p.slots ++ ps.flatMap Opd.slots) := by simpa only [MOp.slots, List.flatMap_cons] using hs
          rw [List.flatMap_cons, List.flatMap_cons, val_local hs'.left, ih (by rfl) (by simpa only [MOp.slots] using hs'.right)]
      simp only [e]; exact hk
    · exact h.elim
  case load ag k x =>
    split at h
    · rename_i id i off hx
      split at h
      · rename_i t k' es ho'
        refine ⟨_, _, _, h.2.2.get h.1, fun s' hs ho K' hk => ?_⟩
        simp only [mop]; rw [val_local hs, hx]; simp only []; rw [ho.obj (by simp), ho']; exact ⟨h.1, h.2.1, .same h.1 hk⟩
      · rename_i t k' es ho'
        refine ⟨_, _, _, h.2.2.get h.1, fun s' hs ho K' hk => ?_⟩
        simp only [mop]; rw [val_local hs, hx]; simp only []; rw [ho.obj (by simp), ho']; exact ⟨h.1, h.2.1, .same h.1 hk⟩
      · rename_i cs ho'
        refine ⟨_, _, _, h.2.2, fun s' hs ho K' hk => ?_⟩
        simp only [mop]; rw [val_local hs, hx]; simp only []; rw [ho.obj (by simp), ho']; exact ⟨h.1, h.2.1, hk⟩
      · exact h.elim
    · rename_i t cs off hx
      exact ⟨_, _, _, h.2, fun s' hs ho K' hk => by simp only [mop]; rw [val_local hs, hx]; exact ⟨h.1, hk⟩⟩
    · rename_i d φ hx
      exact ⟨_, _, _, h.2, fun s' hs ho K' hk => by simp only [mop]; rw [val_local hs, hx]; exact ⟨h.1, hk⟩⟩
    · exact h.elim
  case store k a x =>
    split at h
    · rename_i id i off xs ha hx
      obtain ⟨h0, h⟩ := h
      split at h
      · rename_i t k' es ho'
        split at h
        · rename_i t' ds u hd
          refine ⟨_, _, _, h.2.2.2.get h.2.1, fun s' hs ho K' hk => ?_⟩
          simp only [mop]; rw [val_local hs.left, val_local hs.right, ha, hx]; simp only []; rw [ho.obj (by simp), ho']; simp only []
          rw [toDs_local (fun t ht => ho t (by simp [ht])), hd]; exact ⟨h0, h.1, h.2.1, h.2.2.1, .same h.2.1 hk⟩
        · exact h.elim
      · rename_i cs ho'
        refine ⟨_, _, _, h.2.2, fun s' hs ho K' hk => ?_⟩
        simp only [mop]; rw [val_local hs.left, val_local hs.right, ha, hx]; simp only []; rw [ho.obj (by simp), ho']; exact ⟨h0, h.1, h.2.1, hk⟩
      · exact h.elim
    · exact h.elim
  case nilCheck x =>
    split at h
    all_goals first
      | exact h.elim
      | (rename_i hx; exact ⟨_, _, _, h, fun s' hs ho K' hk => by simp only [mop]; rw [val_local hs, hx]; exact hk⟩)
  case bin op x y =>
    split at h
    · rename_i k a k' b hx hy
      obtain ⟨m, h1, l1⟩ := intBin_local h.2
      exact ⟨_, _, _, h1, fun s' hs ho K' hk => by simp only [mop]; rw [val_local hs.left, val_local hs.right, hx, hy]; exact ⟨h.1, l1 _ hk⟩⟩
    · exact h.elim
  case binb neg x y =>
    split at h
    · rename_i a b hx hy
      exact ⟨_, _, _, h, fun s' hs ho K' hk => by simp only [mop]; rw [val_local hs.left, val_local hs.right, hx, hy]; exact hk⟩
    · exact h.elim
  case nilq => simp [MOp.plain] at hp
  case cap => simp [MOp.plain] at hp
  case appendMk => simp [MOp.plain] at hp
  case sliceUp => simp [MOp.plain] at hp
  case slice3 => simp [MOp.plain] at hp
  case sliceTr => simp [MOp.plain] at hp
  case copy k x y =>
    split at h
    · rename_i id off len m hx hl
      have hl' : ∀ s' : MS, lenV s' (s.val y) = some m := fun s' => by rw [← hl]; cases s.val y <;> rfl
      have pl : ∀ (c : Nat) {t k ys rs}, prefOf s c (s.val y) = some (t, k, ys, rs) → ∀ s', SameHp s s' rs → prefOf s' c (s.val y) = some (t, k, ys, rs) := by
        intro c t k ys rs hpf s' hs
        rw [← hpf]
        cases hv : s.val y <;> try rfl
        rename_i id' off' len'
        rw [hv] at hpf
        have : id' ∈ rs := by
          simp only [prefOf] at hpf
          split at hpf
          all_goals first | (split at hpf <;> first | (cases hpf; simp) | cases hpf) | cases hpf
        simp only [prefOf]; rw [hs.obj this]
      split at h
      · rename_i t k' es ho'
        split at h
        · rename_i t' k'' ys rs hpf
          refine ⟨_, _, _, h.2.2.2, fun s' hs ho K' hk => ?_⟩
          simp only [mop]; rw [val_local hs.left, val_local hs.right, hx, hl']; simp only []; rw [ho.obj (by simp), ho']; simp only []
          rw [pl _ hpf s' (fun t ht => ho t (by simp [ht]))]; exact ⟨h.1, h.2.1, h.2.2.1, hk⟩
        · exact h.elim
      · rename_i t k' es C ho'
        split at h
        · rename_i t' k'' ys rs hpf
          refine ⟨_, _, _, h.2.2.2, fun s' hs ho K' hk => ?_⟩
          simp only [mop]; rw [val_local hs.left, val_local hs.right, hx, hl']; simp only []; rw [ho.obj (by simp), ho']; simp only []
          rw [pl _ hpf s' (fun t ht => ho t (by simp [ht]))]; exact ⟨h.1, h.2.1, h.2.2.1, hk⟩
        · exact h.elim
      · exact h.elim
    · exact h.elim
  case clear => simp [MOp.plain] at hp
  case overlaps => simp [MOp.plain] at hp
  case eqAgg neg sig x y =>
    split at h
    · rename_i as bs hx hy
      split at h
      · rename_i b hb
        exact ⟨_, _, _, h.2.2, fun s' hs ho K' hk => by simp only [mop]; rw [val_local hs.left, val_local hs.right, hx, hy]; simp only []; rw [hb]; exact ⟨h.1, h.2.1, hk⟩⟩
      · exact h.elim
    · exact h.elim
  case un op x =>
    split at h
    · rename_i a hx
      exact ⟨_, _, _, h, fun s' hs ho K' hk => by simp only [mop]; rw [val_local hs, hx]; exact hk⟩
    · rename_i k a hx
      exact ⟨_, _, _, h.2, fun s' hs ho K' hk => by simp only [mop]; rw [val_local hs, hx]; exact ⟨h.1, hk⟩⟩
    · exact h.elim
  case conv d x =>
    split at h
    · rename_i k a hx
      exact ⟨_, _, _, h.2, fun s' hs ho K' hk => by simp only [mop]; rw [val_local hs, hx]; exact ⟨h.1, hk⟩⟩
    · exact h.elim
  case makeSlice k bytes z l c =>
    split at h
    · rename_i a b hx hy
      exact ⟨_, _, _, h.2.2.2, fun s' hs ho K' hk => by simp only [mop]; rw [val_local hs.left, val_local hs.right, hx, hy]; exact ⟨h.1, h.2.1, h.2.2.1, hk⟩⟩
    · exact h.elim
  case slice k x lo hi =>
    have sl : ∀ {d : Nat} {Kb : Nat → Nat → Prop}, (bound s 0 lo fun l => bound s d hi fun h => Kb l h) → ∃ l h, Kb l h ∧ ∀ s', SameFr s s' (x.slots ++ ooSlots lo ++ ooSlots hi) → ∀ K' : Nat → Nat → Prop, K' l h → (bound s' 0 lo fun l => bound s' d hi fun h => K' l h) := by
      intro d Kb hb
      obtain ⟨l, h1, l1⟩ := bound_local hb
      obtain ⟨h', h2, l2⟩ := bound_local h1
      exact ⟨l, h', h2, fun s' hs K' hk => l1 s' hs.left.right _ (l2 s' hs.right _ hk)⟩
    split at h
    · rename_i id off len hx
      split at h
      · rename_i t k' es ho'
        obtain ⟨l, h', h1, l1⟩ := sl h.2
        refine ⟨_, _, _, h1.2.2, fun s' hs ho K' hk => ?_⟩
        simp only [mop]; rw [val_local hs.left.left, hx]; simp only []; rw [ho.obj (by simp), ho']; exact ⟨h.1, l1 s' hs _ ⟨h1.1, h1.2.1, hk⟩⟩
      · rename_i t k' es ho'
        obtain ⟨l, h', h1, l1⟩ := sl h.2
        refine ⟨_, _, _, h1.2.2, fun s' hs ho K' hk => ?_⟩
        simp only [mop]; rw [val_local hs.left.left, hx]; simp only []; rw [ho.obj (by simp), ho']; exact ⟨h.1, l1 s' hs _ ⟨h1.1, h1.2.1, hk⟩⟩
      · rename_i t k' es C ho'
        obtain ⟨l, h', h1, l1⟩ := sl h.2.2
        refine ⟨_, _, _, h1.2.2, fun s' hs ho K' hk => ?_⟩
        simp only [mop]; rw [val_local hs.left.left, hx]; simp only []; rw [ho.obj (by simp), ho']; exact ⟨h.1, h.2.1, l1 s' hs _ ⟨h1.1, h1.2.1, hk⟩⟩
      · exact h.elim
    · rename_i t k' es hx
      obtain ⟨l, h', h1, l1⟩ := sl h.2
      refine ⟨_, _, _, h1.2.2, fun s' hs ho K' hk => ?_⟩
      simp only [mop]; rw [val_local hs.left.left, hx]; exact ⟨h.1, l1 s' hs _ ⟨h1.1, h1.2.1, hk⟩⟩
    · rename_i k' hx
      obtain ⟨l, h', h1, l1⟩ := sl h
      refine ⟨_, _, _, h1.2.2, fun s' hs ho K' hk => ?_⟩
      simp only [mop]; rw [val_local hs.left.left, hx]; exact l1 s' hs _ ⟨h1.1, h1.2.1, hk⟩
    · exact h.elim
  case fieldAddr off x =>
    split at h
    · rename_i hx; exact ⟨_, _, _, h, fun s' hs ho K' hk => by simp only [mop]; rw [val_local hs, hx]; exact hk⟩
    · rename_i hx; exact ⟨_, _, _, h, fun s' hs ho K' hk => by simp only [mop]; rw [val_local hs, hx]; exact hk⟩
    · exact h.elim
  case field ag k off x =>
    split at h
    · rename_i hx; exact ⟨_, _, _, h.2, fun s' hs ho K' hk => by simp only [mop]; rw [val_local hs, hx]; exact ⟨h.1, hk⟩⟩
    · exact h.elim
  case indexAddr k x y =>
    split at h
    · rename_i id off len k0 a hx hy
      split at h
      · rename_i t k' es ho'
        refine ⟨_, _, _, h.2.2.2, fun s' hs ho K' hk => ?_⟩
        simp only [mop]; rw [val_local hs.left, val_local hs.right, hx, hy]; simp only []; rw [ho.obj (by simp), ho']; exact ⟨h.1, h.2.1, h.2.2.1, hk⟩
      · rename_i t k' es ho'
        refine ⟨_, _, _, h.2.2.2, fun s' hs ho K' hk => ?_⟩
        simp only [mop]; rw [val_local hs.left, val_local hs.right, hx, hy]; simp only []; rw [ho.obj (by simp), ho']; exact ⟨h.1, h.2.1, h.2.2.1, hk⟩
      · exact h.elim
    · rename_i t k' es k0 a hx hy
      have hlt : a.toNat < es.length := by have := h.2.1; have := h.2.2.1; omega
      refine ⟨_, _, _, h.2.2.2.get hlt, fun s' hs ho K' hk => ?_⟩
      simp only [mop]; rw [val_local hs.left, val_local hs.right, hx, hy]; exact ⟨h.1, h.2.1, h.2.2.1, .same hlt hk⟩
    · exact h.elim
  case arrAddr len k x y =>
    split at h
    · rename_i hx hy
      refine ⟨_, _, _, h.2.2, fun s' hs ho K' hk => ?_⟩
      simp only [mop]; rw [val_local hs.left, val_local hs.right, hx, hy]; exact ⟨h.1, h.2.1, hk⟩
    · rename_i hx hy
      refine ⟨_, _, _, h.2.2, fun s' hs ho K' hk => ?_⟩
      simp only [mop]; rw [val_local hs.left, val_local hs.right, hx, hy]; exact ⟨h.1, h.2.1, hk⟩
    · exact h.elim
  case arrIndex ag len k x y =>
    split at h
    · rename_i hx hy
      refine ⟨_, _, _, h.2.2.2, fun s' hs ho K' hk => ?_⟩
      simp only [mop]; rw [val_local hs.left, val_local hs.right, hx, hy]; exact ⟨h.1, h.2.1, h.2.2.1, hk⟩
    · exact h.elim
  case strIdx bs x =>
    split at h
    · rename_i hx; exact ⟨_, _, _, h.2.2, fun s' hs ho K' hk => by simp only [mop]; rw [val_local hs, hx]; exact ⟨h.1, h.2.1, hk⟩⟩
    · exact h.elim
  case extract x i =>
    split at h
    · rename_i hx; exact ⟨_, _, _, h.2, fun s' hs ho K' hk => by simp only [mop]; rw [val_local hs, hx]; exact ⟨h.1, hk⟩⟩
    · exact h.elim
  case len x =>
    split at h
    all_goals first
      | exact h.elim
      | (rename_i hx; exact ⟨_, _, _, h, fun s' hs ho K' hk => by simp only [mop]; rw [val_local hs, hx]; exact hk⟩)
  case append k bytes drop x y =>
    split at h
    · rename_i t' k' ys rs hy
      obtain ⟨h0, h⟩ := h
      split at h
      · rename_i k2 hx
        refine ⟨_, _, _, h.2, fun s' hs ho K' hk => ?_⟩
        simp only [mop]; rw [val_local hs.left, val_local hs.right, sliceOf_local hy ho.left]; simp only []; rw [hx]; exact ⟨h0, h.1, hk⟩
      · rename_i id off len hx
        split at h
        · rename_i t k'' es ho'
          refine ⟨_, _, _, h.2.2.2, fun s' hs ho K' hk => ?_⟩
          simp only [mop]; rw [val_local hs.left, val_local hs.right, sliceOf_local hy (fun t ht => ho t (by simp [ht]))]; simp only []; rw [hx]; simp only []
          rw [ho.obj (by simp), ho']; exact ⟨h0, h.1, h.2.1, h.2.2.1, hk⟩
        · rename_i t k'' es C ho'
          refine ⟨_, _, _, h.2.2.2.2, fun s' hs ho K' hk => ?_⟩
          simp only [mop]; rw [val_local hs.left, val_local hs.right, sliceOf_local hy (fun t ht => ho t (by simp [ht]))]; simp only []; rw [hx]; simp only []
          rw [ho.obj (by simp), ho']; exact ⟨h0, h.1, h.2.1, h.2.2.1, h.2.2.2.1, hk⟩
        · exact h.elim
      · exact h.elim
    · exact h.elim
  case sliceHd k x hi =>
    split at h
    · rename_i id off len hx
      split at h
      · rename_i t k' es ho'
        obtain ⟨h', h1, l1⟩ := bound_local h.2.2
        refine ⟨_, _, _, h1.2, fun s' hs ho K' hk => ?_⟩
        simp only [mop]; rw [val_local hs.left, hx]; simp only []; rw [ho.obj (by simp), ho']; exact ⟨h.1, h.2.1, l1 s' hs.right _ ⟨h1.1, hk⟩⟩
      · exact h.elim
    · exact h.elim
  case appendIn k x y =>
    split at h
    · rename_i t' k' ys rs hy
      split at h
      · rename_i id off len hx
        split at h
        · rename_i t k'' es ho'
          refine ⟨_, _, _, h.2.2.2, fun s' hs ho K' hk => ?_⟩
          simp only [mop]; rw [val_local hs.left, val_local hs.right, sliceOf_local hy (fun t ht => ho t (by simp [ht]))]; simp only []; rw [hx]; simp only []
          rw [ho.obj (by simp), ho']; exact ⟨h.1, h.2.1, h.2.2.1, hk⟩
        · exact h.elim
      · exact h.elim
    · exact h.elim
  case minmax mx x y =>
    split at h
    · rename_i hx hy
      exact ⟨_, _, _, h.2, fun s' hs ho K' hk => by simp only [mop]; rw [val_local hs.left, val_local hs.right, hx, hy]; exact ⟨h.1, hk⟩⟩
    · exact h.elim
  case call f al ms args =>
    obtain ⟨xs, is, gs, rs, ⟨h1, h2, h3⟩, i1, l1⟩ := argsK_local h
    simp only [callK, if_true] at h3
    obtain ⟨os, r, hc, h3⟩ := h3
    obtain ⟨u, n', h4, l4⟩ := outK_local h3
    refine ⟨_, _, _, h4.2, fun s' hs ho K' hk => ?_⟩
    simp only [mop]; rw [vals_local hs]
    refine l1 s' ho.left _ ⟨h1, h2, ?_⟩
    simp only [callK, if_true]
    exact ⟨os, r, hc, l4 s' (fun i hi => ho.left.left.obj (i1 i hi)) _ ⟨h4.1, hk⟩⟩
  case callv f args =>
    split at h
    · rename_i dom φ xs hf hx
      refine ⟨_, _, _, h.2, fun s' hs ho K' hk => ?_⟩
      simp only [mop]; rw [val_local hs.left, vals_local hs.right, hf, hx]; exact ⟨h.1, hk⟩
    · rename_i f' first caps xs hf hx
      obtain ⟨dom, φ, h1, h2, h3⟩ := h
      refine ⟨_, _, _, h3, fun s' hs ho K' hk => ?_⟩
      simp only [mop]; rw [val_local hs.left, vals_local hs.right, hf, hx]
      exact ⟨dom, φ, FnOk_local ho.left h1, h2, by rw [readsM_local ho.left]; exact hk⟩
    · exact h.elim
  case mkfn f xs ys =>
    exact ⟨_, _, _, h, fun s' hs ho K' hk => by simp only [mop]; rw [vals_local hs.left, vals_local hs.right]; exact hk⟩

theorem mop_det (hp : o.plain = true) (h : mop true P o n s K) : mop false P o n s K := by
  cases o <;> try exact h
  case call f al ms args =>
    simp only [mop] at h ⊢
    obtain ⟨xs, is, gs, rs, ⟨h1, h2, h3⟩, i1, l1⟩ := argsK_local h
    refine l1 s (fun _ _ => rfl) _ ⟨h1, h2, ?_⟩
    simp only [callK, if_true, Bool.false_eq_true, if_false] at h3 ⊢
    obtain ⟨os, r, hc, h3⟩ := h3
    exact ⟨_, hc, fun o r e => by rw [e.1, e.2]; exact h3⟩

end
end Go.Fw
namespace Go.Fw
set_option linter.unusedVariables false
set_option linter.unusedSimpArgs false

structure Rec where
  dst : Option Nat
  v : MV
  u : Upd
  rs : List Nat
  ids : List Nat

def mstep (P : Program) (o : MOper) (n : Nat) (s : MS) (K : Rec → Prop) : Prop :=
  match o.guard with
  | none => mop true P o.op n s fun m u rd => K ⟨o.dst, m, u, o.op.slots, rd ++ u.map (·.1)⟩
  | some (g, want) =>
    match s.val (.t g) with
    | .b x => (x = want → mop true P o.op n s fun m u rd => K ⟨o.dst, m, u, g :: o.op.slots, rd ++ u.map (·.1)⟩) ∧ (x = (!want) → K ⟨o.dst, .un, [], [g], []⟩)
    | .un => K ⟨o.dst, .un, [], [g], []⟩
    | _ => False

def MS.did (s : MS) (r : Rec) : MS := s.app r.dst r.v r.u

def mtrace (P : Program) : List MOper → Nat → MS → (List Rec → MS → Prop) → Prop
  | [], _, s, K => K [] s
  | o :: l, n, s, K => mstep P o n s fun r => mtrace P l (n + 64) (s.did r) fun rs s' => K (r :: rs) s'

/-- Two operations that must keep their order. -/
def clash (a b : Rec) : Bool :=
  (match a.dst with | some d => b.rs.contains d || b.dst == some d | none => false) ||
  (match b.dst with | some d => a.rs.contains d | none => false) ||
  a.u.any (fun x => b.ids.contains x.1) || b.u.any (fun x => a.ids.contains x.1)

/-- bs: for each operation the ones that stand ahead of it in any order (as bits). -/
def okRec (bs : List Nat) (r : Rec) (i : Nat) : Nat → List Rec → Bool
  | _, [] => true
  | j, x :: l => (!clash r x || (bs.getD j 0).testBit i) && okRec bs r i (j + 1) l
def okTrace (bs : List Nat) : Nat → List Rec → Bool
  | _, [] => true
  | i, r :: l => okRec bs r i (i + 1) l && okTrace bs (i + 1) l

def mdraw (P : Program) (bs : List Nat) (l : List MOper) (n : Nat) (s : MS) (K : MS → Prop) : Prop :=
  mtrace P l n s fun rs s' => okTrace bs 0 rs = true ∧ K s'

section
variable {P : Program}

def StepAt (P : Program) (o : MOper) (n : Nat) (s : MS) (r : Rec) : Prop :=
  ((∀ g want, o.guard = some (g, want) → s.val (.t g) = .b want) ∧ mop false P o.op n s fun m u _ => m = r.v ∧ u = r.u) ∨
  (∃ g want, o.guard = some (g, want) ∧ (s.val (.t g) = .b (!want) ∨ s.val (.t g) = .un) ∧ r.v = .un ∧ r.u = [])

def StepOK (P : Program) (o : MOper) (n : Nat) (s : MS) (r : Rec) : Prop :=
  r.dst = o.dst ∧ (∀ x ∈ r.u, x.1 ∈ r.ids) ∧ ∀ s', SameFr s s' r.rs → SameHp s s' r.ids → StepAt P o n s' r

theorem mstep_get {o : MOper} {n : Nat} {s : MS} {K : Rec → Prop} (hp : o.op.plain = true) (h : mstep P o n s K) : ∃ r, K r ∧ StepOK P o n s r := by
  have gen : ∀ (gs : List Nat), (∀ s', SameFr s s' (gs ++ o.op.slots) → ∀ g want, o.guard = some (g, want) → s'.val (.t g) = .b want) →
      (mop true P o.op n s fun m u rd => K ⟨o.dst, m, u, gs ++ o.op.slots, rd ++ u.map (·.1)⟩) → ∃ r, K r ∧ StepOK P o n s r := by
    intro gs hg h
    obtain ⟨m, u, rd, hk, hl⟩ := mop_local hp h
    refine ⟨_, hk, rfl, fun x hx => ?_, fun s' h1 h2 => .inl ⟨hg s' h1, mop_det hp (hl s' h1.right h2 _ ⟨rfl, rfl⟩)⟩⟩
    simp only [List.mem_append, List.mem_map]
    exact .inr ⟨x, hx, rfl⟩
  have skp : ∀ g want x, o.guard = some (g, want) → s.val (.t g) = x → (x = .b (!want) ∨ x = .un) → K ⟨o.dst, .un, [], [g], []⟩ → ∃ r, K r ∧ StepOK P o n s r := by
    intro g want x hg hx ho hk
    refine ⟨_, hk, rfl, by simp, fun s' h1 h2 => .inr ⟨g, want, hg, ?_, rfl, rfl⟩⟩
    rw [val_local (x := .t g) (s := s) (by simpa [Opd.slots] using h1), hx]; exact ho
  unfold mstep at h
  split at h
  · rename_i hg
    exact gen [] (fun s' _ g want e => by rw [hg] at e; cases e) h
  · rename_i g want hg
    split at h
    · rename_i x hx
      by_cases e : x = want
      · refine gen [g] (fun s' hs g' want' e' => ?_) (h.1 e)
        rw [hg] at e'; cases e'
        rw [val_local (x := .t g) (s := s) (by simpa [Opd.slots] using hs.left), hx, e]
      · have e' : x = !want := by revert e; cases x <;> cases want <;> decide
        exact skp g want _ hg hx (.inl (by rw [e'])) (h.2 e')
    · rename_i hx
      exact skp g want _ hg hx (.inr rfl) h
    · exact h.elim

def runR (s : MS) : List Rec → MS
  | [] => s
  | r :: l => runR (s.did r) l

theorem mtrace_get : ∀ {l : List MOper} {n : Nat} {s : MS} {K : List Rec → MS → Prop}, (∀ o ∈ l, o.op.plain = true) → mtrace P l n s K →
    ∃ rs, K rs (runR s rs) ∧ rs.length = l.length ∧ ∀ i o r, l[i]? = some o → rs[i]? = some r → StepOK P o (n + 64 * i) (runR s (rs.take i)) r
  | [], n, s, K, _, h => ⟨[], h, rfl, by simp⟩
  | o :: l, n, s, K, hp, h => by
    obtain ⟨r, h1, l1⟩ := mstep_get (hp o (by simp)) h
    obtain ⟨rs, h2, e2, l2⟩ := mtrace_get (fun o ho => hp o (by simp [ho])) h1
    refine ⟨r :: rs, h2, by simp [e2], fun i o' r' hi hr => ?_⟩
    cases i with
    | zero => simp at hi hr; subst hi hr; exact l1
    | succ i =>
      have := l2 i o' r' (by simpa using hi) (by simpa using hr)
      have e : n + 64 + 64 * i = n + 64 * (i + 1) := by omega
      rw [e] at this
      simpa [runR] using this

/-- Places of a state: slots and objects. -/
inductive Key where
  | s (n : Nat)
  | o (n : Nat)
def MS.at (s : MS) : Key → Option (MV ⊕ MO)
  | .s n => (look s.fr n).map .inl
  | .o n => (look s.hp n).map .inr
def effU : Upd → Nat → Option (Option MO)
  | [], _ => none
  | (id, o) :: r, n => match effU r n with | some x => some x | none => if id = n then some o else none
def Rec.eff (r : Rec) : Key → Option (Option (MV ⊕ MO))
  | .s n => match r.dst with | some d => if d = n then some (some (.inl r.v)) else none | none => none
  | .o n => (effU r.u n).map (·.map .inr)

theorem look_upds : ∀ (u : Upd) (hp : List (Nat × MO)) (n : Nat), look (upds hp u) n = (effU u n).getD (look hp n)
  | [], hp, n => rfl
  | (id, some o) :: r, hp, n => by
    rw [upds, look_upds r, effU, look_put]
    cases effU r n with
    | some x => rfl
    | none => by_cases e : id = n <;> simp [e]
  | (id, none) :: r, hp, n => by
    rw [upds, look_upds r, effU, look_del]
    cases effU r n with
    | some x => rfl
    | none => by_cases e : id = n <;> simp [e]

theorem at_did (s : MS) (r : Rec) (κ : Key) : (s.did r).at κ = (r.eff κ).getD (s.at κ) := by
  cases κ with
  | s n =>
    cases hd : r.dst with
    | none => simp [MS.did, MS.app, MS.set, hd, MS.at, Rec.eff]
    | some d =>
      simp only [MS.did, MS.app, MS.set, hd, MS.at, Rec.eff, look_put]
      by_cases e : d = n <;> simp [e]
  | o n =>
    have : (s.did r).hp = upds s.hp r.u := by simp only [MS.did, MS.app, MS.set]; split <;> rfl
    simp only [MS.at, this, look_upds, Rec.eff]
    cases effU r.u n <;> simp

theorem look_of_at_s {s s' : MS} {n : Nat} (h : s'.at (.s n) = s.at (.s n)) : look s'.fr n = look s.fr n := by
  simp only [MS.at] at h
  cases h1 : look s'.fr n <;> cases h2 : look s.fr n <;> simp [h1, h2] at h <;> simp [h]
theorem look_of_at_o {s s' : MS} {n : Nat} (h : s'.at (.o n) = s.at (.o n)) : look s'.hp n = look s.hp n := by
  simp only [MS.at] at h
  cases h1 : look s'.hp n <;> cases h2 : look s.hp n <;> simp [h1, h2] at h <;> simp [h]

/-- The state when the records of S have been done. -/
def stR (S : Nat → Bool) : Nat → MS → List Rec → MS
  | _, s, [] => s
  | k, s, r :: l => stR S (k + 1) (if S k then s.did r else s) l

theorem stR_same {S S' : Nat → Bool} {κ : Key} : ∀ (l : List Rec) (k : Nat) (s s' : MS), s'.at κ = s.at κ → (∀ j r, l[j]? = some r → (r.eff κ).isSome = true → S' (k + j) = S (k + j)) →
    (stR S' k s' l).at κ = (stR S k s l).at κ
  | [], k, s, s', h, _ => h
  | r :: l, k, s, s', h, hS => by
    simp only [stR]
    refine stR_same l (k + 1) _ _ ?_ (fun j r' hr he => by have := hS (j + 1) r' (by simpa using hr) he; rw [show k + (j + 1) = k + 1 + j by omega] at this; exact this)
    cases he : r.eff κ with
    | none =>
      have e1 : ∀ s : MS, (s.did r).at κ = s.at κ := fun s => by rw [at_did, he]; rfl
      cases S k <;> cases S' k <;> simp [e1, h]
    | some x =>
      have hk := hS 0 r (by simp) (by simp [he])
      simp only [Nat.add_zero] at hk
      rw [hk]
      cases S k
      · simpa using h
      · simp [at_did, he]

theorem stR_done {S : Nat → Bool} {κ : Key} {i : Nat} {r : Rec} {x : Option (MV ⊕ MO)} (hx : r.eff κ = some x) : ∀ (l : List Rec) (k : Nat) (s : MS), l[i]? = some r → S (k + i) = true →
    (∀ j r', l[j]? = some r' → i < j → S (k + j) = true → r'.eff κ = none) → (stR S k s l).at κ = x := by
  have keep : ∀ (l : List Rec) (k : Nat) (s : MS), (∀ j r', l[j]? = some r' → S (k + j) = true → r'.eff κ = none) → (stR S k s l).at κ = s.at κ := by
    intro l
    induction l with
    | nil => intros; rfl
    | cons r l ih =>
      intro k s h
      simp only [stR]
      rw [ih (k + 1) _ (fun j r' hr hs => h (j + 1) r' (by simpa using hr) (by rw [show k + (j + 1) = k + 1 + j by omega]; exact hs))]
      cases hS : S k
      · simp
      · simp only [if_true]; rw [at_did, h 0 r (by simp) (by simpa using hS)]; rfl
  induction i with
  | zero =>
    intro l k s hr hS h
    cases l with
    | nil => simp at hr
    | cons r0 l =>
      simp at hr; subst hr
      simp only [Nat.add_zero] at hS
      simp only [stR, hS, if_true]
      rw [keep l (k + 1) _ (fun j r' hr' hs => h (j + 1) r' (by simpa using hr') (by omega) (by rw [show k + (j + 1) = k + 1 + j by omega]; exact hs)), at_did, hx]; rfl
  | succ i ih =>
    intro l k s hr hS h
    cases l with
    | nil => simp at hr
    | cons r0 l =>
      simp only [stR]
      refine ih l (k + 1) _ (by simpa using hr) (by rw [show k + 1 + i = k + (i + 1) by omega]; exact hS) (fun j r' hr' hj hs => h (j + 1) r' (by simpa using hr') (by omega) (by rw [show k + (j + 1) = k + 1 + j by omega]; exact hs))

theorem stR_all {S : Nat → Bool} : ∀ (l : List Rec) (k : Nat) (s : MS), (∀ j, j < l.length → S (k + j) = true) → stR S k s l = runR s l
  | [], _, _, _ => rfl
  | r :: l, k, s, h => by
    have h0 := h 0 (by simp)
    simp only [Nat.add_zero] at h0
    simp only [stR, runR, h0, if_true]
    exact stR_all l (k + 1) _ (fun j hj => by rw [show k + 1 + j = k + (j + 1) by omega]; exact h (j + 1) (by simp; omega))
theorem stR_take {S : Nat → Bool} : ∀ (l : List Rec) (i k : Nat) (s : MS), (∀ j, j < l.length → S (k + j) = decide (j < i)) → stR S k s l = runR s (l.take i)
  | [], i, _, _, _ => by simp [stR, runR]
  | r :: l, 0, k, s, h => by
    have h0 := h 0 (by simp)
    simp only [Nat.add_zero, Nat.lt_irrefl, decide_false] at h0
    simp only [stR, h0, Bool.false_eq_true, if_false, List.take_zero, runR]
    have := stR_take (S := S) l 0 (k + 1) s (fun j hj => by rw [show k + 1 + j = k + (j + 1) by omega, h (j + 1) (by simp; omega)]; simp)
    rw [this]; simp [runR]
  | r :: l, i + 1, k, s, h => by
    have h0 := h 0 (by simp)
    simp only [Nat.add_zero, Nat.zero_lt_succ, decide_true] at h0
    simp only [stR, h0, if_true, List.take_succ_cons, runR]
    exact stR_take l i (k + 1) _ (fun j hj => by rw [show k + 1 + j = k + (j + 1) by omega, h (j + 1) (by simp; omega)]; simp)

theorem okRec_get {bs : List Nat} {r : Rec} {i : Nat} : ∀ {l : List Rec} {k : Nat}, okRec bs r i k l = true → ∀ j x, l[j]? = some x → clash r x = true → (bs.getD (k + j) 0).testBit i = true
  | [], _, _, j, x, hx, _ => by simp at hx
  | y :: l, k, h, j, x, hx, hc => by
    simp only [okRec, Bool.and_eq_true] at h
    cases j with
    | zero => simp at hx; subst hx; simpa [hc] using h.1
    | succ j => rw [show k + (j + 1) = k + 1 + j by omega]; exact okRec_get h.2 j x (by simpa using hx) hc
theorem okTrace_get {bs : List Nat} : ∀ {l : List Rec} {k : Nat}, okTrace bs k l = true → ∀ i j x y, l[i]? = some x → l[j]? = some y → i < j → clash x y = true → (bs.getD (k + j) 0).testBit (k + i) = true
  | [], _, _, i, j, x, y, hx, _, _, _ => by simp at hx
  | r :: l, k, h, i, j, x, y, hx, hy, hij, hc => by
    simp only [okTrace, Bool.and_eq_true] at h
    cases j with
    | zero => omega
    | succ j =>
      cases i with
      | zero =>
        simp at hx; subst hx
        have := okRec_get h.1 j y (by simpa using hy) hc
        rw [show k + (j + 1) = k + 1 + j by omega]; simpa using this
      | succ i =>
        have := okTrace_get h.2 i j x y (by simpa using hx) (by simpa using hy) (by omega) hc
        rw [show k + (j + 1) = k + 1 + j by omega, show k + (i + 1) = k + 1 + i by omega]; exact this

theorem eff_ids {r : Rec} {id : Nat} (h : (r.eff (.o id)).isSome = true) : ∃ x ∈ r.u, x.1 = id := by
  have : ∀ u : Upd, (effU u id).isSome = true → ∃ x ∈ u, x.1 = id := by
    intro u
    induction u with
    | nil => intro h; simp [effU] at h
    | cons p u ih =>
      obtain ⟨i, o⟩ := p
      intro h
      rw [effU] at h
      cases he : effU u id with
      | some x => obtain ⟨y, hy, e⟩ := ih (by simp [he]); exact ⟨y, by simp [hy], e⟩
      | none =>
        rw [he] at h
        by_cases e : i = id
        · exact ⟨(i, o), by simp, e⟩
        · simp [e] at h
  exact this _ (by simpa [Rec.eff] using h)
theorem eff_dst {r : Rec} {t : Nat} (h : (r.eff (.s t)).isSome = true) : r.dst = some t := by
  simp only [Rec.eff] at h
  cases hd : r.dst with
  | none => simp [hd] at h
  | some d => rw [hd] at h; by_cases e : d = t <;> simp [e] at h ⊢

/-- One writes what the other reads or writes. -/
def Touch (a b : Rec) : Prop := ∃ κ, (a.eff κ).isSome = true ∧ ((b.eff κ).isSome = true ∨ (match κ with | .s t => t ∈ b.rs | .o id => id ∈ b.ids))
theorem Touch.clash {a b : Rec} (ha : ∀ x ∈ a.u, x.1 ∈ a.ids) (hb : ∀ x ∈ b.u, x.1 ∈ b.ids) (h : Touch a b) : clash a b = true ∧ Fw.clash b a = true := by
  obtain ⟨κ, h1, h2⟩ := h
  cases κ with
  | s t =>
    have e1 := eff_dst h1
    rcases h2 with h2 | h2
    · have e2 := eff_dst h2
      simp [Fw.clash, e1, e2]
    · simp only [] at h2
      simp [Fw.clash, e1, h2]
  | o id =>
    obtain ⟨x, hx, rfl⟩ := eff_ids h1
    have hm : x.1 ∈ b.ids := by
      rcases h2 with h2 | h2
      · obtain ⟨y, hy, e⟩ := eff_ids h2; rw [← e]; exact hb y hy
      · exact h2
    have : a.u.any (fun x => b.ids.contains x.1) = true := List.any_eq_true.2 ⟨x, hx, by simpa using hm⟩
    simp only [Fw.clash, this, Bool.or_true, Bool.true_or, and_self]

end
end Go.Fw
namespace Go.Fw
set_option linter.unusedVariables false
set_option linter.unusedSimpArgs false

def maskOf (bs : List Nat) : List Edge → Nat
  | [] => 0
  | e :: r => if Region.binds .any e then (2 ^ e.on ||| bs.getD e.on 0) ||| maskOf bs r else maskOf bs r
def okBs (bs : List Nat) : Nat → List Oper → Bool
  | _, [] => true
  | j, o :: l => bs.getD j 0 == maskOf bs o.after.toList && o.after.toList.all (fun e => !Region.binds .any e || decide (e.on < j)) && okBs bs (j + 1) l

theorem maskOf_get {bs : List Nat} {i : Nat} : ∀ {l : List Edge}, (maskOf bs l).testBit i = true → ∃ e ∈ l, Region.binds .any e = true ∧ (e.on = i ∨ (bs.getD e.on 0).testBit i = true)
  | [], h => by simp [maskOf] at h
  | e :: l, h => by
    simp only [maskOf] at h
    split at h
    · rename_i hb
      simp only [Nat.testBit_or, Nat.testBit_two_pow, Bool.or_eq_true, decide_eq_true_eq] at h
      rcases h with h | h
      · exact ⟨e, by simp, hb, h⟩
      · obtain ⟨e', h1, h2⟩ := maskOf_get h; exact ⟨e', by simp [h1], h2⟩
    · obtain ⟨e', h1, h2⟩ := maskOf_get h; exact ⟨e', by simp [h1], h2⟩

theorem okBs_get {bs : List Nat} : ∀ {l : List Oper} {k : Nat}, okBs bs k l = true → ∀ j o, l[j]? = some o →
    (∀ e ∈ o.after, Region.binds .any e = true → e.on < k + j) ∧ ∀ i, (bs.getD (k + j) 0).testBit i = true → ∃ e ∈ o.after, Region.binds .any e = true ∧ (e.on = i ∨ (bs.getD e.on 0).testBit i = true)
  | [], _, _, j, o, h => by simp at h
  | o' :: l, k, h, j, o, ho => by
    simp only [okBs, Bool.and_eq_true, beq_iff_eq] at h
    cases j with
    | zero =>
      simp at ho; subst ho
      refine ⟨fun e he hb => ?_, fun i hi => ?_⟩
      · have := List.all_eq_true.1 h.1.2 e (by simpa using he)
        simpa [hb] using this
      · rw [Nat.add_zero, h.1.1] at hi
        obtain ⟨e, h1, h2⟩ := maskOf_get hi
        exact ⟨e, by simpa using h1, h2⟩
    | succ j =>
      rw [show k + (j + 1) = k + 1 + j by omega]
      exact okBs_get h.2 j o (by simpa using ho)

section
variable {P : Program} {N : FrS} {w0 : World} {F0 : List Nat} {J0 : Imm} {Q : Exit → Act → World → Prop} {ops : Array Oper}

/-- Listed with each operation are all that stand ahead of it. -/
def Down (ops : Array Oper) (S : Nat → Bool) : Prop := ∀ (j : Nat) (o : Oper), ops[j]? = some o → S j = true → ∀ e ∈ o.after, Region.binds .any e = true → S e.on = true

theorem bit_listed {bs : List Nat} {S : Nat → Bool} (hb : okBs bs 0 ops.toList = true) (hd : Down ops S) {i : Nat} : ∀ (j : Nat) (o : Oper), ops[j]? = some o →
    (∀ e ∈ o.after, Region.binds .any e = true → S e.on = true) → (bs.getD j 0).testBit i = true → S i = true := by
  intro j
  induction j using Nat.strongRecOn with
  | _ j ih =>
    intro o ho hs hbit
    have hg := okBs_get hb j o (by simpa using ho)
    rw [Nat.zero_add] at hg
    obtain ⟨e, he, hbe, h⟩ := hg.2 i hbit
    have hl := hs e he hbe
    rcases h with h | h
    · rw [← h]; exact hl
    · have hlt := hg.1 e he hbe
      have hsz : j < ops.size := (Array.getElem?_eq_some_iff.1 ho).1
      have heo : ops[e.on]? = some ops[e.on] := Array.getElem?_eq_getElem (by omega)
      exact ih e.on hlt _ heo (hd e.on _ heo hl) h

theorem okOpers_get {l : List Oper} : ∀ {ms : List MOper}, okOpers P N.n N.fx ops l ms = true → l.length = ms.length ∧ ∀ (i : Nat) (o : Oper) (m : MOper), l[i]? = some o → ms[i]? = some m → okOper P N.n N.fx ops o m = true := by
  induction l with
  | nil => intro ms h; cases ms with
    | nil => simp
    | cons m ms => simp [okOpers] at h
  | cons o l ih =>
    intro ms h
    cases ms with
    | nil => simp [okOpers] at h
    | cons m ms =>
      simp only [okOpers, Bool.and_eq_true] at h
      have := ih h.2
      refine ⟨by simp [this.1], fun i o' m' ho hm => ?_⟩
      cases i with
      | zero => simp at ho hm; subst ho hm; exact h.1
      | succ i => exact this.2 i o' m' (by simpa using ho) (by simpa using hm)

theorem HRel.congr {A : Nat → Prop} {g : Env} {hp hp' : List (Nat × MO)} {w : World} (h : HRel P A w0 F0 J0 g hp w) (e : ∀ id, look hp' id = look hp id) : HRel P A w0 F0 J0 g hp' w := by
  refine ⟨fun id o x => h.objs id o (by rw [← e]; exact x), fun id x => by rw [e]; exact h.avail id x, fun id1 id2 o1 o2 l1 l2 a1 a2 => h.sepB id1 id2 o1 o2 l1 l2 (by rw [← e]; exact a1) (by rw [← e]; exact a2),
    fun id o l a1 => h.disjB id o l (by rw [← e]; exact a1), fun id o l a1 => h.freshB id o l (by rw [← e]; exact a1), fun id o l a1 => h.ltB id o l (by rw [← e]; exact a1), h.imm, h.JI, h.Jf, h.ext⟩

theorem Rel.congr {A : Nat → Prop} {g : Env} {s s' : MS} {a : Act} {w : World} (h : Rel P N A w0 F0 J0 g s a w) (e : ∀ κ, s'.at κ = s.at κ) : Rel P N A w0 F0 J0 g s' a w :=
  ⟨h.size, h.fix, h.defers, fun t m ht => h.slots t m (by rw [← look_of_at_s (e (.s t))]; exact ht), h.hp.congr fun id => look_of_at_o (e (.o id))⟩

theorem step_sound {A : Nat → Prop} {g : Env} {s : MS} {a : Act} {w : World} {i n : Nat} {o : Oper} {m : MOper} {r : Rec} {K : Act → World → Prop} (ho : ops[i]? = some o)
    (hok : okOper P N.n N.fx ops o m = true) (hA : ∀ id, n ≤ id → id < n + 64 → A id) (h : Rel P N A w0 F0 J0 g s a w) (hr : r.dst = m.dst) (hs : StepAt P m n s r)
    (hn : ∀ g' a' w', g.le g' → Rel P N (fun id => A id ∧ ¬(n ≤ id ∧ id < n + 64)) w0 F0 J0 g' (s.did r) a' w' → K a' w') : wpOp P ops Q i K a w := by
  simp only [okOper, Bool.and_eq_true] at hok
  obtain ⟨⟨h1, h2⟩, h3⟩ := hok
  obtain ⟨e2, h2⟩ := okDst_get h2
  unfold wpOp
  simp only [ho]
  rcases hs with ⟨hg, hm⟩ | ⟨t, want, hg, hv, rv, ru⟩
  · have hw : Region.wanted o (yielded ops a.tmps) = true := by
      cases hgd : o.guard with
      | none => simp [Region.wanted, hgd]
      | some p =>
        obtain ⟨j, want⟩ := p
        rw [hgd] at h3
        obtain ⟨t, ht, hj, hN⟩ := okGuard_get h3
        have hl := look_of_val (hg t want ht) (by simp)
        simp [Region.wanted, hgd, yielded_b hj (h.know hl)]
    simp only [hw, if_true]
    refine .inl (mop_sound h1 hA h hm ?_)
    rintro v u rd g' w' x ⟨rfl, rfl⟩ hgl hv hh
    refine hn g' _ w' hgl ?_
    rw [e2, ← hr]
    exact h.app (fun t ht => h2 t (e2 ▸ hr ▸ ht)) hgl hv hh
  · have hw : Region.wanted o (yielded ops a.tmps) = false := by
      cases hgd : o.guard with
      | none => rw [hgd, hg] at h3; simp [okGuard] at h3
      | some p =>
        obtain ⟨j, want'⟩ := p
        rw [hgd] at h3
        obtain ⟨t', ht', hj, hN⟩ := okGuard_get h3
        rw [hg] at ht'; cases ht'
        rcases hv with hv | hv
        · have hl := look_of_val hv (by simp)
          simp [Region.wanted, hgd, yielded_b hj (h.know hl)]
        · have hl := look_of_val hv (by simp)
          have hu : a.tmps.getD t undef = undef := by
            have := h.slots t _ hl
            generalize a.tmps.getD t undef = v at this
            cases this; rfl
          simp [Region.wanted, hgd, yielded_un hj hu]
    simp only [hw, Bool.false_eq_true, if_false]
    refine hn g _ w (Env.le.refl g) ?_
    have : s.did r = s.set o.dst .un := by
      simp only [MS.did, MS.app, ru, rv, upds, hr, e2]
    rw [this]
    exact (h.skip h2).weaken fun _ x => x.1

/-- From place k on, all that stands before stands ahead. -/
def okFull (bs : List Nat) : Nat → Nat → Bool
  | _, 0 => true
  | k, m + 1 => bs.getD k 0 == 2 ^ k - 1 && okFull bs (k + 1) m
theorem okFull_get {bs : List Nat} : ∀ {m k j : Nat}, okFull bs k m = true → k ≤ j → j < k + m → ∀ i, i < j → (bs.getD j 0).testBit i = true
  | 0, k, j, _, h1, h2, _, _ => by omega
  | m + 1, k, j, h, h1, h2, i, hi => by
    simp only [okFull, Bool.and_eq_true, beq_iff_eq] at h
    by_cases e : j = k
    · subst e
      rw [h.1, Nat.testBit_two_pow_sub_one]; simpa using hi
    · exact okFull_get h.2 (by omega) (by omega) i hi

theorem len_sub : ∀ {l m : List Nat}, l.Nodup → (∀ x ∈ l, x ∈ m) → l.length ≤ m.length
  | [], m, _, _ => Nat.zero_le _
  | x :: l, m, hn, hs => by
    have hx := hs x (by simp)
    obtain ⟨h1, h2⟩ := List.nodup_cons.1 hn
    have := len_sub (m := m.erase x) h2 (fun y hy => (List.mem_erase_of_ne (fun e : y = x => h1 (e ▸ hy))).2 (hs y (by simp [hy])))
    rw [List.length_erase_of_mem hx] at this
    have := List.length_pos_of_mem hx
    simp; omega
/-- What is left is a list in the text's order. -/
theorem tail_any {bs : List Nat} (hb : okBs bs 0 ops.toList = true) : ∀ (l : List Oper) (k fuel : Nat) (listed : Array Bool) (a : Act) (w : World), ops.size = k + l.length → (∀ j, l[j]? = ops[k + j]?) →
    (∀ j, k ≤ j → j < ops.size → ∀ i, i < j → (bs.getD j 0).testBit i = true) → listed.size = ops.size → (∀ j, j < ops.size → listed.getD j false = decide (j < k)) → l.length ≤ fuel →
    wpList P ops Q l a w → wpAny P .any ops Q fuel listed a w := by
  have two : ∀ (listed : Array Bool) (j : Nat), listed.size = ops.size → j < ops.size → listed.getD j true = listed.getD j false := fun listed j h hj => by
    rw [Array.getD_eq_getD_getElem?, Array.getD_eq_getD_getElem?, Array.getElem?_eq_getElem (by omega)]; rfl
  intro l
  induction l with
  | nil =>
    intro k fuel listed a w hsz hl hf hls hd _ h
    have hno : ∀ j, j ∉ Region.ready .any ops listed := fun j hj => by
      obtain ⟨h1, o, ho, _⟩ := mem_ready.1 hj
      have hj' : j < ops.size := (Array.getElem?_eq_some_iff.1 ho).1
      rw [two listed j hls hj', hd j hj'] at h1
      simp at h1; simp at hsz; omega
    have hr : Region.ready .any ops listed = [] := List.eq_nil_iff_forall_not_mem.2 hno
    cases fuel with
    | zero => exact ⟨hr, h⟩
    | succ f => exact ⟨fun _ => h, fun i hi => absurd hi (hno i)⟩
  | cons o l ih =>
    intro k fuel listed a w hsz hl hf hls hd hfu h
    simp only [List.length_cons] at hsz hfu
    obtain ⟨f, rfl⟩ : ∃ f, fuel = f + 1 := ⟨fuel - 1, by omega⟩
    have hk : k < ops.size := by omega
    have ho : ops[k]? = some o := by have := hl 0; simpa using this.symm
    have hg := okBs_get hb k o (by simpa using ho)
    rw [Nat.zero_add] at hg
    have hin : k ∈ Region.ready .any ops listed := by
      refine mem_ready.2 ⟨by rw [two listed k hls hk, hd k hk]; simp, o, ho, fun e he hbe => ?_⟩
      have hlt := hg.1 e he hbe
      rw [hd _ (by omega)]; simpa using hlt
    have hdown : Down ops (fun j => listed.getD j false) := fun j o' ho' hj e he hbe => by
      have hj' : j < ops.size := (Array.getElem?_eq_some_iff.1 ho').1
      simp only [hd j hj', decide_eq_true_eq] at hj
      have hg' := okBs_get hb j o' (by simpa using ho')
      rw [Nat.zero_add] at hg'
      have hlt := hg'.1 e he hbe
      simp only []
      rw [hd _ (by omega)]; simp; omega
    refine ⟨fun hr => by rw [hr] at hin; (cases hin), fun i hi => ?_⟩
    obtain ⟨hi0, o', ho', hpre⟩ := mem_ready.1 hi
    have hi' : i < ops.size := (Array.getElem?_eq_some_iff.1 ho').1
    have hik : i = k := by
      rw [two listed i hls hi', hd i hi'] at hi0
      simp at hi0
      rcases Nat.lt_or_ge k i with hlt | hge
      · have := bit_listed (S := fun j => listed.getD j false) hb hdown i o' ho' hpre (hf i (by omega) hi' k hlt)
        have this : listed.getD k false = true := this
        rw [hd k hk] at this; simp at this
      · omega
    subst hik
    have step : ∀ a w, wpList P ops Q l a w → wpAny P .any ops Q f (listed.setIfInBounds i true) a w := fun a w hw => by
      refine ih (i + 1) f _ a w (by omega) (fun j => by have := hl (j + 1); rw [show i + 1 + j = i + (j + 1) by omega, ← this]; simp) (fun j h1 h2 => hf j (by omega) h2) (by simpa using hls) (fun j hj => ?_) (by omega) hw
      by_cases e : j = i
      · subst e; simp [Array.getD_eq_getD_getElem?, hls, hk]
      · rw [getD_set_ne false (Ne.symm e), hd j hj]
        by_cases q : j < i
        · simp [q]; omega
        · simp [q]; omega
    unfold wpOp
    simp only [ho]
    unfold wpList at h
    split at h
    · rename_i hw
      simp only [hw, if_true]
      rcases h with h | h
      · exact .inl (Oper.wp_mono step h)
      · exact .inr h
    · rename_i hw
      simp only [hw, Bool.false_eq_true, if_false]
      exact step _ _ h

variable {A : Nat → Prop} {s : MS} {ms ms2 : List MOper} {rs : List Rec} {bs : List Nat} {n : Nat} {g0 : Env}

theorem any_sound (hok : okOpers P N.n N.fx ops ops.toList (ms ++ ms2) = true) (hb : okBs bs 0 ops.toList = true) (hfull : okFull bs ms.length ms2.length = true) (htr : okTrace bs 0 rs = true) (hlen : rs.length = ms.length)
    (hst : ∀ i o r, ms[i]? = some o → rs[i]? = some r → StepOK P o (n + 64 * i) (runR s (rs.take i)) r)
    (hA : ∀ id, n ≤ id → id < n + 64 * ms.length → A id)
    (hq : ∀ g' a' w', g0.le g' → Rel P N (fun id => A id ∧ ¬(n ≤ id ∧ id < n + 64 * ms.length)) w0 F0 J0 g' (runR s rs) a' w' → wpList P ops Q (ops.toList.drop ms.length) a' w') :
    ∀ (fuel : Nat) (left : List Nat) (listed : Array Bool) (g : Env) (a : Act) (w : World), g0.le g → listed.size = ops.size → left.Nodup → (∀ j, j ∈ left ↔ j < ops.size ∧ listed.getD j true = false) →
      left.length ≤ fuel → Down ops (fun j => listed.getD j false) → (∀ j, ms.length ≤ j → listed.getD j false = false) →
      Rel P N (fun id => A id ∧ ¬∃ j, j < ms.length ∧ listed.getD j false = true ∧ n + 64 * j ≤ id ∧ id < n + 64 * j + 64) w0 F0 J0 g (stR (fun j => listed.getD j false) 0 s rs) a w →
      wpAny P .any ops Q fuel listed a w := by
  have hops : ops.size = ms.length + ms2.length := by rw [← Array.length_toList, (okOpers_get hok).1, List.length_append]
  have two : ∀ (listed : Array Bool) (j : Nat), listed.size = ops.size → j < ops.size → listed.getD j true = listed.getD j false := fun listed j h hj => by
    rw [Array.getD_eq_getD_getElem?, Array.getD_eq_getD_getElem?, Array.getElem?_eq_getElem (by omega)]; rfl
  -- all of the first part listed: the rest in the text's order
  have fin : ∀ (fuel : Nat) (left : List Nat) (listed : Array Bool) (g : Env) (a : Act) (w : World), g0.le g → listed.size = ops.size → left.Nodup → (∀ j, j ∈ left ↔ j < ops.size ∧ listed.getD j true = false) → left.length ≤ fuel →
      (∀ j, j < ms.length → listed.getD j false = true) → (∀ j, ms.length ≤ j → listed.getD j false = false) →
      Rel P N (fun id => A id ∧ ¬∃ j, j < ms.length ∧ listed.getD j false = true ∧ n + 64 * j ≤ id ∧ id < n + 64 * j + 64) w0 F0 J0 g (stR (fun j => listed.getD j false) 0 s rs) a w → wpAny P .any ops Q fuel listed a w := by
    intro fuel left listed g a w hg0 hsz hnd hmem hf hall hno h
    rw [stR_all rs 0 s (fun j hj => by rw [Nat.zero_add]; exact hall j (by omega))] at h
    have hl := hq g a w hg0 (h.weaken fun id x => ⟨x.1, fun ⟨j, h1, h2, h3, h4⟩ => x.2 ⟨by omega, by omega⟩⟩)
    have hleft : ms2.length ≤ left.length := by
      have := len_sub (l := List.range' ms.length ms2.length) (m := left) List.nodup_range' (fun j hj => by
        rw [List.mem_range'_1] at hj
        exact (hmem j).2 ⟨by omega, by rw [two listed j hsz (by omega)]; exact hno j hj.1⟩)
      simpa using this
    refine tail_any hb _ ms.length fuel listed a w (by simp [hops]) (fun j => by simp [List.getElem?_drop]) (fun j h1 h2 i hi => okFull_get hfull h1 (by omega) i hi) hsz (fun j hj => ?_) (by simp [hops]; omega) hl
    by_cases e : j < ms.length
    · rw [hall j e]; simp [e]
    · rw [hno j (by omega)]; simp [e]
  -- none ready: all listed
  have stuck : ∀ (listed : Array Bool), listed.size = ops.size → Region.ready .any ops listed = [] → ∀ j, j < ops.size → listed.getD j false = true := by
    intro listed hsz hr j
    induction j using Nat.strongRecOn with
    | _ j ih =>
      intro hj
      cases hl : listed.getD j false with
      | true => rfl
      | false =>
        have : j ∈ Region.ready .any ops listed := by
          refine mem_ready.2 ⟨by rw [two listed j hsz hj]; exact hl, ops[j], Array.getElem?_eq_getElem hj, fun e he hbe => ?_⟩
          have hg := okBs_get hb j ops[j] (by simp [hj])
          rw [Nat.zero_add] at hg
          have hlt := hg.1 e he hbe
          exact ih e.on hlt (by omega)
        rw [hr] at this; cases this
  intro fuel
  induction fuel with
  | zero =>
    intro left listed g a w hg0 hsz hnd hmem hf hd hno h
    have hl : left = [] := by cases left <;> simp at hf ⊢
    have hall : ∀ j, j < ops.size → listed.getD j false = true := fun j hj => by
      cases hx : listed.getD j false with
      | true => rfl
      | false =>
        have := (hmem j).2 ⟨hj, by rw [two listed j hsz hj]; exact hx⟩
        rw [hl] at this; cases this
    exact fin 0 left listed g a w hg0 hsz hnd hmem hf (fun j hj => hall j (by omega)) hno h
  | succ fuel ih =>
    intro left listed g a w hg0 hsz hnd hmem hf hd hno h
    by_cases hall : ∀ j, j < ms.length → listed.getD j false = true
    · exact fin (fuel + 1) left listed g a w hg0 hsz hnd hmem hf hall hno h
    refine ⟨fun hr => absurd (fun j hj => stuck listed hsz hr j (by omega)) hall, fun i hi => ?_⟩
    obtain ⟨hi0, o, ho, hpre⟩ := mem_ready.1 hi
    have hilt' : i < ops.size := (Array.getElem?_eq_some_iff.1 ho).1
    have hilt : i < ms.length := by
      rcases Nat.lt_or_ge i ms.length with q | q
      · exact q
      · exact absurd (fun j hj => bit_listed (S := fun j => listed.getD j false) hb hd i o ho hpre (okFull_get hfull q (by omega) j (by omega))) hall
    have hiS : listed.getD i false = false := by rw [← two listed i hsz hilt']; exact hi0
    obtain ⟨m, hm⟩ : ∃ m, ms[i]? = some m := ⟨_, List.getElem?_eq_getElem (by omega)⟩
    obtain ⟨r, hr⟩ : ∃ r, rs[i]? = some r := ⟨_, List.getElem?_eq_getElem (by omega)⟩
    have hor := (okOpers_get hok).2 i o m (by simpa using ho) (by rw [List.getElem?_append_left hilt]; exact hm)
    obtain ⟨hdst, hids, hloc⟩ := hst i m r hm hr
    have hidsAll : ∀ (j : Nat) (x : Rec), rs[j]? = some x → ∀ y ∈ x.u, y.1 ∈ x.ids := fun j x hx => by
      have hj : j < rs.length := (List.getElem?_eq_some_iff.1 hx).1
      exact (hst j ms[j] x (List.getElem?_eq_getElem (by omega)) hx).2.1
    -- what touches the operation, and is listed, stands ahead of it; and the other way about
    have ahead : ∀ (j : Nat) (x : Rec), rs[j]? = some x → Touch x r → j ≠ i → listed.getD j false = decide (j < i) := by
      intro j x hx ht hne
      obtain ⟨c1, c2⟩ := ht.clash (hidsAll j x hx) hids
      rcases Nat.lt_or_gt_of_ne hne with hlt | hgt
      · have := okTrace_get htr j i x r hx hr hlt c1
        rw [Nat.zero_add, Nat.zero_add] at this
        have := bit_listed (S := fun j => listed.getD j false) hb hd i o ho hpre this
        simp [hlt, this]
      · have hbit := okTrace_get htr i j r x hr hx hgt c2
        rw [Nat.zero_add, Nat.zero_add] at hbit
        have hj : j < ops.size := by have := (List.getElem?_eq_some_iff.1 hx).1; omega
        cases hS : listed.getD j false with
        | false => simp; omega
        | true =>
          have hjo : ops[j]? = some ops[j] := Array.getElem?_eq_getElem hj
          have := bit_listed (S := fun j => listed.getD j false) hb hd j _ hjo (hd j _ hjo hS) hbit
          rw [hiS] at this; cases this
    have same : ∀ κ, (match κ with | .s t => t ∈ r.rs | .o id => id ∈ r.ids) → (stR (fun j => listed.getD j false) 0 s rs).at κ = (runR s (rs.take i)).at κ := by
      intro κ hκ
      rw [← stR_take (S := fun j => decide (j < i)) rs i 0 s (fun j _ => by rw [Nat.zero_add])]
      refine stR_same rs 0 s s rfl (fun j x hx hef => ?_)
      rw [Nat.zero_add]
      by_cases e : j = i
      · subst e; simpa using hiS
      · exact ahead j x hx ⟨κ, hef, .inr hκ⟩ e
    have hat : StepAt P m (n + 64 * i) (stR (fun j => listed.getD j false) 0 s rs) r :=
      hloc _ (fun t ht => look_of_at_s (same (.s t) ht)) (fun id hid => look_of_at_o (same (.o id) hid))
    have hav : ∀ id, n + 64 * i ≤ id → id < n + 64 * i + 64 → (A id ∧ ¬∃ j, j < ms.length ∧ listed.getD j false = true ∧ n + 64 * j ≤ id ∧ id < n + 64 * j + 64) := by
      intro id h1 h2
      refine ⟨hA id (by omega) (by omega), fun ⟨j, h3, h4, h5, h6⟩ => ?_⟩
      have : j = i := by omega
      subst this; rw [hiS] at h4; cases h4
    refine step_sound ho hor hav h hdst hat ?_
    intro g' a' w' hg hrel
    have hget : ∀ (j : Nat) (d : Bool), j < ops.size → (listed.setIfInBounds i true).getD j d = if j = i then true else listed.getD j d := fun j d hj => by
      by_cases e : j = i
      · subst e; simp [Array.getD_eq_getD_getElem?, hsz, hj]
      · rw [if_neg e, getD_set_ne d (Ne.symm e)]
    have hgetF : ∀ (j : Nat), (listed.setIfInBounds i true).getD j false = if j = i then true else listed.getD j false := fun j => by
      by_cases hj : j < ops.size
      · exact hget j false hj
      · have e : j ≠ i := by omega
        rw [if_neg e, getD_set_ne false (Ne.symm e)]
    refine ih (left.erase i) _ g' a' w' (hg0.trans hg) (by simpa using hsz) (hnd.erase i) (fun j => ?_) ?_ ?_ (fun j hj => by rw [hgetF, if_neg (by omega)]; exact hno j hj) ?_
    · rw [hnd.mem_erase_iff, hmem j]
      constructor
      · rintro ⟨h1, h2, h3⟩; exact ⟨h2, by rw [hget j true h2, if_neg h1]; exact h3⟩
      · rintro ⟨h2, h3⟩
        rw [hget j true h2] at h3
        by_cases e : j = i
        · rw [if_pos e] at h3; cases h3
        · rw [if_neg e] at h3; exact ⟨e, h2, h3⟩
    · have := (hmem i).2 ⟨hilt', hi0⟩
      rw [List.length_erase_of_mem this]
      omega
    · intro j o' ho' hj e he hbe
      simp only [] at hj ⊢
      rw [hgetF] at hj ⊢
      by_cases e1 : j = i
      · subst e1
        rw [ho] at ho'; cases ho'
        have := hpre e he hbe
        by_cases e2 : e.on = j
        · rw [if_pos e2]
        · rw [if_neg e2]; exact this
      · rw [if_neg e1] at hj
        have := hd j o' ho' hj e he hbe
        by_cases e2 : e.on = i
        · rw [if_pos e2]
        · rw [if_neg e2]; exact this
    · refine (hrel.congr (fun κ => ?_)).weaken (fun id x => ⟨⟨x.1, fun ⟨j, h1, h2, h3⟩ => x.2 ⟨j, h1, ?_, h3⟩⟩, fun h3 => x.2 ⟨i, hilt, ?_, h3⟩⟩)
      · rw [at_did]
        cases hef : r.eff κ with
        | none =>
          refine stR_same rs 0 s s rfl (fun j x hx hxe => ?_)
          simp only [Nat.zero_add]
          rw [hgetF]
          by_cases e : j = i
          · subst e; rw [hr] at hx; cases hx; rw [hef] at hxe; cases hxe
          · rw [if_neg e]
        | some x =>
          refine stR_done (i := i) hef rs 0 s hr (by simp only [Nat.zero_add]; rw [hgetF, if_pos rfl]) (fun j x' hx' hlt hS => ?_)
          simp only [Nat.zero_add] at hS
          rw [hgetF, if_neg (by omega)] at hS
          cases hxe : x'.eff κ with
          | none => rfl
          | some y =>
            have := ahead j x' hx' ⟨κ, by simp [hxe], .inl (by simp [hef])⟩ (by omega)
            rw [hS] at this
            simp at this; omega
      · rw [hgetF]
        by_cases e : j = i
        · rw [if_pos e]
        · rw [if_neg e]; exact h2
      · rw [hgetF, if_pos rfl]

theorem mdraw_tail {id0 : Nat} {g : Env} {a : Act} {w : World} {K : MS → Prop} (hm : P.follows .mixedOrders = true) (hok : okOpers P N.n N.fx ops ops.toList (ms ++ ms2) = true) (hb : okBs bs 0 ops.toList = true) (hfull : okFull bs ms.length ms2.length = true)
    (hpl : ∀ o ∈ ms, o.op.plain = true) (hA : ∀ id, n ≤ id → id < n + 64 * ms.length → A id) (h : Rel P N A w0 F0 J0 g s a w) (hd : mdraw P bs ms n s K)
    (hq : ∀ s' g' a' w', K s' → g.le g' → Rel P N (fun id => A id ∧ ¬(n ≤ id ∧ id < n + 64 * ms.length)) w0 F0 J0 g' s' a' w' → wpList P ops Q (ops.toList.drop ms.length) a' w') : (Code.region id0 ops true).wp P Q a w := by
  obtain ⟨rs, ⟨htr, hk⟩, hlen, hst⟩ := mtrace_get hpl hd
  refine wp_region_any hm ?_
  have hrep : ∀ j d, j < ops.size → (Array.replicate ops.size false).getD j d = false := fun j d hj => by simp [Array.getD_eq_getD_getElem?, hj]
  have hrepF : ∀ j, (Array.replicate ops.size false).getD j false = false := fun j => by
    by_cases hj : j < ops.size <;> simp [Array.getD_eq_getD_getElem?, hj]
  refine any_sound (ms2 := ms2) (g0 := g) hok hb hfull htr hlen hst hA (fun g' a' w' hl hr => hq _ g' a' w' hk hl hr) ops.size (List.range ops.size) _ g a _ (Env.le.refl g) (by simp) List.nodup_range
    (fun j => by rw [List.mem_range]; exact ⟨fun hj => ⟨hj, hrep j true hj⟩, fun hj => hj.1⟩) (by simp) (fun j o _ hj => by simp only [] at hj; rw [hrepF] at hj; cases hj) (fun j _ => hrepF j) ?_
  have e : stR (fun j => (Array.replicate ops.size false).getD j false) 0 s rs = s := by
    rw [stR_take (S := fun j => (Array.replicate ops.size false).getD j false) rs 0 0 s (fun j _ => by rw [hrepF]; simp)]
    simp [runR]
  rw [e]
  refine ⟨h.size, h.fix, h.defers, h.slots, (h.hp.drew).weaken fun id x => x.1⟩

theorem mdraw_sound {id0 : Nat} {g : Env} {a : Act} {w : World} {K : MS → Prop} (hm : P.follows .mixedOrders = true) (hok : okOpers P N.n N.fx ops ops.toList ms = true) (hb : okBs bs 0 ops.toList = true)
    (hpl : ∀ o ∈ ms, o.op.plain = true) (hA : ∀ id, n ≤ id → id < n + 64 * ms.length → A id) (h : Rel P N A w0 F0 J0 g s a w) (hd : mdraw P bs ms n s K)
    (hq : ∀ s' g' a' w', K s' → g.le g' → Rel P N (fun id => A id ∧ ¬(n ≤ id ∧ id < n + 64 * ms.length)) w0 F0 J0 g' s' a' w' → Q .normal a' w') : (Code.region id0 ops true).wp P Q a w := by
  refine mdraw_tail (ms2 := []) hm (by simpa using hok) hb rfl hpl hA h hd fun s' g' a' w' h1 h2 h3 => ?_
  have hl := (okOpers_get hok).1
  rw [List.drop_of_length_le (by omega)]
  exact hq s' g' a' w' h1 h2 h3

/-- The first part in any order, then the rest in the text's. -/
theorem mdraws_sound {id0 : Nat} {g : Env} {a : Act} {w : World} {K : MS → Prop} (hm : P.follows .mixedOrders = true) (hok : okOpers P N.n N.fx ops ops.toList (ms ++ ms2) = true) (hb : okBs bs 0 ops.toList = true) (hfull : okFull bs ms.length ms2.length = true)
    (hpl : ∀ o ∈ ms, o.op.plain = true) (hA : ∀ id, n ≤ id → A id) (h : Rel P N A w0 F0 J0 g s a w) (hd : mdraw P bs ms n s fun s' => mops P ms2 (n + 64 * ms.length) s' K)
    (hq : ∀ s' g' a' w', K s' → g.le g' → Rel P N (fun id => A id ∧ ¬(n ≤ id ∧ id < n + 64 * (ms.length + ms2.length))) w0 F0 J0 g' s' a' w' → Q .normal a' w') : (Code.region id0 ops true).wp P Q a w := by
  refine mdraw_tail hm hok hb hfull hpl (fun id h1 _ => hA id h1) h hd fun s1 g1 a1 w1 h1 h2 h3 => ?_
  have hok2 : okOpers P N.n N.fx ops (ops.toList.drop ms.length) ms2 = true := by
    have : ∀ (x y : List MOper) (l : List Oper), okOpers P N.n N.fx ops l (x ++ y) = true → okOpers P N.n N.fx ops (l.drop x.length) y = true := by
      intro x
      induction x with
      | nil => intro y l h; simpa using h
      | cons m x ih =>
        intro y l h
        cases l with
        | nil => simp [okOpers] at h
        | cons o l => simp only [List.cons_append, okOpers, Bool.and_eq_true] at h; simpa using ih y l h.2
    exact this ms ms2 _ hok
  refine mops_sound _ ms2 (n + 64 * ms.length) _ s1 g1 a1 w1 hok2 (fun id h4 h5 => ⟨hA id (by omega), by omega⟩) h3 h1 fun s' g' a' w' k1 k2 k3 => ?_
  exact hq s' g' a' w' k1 (h2.trans k2) (k3.weaken fun id x => ⟨⟨x.1, by omega⟩, by omega⟩)

end
end Go.Fw
namespace Go.Fw
set_option linter.unusedVariables false
set_option linter.unusedSimpArgs false

mutual
def MV.ren (ρ : Nat → Option Nat) : MV → MV
  | .sr id off len => match ρ id with | some j => .sr j off len | none => .u
  | .sn id off len => match ρ id with | some j => .sn j off len | none => .u
  | .pr id i off => match ρ id with | some j => .pr j i off | none => .u
  | .nr h id i => match ρ id with | some j => .nr h j i | none => .u
  | .on hs k ess => .on hs k ess
  | .agg cs => .agg (renL ρ cs)
  | .tup vs => .tup (renL ρ vs)
  | .clo f a b => .clo f (renL ρ a) (renL ρ b)
  | .i k n => .i k n
  | .b x => .b x
  | .s t k es => .s t k es
  | .nl k => .nl k
  | .pd t cs off => .pd t cs off
  | .fn d φ => .fn d φ
  | .pf d φ => .pf d φ
  | .ow t k es => .ow t k es
  | .pw cs => .pw cs
  | .un => .un
  | .u => .u
def renL (ρ : Nat → Option Nat) : List MV → List MV
  | [] => []
  | m :: r => m.ren ρ :: renL ρ r
end
mutual
def MV.ids : MV → List Nat
  | .sr id _ _ => [id]
  | .sn id _ _ => [id]
  | .pr id _ _ => [id]
  | .nr _ id _ => [id]
  | .agg cs => idsL cs
  | .tup vs => idsL vs
  | .clo _ a b => idsL a ++ idsL b
  | .i _ _ | .b _ | .s _ _ _ | .nl _ | .pd _ _ _ | .fn _ _ | .pf _ _ | .ow _ _ _ | .pw _ | .un | .u | .on _ _ _ => []
def idsL : List MV → List Nat
  | [] => []
  | m :: r => m.ids ++ idsL r
end
def MO.ren (ρ : Nat → Option Nat) : MO → MO
  | .box cs => .box (renL ρ cs)
  | .arr t k es => .arr t k es
  | .fz t k es => .fz t k es
  | .rm t k es C => .rm t k es C
  | .nst hs k ess => .nst hs k ess
  | .al nid i => .al (nid.bind ρ) i

def addIds : List Nat → List Nat → List Nat
  | acc, [] => acc
  | acc, x :: r => if acc.contains x then addIds acc r else addIds (acc ++ [x]) r
def boxIds (s : MS) : List Nat → List Nat
  | [] => []
  | id :: r => (match s.obj id with | some (.box cs) => idsL cs | _ => []) ++ boxIds s r
def reach (s : MS) : Nat → List Nat → List Nat
  | 0, ids => ids
  | k + 1, ids => reach s k (addIds ids (boxIds s ids))
def idx : List Nat → Nat → Nat → Option Nat
  | [], _, _ => none
  | x :: r, k, id => if x = id then some k else idx r (k + 1) id
def keepFr (fr : List (Nat × MV)) : List Nat → List (Nat × MV)
  | [] => []
  | t :: r => match look fr t with | some m => (t, m) :: keepFr fr r | none => keepFr fr r
def frIds : List (Nat × MV) → List Nat
  | [] => []
  | (_, m) :: r => m.ids ++ frIds r
def renFr (ρ : Nat → Option Nat) : List (Nat × MV) → List (Nat × MV)
  | [] => []
  | (t, m) :: r => (t, m.ren ρ) :: renFr ρ r
def hpOf (s : MS) (ρ : Nat → Option Nat) : Nat → List Nat → List (Nat × MO)
  | _, [] => []
  | k, id :: r => match s.obj id with | some o => (k, o.ren ρ) :: hpOf s ρ (k + 1) r | none => hpOf s ρ (k + 1) r
def normWith (s : MS) (fr : List (Nat × MV)) (ids : List Nat) : MS := ⟨renFr (idx ids 0) fr, hpOf s (idx ids 0) 0 ids, ids.length⟩
def norm (live : List Nat) (s : MS) : MS :=
  normWith s (keepFr s.fr live) (reach s 2 (addIds [] (frIds (keepFr s.fr live))))
def keep (live : List Nat) (nx : Nat) (s : MS) : MS := ⟨keepFr s.fr live, s.hp, nx⟩

theorem addIds_nodup : ∀ (l acc : List Nat), acc.Nodup → (addIds acc l).Nodup
  | [], acc, h => h
  | x :: l, acc, h => by
    simp only [addIds]
    split
    · exact addIds_nodup l acc h
    · rename_i hx
      refine addIds_nodup l _ (List.nodup_append.2 ⟨h, by simp, fun a ha b hb => ?_⟩)
      simp at hb hx
      exact fun e => hx (hb ▸ e ▸ ha)
theorem reach_nodup (s : MS) : ∀ (k : Nat) (ids : List Nat), ids.Nodup → (reach s k ids).Nodup
  | 0, _, h => h
  | k + 1, ids, h => reach_nodup s k _ (addIds_nodup _ _ h)
theorem idx_get : ∀ {l : List Nat} {k id j : Nat}, idx l k id = some j → k ≤ j ∧ l[j - k]? = some id
  | [], _, _, _, h => by simp [idx] at h
  | x :: l, k, id, j, h => by
    simp only [idx] at h
    split at h
    · rename_i e; simp at h; subst h; simp [e]
    · have := idx_get h
      refine ⟨by omega, ?_⟩
      rw [show j - k = (j - (k + 1)) + 1 by omega]; simpa using this.2
theorem look_keepFr {fr : List (Nat × MV)} {t : Nat} {m : MV} : ∀ {l : List Nat}, look (keepFr fr l) t = some m → look fr t = some m
  | [], h => by simp [keepFr, look] at h
  | x :: l, h => by
    simp only [keepFr] at h
    split at h
    · rename_i m' hm
      simp only [look] at h
      split at h
      · rename_i e; subst e; rw [hm]; exact h
      · exact look_keepFr h
    · exact look_keepFr h
theorem look_renFr {ρ : Nat → Option Nat} {t : Nat} {m : MV} : ∀ {fr : List (Nat × MV)}, look (renFr ρ fr) t = some m → ∃ m', look fr t = some m' ∧ m = m'.ren ρ
  | [], h => by simp [renFr, look] at h
  | (x, y) :: fr, h => by
    simp only [renFr, look] at h ⊢
    split at h
    · rename_i e; simp at h; exact ⟨y, by simp [e], h.symm⟩
    · rename_i e; obtain ⟨m', h1, h2⟩ := look_renFr h; exact ⟨m', by simp [e, h1], h2⟩
theorem look_hpOf {s : MS} {ρ : Nat → Option Nat} {j : Nat} {o : MO} : ∀ {ids : List Nat} {k : Nat}, look (hpOf s ρ k ids) j = some o → k ≤ j ∧ ∃ id o', ids[j - k]? = some id ∧ s.obj id = some o' ∧ o = o'.ren ρ
  | [], k, h => by simp [hpOf, look] at h
  | id :: ids, k, h => by
    have shift : ∀ {k}, k + 1 ≤ j → (id :: ids)[j - k]? = ids[j - (k + 1)]? := fun {k} hk => by
      rw [show j - k = (j - (k + 1)) + 1 by omega]; simp
    simp only [hpOf] at h
    split at h
    · rename_i o' ho
      simp only [look] at h
      split at h
      · rename_i e
        simp at h
        subst e
        exact ⟨Nat.le_refl _, id, o', by simp, ho, h.symm⟩
      · obtain ⟨h1, id', o2, h2, h3⟩ := look_hpOf h
        exact ⟨by omega, id', o2, by rw [shift h1]; exact h2, h3⟩
    · obtain ⟨h1, id', o2, h2, h3⟩ := look_hpOf h
      exact ⟨by omega, id', o2, by rw [shift h1]; exact h2, h3⟩

section
variable {P : Program} {N : FrS} {w0 : World} {F0 : List Nat} {J0 : Imm}

structure Ren (ρ : Nat → Option Nat) (g g' : Env) : Prop where
  I : g'.I = g.I
  J : g'.J = g.J
  inj : ∀ id j, ρ id = some j → g'.inj j = g.inj id

theorem Ren.im {ρ : Nat → Option Nat} {g g' : Env} (h : Ren ρ g g') (t : Bool) : g'.im t = g.im t := by
  cases t <;> simp [Env.im, h.I, h.J]

mutual
theorem RV.ren {ρ : Nat → Option Nat} {g g' : Env} (hg : Ren ρ g g') {v : Value} {m : MV} : RV P g v m → RV P g' v (m.ren ρ)
  | .i k n => by simp only [MV.ren]; exact .i k n
  | .b x => by simp only [MV.ren]; exact .b x
  | .s t k es v h => by simp only [MV.ren]; exact .s t k es v (by rw [hg.im]; exact h)
  | .nl p k => by simp only [MV.ren]; exact .nl p k
  | .sr id off len cap l hl h1 h2 => by
    simp only [MV.ren]
    split
    · rename_i j hj; exact .sr j off len cap l (by rw [hg.inj id j hj]; exact hl) h1 h2
    · exact .u _
  | .sr0 p id off => by
    simp only [MV.ren]
    split
    · rename_i j hj; exact .sr0 p j off
    · exact .u _
  | .sn id off len cap l hl h1 h2 => by
    simp only [MV.ren]
    split
    · rename_i j hj; exact .sn j off len cap l (by rw [hg.inj id j hj]; exact hl) h1 h2
    · exact .u _
  | .pr id i off l hl => by
    simp only [MV.ren]
    split
    · rename_i j hj; exact .pr j i off l (by rw [hg.inj id j hj]; exact hl)
    · exact .u _
  | .pd t cs off bb o cells E z vs hI hc hr => by simp only [MV.ren]; exact .pd t cs off bb o cells E z vs (by rw [hg.im]; exact hI) hc (by rw [hg.im]; exact hr)
  | .agg vs cs h h1 => by simp only [MV.ren]; exact .agg vs _ (RVL.ren hg h) h1
  | .tup vs cs h => by simp only [MV.ren]; exact .tup vs _ (RVL.ren hg h)
  | .fn f fv cv dom φ hc h => by simp only [MV.ren]; exact .fn f fv cv dom φ hc (by rw [hg.I]; exact h)
  | .clo f fv cv first caps h1 h2 => by simp only [MV.ren]; exact .clo f fv cv _ _ (RVL.ren hg h1) (RVL.ren hg h2)
  | .pf bb o cells E z v dom φ hI hc h => by
    have h' := RV.ren hg h
    simp only [MV.ren] at h' ⊢; exact .pf bb o cells E z v dom φ (by rw [hg.I]; exact hI) hc h'
  | .nr h id i l hl hr => by
    simp only [MV.ren]
    split
    · rename_i j hj; exact .nr h j i l (by rw [hg.inj id j hj]; exact hl) hr
    · exact .u _
  | .un => by simp only [MV.ren]; exact .un
  | .u v => by simp only [MV.ren]; exact .u v
theorem RVL.ren {ρ : Nat → Option Nat} {g g' : Env} (hg : Ren ρ g g') {vs : List Value} {ms : List MV} : RVL P g vs ms → RVL P g' vs (renL ρ ms)
  | .nil => by simp only [renL]; exact .nil
  | .cons v vs m ms h hs => by simp only [renL]; exact .cons _ _ _ _ (RV.ren hg h) (RVL.ren hg hs)
end

theorem renL_length {ρ : Nat → Option Nat} : ∀ l : List MV, (renL ρ l).length = l.length
  | [] => rfl
  | m :: l => by simp [renL, renL_length l]

theorem ORep.ren {ρ : Nat → Option Nat} {g g' : Env} {w : World} {id j : Nat} {o : MO} (hg : Ren ρ g g') (hj : g'.inj j = g.inj id) (h : ORep P g w id o) : ORep P g' w j (o.ren ρ) := by
  cases o with
  | arr t k es => simp only [MO.ren, ORep] at h ⊢; rw [hj, hg.im]; exact h
  | fz t k es => simp only [MO.ren, ORep] at h ⊢; rw [hj, hg.im]; exact h
  | rm t k es C => simp only [MO.ren, ORep] at h ⊢; rw [hj, hg.im]; exact h
  | nst hs k ess => simp only [MO.ren, ORep] at h ⊢; rw [hj]; exact h
  | al nid i =>
    cases nid with
    | none => exact trivial
    | some nid =>
      simp only [MO.ren, Option.bind_some]
      cases hr : ρ nid with
      | none => exact trivial
      | some q =>
        simp only [ORep] at h ⊢
        rw [hj, hg.inj nid q hr]; exact h
  | box cs =>
    obtain ⟨l, cells, E, h1, h2, h3, h4, h5⟩ := h
    refine ⟨l, cells, E, by rw [hj]; exact h1, h2, by rw [renL_length]; exact h3, h4, ?_⟩
    rw [renL_length]; exact RVL.ren hg h5

theorem MO.live_ren {ρ : Nat → Option Nat} (o : MO) : (o.ren ρ).live = o.live := by cases o <;> rfl
theorem MO.blks_ren {ρ : Nat → Option Nat} (o : MO) (l : Loc) : (o.ren ρ).blks l = o.blks l := by cases o <;> rfl

theorem Rel.normWith {A : Nat → Prop} {g : Env} {s : MS} {a : Act} {w : World} {fr : List (Nat × MV)} {ids : List Nat} (h : Rel P N A w0 F0 J0 g s a w) (hn : ids.Nodup)
    (hfr : ∀ t m, look fr t = some m → look s.fr t = some m) :
    ∃ g', g'.I = g.I ∧ g'.J = g.J ∧ Rel P N (fun id => ids.length ≤ id) w0 F0 J0 g' (Fw.normWith s fr ids) a w := by
  let g' : Env := ⟨g.I, g.J, fun j => (ids[j]?).bind g.inj⟩
  have hg : Ren (idx ids 0) g g' := ⟨rfl, rfl, fun id j hj => by
    have := (idx_get hj).2
    simp only [Nat.sub_zero] at this
    simp [g', this]⟩
  have hinj : ∀ j id, ids[j]? = some id → g'.inj j = g.inj id := fun j id hj => by simp [g', hj]
  have hlk : ∀ j o, look (hpOf s (idx ids 0) 0 ids) j = some o → ∃ id o', ids[j]? = some id ∧ look s.hp id = some o' ∧ o = o'.ren (idx ids 0) := by
    intro j o hj
    obtain ⟨_, id, o', h1, h2, h3⟩ := look_hpOf hj
    exact ⟨id, o', by simpa using h1, h2, h3⟩
  refine ⟨g', rfl, rfl, h.size, h.fix, h.defers, fun t m ht => ?_, ?_⟩
  · obtain ⟨m', h1, h2⟩ := look_renFr ht
    rw [h2]; exact RV.ren hg (h.slots t m' (hfr t m' h1))
  refine ⟨fun j o hj => ?_, fun j hj => ?_, fun j1 j2 o1 o2 l1 l2 a1 a2 b1 b2 c1 c2 e e1' e2' => ?_, fun j o l a1 b1 c1 => ?_, fun j o l a1 b1 c1 => ?_, fun j o l a1 b1 c1 => ?_, h.hp.imm, h.hp.JI, h.hp.Jf, h.hp.ext⟩
  · obtain ⟨id, o', h1, h2, rfl⟩ := hlk j o hj
    exact ORep.ren hg (hinj j id h1) (h.hp.objs id o' h2)
  · refine ⟨?_, ?_⟩
    · simp [g', List.getElem?_eq_none hj]
    · cases hx : look (hpOf s (idx ids 0) 0 ids) j with
      | none => exact hx
      | some o =>
        obtain ⟨id, o', h1, _⟩ := hlk j o hx
        rw [List.getElem?_eq_none hj] at h1; cases h1
  · obtain ⟨id1, p1, d1, q1, rfl⟩ := hlk j1 o1 a1
    obtain ⟨id2, p2, d2, q2, rfl⟩ := hlk j2 o2 a2
    rw [MO.live_ren] at b1 b2
    rw [hinj j1 id1 d1] at c1
    rw [hinj j2 id2 d2] at c2
    rw [MO.blks_ren] at e1' e2'
    have := h.hp.sepB id1 id2 p1 p2 l1 l2 q1 q2 b1 b2 c1 c2 e e1' e2'
    subst this
    have hj1 := (List.getElem?_eq_some_iff.1 d1).1
    exact (List.getElem?_inj hj1 hn).1 (d1.trans d2.symm)
  · obtain ⟨id, p, d, q, rfl⟩ := hlk j o a1
    rw [MO.live_ren] at b1
    rw [hinj j id d] at c1
    rw [MO.blks_ren]
    exact h.hp.disjB id p l q b1 c1
  · obtain ⟨id, p, d, q, rfl⟩ := hlk j o a1
    rw [MO.live_ren] at b1
    rw [hinj j id d] at c1
    rw [MO.blks_ren]
    exact h.hp.freshB id p l q b1 c1
  · obtain ⟨id, p, d, q, rfl⟩ := hlk j o a1
    rw [MO.live_ren] at b1
    rw [hinj j id d] at c1
    rw [MO.blks_ren]
    exact h.hp.ltB id p l q b1 c1

theorem Rel.norm {A : Nat → Prop} {g : Env} {s : MS} {a : Act} {w : World} {live : List Nat} (h : Rel P N A w0 F0 J0 g s a w) :
    ∃ g', g'.I = g.I ∧ g'.J = g.J ∧ Rel P N (fun id => (norm live s).nx ≤ id) w0 F0 J0 g' (norm live s) a w :=
  h.normWith (reach_nodup s 2 _ (addIds_nodup _ _ (by simp))) (fun _ _ => look_keepFr)

theorem Rel.keep {A A' : Nat → Prop} {g : Env} {s : MS} {a : Act} {w : World} {live : List Nat} {nx : Nat} (h : Rel P N A w0 F0 J0 g s a w) (hA : ∀ id, A' id → A id) :
    Rel P N A' w0 F0 J0 g (keep live nx s) a w :=
  ⟨h.size, h.fix, h.defers, fun t m ht => h.slots t m (look_keepFr ht), h.hp.weaken hA⟩

end
end Go.Fw
