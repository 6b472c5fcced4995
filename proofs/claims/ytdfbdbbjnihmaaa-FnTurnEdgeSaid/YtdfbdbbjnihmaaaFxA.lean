/-
  Structured code: what it comes to on model states, and that the loaded code does that.
-/
import Derived.Test.YtdfbdbbjnihmaaaFwZ
import Derived.Deep.LoopGhost
namespace Go.Fw
set_option linter.unusedVariables false
set_option linter.unusedSimpArgs false

inductive MCode where
  | skip
  | reg (ms : List MOper) (live : List Nat)
  | draw (bs : List Nat) (ms : List MOper) (live : List Nat)
  | seq (a b : MCode)
  | cut (live : List Nat) (a b : MCode)
  | cond (c : Opd) (a b : MCode)
  | block (id : Nat) (b : MCode)
  | loop (live : List Nat) (b : MCode)
  | exit (id : Nat)
  | ret

inductive Ex where
  | normal
  | exit (id : Nat)
  | ret

def thenM (n : MS → Prop) (Q : Ex → MS → Prop) : Ex → MS → Prop
  | .normal, s => n s
  | .exit id, s => Q (.exit id) s
  | .ret, s => Q .ret s
def inBlockM (id : Nat) (Q : Ex → MS → Prop) : Ex → MS → Prop
  | .normal, s => Q .normal s
  | .exit id', s => if id' = id then Q .normal s else Q (.exit id') s
  | .ret, s => Q .ret s

def MS.know (s : MS) (c : Opd) (x : Bool) : MS :=
  match c with
  | .t t => s.set (some t) (.b x)
  | .v _ => s

def mwp (P : Program) : MCode → (Ex → MS → Prop) → MS → Prop
  | .skip, Q, s => Q .normal s
  | .reg ms live, Q, s => mops P ms s.nx s fun s' => Q .normal (keep live (s.nx + 64 * ms.length) s')
  | .draw bs ms live, Q, s => mdraw P bs ms s.nx s fun s' => Q .normal (keep live (s.nx + 64 * ms.length) s')
  | .seq a b, Q, s => mwp P a (thenM (mwp P b Q) Q) s
  | .cut live a b, Q, s => ∃ (X : Type) (mk : X → MS) (ok : X → Prop), mwp P a (thenM (fun s' => ∃ x, norm live s' = mk x ∧ ok x) Q) s ∧ ∀ x, ok x → mwp P b Q (mk x)
  | .cond c a b, Q, s =>
    match s.val c with
    | .b x => (x = true → mwp P a Q (s.know c true)) ∧ (x = false → mwp P b Q (s.know c false))
    | _ => False
  | .block id b, Q, s => mwp P b (inBlockM id Q) s
  | .loop live b, Q, s => ∃ (X : Type) (mk : X → MS) (ok : X → Prop) (μ : X → Nat), (∃ x, norm live s = mk x ∧ ok x) ∧
      ∀ x, ok x → mwp P b (thenM (fun s' => ∃ x', norm live s' = mk x' ∧ ok x' ∧ μ x' < μ x) Q) (mk x)
  | .exit id, Q, s => Q (.exit id) s
  | .ret, Q, s => Q .ret s

def okCode (P : Program) (N : Nat) (fx : List Nat) : Code → MCode → Bool
  | .skip, .skip => true
  | .region _ ops d, .reg ms _ => !d && okOpers P N fx ops ops.toList ms
  | .region _ ops d, .draw bs ms _ => d && okOpers P N fx ops ops.toList ms && okBs bs 0 ops.toList && ms.all (·.op.plain)
  | .seq a b, .seq a' b' => okCode P N fx a a' && okCode P N fx b b'
  | .seq a b, .cut _ a' b' => okCode P N fx a a' && okCode P N fx b b'
  | .cond c a b, .cond c' a' b' => okOpd c c' && okCode P N fx a a' && okCode P N fx b b'
  | .block id b, .block id' b' => id == id' && okCode P N fx b b'
  | .loop b, .loop _ b' => okCode P N fx b b'
  | .exit id, .exit id' => id == id'
  | .ret, .ret => true
  | _, _ => false

section
variable {P : Program} {N : FrS} {w0 : World} {F0 : List Nat} {J0 : Imm}

/-- A frame and a world stand as the model says. -/
def St (P : Program) (N : FrS) (w0 : World) (F0 : List Nat) (J0 : Imm) (s : MS) (a : Act) (w : World) : Prop :=
  ∃ g, Rel P N (fun id => s.nx ≤ id) w0 F0 J0 g s a w ∧ ∀ b o, J0 b = some o → g.J b = some o

def Post (P : Program) (N : FrS) (w0 : World) (F0 : List Nat) (J0 : Imm) (Q : Ex → MS → Prop) : Exit → Act → World → Prop
  | .normal, a, w => ∃ s, St P N w0 F0 J0 s a w ∧ Q .normal s
  | .exit id, a, w => ∃ s, St P N w0 F0 J0 s a w ∧ Q (.exit id) s
  | .ret, a, w => ∃ s, St P N w0 F0 J0 s a w ∧ Q .ret s
  | _, _, _ => False

theorem St.norm {s : MS} {a : Act} {w : World} {live : List Nat} (h : St P N w0 F0 J0 s a w) : St P N w0 F0 J0 (Fw.norm live s) a w := by
  obtain ⟨g, h1, h2⟩ := h
  obtain ⟨g', _, e, h3⟩ := h1.norm (live := live)
  exact ⟨g', h3, by rw [e]; exact h2⟩

theorem Post.then {x : Code} {Q : Ex → MS → Prop} {R : MS → Prop} {K : Act → World → Prop} {a : Act} {w : World} (hx : x.wp P (Post P N w0 F0 J0 (thenM R Q)) a w)
    (hk : ∀ s a w, St P N w0 F0 J0 s a w → R s → K a w) : x.wp P (Exit.then K (Post P N w0 F0 J0 Q)) a w := by
  refine wp_mono hx fun e a' w' h => ?_
  cases e with
  | normal => obtain ⟨s', h1, h2⟩ := h; exact hk s' a' w' h1 h2
  | exit id => exact h
  | ret => exact h
  | goto l => exact h.elim
  | panic c => exact h.elim
  | outgrown => exact h.elim

theorem St.after {s s' : MS} {g g' : Env} {a' : Act} {w' : World} {k : Nat} {live : List Nat} (hJ : ∀ b o, J0 b = some o → g.J b = some o) (hg : g.le g')
    (h : Rel P N (fun id => s.nx ≤ id ∧ ¬(s.nx ≤ id ∧ id < s.nx + k)) w0 F0 J0 g' s' a' w') : St P N w0 F0 J0 (Fw.keep live (s.nx + k) s') a' w' :=
  ⟨g', h.keep (fun id hid => ⟨Nat.le_trans (Nat.le_add_right _ _) hid, fun x => Nat.not_lt.2 hid x.2⟩), fun b o x => hg.J b o (hJ b o x)⟩

theorem mwp_sound (hm : P.follows .mixedOrders = true) : ∀ (m : MCode) (code : Code) (Q : Ex → MS → Prop) (s : MS) (a : Act) (w : World), okCode P N.n N.fx code m = true → St P N w0 F0 J0 s a w → mwp P m Q s →
    code.wp P (Post P N w0 F0 J0 Q) a w := by
  intro m
  induction m with
  | skip =>
    intro code Q s a w hok h hw
    cases code <;> simp [okCode] at hok
    exact wp_skip ⟨s, h, hw⟩
  | reg ms live =>
    intro code Q s a w hok h hw
    cases code <;> simp [okCode] at hok
    obtain ⟨rfl, hok⟩ := hok
    obtain ⟨g, hr, hJ⟩ := h
    refine wp_region_list (mops_sound _ ms s.nx _ s g a w hok (fun id h1 _ => h1) hr hw ?_)
    intro s' g' a' w' hk hg hr'
    exact ⟨_, St.after hJ hg hr', hk⟩
  | draw bs ms live =>
    intro code Q s a w hok h hw
    cases code <;> simp [okCode] at hok
    obtain ⟨⟨⟨rfl, h1⟩, h2⟩, h3⟩ := hok
    obtain ⟨g, hr, hJ⟩ := h
    refine mdraw_sound hm h1 h2 (fun o ho => h3 o ho) (fun id h1 _ => h1) hr hw ?_
    intro s' g' a' w' hk hg hr'
    exact ⟨_, St.after hJ hg hr', hk⟩
  | seq x y ihx ihy =>
    intro code Q s a w hok h hw
    cases code <;> simp [okCode] at hok
    exact wp_seq (Post.then (ihx _ _ s a w hok.1 h hw) fun s' a' w' h' hy => ihy _ Q s' a' w' hok.2 h' hy)
  | cut live x y ihx ihy =>
    intro code Q s a w hok h hw
    cases code <;> simp [okCode] at hok
    obtain ⟨X, mk, ok, h1, h2⟩ := hw
    refine wp_seq (Post.then (ihx _ _ s a w hok.1 h h1) fun s' a' w' h' ⟨x, hx, hx'⟩ => ihy _ Q (mk x) a' w' hok.2 (hx ▸ h'.norm) (h2 x hx'))
  | cond c x y ihx ihy =>
    intro code Q s a w hok h hw
    cases code <;> simp [okCode] at hok
    obtain ⟨⟨h1, h2⟩, h3⟩ := hok
    simp only [mwp] at hw
    split at hw
    · rename_i b hb
      have hk : ∀ z, b = z → St P N w0 F0 J0 (s.know c z) a w := by
        intro z e
        obtain ⟨g, hr, hJ⟩ := h
        cases c with
        | v m => exact ⟨g, hr, hJ⟩
        | t t => exact ⟨g, hr.refine (look_of_val hb (by simp)) e, hJ⟩
      obtain ⟨g, hr, hJ⟩ := h
      have hv := hr.val h1
      rw [hb] at hv
      generalize hu : a.eval _ = v at hv
      cases hv
      exact wp_cond_split hu (fun e => ihx _ Q _ a w h2 (hk true e) (hw.1 e)) (fun e => ihy _ Q _ a w h3 (hk false e) (hw.2 e))
    · exact hw.elim
  | block id x ih =>
    intro code Q s a w hok h hw
    cases code <;> simp [okCode] at hok
    obtain ⟨rfl, hok⟩ := hok
    refine wp_block (wp_mono (ih _ _ s a w hok h hw) fun e a' w' h => ?_)
    cases e with
    | normal => exact h
    | exit id' =>
      obtain ⟨s', h1, h2⟩ := h
      simp only [inBlockM] at h2
      simp only [Exit.inBlock]
      split
      · rename_i e; rw [if_pos e] at h2; exact ⟨s', h1, h2⟩
      · rename_i e; rw [if_neg e] at h2; exact ⟨s', h1, h2⟩
    | ret => exact h
    | goto l => exact h.elim
    | panic c => exact h.elim
    | outgrown => exact h.elim
  | loop live x ih =>
    intro code Q s a w hok h hw
    cases code <;> simp [okCode] at hok
    obtain ⟨X, mk, ok, μ, ⟨x0, e0, ok0⟩, hr⟩ := hw
    refine wp_loop_ghost (fun n a w => ∃ x, ok x ∧ μ x = n ∧ St P N w0 F0 J0 (mk x) a w) (μ x0) ⟨x0, ok0, rfl, e0 ▸ h.norm⟩ ?_
    rintro n a w ⟨x, hx, rfl, hs⟩
    refine Post.then (ih _ _ (mk x) a w hok hs (hr x hx)) fun s' a' w' h' ⟨x', e', ok', hlt⟩ => ⟨μ x', hlt, x', ok', rfl, e' ▸ h'.norm⟩
  | exit id =>
    intro code Q s a w hok h hw
    cases code <;> simp [okCode] at hok
    subst hok
    exact wp_exit ⟨s, h, hw⟩
  | ret =>
    intro code Q s a w hok h hw
    cases code <;> simp [okCode] at hok
    exact wp_ret ⟨s, h, hw⟩

end
end Go.Fw
