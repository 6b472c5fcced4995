/-
  Code, functions and the rules of reckoning.
-/
import Derived.Test.YtjklefjjmfpnoaaFwZ
import Derived.Deep.LoopGhost
import Derived.OwnWalk
namespace Go.Fw
set_option linter.unusedVariables false
set_option linter.unusedSimpArgs false

inductive MCode where
  | skip
  | reg (ms : List MOper) (live : List Nat)
  | draw (bs : List Nat) (ms : List MOper) (live : List Nat)
  | draws (bs : List Nat) (ms ms2 : List MOper) (live : List Nat)
  | seq (a b : MCode)
  | cut (live : List Nat) (a b : MCode)
  | cond (c : Opd) (a b : MCode)
  | block (id : Nat) (b : MCode)
  | loop (live : List Nat) (b : MCode)
  | exit (id : Nat)
  | ret

inductive Ex where
  | normal
  | exit (id : Nat)
  | ret

def thenM (n : MS → Prop) (Q : Ex → MS → Prop) : Ex → MS → Prop
  | .normal, s => n s
  | .exit id, s => Q (.exit id) s
  | .ret, s => Q .ret s
def inBlockM (id : Nat) (Q : Ex → MS → Prop) : Ex → MS → Prop
  | .normal, s => Q .normal s
  | .exit id', s => if id' = id then Q .normal s else Q (.exit id') s
  | .ret, s => Q .ret s

def MS.know (s : MS) (c : Opd) (x : Bool) : MS :=
  match c with
  | .t t => s.set (some t) (.b x)
  | .v _ => s

def mwp (P : Program) : MCode → (Ex → MS → Prop) → MS → Prop
  | .skip, Q, s => Q .normal s
  | .reg ms live, Q, s => mops P ms s.nx s fun s' => Q .normal (keep live (s.nx + 64 * ms.length) s')
  | .draw bs ms live, Q, s => mdraw P bs ms s.nx s fun s' => Q .normal (keep live (s.nx + 64 * ms.length) s')
  | .draws bs ms ms2 live, Q, s => mdraw P bs ms s.nx s fun s' => mops P ms2 (s.nx + 64 * ms.length) s' fun s'' => Q .normal (keep live (s.nx + 64 * (ms.length + ms2.length)) s'')
  | .seq a b, Q, s => mwp P a (thenM (mwp P b Q) Q) s
  | .cut live a b, Q, s => ∃ (X : Type) (mk : X → MS) (ok : X → Prop), mwp P a (thenM (fun s' => ∃ x, norm live s' = mk x ∧ ok x) Q) s ∧ ∀ x, ok x → mwp P b Q (mk x)
  | .cond c a b, Q, s =>
    match s.val c with
    | .b x => (x = true → mwp P a Q (s.know c true)) ∧ (x = false → mwp P b Q (s.know c false))
    | _ => False
  | .block id b, Q, s => mwp P b (inBlockM id Q) s
  | .loop live b, Q, s => ∃ (X : Type) (mk : X → MS) (ok : X → Prop) (μ : X → Nat), (∃ x, norm live s = mk x ∧ ok x) ∧
      ∀ x, ok x → mwp P b (thenM (fun s' => ∃ x', norm live s' = mk x' ∧ ok x' ∧ μ x' < μ x) Q) (mk x)
  | .exit id, Q, s => Q (.exit id) s
  | .ret, Q, s => Q .ret s

def okCode (P : Program) (N : Nat) (fx : List Nat) : Code → MCode → Bool
  | .skip, .skip => true
  | .region _ ops d, .reg ms _ => !d && okOpers P N fx ops ops.toList ms
  | .region _ ops d, .draw bs ms _ => d && okOpers P N fx ops ops.toList ms && okBs bs 0 ops.toList && ms.all (·.op.plain)
  | .region _ ops d, .draws bs ms ms2 _ => d && okOpers P N fx ops ops.toList (ms ++ ms2) && okBs bs 0 ops.toList && ms.all (·.op.plain) && okFull bs ms.length ms2.length
  | .seq a b, .seq a' b' => okCode P N fx a a' && okCode P N fx b b'
  | .seq a b, .cut _ a' b' => okCode P N fx a a' && okCode P N fx b b'
  | .cond c a b, .cond c' a' b' => okOpd c c' && okCode P N fx a a' && okCode P N fx b b'
  | .block id b, .block id' b' => id == id' && okCode P N fx b b'
  | .loop b, .loop _ b' => okCode P N fx b b'
  | .exit id, .exit id' => id == id'
  | .ret, .ret => true
  | _, _ => false

section
variable {P : Program} {N : FrS} {w0 : World} {F0 : List Nat} {J0 : Imm}

/-- A frame and a world stand as the model says. -/
def St (P : Program) (N : FrS) (w0 : World) (F0 : List Nat) (J0 : Imm) (s : MS) (a : Act) (w : World) : Prop :=
  ∃ g, Rel P N (fun id => s.nx ≤ id) w0 F0 J0 g s a w ∧ ∀ b o, J0 b = some o → g.J b = some o

def Post (P : Program) (N : FrS) (w0 : World) (F0 : List Nat) (J0 : Imm) (Q : Ex → MS → Prop) : Exit → Act → World → Prop
  | .normal, a, w => ∃ s, St P N w0 F0 J0 s a w ∧ Q .normal s
  | .exit id, a, w => ∃ s, St P N w0 F0 J0 s a w ∧ Q (.exit id) s
  | .ret, a, w => ∃ s, St P N w0 F0 J0 s a w ∧ Q .ret s
  | _, _, _ => False

theorem St.norm {s : MS} {a : Act} {w : World} {live : List Nat} (h : St P N w0 F0 J0 s a w) : St P N w0 F0 J0 (Fw.norm live s) a w := by
  obtain ⟨g, h1, h2⟩ := h
  obtain ⟨g', _, e, h3⟩ := h1.norm (live := live)
  exact ⟨g', h3, by rw [e]; exact h2⟩

theorem Post.then {x : Code} {Q : Ex → MS → Prop} {R : MS → Prop} {K : Act → World → Prop} {a : Act} {w : World} (hx : x.wp P (Post P N w0 F0 J0 (thenM R Q)) a w)
    (hk : ∀ s a w, St P N w0 F0 J0 s a w → R s → K a w) : x.wp P (Exit.then K (Post P N w0 F0 J0 Q)) a w := by
  refine wp_mono hx fun e a' w' h => ?_
  cases e with
  | normal => obtain ⟨s', h1, h2⟩ := h; exact hk s' a' w' h1 h2
  | exit id => exact h
  | ret => exact h
  | goto l => exact h.elim
  | panic c => exact h.elim
  | outgrown => exact h.elim

theorem St.after {s s' : MS} {g g' : Env} {a' : Act} {w' : World} {k : Nat} {live : List Nat} (hJ : ∀ b o, J0 b = some o → g.J b = some o) (hg : g.le g')
    (h : Rel P N (fun id => s.nx ≤ id ∧ ¬(s.nx ≤ id ∧ id < s.nx + k)) w0 F0 J0 g' s' a' w') : St P N w0 F0 J0 (Fw.keep live (s.nx + k) s') a' w' :=
  ⟨g', h.keep (fun id hid => ⟨Nat.le_trans (Nat.le_add_right _ _) hid, fun x => Nat.not_lt.2 hid x.2⟩), fun b o x => hg.J b o (hJ b o x)⟩

theorem mwp_sound (hm : P.follows .mixedOrders = true) : ∀ (m : MCode) (code : Code) (Q : Ex → MS → Prop) (s : MS) (a : Act) (w : World), okCode P N.n N.fx code m = true → St P N w0 F0 J0 s a w → mwp P m Q s →
    code.wp P (Post P N w0 F0 J0 Q) a w := by
  intro m
  induction m with
  | skip =>
    intro code Q s a w hok h hw
    cases code <;> simp [okCode] at hok
    exact wp_skip ⟨s, h, hw⟩
  | reg ms live =>
    intro code Q s a w hok h hw
    cases code <;> simp [okCode] at hok
    obtain ⟨rfl, hok⟩ := hok
    obtain ⟨g, hr, hJ⟩ := h
    refine wp_region_list (mops_sound _ ms s.nx _ s g a w hok (fun id h1 _ => h1) hr hw ?_)
    intro s' g' a' w' hk hg hr'
    exact ⟨_, St.after hJ hg hr', hk⟩
  | draw bs ms live =>
    intro code Q s a w hok h hw
    cases code <;> simp [okCode] at hok
    obtain ⟨⟨⟨rfl, h1⟩, h2⟩, h3⟩ := hok
    obtain ⟨g, hr, hJ⟩ := h
    refine mdraw_sound hm h1 h2 (fun o ho => h3 o ho) (fun id h1 _ => h1) hr hw ?_
    intro s' g' a' w' hk hg hr'
    exact ⟨_, St.after hJ hg hr', hk⟩
  | draws bs ms ms2 live =>
    intro code Q s a w hok h hw
    cases code <;> simp [okCode] at hok
    obtain ⟨⟨⟨⟨rfl, h1⟩, h2⟩, h3⟩, h4⟩ := hok
    obtain ⟨g, hr, hJ⟩ := h
    refine mdraws_sound hm h1 h2 h4 (fun o ho => h3 o ho) (fun id h1 => h1) hr hw ?_
    intro s' g' a' w' hk hg hr'
    exact ⟨_, St.after hJ hg hr', hk⟩
  | seq x y ihx ihy =>
    intro code Q s a w hok h hw
    cases code <;> simp [okCode] at hok
    exact wp_seq (Post.then (ihx _ _ s a w hok.1 h hw) fun s' a' w' h' hy => ihy _ Q s' a' w' hok.2 h' hy)
  | cut live x y ihx ihy =>
    intro code Q s a w hok h hw
    cases code <;> simp [okCode] at hok
    obtain ⟨X, mk, ok, h1, h2⟩ := hw
    refine wp_seq (Post.then (ihx _ _ s a w hok.1 h h1) fun s' a' w' h' ⟨x, hx, hx'⟩ => ihy _ Q (mk x) a' w' hok.2 (hx ▸ h'.norm) (h2 x hx'))
  | cond c x y ihx ihy =>
    intro code Q s a w hok h hw
    cases code <;> simp [okCode] at hok
    obtain ⟨⟨h1, h2⟩, h3⟩ := hok
    simp only [mwp] at hw
    split at hw
    · rename_i b hb
      have hk : ∀ z, b = z → St P N w0 F0 J0 (s.know c z) a w := by
        intro z e
        obtain ⟨g, hr, hJ⟩ := h
        cases c with
        | v m => exact ⟨g, hr, hJ⟩
        | t t => exact ⟨g, hr.refine (look_of_val hb (by simp)) e, hJ⟩
      obtain ⟨g, hr, hJ⟩ := h
      have hv := hr.val h1
      rw [hb] at hv
      generalize hu : a.eval _ = v at hv
      cases hv
      exact wp_cond_split hu (fun e => ihx _ Q _ a w h2 (hk true e) (hw.1 e)) (fun e => ihy _ Q _ a w h3 (hk false e) (hw.2 e))
    · exact hw.elim
  | block id x ih =>
    intro code Q s a w hok h hw
    cases code <;> simp [okCode] at hok
    obtain ⟨rfl, hok⟩ := hok
    refine wp_block (wp_mono (ih _ _ s a w hok h hw) fun e a' w' h => ?_)
    cases e with
    | normal => exact h
    | exit id' =>
      obtain ⟨s', h1, h2⟩ := h
      simp only [inBlockM] at h2
      simp only [Exit.inBlock]
      split
      · rename_i e; rw [if_pos e] at h2; exact ⟨s', h1, h2⟩
      · rename_i e; rw [if_neg e] at h2; exact ⟨s', h1, h2⟩
    | ret => exact h
    | goto l => exact h.elim
    | panic c => exact h.elim
    | outgrown => exact h.elim
  | loop live x ih =>
    intro code Q s a w hok h hw
    cases code <;> simp [okCode] at hok
    obtain ⟨X, mk, ok, μ, ⟨x0, e0, ok0⟩, hr⟩ := hw
    refine wp_loop_ghost (fun n a w => ∃ x, ok x ∧ μ x = n ∧ St P N w0 F0 J0 (mk x) a w) (μ x0) ⟨x0, ok0, rfl, e0 ▸ h.norm⟩ ?_
    rintro n a w ⟨x, hx, rfl, hs⟩
    refine Post.then (ih _ _ (mk x) a w hok hs (hr x hx)) fun s' a' w' h' ⟨x', e', ok', hlt⟩ => ⟨μ x', hlt, x', ok', rfl, e' ▸ h'.norm⟩
  | exit id =>
    intro code Q s a w hok h hw
    cases code <;> simp [okCode] at hok
    subst hok
    exact wp_exit ⟨s, h, hw⟩
  | ret =>
    intro code Q s a w hok h hw
    cases code <;> simp [okCode] at hok
    exact wp_ret ⟨s, h, hw⟩

end
end Go.Fw
namespace Go.Fw
set_option linter.unusedVariables false
set_option linter.unusedSimpArgs false

def enumFr : Nat → List MV → List (Nat × MV)
  | _, [] => []
  | k, m :: r => (k, m) :: enumFr (k + 1) r
/-- The state at a function's entry. -/
def entry (args : List MV) : MS :=
  let r := impL (imp none 4) args 0
  ⟨enumFr 0 r.1, upds [] (somes r.2.1), r.2.2⟩

/-- What is handed out, and the objects that go with it. -/
def exC (s : MS) : MV → (MV → List Nat → Prop) → Prop
  | .i k n, K => K (.i k n) []
  | .b x, K => K (.b x) []
  | .s t k es, K => t = true ∧ K (.s true k es) []
  | .nl k, K => K (.ow true k []) []
  | .sr id off len, K =>
    match s.obj id with
    | some (.arr t k es) => (t = true ∨ Flat es) ∧ off + len ≤ es.length ∧ K (.ow true k ((es.drop off).take len)) [id]
    | some (.fz t k es) => t = true ∧ off + len ≤ es.length ∧ K (.s true k ((es.drop off).take len)) []
    | some (.nst hs k ess) => off = 0 ∧ len = ess.length ∧ K (.on hs k ess) [id]
    | _ => False
  | .sn id off len, K =>
    match s.obj id with
    | some (.arr t k es) => (t = true ∨ Flat es) ∧ off + len ≤ es.length ∧ K (.ow true k ((es.drop off).take len)) [id]
    | _ => False
  | _, _ => False
def exL (s : MS) : List MV → (List MV → List Nat → Prop) → Prop
  | [], K => K [] []
  | m :: r, K => exC s m fun x is => exL s r fun xs js => K (x :: xs) (is ++ js)
def exM (s : MS) : MV → (MV → List Nat → Prop) → Prop
  | .agg cs, K => exL s cs fun xs is => K (.agg xs) is
  | .pr id i off, K =>
    match s.obj id with
    | some (.box cs) => i = 0 ∧ off = 0 ∧ exL s cs fun xs is => K (.pw xs) (id :: is)
    | _ => False
  | m, K => exC s m K
def exMs (s : MS) : List MV → (List MV → List Nat → Prop) → Prop
  | [], K => K [] []
  | m :: r, K => exM s m fun x is => exMs s r fun xs js => K (x :: xs) (is ++ js)
def oneOr : List MV → MV
  | [x] => x
  | xs => .tup xs
/-- A result lies in a slot, or in the variable that a slot points to. -/
abbrev RSl := Nat × Option (Bool × Nat)
def resV (s : MS) : RSl → MV
  | (t, none) => s.val (.t t)
  | (a, some (ag, k)) =>
    match s.val (.t a) with
    | .pr id i off =>
      match s.obj id with
      | some (.box cs) => if i = 0 ∧ off + k ≤ cs.length then chunkVal ag k off cs else .u
      | _ => .u
    | _ => .u
/-- The arguments that are handed back; n: how many are still to be looked at. -/
def exO (s : MS) (fx : List Nat) : Nat → Nat → (List MV → List Nat → Prop) → Prop
  | _, 0, K => K [] []
  | k, n + 1, K =>
    if fx.contains k then exM s (s.val (.t k)) fun x is => exO s fx (k + 1) n fun xs js => K (x :: xs) (is ++ js)
    else exO s fx (k + 1) n fun xs js => K (.u :: xs) js
def retK (rs : List RSl) (fx : List Nat) (n : Nat) (Q : List MV → MV → Prop) (s : MS) : Prop :=
  exMs s (rs.map (resV s)) fun xs is => exO s fx 0 n fun os js => (is ++ js).Nodup ∧ Q os (oneOr xs)
def retQ (rs : List RSl) (fx : List Nat) (n : Nat) (Q : List MV → MV → Prop) : Ex → MS → Prop
  | .normal, s => retK rs fx n Q s
  | .ret, s => retK rs fx n Q s
  | .exit _, _ => False

def okRes1 (P : Program) : ResultVar → RSl → Bool
  | .tmp t, (t', none) => t == t'
  | .cell a T, (a', some (ag, k)) => a == a' && tyAg P T ag && tySz P T k && (ag || k == 1)
  | _, _ => false
def okRes (P : Program) : List ResultVar → List RSl → Bool
  | [], [] => true
  | r :: l, r' :: l' => okRes1 P r r' && okRes P l l'
  | _, _ => false
def okFn (P : Program) (fd : Func) (N : Nat) (fx : List Nat) (rs : List RSl) (m : MCode) : Bool :=
  fd.ntmps == N && okRes P fd.results.toList rs && (match fd.body with | some c => okCode P N fx c m | none => false) && !(fd.name == "runtime.NumGoroutine")

section
variable {P : Program} {N : FrS} {A : Nat → Prop} {w0 : World} {F0 : List Nat} {J0 : Imm} {g : Env} {s : MS} {a : Act} {w : World}

theorem DR.flat {I I' : Imm} {v : Value} {d : D} (h : DR I v d) (hd : d.isFlat = true) : DR I' v d := by
  cases h with
  | i k n => exact .i k n
  | b x => exact .b x
  | a0 => simp [D.isFlat] at hd
  | a => simp [D.isFlat] at hd

theorem cellD_part {es : List (List D)} {off len i j : Nat} (hi : i < len) : cellD ((es.drop off).take len) i j = cellD es (off + i) j := by
  unfold cellD
  have : ((es.drop off).take len).getD i [] = es.getD (off + i) [] := by
    simp [List.getD, hi]
  rw [this]

theorem exC_own (h : HRel P A w0 F0 J0 g s.hp w) {v : Value} {m : MV} {K : MV → List Nat → Prop} (hv : RV P g v m) (hk : exC s m K) :
    ∃ x ids F, K x ids ∧ (∀ i ∈ ids, ∃ o, s.obj i = some o ∧ o.live = true) ∧ Own P g.J g.J w v x F ∧ F.Sublist (ids.flatMap (blk g s.hp)) := by
  cases m <;> simp only [exC] at hk
  case i => cases hv; exact ⟨_, _, [], hk, by simp, .imm _ _ (.i _ _), by simp⟩
  case b => cases hv; exact ⟨_, _, [], hk, by simp, .imm _ _ (.b _), by simp⟩
  case s t k es =>
    obtain ⟨rfl, hk⟩ := hk
    cases hv with
    | s _ _ _ _ hd => exact ⟨_, _, [], hk, by simp, .imm _ _ (.s _ _ _ _ hd), by simp⟩
  case nl k => cases hv; exact ⟨_, _, [], hk, by simp, .ow0 _ _ _, by simp⟩
  case sr id off len =>
    split at hk
    · rename_i t k es hob
      obtain ⟨hf, hle, hk⟩ := hk
      obtain ⟨hek, hrep⟩ := h.objs id _ hob
      have hlen : ((es.drop off).take len).length = len := by simp; omega
      have hlive : ∀ i ∈ [id], ∃ o, s.obj i = some o ∧ o.live = true := by simp [MS.obj] at hob ⊢; exact ⟨_, hob, rfl⟩
      cases hv with
      | sr0 p =>
        refine ⟨_, _, [], hk, hlive, ?_, by simp⟩
        simp; exact .ow0 _ _ _
      | sr _ _ _ cap l hl h1 h2 =>
        rcases hrep with ⟨_, h3⟩ | ⟨l', h3, hlk, cs, E, h4, h5, h6, h7⟩
        · rw [hl] at h3; cases h3
        · rw [hl] at h3; cases h3
          subst hlk
          refine ⟨_, _, [l.b], hk, hlive, ?_, by simp [blk_eq (show look s.hp id = _ from hob) hl, MO.blks]⟩
          refine Own.ow (P := P) (I := g.J) (J := g.J) (w := w) ⟨l.b, l.base + off * l.k, l.k, l.C - off, []⟩ true l.k _ cap len hlen.symm h2 (by show cap ≤ l.C - off; omega)
            (fun e he => hek e (List.mem_of_mem_drop (List.mem_of_mem_take he))) ⟨rfl, cs, E, h4, ?_, by rw [hlen]; show len ≤ l.C - off; omega, fun i j hi hj => ?_⟩
          · show l.base + off * l.k + (l.C - off) * l.k ≤ cs.size
            have : off * l.k + (l.C - off) * l.k = l.C * l.k := by rw [← Nat.add_mul]; congr 1; omega
            omega
          · rw [hlen] at hi
            obtain ⟨u, hu, hr⟩ := h7 (off + i) j (by omega) hj
            have e : l.base + (off + i) * l.k + j = l.base + off * l.k + i * l.k + j := by rw [Nat.add_mul]; omega
            rw [e] at hu
            refine ⟨u, hu, ?_⟩
            rw [cellD_part hi]
            rcases hf with rfl | hf
            · simpa [Env.im] using hr
            · exact hr.flat (cellD_flat hf _ _)
    · rename_i t k es hob
      obtain ⟨rfl, hle, hk⟩ := hk
      obtain ⟨hek, hrep⟩ := h.objs id _ hob
      refine ⟨_, _, [], hk, by simp, .imm _ _ (.s _ _ _ _ ?_), by simp⟩
      have hlen : ((es.drop off).take len).length = len := by simp; omega
      cases hv with
      | sr0 p => simp; exact .a0 _ _ _
      | sr _ _ _ cap l hl h1 h2 =>
        rcases hrep with ⟨_, h3⟩ | ⟨l', h3, hlk, cs, E, z, h4, h5, h6, h7⟩
        · rw [hl] at h3; cases h3
        · rw [hl] at h3; cases h3
          subst hlk
          refine .a l.b (l.base + off * l.k) cap len cs E z l.k _ (fun i j => (cs[l.base + off * l.k + i * l.k + j]?).getD undef) h4 hlen.symm (fun e he => hek e (List.mem_of_mem_drop (List.mem_of_mem_take he))) h2 ?_ ?_
          · intro i j hi hj
            rw [hlen] at hi
            obtain ⟨u, hu, _⟩ := h7 (off + i) j (by omega) hj
            have e : l.base + (off + i) * l.k + j = l.base + off * l.k + i * l.k + j := by rw [Nat.add_mul]; omega
            rw [e] at hu
            simp [hu]
          · intro i j hi hj
            rw [hlen] at hi
            obtain ⟨u, hu, hr⟩ := h7 (off + i) j (by omega) hj
            have e : l.base + (off + i) * l.k + j = l.base + off * l.k + i * l.k + j := by rw [Nat.add_mul]; omega
            rw [e] at hu
            rw [cellD_part hi]
            simpa [hu, Env.im] using hr
    · rename_i hs k ess hob
      obtain ⟨rfl, rfl, hk⟩ := hk
      have hlive : ∀ i ∈ [id], ∃ o, s.obj i = some o ∧ o.live = true := by simp [MS.obj] at hob ⊢; exact ⟨_, hob, rfl⟩
      generalize hln : ess.length = ln at hv
      have empty : ∀ p, ess = [] → hs = [] → ∃ x ids F, K x ids ∧ (∀ i ∈ ids, ∃ o, s.obj i = some o ∧ o.live = true) ∧ Own P g.J g.J w (.slice p 0 0) x F ∧ F.Sublist (ids.flatMap (blk g s.hp)) := fun p e1 e2 => by
        subst e1 e2
        exact ⟨_, _, [], hk, hlive, .on0 _ _, by simp⟩
      rcases h.objs id _ hob with ⟨e1, e2, h3⟩ | ⟨l', h3, hN⟩
      · cases hv with
        | sr0 p => exact empty p e2 e1
        | sr _ _ _ cap l hl h1 h2 => rw [hl] at h3; cases h3
      · have hhl : hs.length = ess.length := hN.2.2.1
        cases hv with
        | sr0 p => exact empty p (List.eq_nil_of_length_eq_zero hln) (List.eq_nil_of_length_eq_zero (by omega))
        | sr _ _ _ cap l hl h1 h2 =>
          rw [hl] at h3; cases h3
          subst hln
          refine ⟨_, _, l'.b :: hs.flatMap hb, hk, hlive, ?_, ?_⟩
          · have := Own.on (P := P) (I := g.J) (J := g.J) (w := w) l' hs k ess cap (by omega) (by omega) hN
            rw [hhl] at this
            rw [Nat.zero_mul, Nat.add_zero]
            exact this
          · simp [blk_eq (show look s.hp id = _ from hob) hl, MO.blks]
    · exact hk.elim
  case sn id off len =>
    split at hk
    · rename_i t k es hob
      obtain ⟨hf, hle, hk⟩ := hk
      obtain ⟨hek, hrep⟩ := h.objs id _ hob
      have hlen : ((es.drop off).take len).length = len := by simp; omega
      have hlive : ∀ i ∈ [id], ∃ o, s.obj i = some o ∧ o.live = true := by simp [MS.obj] at hob ⊢; exact ⟨_, hob, rfl⟩
      cases hv with
      | sn _ _ _ cap l hl h1 h2 =>
        rcases hrep with ⟨_, h3⟩ | ⟨l', h3, hlk, cs, E, h4, h5, h6, h7⟩
        · rw [hl] at h3; cases h3
        · rw [hl] at h3; cases h3
          subst hlk
          refine ⟨_, _, [l.b], hk, hlive, ?_, by simp [blk_eq (show look s.hp id = _ from hob) hl, MO.blks]⟩
          refine Own.ow (P := P) (I := g.J) (J := g.J) (w := w) ⟨l.b, l.base + off * l.k, l.k, l.C - off, []⟩ true l.k _ cap len hlen.symm h2 (by show cap ≤ l.C - off; omega)
            (fun e he => hek e (List.mem_of_mem_drop (List.mem_of_mem_take he))) ⟨rfl, cs, E, h4, ?_, by rw [hlen]; show len ≤ l.C - off; omega, fun i j hi hj => ?_⟩
          · show l.base + off * l.k + (l.C - off) * l.k ≤ cs.size
            have : off * l.k + (l.C - off) * l.k = l.C * l.k := by rw [← Nat.add_mul]; congr 1; omega
            omega
          · rw [hlen] at hi
            obtain ⟨u, hu, hr⟩ := h7 (off + i) j (by omega) hj
            have e : l.base + (off + i) * l.k + j = l.base + off * l.k + i * l.k + j := by rw [Nat.add_mul]; omega
            rw [e] at hu
            refine ⟨u, hu, ?_⟩
            rw [cellD_part hi]
            rcases hf with rfl | hf
            · simpa [Env.im] using hr
            · exact hr.flat (cellD_flat hf _ _)
    · exact hk.elim
  all_goals exact hk.elim

theorem exL_own (h : HRel P A w0 F0 J0 g s.hp w) : ∀ {vs : List Value} {ms : List MV} {K : List MV → List Nat → Prop}, RVL P g vs ms → exL s ms K →
    ∃ xs ids F, K xs ids ∧ (∀ i ∈ ids, ∃ o, s.obj i = some o ∧ o.live = true) ∧ OwnL P g.J g.J w vs xs F ∧ F.Sublist (ids.flatMap (blk g s.hp)) := by
  intro vs
  induction vs with
  | nil => intro ms K hv hk; cases hv; exact ⟨_, _, [], hk, by simp, .nil, by simp⟩
  | cons v vs ih =>
    intro ms K hv hk
    cases hv with
    | cons _ _ m ms h1 h2 =>
      simp only [exL] at hk
      obtain ⟨x, ids, F, hk, l1, o1, s1⟩ := exC_own h h1 hk
      obtain ⟨xs, ids', G, hk, l2, o2, s2⟩ := ih h2 hk
      exact ⟨_, _, _, hk, fun i hi => (List.mem_append.1 hi).elim (l1 i) (l2 i), .cons _ _ _ _ _ _ o1 o2, by rw [List.flatMap_append]; exact s1.append s2⟩

theorem exM_own (h : HRel P A w0 F0 J0 g s.hp w) {v : Value} {m : MV} {K : MV → List Nat → Prop} (hv : RV P g v m) (hk : exM s m K) :
    ∃ x ids F, K x ids ∧ (∀ i ∈ ids, ∃ o, s.obj i = some o ∧ o.live = true) ∧ Own P g.J g.J w v x F ∧ F.Sublist (ids.flatMap (blk g s.hp)) := by
  cases m with
  | agg cs =>
    cases hv with
    | agg vs _ hr h1 =>
      simp only [exM] at hk
      obtain ⟨xs, ids, F, hk, l1, o1, s1⟩ := exL_own h hr hk
      exact ⟨_, _, F, hk, l1, .agg _ _ _ o1 h1, s1⟩
  | pr id i off =>
    simp only [exM] at hk
    split at hk
    · rename_i cs hob
      obtain ⟨rfl, rfl, hk⟩ := hk
      cases hv with
      | pr _ _ _ l hl =>
        obtain ⟨l', cells, E, h2, h3, h4, h5, h6⟩ := h.objs id _ hob
        rw [hl] at h2; cases h2
        have hlen := h6.length
        obtain ⟨xs, ids, F, hk, l1, o1, s1⟩ := exL_own h h6 hk
        have hxl : xs.length = cs.length := by
          have : ∀ {vs : List Value} {ms : List MV} {F : List Nat}, OwnL P g.J g.J w vs ms F → vs.length = ms.length := by
            intro vs
            induction vs with
            | nil => intro ms F h; cases h; rfl
            | cons v vs ih => intro ms F h; cases h with | cons _ _ _ _ _ _ _ h2 => simp [ih h2]
          rw [← this o1, hlen]
        refine ⟨_, _, l.b :: F, hk, fun i hi => ?_, ?_, ?_⟩
        · rcases List.mem_cons.1 hi with rfl | hi
          · exact ⟨_, hob, rfl⟩
          · exact l1 i hi
        · have := Own.pw (P := P) (I := g.J) (J := g.J) (w := w) l.b l.base cells E xs F h3 (by rw [hxl]; exact h4) h5 (by rw [hxl]; exact o1)
          simpa using this
        · rw [List.flatMap_cons, show blk g s.hp id = [l.b] by rw [blk_eq (show look s.hp id = _ from hob) hl]; rfl]
          exact s1.cons_cons _
    · exact hk.elim
  | _ => exact exC_own h hv hk

theorem exMs_own (h : HRel P A w0 F0 J0 g s.hp w) : ∀ {vs : List Value} {ms : List MV} {K : List MV → List Nat → Prop}, RVL P g vs ms → exMs s ms K →
    ∃ xs ids F, K xs ids ∧ (∀ i ∈ ids, ∃ o, s.obj i = some o ∧ o.live = true) ∧ OwnL P g.J g.J w vs xs F ∧ F.Sublist (ids.flatMap (blk g s.hp)) := by
  intro vs
  induction vs with
  | nil => intro ms K hv hk; cases hv; exact ⟨_, _, [], hk, by simp, .nil, by simp⟩
  | cons v vs ih =>
    intro ms K hv hk
    cases hv with
    | cons _ _ m ms h1 h2 =>
      simp only [exMs] at hk
      obtain ⟨x, ids, F, hk, l1, o1, s1⟩ := exM_own h h1 hk
      obtain ⟨xs, ids', G, hk, l2, o2, s2⟩ := ih h2 hk
      exact ⟨_, _, _, hk, fun i hi => (List.mem_append.1 hi).elim (l1 i) (l2 i), .cons _ _ _ _ _ _ o1 o2, by rw [List.flatMap_append]; exact s1.append s2⟩

theorem HRel.blks_nodup {hp : List (Nat × MO)} (h : HRel P A w0 F0 J0 g hp w) : ∀ (l : List Nat), l.Nodup → (∀ j ∈ l, ∃ o, look hp j = some o ∧ o.live = true) → (l.flatMap (blk g hp)).Nodup := by
  intro l
  induction l with
  | nil => intro _ _; simp
  | cons j l ih =>
    intro hnd hl
    have hn1 := List.nodup_cons.1 hnd
    rw [List.flatMap_cons]
    refine List.nodup_append.2 ⟨h.blk_nodup (hl j (by simp)), ih hn1.2 (fun i hi => hl i (List.mem_cons_of_mem _ hi)), fun x hx y hy e => ?_⟩
    subst e
    obtain ⟨i, hi, hxi⟩ := List.mem_flatMap.1 hy
    have := h.apart (hl j (by simp)) (hl i (List.mem_cons_of_mem _ hi)) hx hxi
    subst this
    exact hn1.1 hi

theorem look_enumFr {t : Nat} {m : MV} : ∀ {l : List MV} {k : Nat}, look (enumFr k l) t = some m → k ≤ t ∧ l[t - k]? = some m
  | [], _, h => by simp [enumFr, look] at h
  | x :: l, k, h => by
    simp only [enumFr, look] at h
    split at h
    · rename_i e; subst e; simp at h; simp [h]
    · have := look_enumFr h
      refine ⟨by omega, ?_⟩
      rw [show t - k = (t - (k + 1)) + 1 by omega]; simpa using this.2

theorem entry_St {n : Nat} {fx : List Nat} {args : List MV} {J : Imm} {vs : Array Value} {F : List Nat} (hN : args.length ≤ n) (hJ : ∀ b o, J b = some o → w.heap[b]? = some o ∧ b ∉ F) (hnd : F.Nodup) (ho : OwnL P (heapBut w F) J w vs.toList args F) :
    St P ⟨n, fx, fun t => vs.getD t undef⟩ w F J (entry args) { tmps := vs ++ Array.replicate (n - vs.size) undef, defers := [] } w := by
  have h0 : HRel P (fun _ => True) w F J ⟨heapBut w F, J, noInj⟩ [] w := by
    refine ⟨fun id o x => by simp [look] at x, fun id _ => ⟨rfl, rfl⟩, fun _ _ _ _ _ _ x => by simp [look] at x, fun _ _ _ x => by simp [look] at x, fun _ _ _ x => by simp [look] at x, fun _ _ _ x => by simp [look] at x, fun b o x => ?_, fun b o x => ?_, fun b o x => .inl x, WExt.refl w F⟩
    · simp only [heapBut] at x; split at x
      · cases x
      · exact x
    · show heapBut w F b = some o
      simp only [heapBut]; rw [if_neg (hJ b o x).2]; exact (hJ b o x).1
  obtain ⟨g', ⟨hle, hI, hJ', hn, hr, _, _⟩, hv⟩ := imp_ownL (t := none) 4 (n := 0) h0 (I' := heapBut w F) (J' := J) (fun t' b o x => by cases t' <;> exact x) (fun _ _ x => x) ho hnd
    (fun b hb => ⟨by simp [heapBut, hb], .inr hb, fun _ _ _ x => by simp [look] at x⟩) (fun _ _ _ => trivial)
  have hlen := hv.length
  rw [impL_len] at hlen
  have hsz : vs.size ≤ n := by rw [← Array.length_toList, hlen]; exact hN
  have hfx : ∀ t, (vs ++ Array.replicate (n - vs.size) undef).getD t undef = vs.getD t undef := fun t => by
    by_cases ht : t < vs.size
    · simp [Array.getD_eq_getD_getElem?, Array.getElem?_append_left ht]
    · rw [Array.getD_eq_getD_getElem?, Array.getD_eq_getD_getElem?, Array.getElem?_append_right (by omega), Array.getElem?_eq_none (xs := vs) (by omega)]
      by_cases h2 : t - vs.size < n - vs.size
      · simp [h2]
      · rw [Array.getElem?_eq_none (by simpa using h2)]
  refine ⟨g', ⟨by simp; omega, fun t _ => hfx t, rfl, fun t m ht => ?_, hr.weaken fun id x => ⟨trivial, fun e => Nat.not_lt.2 x e.2⟩⟩, fun b o x => by rw [hJ']; exact x⟩
  have := (look_enumFr ht).2
  rw [Nat.sub_zero] at this
  have hlt : t < vs.toList.length := by
    have := (List.getElem?_eq_some_iff.1 this).1
    rw [impL_len] at this; omega
  refine hv.get t _ m ?_ this
  have hlt' : t < vs.size := by simpa using hlt
  simp [Array.getD_eq_getD_getElem?, Array.getElem?_append_left hlt', hlt']

def resA (tmps : Array Value) : ResultVar → Sem Value
  | .tmp t => pure (tmps.getD t undef)
  | .cell a t => do loadVar t (← asAddr (tmps.getD a undef))
theorem results_eq (fn : Func) (tmps : Array Value) : results fn tmps = (do let vs ← fn.results.mapM (resA tmps); pure (if h : vs.size = 1 then vs[0] else .tuple vs)) := rfl

theorem resA_run {r : ResultVar} {r' : RSl} (hok : okRes1 P r r' = true) (h : Rel P N A w0 F0 J0 g s a w) (hne : resV s r' ≠ .u) : ∃ v, (resA a.tmps r).run P w = .ok v w ∧ RV P g v (resV s r') := by
  unfold okRes1 at hok
  split at hok
  · rename_i t t'
    simp at hok; subst hok
    exact ⟨a.tmps.getD t undef, by simp [resA], h.val (x := .tmp t) (y := .t t) (by simp [okOpd])⟩
  · rename_i ad T ad' ag k
    simp only [Bool.and_eq_true, beq_iff_eq] at hok
    obtain ⟨⟨⟨rfl, h1⟩, h2⟩, h3⟩ := hok
    obtain ⟨d, hd, hag⟩ := tyAg_get h1
    obtain ⟨inf, hi, hk⟩ := tySz_get h2
    have hk1 : ag = false → k = 1 := fun e => by subst e; simpa using h3
    have rx := h.val (x := .tmp ad) (y := .t ad) (by simp [okOpd])
    simp only [resV] at hne ⊢
    split at hne
    · rename_i id i off hb
      rw [hb] at rx
      generalize hv : a.eval (.tmp ad) = v at rx
      split at hne
      · rename_i cs hob
        split at hne
        · rename_i hc
          obtain ⟨rfl, hm2⟩ := hc
          cases rx with
          | pr _ _ _ l hl =>
            obtain ⟨cells, E, z, vs, e3, e4, e5, e7⟩ := (h.hp.chunk (i := 0) hob hl).2 cs rfl hm2
            have hrun := run_loadAt (P := P) (w := w) hd hag hi hk hk1 e3 e4
            rw [if_pos ⟨rfl, hm2⟩]
            refine ⟨_, ?_, rv_chunk hk1 e5 hm2 e7⟩
            have hv' : a.tmps.getD ad undef = .pointer (some ⟨l.b, l.base + 0 * l.k + off, none⟩) := hv
            rw [Nat.zero_mul, Nat.add_zero] at hv'
            simpa [resA, hv', Instr.loadAt, Instr.sureAddr, asAddr] using hrun
        · exact absurd rfl hne
      · exact absurd rfl hne
    · exact absurd rfl hne
  · cases hok

theorem exMs_ne : ∀ {ms : List MV} {K : List MV → List Nat → Prop}, exMs s ms K → ∀ m ∈ ms, m ≠ .u
  | [], _, _, m, hm => by simp at hm
  | x :: ms, K, h, m, hm => by
    have hx : x ≠ .u := by rintro rfl; simp [exMs, exM, exC] at h
    have hr : ∃ K', exMs s ms K' := by
      have one : ∀ {y : MV} {K1 : MV → List Nat → Prop}, exC s y K1 → ∃ a b, K1 a b := by
        intro y K1 hy
        cases y <;> simp only [exC] at hy
        case sr =>
          split at hy
          · exact ⟨_, _, hy.2.2⟩
          · exact ⟨_, _, hy.2.2⟩
          · exact ⟨_, _, hy.2.2⟩
          · exact hy.elim
        case sn =>
          split at hy
          · exact ⟨_, _, hy.2.2⟩
          · exact hy.elim
        case s => exact ⟨_, _, hy.2⟩
        all_goals first | exact hy.elim | exact ⟨_, _, hy⟩
      have lst : ∀ {ys : List MV} {K1 : List MV → List Nat → Prop}, exL s ys K1 → ∃ a b, K1 a b := by
        intro ys
        induction ys with
        | nil => intro K1 hy; exact ⟨_, _, hy⟩
        | cons y ys ih =>
          intro K1 hy
          obtain ⟨_, _, h1⟩ := one hy
          obtain ⟨_, _, h2⟩ := ih h1
          exact ⟨_, _, h2⟩
      simp only [exMs] at h
      cases x with
      | agg cs => simp only [exM] at h; obtain ⟨_, _, h1⟩ := lst h; exact ⟨_, h1⟩
      | pr id i off =>
        simp only [exM] at h
        split at h
        · obtain ⟨_, _, h1⟩ := lst h.2.2; exact ⟨_, h1⟩
        · exact h.elim
      | _ => simp only [exM] at h; obtain ⟨_, _, h1⟩ := one h; exact ⟨_, h1⟩
    rcases List.mem_cons.1 hm with rfl | hm
    · exact hx
    · obtain ⟨K', hr⟩ := hr; exact exMs_ne hr m hm

theorem resAs_run (h : Rel P N A w0 F0 J0 g s a w) : ∀ {l : List ResultVar} {rs : List RSl}, okRes P l rs = true → (∀ m ∈ rs.map (resV s), m ≠ .u) →
    ∃ vs, vs.length = l.length ∧ (∀ (i : Nat) (r : ResultVar) (v : Value), l[i]? = some r → vs[i]? = some v → (resA a.tmps r).run P w = .ok v w) ∧ RVL P g vs (rs.map (resV s))
  | [], [], _, _ => ⟨[], rfl, by simp, .nil⟩
  | r :: l, r' :: rs, hok, hne => by
    simp only [okRes, Bool.and_eq_true] at hok
    obtain ⟨v, h1, h2⟩ := resA_run hok.1 h (hne _ (by simp))
    obtain ⟨vs, h3, h4, h5⟩ := resAs_run h hok.2 (fun m hm => hne m (by simp [hm]))
    refine ⟨v :: vs, by simp [h3], fun i r2 v2 hi hv => ?_, .cons _ _ _ _ h2 h5⟩
    cases i with
    | zero => simp at hi hv; subst hi hv; exact h1
    | succ i => exact h4 i r2 v2 (by simpa using hi) (by simpa using hv)
  | [], _ :: _, hok, _ => by simp [okRes] at hok
  | _ :: _, [], hok, _ => by simp [okRes] at hok

theorem results_run {fn : Func} {tmps : Array Value} : ∀ {l : List ResultVar} {vs : List Value}, fn.results.toList = l → vs.length = l.length → l.length ≤ 4 →
    (∀ (i : Nat) (r : ResultVar) (v : Value), l[i]? = some r → vs[i]? = some v → (resA tmps r).run P w = .ok v w) →
    ∃ v, (results fn tmps).run P w = .ok v w ∧ ∀ {I J : Imm} {xs : List MV} {F : List Nat}, OwnL P I J w vs xs F → Own P I J w v (oneOr xs) F
  | [], [], h, _, _, hr => ⟨_, results_none (Array.ext' h) tmps P w, fun ho => by cases ho; exact .tup _ _ _ .nil⟩
  | [r], [v], h, _, _, hr => by
    have h1 := hr 0 r v rfl rfl
    refine ⟨v, ?_, fun ho => ?_⟩
    · rw [results_eq, show fn.results = #[r] from Array.ext' h]; simp [h1]
    · cases ho with
      | cons _ _ m ms F G h1 h2 => cases h2; simpa [oneOr] using h1
  | [r, r2], [v, v2], h, _, _, hr => by
    have h1 := hr 0 r v rfl rfl
    have h2 := hr 1 r2 v2 rfl rfl
    refine ⟨.tuple #[v, v2], ?_, fun ho => ?_⟩
    · rw [results_eq, show fn.results = #[r, r2] from Array.ext' h]; simp [h1, h2]
    · cases ho with
      | cons _ _ m ms F G h1 h2 =>
        cases h2 with
        | cons _ _ m2 ms2 F2 G2 h3 h4 => cases h4; exact .tup _ _ _ (.cons _ _ _ _ _ _ h1 (.cons _ _ _ _ _ _ h3 .nil))
  | [r, r2, r3], [v, v2, v3], h, _, _, hr => by
    have h1 := hr 0 r v rfl rfl
    have h2 := hr 1 r2 v2 rfl rfl
    have h3 := hr 2 r3 v3 rfl rfl
    refine ⟨.tuple #[v, v2, v3], ?_, fun ho => ?_⟩
    · rw [results_eq, show fn.results = #[r, r2, r3] from Array.ext' h]; simp [h1, h2, h3]
    · cases ho with
      | cons _ _ m ms F G h1 h2 =>
        cases h2 with
        | cons _ _ m2 ms2 F2 G2 h3 h4 =>
          cases h4 with
          | cons _ _ m3 ms3 F3 G3 h5 h6 => cases h6; exact .tup _ _ _ (.cons _ _ _ _ _ _ h1 (.cons _ _ _ _ _ _ h3 (.cons _ _ _ _ _ _ h5 .nil)))
  | [r, r2, r3, r4], [v, v2, v3, v4], h, _, _, hr => by
    have h1 := hr 0 r v rfl rfl
    have h2 := hr 1 r2 v2 rfl rfl
    have h3 := hr 2 r3 v3 rfl rfl
    have h4 := hr 3 r4 v4 rfl rfl
    refine ⟨.tuple #[v, v2, v3, v4], ?_, fun ho => ?_⟩
    · rw [results_eq, show fn.results = #[r, r2, r3, r4] from Array.ext' h]; simp [h1, h2, h3, h4]
    · cases ho with
      | cons _ _ m ms F G h1 h2 =>
        cases h2 with
        | cons _ _ m2 ms2 F2 G2 h3 h4 =>
          cases h4 with
          | cons _ _ m3 ms3 F3 G3 h5 h6 =>
            cases h6 with
            | cons _ _ m4 ms4 F4 G4 h7 h8 => cases h8; exact .tup _ _ _ (.cons _ _ _ _ _ _ h1 (.cons _ _ _ _ _ _ h3 (.cons _ _ _ _ _ _ h5 (.cons _ _ _ _ _ _ h7 .nil))))
  | _ :: _ :: _ :: _ :: _ :: _, _, _, _, h, _ => by simp at h
  | [_, _, _, _], [_, _, _], _, h, _, _ => by simp at h
  | [_, _, _, _], [_, _], _, h, _, _ => by simp at h
  | [_, _, _, _], [_], _, h, _, _ => by simp at h
  | [_, _, _, _], _ :: _ :: _ :: _ :: _ :: _, _, h, _, _ => by simp at h
  | [], _ :: _, _, h, _, _ => by simp at h
  | _ :: _, [], _, h, _, _ => by simp at h
  | [_], _ :: _ :: _, _, h, _, _ => by simp at h
  | [_, _], [_], _, h, _, _ => by simp at h
  | [_, _], _ :: _ :: _ :: _, _, h, _, _ => by simp at h
  | [_, _, _], [_], _, h, _, _ => by simp at h
  | [_, _, _], [_, _], _, h, _, _ => by simp at h
  | [_, _, _], _ :: _ :: _ :: _ :: _, _, h, _, _ => by simp at h

theorem okRes_length : ∀ {l : List ResultVar} {rs : List RSl}, okRes P l rs = true → l.length = rs.length
  | [], [], _ => rfl
  | _ :: l, _ :: rs, h => by simp only [okRes, Bool.and_eq_true] at h; simp [okRes_length h.2]
  | [], _ :: _, h => by simp [okRes] at h
  | _ :: _, [], h => by simp [okRes] at h

theorem exO_own {fx : List Nat} (h : Rel P N A w0 F0 J0 g s a w) : ∀ {n k : Nat} {us : List Value} {K : List MV → List Nat → Prop}, us.length = n → (∀ i, i < n → k + i ∈ fx → us[i]? = some (a.tmps.getD (k + i) undef)) → exO s fx k n K →
    ∃ os ids F, K os ids ∧ (∀ i ∈ ids, ∃ o, s.obj i = some o ∧ o.live = true) ∧ OwnL P g.J g.J w us os F ∧ F.Sublist (ids.flatMap (blk g s.hp)) := by
  intro n
  induction n with
  | zero => intro k us K hl _ hk; cases us with
    | nil => exact ⟨_, _, [], hk, by simp, .nil, by simp⟩
    | cons => simp at hl
  | succ n ih =>
    intro k us K hl hv hk
    cases us with
    | nil => simp at hl
    | cons u us =>
      have hl' : us.length = n := by simpa using hl
      have hv' : ∀ i, i < n → k + 1 + i ∈ fx → us[i]? = some (a.tmps.getD (k + 1 + i) undef) := fun i hi hm => by
        have := hv (i + 1) (by omega) (by rw [show k + (i + 1) = k + 1 + i by omega]; exact hm)
        rw [show k + (i + 1) = k + 1 + i by omega] at this
        simpa using this
      simp only [exO] at hk
      split at hk
      · rename_i hc
        have hu := hv 0 (by omega) (by simpa using hc)
        simp at hu
        have hr := h.val (x := .tmp k) (y := .t k) (by simp [okOpd])
        have : a.eval (.tmp k) = u := by rw [hu]; simp [Act.eval, Array.getD_eq_getD_getElem?]
        rw [this] at hr
        obtain ⟨x, ids, F, hk, l1, o1, s1⟩ := exM_own h.hp hr hk
        obtain ⟨xs, ids', G, hk, l2, o2, s2⟩ := ih hl' hv' hk
        exact ⟨_, _, _, hk, fun i hi => (List.mem_append.1 hi).elim (l1 i) (l2 i), .cons _ _ _ _ _ _ o1 o2, by rw [List.flatMap_append]; exact s1.append s2⟩
      · obtain ⟨xs, ids', G, hk, l2, o2, s2⟩ := ih hl' hv' hk
        exact ⟨_, _, _, hk, l2, .cons _ _ _ _ [] _ (.imm _ _ (.u _)) o2, s2⟩

theorem OwnL.len {I J : Imm} : ∀ {vs : List Value} {ms : List MV} {F : List Nat}, OwnL P I J w vs ms F → vs.length = ms.length
  | _, _, _, .nil => rfl
  | _, _, _, .cons _ _ _ _ _ _ _ hs => by simp [hs.len]

theorem MCall.of_code (hm : P.follows .mixedOrders = true) {f : FuncId} {fd : Func} {n : Nat} {fx : List Nat} {rs : List RSl} {m : MCode} {args : List MV} {Q : List MV → MV → Prop} (hf : P.funcs[f]? = some fd)
    (hok : okFn P fd n fx rs m = true) (hN : args.length ≤ n) (hrs : rs.length ≤ 4) (hw : mwp P m (retQ rs fx args.length Q) (entry args)) : MCall P f args Q := by
  simp only [okFn, Bool.and_eq_true, beq_iff_eq] at hok
  obtain ⟨⟨⟨h1, h2⟩, h3⟩, _⟩ := hok
  split at h3
  · rename_i c hc
    intro w J vs F hJ hnd ho
    refine calls_of_wp hf hc ?_
    rw [h1]
    refine wp_mono (mwp_sound (N := ⟨n, fx, fun t => vs.getD t undef⟩) hm m c _ _ _ w h3 (entry_St hN hJ hnd ho) hw) ?_
    have hlen : vs.toList.length = args.length := ho.len
    have fin : ∀ s a' w', St P ⟨n, fx, fun t => vs.getD t undef⟩ w F J s a' w' → retK rs fx args.length Q s → bodyPost P fd (fun e w' => ∃ v outs r J' G, e = .returned v ∧ Q outs r ∧ WExt w F w' ∧ (∀ b o, J b = some o → J' b = some o) ∧
        (∀ b o, J' b = some o → w'.heap[b]? = some o ∧ b ∉ G ∧ (J b = some o ∨ w.heap.size ≤ b ∨ b ∈ F)) ∧ G.Nodup ∧ (∀ b ∈ G, w.heap.size ≤ b ∨ b ∈ F) ∧
        OwnL P J' J' w' (v :: vs.toList) (r :: outs) G) .ret a' w' := by
      rintro s a' w' ⟨g, hr, hJg⟩ hk
      refine ⟨hr.defers, ?_⟩
      obtain ⟨rvs, hl1, hl2, hvs⟩ := resAs_run hr h2 (exMs_ne hk)
      obtain ⟨v, hv, hown⟩ := results_run (fn := fd) (l := fd.results.toList) rfl hl1 (by rw [okRes_length h2]; exact hrs) hl2
      refine ⟨v, hv, ?_⟩
      obtain ⟨xs, ids, G, hk, hl, ho', hsub⟩ := exMs_own hr.hp hvs hk
      obtain ⟨os, ids', G', ⟨hnd', hq⟩, hl', hos, hsub'⟩ := exO_own hr (us := vs.toList) hlen (fun i hi hm => by
        have h5 := hr.fix (0 + i) hm
        have hi' : i < vs.size := by rw [← Array.length_toList, hlen]; exact hi
        rw [h5]
        simp [Array.getD_eq_getD_getElem?, hi']) hk
      have hs := hsub.append hsub'
      rw [← List.flatMap_append] at hs
      have hlive : ∀ j ∈ ids ++ ids', ∃ o, look s.hp j = some o ∧ o.live = true := fun j hj => (List.mem_append.1 hj).elim (hl j) (hl' j)
      have hG : ∀ b ∈ G ++ G', ∃ id l o, look s.hp id = some o ∧ o.live = true ∧ g.inj id = some l ∧ b ∈ o.blks l := by
        intro b hb
        obtain ⟨id, hid, hb⟩ := List.mem_flatMap.1 (hs.subset hb)
        obtain ⟨l, o1, h1, h0, h2⟩ := mem_blk.1 hb
        obtain ⟨o, h3, h4⟩ := hlive id hid
        rw [h3] at h0; cases h0
        exact ⟨id, l, _, h3, h4, h1, h2⟩
      refine ⟨v, os, oneOr xs, g.J, G ++ G', rfl, hq, hr.hp.ext, hJg, fun b o x => ⟨hr.hp.imm b o (hr.hp.JI b o x), fun hb => ?_, hr.hp.Jf b o x⟩, hs.nodup (hr.hp.blks_nodup _ hnd' hlive), fun b hb => ?_, ?_⟩
      · obtain ⟨id, l, o', e1, e2, e3, e4⟩ := hG b hb
        have := hr.hp.disjB id o' l e1 e2 e3 b e4
        rw [hr.hp.JI _ _ x] at this; cases this
      · obtain ⟨id, l, o', e1, e2, e3, e4⟩ := hG b hb
        exact hr.hp.freshB id o' l e1 e2 e3 b e4
      · exact OwnL.cons _ _ _ _ _ _ (hown ho') hos
    intro e a' w' h
    cases e with
    | normal => obtain ⟨s, h4, h5⟩ := h; exact fin s a' w' h4 h5
    | exit id => obtain ⟨s, h4, h5⟩ := h; exact h5.elim
    | ret => obtain ⟨s, h4, h5⟩ := h; exact fin s a' w' h4 h5
    | goto l => exact h.elim
    | panic c => exact h.elim
    | outgrown => exact h.elim
  · cases h3

theorem callable_of {f : FuncId} {fd : Func} {n : Nat} {fx : List Nat} {rs : List RSl} {m : MCode} (hf : P.funcs[f]? = some fd) (hok : okFn P fd n fx rs m = true) : Callable P f := by
  simp only [okFn, Bool.and_eq_true, Bool.not_eq_true'] at hok
  obtain ⟨⟨_, h3⟩, h4⟩ := hok
  refine ⟨fd, hf, h4, ?_⟩
  cases hb : fd.body with
  | none => rw [hb] at h3; cases h3
  | some c => rfl

end
end Go.Fw
namespace Go.Fw
set_option linter.unusedVariables false
set_option linter.unusedSimpArgs false

/-- A word that is always turned: so that the rules of congruence below always count as used. -/
def zz : Nat := 0
theorem zz_eq : zz = 0 := (rfl)

/-- Two ways, by a truth value. -/
def guardK (x w : Bool) (A B : Prop) : Prop := (x = w → A) ∧ (x = (!w) → B)
@[congr] theorem guardK_congr {z : Nat} (hz : zz = z) {x x' w w' : Bool} {A B : Prop} (h : x = x') (hw : w = w') : guardK x w A B = guardK x' w' A B := by rw [h, hw]
theorem guardK_tt {A B : Prop} : guardK true true A B = A := by simp [guardK]
theorem guardK_ff {A B : Prop} : guardK false false A B = A := by simp [guardK]
theorem guardK_tf {A B : Prop} : guardK true false A B = B := by simp [guardK]
theorem guardK_ft {A B : Prop} : guardK false true A B = B := by simp [guardK]
theorem guardK_dt {p : Prop} [Decidable p] {A B : Prop} : guardK (decide p) true A B = ((p → A) ∧ (¬p → B)) := by simp [guardK]
theorem guardK_df {p : Prop} [Decidable p] {A B : Prop} : guardK (decide p) false A B = ((¬p → A) ∧ (p → B)) := by simp [guardK]
theorem guardK_nt {x : Bool} {A B : Prop} : guardK (!x) true A B = guardK x false A B := by cases x <;> simp [guardK]
theorem guardK_nf {x : Bool} {A B : Prop} : guardK (!x) false A B = guardK x true A B := by cases x <;> simp [guardK]
theorem guardK_mk {x w : Bool} {A B : Prop} (h1 : x = w → A) (h2 : x = (!w) → B) : guardK x w A B := ⟨h1, h2⟩

/- The same meanings as rigid words: Lean's kernel never opens them by itself. -/
inductive Wwp (P : Program) (c : MCode) (Q : Ex → MS → Prop) (s : MS) : Prop
  | mk (h : mwp P c Q s)
inductive Wops (P : Program) (l : List MOper) (n : Nat) (s : MS) (K : MS → Prop) : Prop
  | mk (h : mops P l n s K)
inductive Wtrace (P : Program) (l : List MOper) (n : Nat) (s : MS) (K : List Rec → MS → Prop) : Prop
  | mk (h : mtrace P l n s K)

section
variable {P : Program} {Q : Ex → MS → Prop} {s s' : MS}

theorem Wwp.eq {c} : Wwp P c Q s = mwp P c Q s := propext ⟨fun ⟨h⟩ => h, .mk⟩
theorem Wops.eq {l n K} : Wops P l n s K = mops P l n s K := propext ⟨fun ⟨h⟩ => h, .mk⟩
theorem Wtrace.eq {l n K} : Wtrace P l n s K = mtrace P l n s K := propext ⟨fun ⟨h⟩ => h, .mk⟩
theorem Wwp.fn {c} : Wwp P c Q = mwp P c Q := funext fun _ => Wwp.eq

@[congr] theorem Wwp_congr {z : Nat} (hz : zz = z) {c : MCode} (h : s = s') : Wwp P c Q s = Wwp P c Q s' := by rw [h]
@[congr] theorem Wops_congr {z : Nat} (hz : zz = z) {l : List MOper} {n n' : Nat} {K : MS → Prop} (h : s = s') (hn : n = n') : Wops P l n s K = Wops P l n' s' K := by rw [h, hn]
@[congr] theorem Wtrace_congr {z : Nat} (hz : zz = z) {l : List MOper} {n n' : Nat} {K : List Rec → MS → Prop} (h : s = s') (hn : n = n') : Wtrace P l n s K = Wtrace P l n' s' K := by rw [h, hn]
@[congr] theorem mop_congr {z : Nat} (hz : zz = z) {d : Bool} {o : MOp} {n n' : Nat} {K : MK} (h : s = s') (hn : n = n') : mop d P o n s K = mop d P o n' s' K := by rw [h, hn]
@[congr] theorem callK_congr {z : Nat} (hz : zz = z) {d : Bool} {f : FuncId} {xs xs' : List MV} {K : List MV → MV → Prop} (h : xs = xs') : callK d P f xs K = callK d P f xs' K := by rw [h]
@[congr] theorem thenM_congr {z : Nat} (hz : zz = z) {n : MS → Prop} {e : Ex} (h : s = s') : thenM n Q e s = thenM n Q e s' := by rw [h]
@[congr] theorem inBlockM_congr {z : Nat} (hz : zz = z) {n : Nat} {e : Ex} (h : s = s') : inBlockM n Q e s = inBlockM n Q e s' := by rw [h]

@[congr] theorem mstep_congr {z : Nat} (hz : zz = z) {o : MOper} {n n' : Nat} {K : Rec → Prop} (h : s = s') (hn : n = n') : mstep P o n s K = mstep P o n' s' K := by rw [h, hn]
@[congr] theorem argsK_congr {z : Nat} (hz : zz = z) {al : Bool} {os : List Mode} {ms ms' : List MV} {K : List MV → List Bk → List Nat → List Nat → Prop} (h : s = s') (hm : ms = ms') : argsK P s al os ms K = argsK P s' al os ms' K := by rw [h, hm]
@[congr] theorem argK_congr {z : Nat} (hz : zz = z) {al : Bool} {o : Mode} {m m' : MV} {K : MV → Bk → List Nat → Prop} (h : s = s') (hm : m = m') : argK s al o m K = argK s' al o m' K := by rw [h, hm]
@[congr] theorem lendC_congr {z : Nat} (hz : zz = z) {m m' : MV} {K : MV → Option Nat → List Nat → Prop} (h : s = s') (hm : m = m') : lendC s m K = lendC s' m' K := by rw [h, hm]
@[congr] theorem lendL_congr {z : Nat} (hz : zz = z) {m m' : List MV} {K : List MV → List (Option Nat) → List Nat → Prop} (h : s = s') (hm : m = m') : lendL s m K = lendL s' m' K := by rw [h, hm]
@[congr] theorem takeC_congr {z : Nat} (hz : zz = z) {al : Bool} {m m' : MV} {K : MV → List Nat → Prop} (h : s = s') (hm : m = m') : takeC s al m K = takeC s' al m' K := by rw [h, hm]
@[congr] theorem takeL_congr {z : Nat} (hz : zz = z) {al : Bool} {m m' : List MV} {K : List MV → List Nat → Prop} (h : s = s') (hm : m = m') : takeL s al m K = takeL s' al m' K := by rw [h, hm]
@[congr] theorem outK_congr {z : Nat} (hz : zz = z) {t t' : Bool} {is is' : List (Option Nat)} {ms ms' : List MV} {n n' : Nat} {K : Upd → Nat → Prop} (ht : t = t') (h : s = s') (hi : is = is') (hm : ms = ms') (hn : n = n') : outK t s is ms n K = outK t' s' is' ms' n' K := by rw [ht, h, hi, hm, hn]
@[congr] theorem bound_congr {z : Nat} (hz : zz = z) {d d' : Nat} {o : Option Opd} {K : Nat → Prop} (h : s = s') (hd : d = d') : bound s d o K = bound s' d' o K := by rw [h, hd]
@[congr] theorem buildC_congr {z : Nat} (hz : zz = z) {ps : List (Nat × Nat × Opd)} {cs cs' : List MV} {K : List MV → Prop} (h : s = s') (hc : cs = cs') : buildC s ps cs K = buildC s' ps cs' K := by rw [h, hc]
@[congr] theorem intBin_congr {z : Nat} (hz : zz = z) {op : BinOp} {k : IntKind} {a a' b b' : Int} {K : MV → Prop} (ha : a = a') (hb : b = b') : intBin op k a b K = intBin op k a' b' K := by rw [ha, hb]
@[congr] theorem exC_congr {z : Nat} (hz : zz = z) {m m' : MV} {K : MV → List Nat → Prop} (h : s = s') (hm : m = m') : exC s m K = exC s' m' K := by rw [h, hm]
@[congr] theorem exM_congr {z : Nat} (hz : zz = z) {m m' : MV} {K : MV → List Nat → Prop} (h : s = s') (hm : m = m') : exM s m K = exM s' m' K := by rw [h, hm]
@[congr] theorem exL_congr {z : Nat} (hz : zz = z) {m m' : List MV} {K : List MV → List Nat → Prop} (h : s = s') (hm : m = m') : exL s m K = exL s' m' K := by rw [h, hm]
@[congr] theorem exO_congr {z : Nat} (hz : zz = z) {fx : List Nat} {k k' n n' : Nat} {K : List MV → List Nat → Prop} (h : s = s') (hk : k = k') (hn : n = n') : exO s fx k n K = exO s' fx k' n' K := by rw [h, hk, hn]
@[congr] theorem exMs_congr {z : Nat} (hz : zz = z) {m m' : List MV} {K : List MV → List Nat → Prop} (h : s = s') (hm : m = m') : exMs s m K = exMs s' m' K := by rw [h, hm]
@[congr] theorem getK_congr {z : Nat} (hz : zz = z) {es es' : List (List D)} {i i' : Nat} {K : List D → Prop} (h : es = es') (hi : i = i') : getK es i K = getK es' i' K := by rw [h, hi]
@[congr] theorem okTrace_congr {z : Nat} (hz : zz = z) {bs : List Nat} {i : Nat} {l : List Rec} : okTrace bs i l = okTrace bs i l := (rfl)


theorem thenM_n {n : MS → Prop} : thenM n Q .normal s = n s := (rfl)
theorem thenM_e {n : MS → Prop} {id} : thenM n Q (.exit id) s = Q (.exit id) s := (rfl)
theorem thenM_r {n : MS → Prop} : thenM n Q .ret s = Q .ret s := (rfl)
theorem inBlockM_n {n : Nat} : inBlockM n Q .normal s = Q .normal s := (rfl)
theorem inBlockM_e {n id : Nat} : inBlockM n Q (.exit id) s = if id = n then Q .normal s else Q (.exit id) s := (rfl)
theorem inBlockM_r {n : Nat} : inBlockM n Q .ret s = Q .ret s := (rfl)
theorem retQ_n {rs fx n} {Q : List MV → MV → Prop} : retQ rs fx n Q .normal s = retK rs fx n Q s := (rfl)
theorem retQ_r {rs fx n} {Q : List MV → MV → Prop} : retQ rs fx n Q .ret s = retK rs fx n Q s := (rfl)

variable {fr : List (Nat × MV)} {hp : List (Nat × MO)} {nx : Nat}
/- The rules of walking stand for states that are written out. -/
theorem app_nil {t m} : MS.app ⟨fr, hp, nx⟩ (some t) m [] = ⟨put fr t m, hp, nx⟩ := (rfl)
theorem app_none {m} : MS.app ⟨fr, hp, nx⟩ none m [] = ⟨fr, hp, nx⟩ := (rfl)
theorem app_put {d m id o u} : MS.app ⟨fr, hp, nx⟩ d m ((id, some o) :: u) = MS.app ⟨fr, put hp id o, nx⟩ d m u := (rfl)
theorem app_del {d m id u} : MS.app ⟨fr, hp, nx⟩ d m ((id, none) :: u) = MS.app ⟨fr, del hp id, nx⟩ d m u := (rfl)
theorem set_some {t m} : MS.set ⟨fr, hp, nx⟩ (some t) m = ⟨put fr t m, hp, nx⟩ := (rfl)
theorem set_none {m} : MS.set ⟨fr, hp, nx⟩ none m = ⟨fr, hp, nx⟩ := (rfl)
theorem know_t {t x} : MS.know ⟨fr, hp, nx⟩ (.t t) x = ⟨put fr t (.b x), hp, nx⟩ := (rfl)
theorem know_v {m x} : MS.know ⟨fr, hp, nx⟩ (.v m) x = ⟨fr, hp, nx⟩ := (rfl)
theorem keep_mk {live n} : keep live n ⟨fr, hp, nx⟩ = ⟨keepFr fr live, hp, n⟩ := (rfl)
theorem did_mk {d v u rs ids} : MS.did s ⟨d, v, u, rs, ids⟩ = s.app d v u := (rfl)

theorem mwp_skip : Wwp P .skip Q ⟨fr, hp, nx⟩ = Q .normal ⟨fr, hp, nx⟩ := Wwp.eq
theorem mwp_reg {ms live} : Wwp P (.reg ms live) Q ⟨fr, hp, nx⟩ = Wops P ms nx ⟨fr, hp, nx⟩ fun s' => Q .normal (keep live (nx + 64 * ms.length) s') := by rw [Wwp.eq, Wops.eq]; rfl
theorem mwp_draws {bs ms ms2 live} : Wwp P (.draws bs ms ms2 live) Q ⟨fr, hp, nx⟩ = Wtrace P ms nx ⟨fr, hp, nx⟩ fun rs s' => okTrace bs 0 rs = true ∧ Wops P ms2 (nx + 64 * ms.length) s' fun s'' => Q .normal (keep live (nx + 64 * (ms.length + ms2.length)) s'') := by simp only [Wwp.eq, Wtrace.eq, Wops.eq]; rfl
theorem mwp_draw {bs ms live} : Wwp P (.draw bs ms live) Q ⟨fr, hp, nx⟩ = Wtrace P ms nx ⟨fr, hp, nx⟩ fun rs s' => okTrace bs 0 rs = true ∧ Q .normal (keep live (nx + 64 * ms.length) s') := by rw [Wwp.eq, Wtrace.eq]; rfl
theorem mwp_seq {a b} : Wwp P (.seq a b) Q ⟨fr, hp, nx⟩ = Wwp P a (thenM (Wwp P b Q) Q) ⟨fr, hp, nx⟩ := by rw [Wwp.eq, Wwp.eq, Wwp.fn]; rfl
theorem mwp_cond {c a b} : Wwp P (.cond c a b) Q ⟨fr, hp, nx⟩ = match MS.val ⟨fr, hp, nx⟩ c with | .b x => guardK x true (Wwp P a Q (MS.know ⟨fr, hp, nx⟩ c true)) (Wwp P b Q (MS.know ⟨fr, hp, nx⟩ c false)) | _ => False := by
  rw [Wwp.eq]; simp only [Wwp.fn]; rfl
theorem mwp_block {id b} : Wwp P (.block id b) Q ⟨fr, hp, nx⟩ = Wwp P b (inBlockM id Q) ⟨fr, hp, nx⟩ := by rw [Wwp.eq, Wwp.eq]; rfl
theorem mwp_exit {id} : Wwp P (.exit id) Q ⟨fr, hp, nx⟩ = Q (.exit id) ⟨fr, hp, nx⟩ := Wwp.eq
theorem mwp_ret : Wwp P .ret Q ⟨fr, hp, nx⟩ = Q .ret ⟨fr, hp, nx⟩ := Wwp.eq

theorem mops_nil {n K} : Wops P [] n ⟨fr, hp, nx⟩ K = K ⟨fr, hp, nx⟩ := Wops.eq
theorem mops_cons {d o r n K} : Wops P (⟨d, none, o⟩ :: r) n ⟨fr, hp, nx⟩ K = mop false P o n ⟨fr, hp, nx⟩ fun m u _ => Wops P r (n + 64) (MS.app ⟨fr, hp, nx⟩ d m u) K := by
  rw [Wops.eq]; simp only [Wops.eq]; rfl
theorem mops_guard {d g want o r n K} : Wops P (⟨d, some (g, want), o⟩ :: r) n ⟨fr, hp, nx⟩ K =
    match MS.val ⟨fr, hp, nx⟩ (.t g) with
    | .b x => guardK x want (mop false P o n (MS.set ⟨fr, hp, nx⟩ (some g) (.b want)) fun m u _ => Wops P r (n + 64) (MS.app (MS.set ⟨fr, hp, nx⟩ (some g) (.b want)) d m u) K)
        (Wops P r (n + 64) (MS.set (MS.set ⟨fr, hp, nx⟩ (some g) (.b (!want))) d .un) K)
    | .un => Wops P r (n + 64) (MS.set ⟨fr, hp, nx⟩ d .un) K
    | _ => False := by
  rw [Wops.eq]; simp only [Wops.eq]; rfl
theorem mtrace_nil {n K} : Wtrace P [] n ⟨fr, hp, nx⟩ K = K [] ⟨fr, hp, nx⟩ := Wtrace.eq
theorem mtrace_cons {d o r n K} : Wtrace P (⟨d, none, o⟩ :: r) n ⟨fr, hp, nx⟩ K =
    mop true P o n ⟨fr, hp, nx⟩ fun m u rd => Wtrace P r (n + 64) (MS.did ⟨fr, hp, nx⟩ ⟨d, m, u, o.slots, rd ++ u.map (·.1)⟩) fun rs s' => K (⟨d, m, u, o.slots, rd ++ u.map (·.1)⟩ :: rs) s' := by
  rw [Wtrace.eq]; simp only [Wtrace.eq]; rfl
theorem mtrace_guard {d g want o r n K} : Wtrace P (⟨d, some (g, want), o⟩ :: r) n ⟨fr, hp, nx⟩ K =
    match MS.val ⟨fr, hp, nx⟩ (.t g) with
    | .b x => guardK x want (mop true P o n ⟨fr, hp, nx⟩ fun m u rd => Wtrace P r (n + 64) (MS.did ⟨fr, hp, nx⟩ ⟨d, m, u, g :: o.slots, rd ++ u.map (·.1)⟩) fun rs s' => K (⟨d, m, u, g :: o.slots, rd ++ u.map (·.1)⟩ :: rs) s')
        (Wtrace P r (n + 64) (MS.did ⟨fr, hp, nx⟩ ⟨d, .un, [], [g], []⟩) fun rs s' => K (⟨d, .un, [], [g], []⟩ :: rs) s')
    | .un => Wtrace P r (n + 64) (MS.did ⟨fr, hp, nx⟩ ⟨d, .un, [], [g], []⟩) fun rs s' => K (⟨d, .un, [], [g], []⟩ :: rs) s'
    | _ => False := by
  rw [Wtrace.eq]; simp only [Wtrace.eq]; rfl

theorem mopR_mov {det : Bool} {n : Nat} {s : MS} {K : MK} {x} : mop det P (.mov x) n s K = K (s.val x) [] [] := (rfl)
theorem mopR_pick {det : Bool} {n : Nat} {s : MS} {K : MK} {c} {a} {b} : mop det P (.pick c a b) n s K =
    match s.val c with
    | .b x => if x then K (s.val a) [] [] else K (s.val b) [] []
    | _ => False := (rfl)
theorem mopR_box {det : Bool} {n : Nat} {s : MS} {K : MK} {k} {x} : mop det P (.box k x) n s K =
    match (s.val x).cells with
    | some cs => cs.length = k ∧ K (.pr n 0 0) [(n, some (.box cs))] []
    | none => False := (rfl)
theorem mopR_alloc {det : Bool} {n : Nat} {s : MS} {K : MK} {cs} : mop det P (.alloc cs) n s K = K (.pr n 0 0) [(n, some (.box cs))] [] := (rfl)
theorem mopR_build {det : Bool} {n : Nat} {s : MS} {K : MK} {zero} {parts} : mop det P (.build zero parts) n s K = buildC s parts zero fun cs => K (.agg cs) [] [] := (rfl)
theorem mopR_buildSlice {det : Bool} {n : Nat} {s : MS} {K : MK} {k} {parts} : mop det P (.buildSlice k parts) n s K =
    match rowsV s k parts with
    | some (t, es, u) => K (.sr n 0 parts.length) (u ++ [(n, some (.arr t k es))]) (parts.flatMap fun x => srs (((s.val x).cells).getD []))
    | none => False := (rfl)
theorem mopR_load {det : Bool} {n : Nat} {s : MS} {K : MK} {ag} {k} {x} : mop det P (.load ag k x) n s K =
    match s.val x with
    | .pr id i off =>
      match s.obj id with
      | some (.arr t k' es) | some (.fz t k' es) => i < es.length ∧ off + k ≤ k' ∧ getK es i fun e => K (chunkVal ag k off (e.map (ofD t))) [] [id]
      | some (.box cs) => i = 0 ∧ off + k ≤ cs.length ∧ K (chunkVal ag k off cs) [] [id]
      | _ => False
    | .pd t cs off => off + k ≤ cs.length ∧ K (chunkVal ag k off (cs.map (ofD t))) [] []
    | .pf d φ => ag = false ∧ K (.fn d φ) [] []
    | _ => False := (rfl)
theorem mopR_store {det : Bool} {n : Nat} {s : MS} {K : MK} {k} {a} {x} : mop det P (.store k a x) n s K =
    match s.val a, (s.val x).cells with
    | .pr id i off, some xs =>
      xs.length = k ∧
      match s.obj id with
      | some (.arr t k' es) =>
        match toDs s xs with
        | some (t', ds, u) => (∀ x ∈ u, x.1 ≠ id) ∧ i < es.length ∧ off + k ≤ k' ∧ getK es i fun e => K .un (u ++ [(id, some (.arr (t && t') k' (es.set i (splice e off ds))))]) (id :: srs xs)
        | none => False
      | some (.box cs) => i = 0 ∧ off + k ≤ cs.length ∧ K .un [(id, some (.box (splice cs off xs)))] [id]
      | _ => False
    | _, _ => False := (rfl)
theorem mopR_nilCheck {det : Bool} {n : Nat} {s : MS} {K : MK} {x} : mop det P (.nilCheck x) n s K =
    match s.val x with
    | .pr id i off => K (.pr id i off) [] []
    | .pd t cs off => K (.pd t cs off) [] []
    | .clo f a b => K (.clo f a b) [] []
    | .fn d φ => K (.fn d φ) [] []
    | _ => False := (rfl)
theorem mopR_bin {det : Bool} {n : Nat} {s : MS} {K : MK} {op} {x} {y} : mop det P (.bin op x y) n s K =
    match s.val x, s.val y with
    | .i k a, .i k' b => (k' = k ∨ op = .shl ∨ op = .shr) ∧ intBin op k a b fun m => K m [] []
    | _, _ => False := (rfl)
theorem mopR_binb {det : Bool} {n : Nat} {s : MS} {K : MK} {neg} {x} {y} : mop det P (.binb neg x y) n s K =
    match s.val x, s.val y with
    | .b a, .b b => K (.b (if neg then !(a == b) else (a == b))) [] []
    | _, _ => False := (rfl)
theorem mopR_nilq {det : Bool} {n : Nat} {s : MS} {K : MK} {neg} {x} : mop det P (.nilq neg x) n s K =
    match sliceOf s (s.val x) with
    | some (_, _, es, rs) => (es = [] → K (.b (!neg)) [] rs) ∧ K (.b neg) [] rs
    | none => False := (rfl)
theorem mopR_eqAgg {det : Bool} {n : Nat} {s : MS} {K : MK} {neg} {sig} {x} {y} : mop det P (.eqAgg neg sig x y) n s K =
    match s.val x, s.val y with
    | .agg as, .agg bs =>
      match eqCells as bs with
      | some b => sigOK sig as = true ∧ sigOK sig bs = true ∧ K (.b (if neg then !b else b)) [] []
      | _ => False
    | _, _ => False := (rfl)
theorem mopR_un {det : Bool} {n : Nat} {s : MS} {K : MK} {op} {x} : mop det P (.un op x) n s K =
    match op, s.val x with
    | .not, .b a => K (.b (!a)) [] []
    | .neg, .i k a => Fits k (-a) ∧ K (.i k (-a)) [] []
    | _, _ => False := (rfl)
theorem mopR_conv {det : Bool} {n : Nat} {s : MS} {K : MK} {dst} {x} : mop det P (.conv dst x) n s K =
    match s.val x with
    | .i _ a => Fits dst a ∧ K (.i dst a) [] []
    | _ => False := (rfl)
theorem mopR_makeSlice {det : Bool} {n : Nat} {s : MS} {K : MK} {k} {bytes} {zero} {l} {c} : mop det P (.makeSlice k bytes zero l c) n s K =
    match s.val l, s.val c with
    | .i _ a, .i _ b => a = b ∧ 0 ≤ a ∧ a * bytes ≤ 140737488355328 ∧ K (.sr n 0 a.toNat) [(n, some (.arr true k (List.replicate a.toNat zero)))] []
    | _, _ => False := (rfl)
theorem mopR_slice {det : Bool} {n : Nat} {s : MS} {K : MK} {k} {x} {lo} {hi} : mop det P (.slice k x lo hi) n s K =
    match s.val x with
    | .sr id off len =>
      match s.obj id with
      | some (.arr _ k' _) | some (.fz _ k' _) => k' = k ∧ bound s 0 lo fun l => bound s len hi fun h => l ≤ h ∧ h ≤ len ∧ K (.sr id (off + l) (h - l)) [] [id]
      | some (.rm _ k' _ C) => k' = k ∧ 0 < len ∧ bound s 0 lo fun l => bound s len hi fun h => l ≤ h ∧ off + h ≤ C ∧ K (.sr id (off + l) (h - l)) [] [id]
      | _ => False
    | .s t k' es => k' = k ∧ bound s 0 lo fun l => bound s es.length hi fun h => l ≤ h ∧ h ≤ es.length ∧ K (.s t k ((es.drop l).take (h - l))) [] []
    | .nl k' => bound s 0 lo fun l => bound s 0 hi fun h => l = 0 ∧ h = 0 ∧ K (.nl k') [] []
    | _ => False := (rfl)
theorem mopR_fieldAddr {det : Bool} {n : Nat} {s : MS} {K : MK} {off} {x} : mop det P (.fieldAddr off x) n s K =
    match s.val x with
    | .pr id i o => K (.pr id i (o + off)) [] []
    | .pd t cs o => K (.pd t cs (o + off)) [] []
    | _ => False := (rfl)
theorem mopR_field {det : Bool} {n : Nat} {s : MS} {K : MK} {ag} {k} {off} {x} : mop det P (.field ag k off x) n s K =
    match s.val x with
    | .agg cs => off + k ≤ cs.length ∧ K (chunkVal ag k off cs) [] []
    | _ => False := (rfl)
theorem mopR_indexAddr {det : Bool} {n : Nat} {s : MS} {K : MK} {k} {x} {y} : mop det P (.indexAddr k x y) n s K =
    match s.val x, s.val y with
    | .sr id off len, .i _ a =>
      match s.obj id with
      | some (.arr _ k' _) | some (.fz _ k' _) => k' = k ∧ 0 ≤ a ∧ a < len ∧ K (.pr id (off + a.toNat) 0) [] [id]
      | _ => False
    | .s t k' es, .i _ a => k' = k ∧ 0 ≤ a ∧ a < es.length ∧ getK es a.toNat fun e => K (.pd t e 0) [] []
    | _, _ => False := (rfl)
theorem mopR_arrAddr {det : Bool} {n : Nat} {s : MS} {K : MK} {len} {k} {x} {y} : mop det P (.arrAddr len k x y) n s K =
    match s.val x, s.val y with
    | .pr id i o, .i _ a => 0 ≤ a ∧ a < len ∧ K (.pr id i (o + a.toNat * k)) [] []
    | .pd t cs o, .i _ a => 0 ≤ a ∧ a < len ∧ K (.pd t cs (o + a.toNat * k)) [] []
    | _, _ => False := (rfl)
theorem mopR_arrIndex {det : Bool} {n : Nat} {s : MS} {K : MK} {ag} {len} {k} {x} {y} : mop det P (.arrIndex ag len k x y) n s K =
    match s.val x, s.val y with
    | .agg cs, .i _ a => 0 ≤ a ∧ a < len ∧ a.toNat * k + k ≤ cs.length ∧ K (chunkVal ag k (a.toNat * k) cs) [] []
    | _, _ => False := (rfl)
theorem mopR_extract {det : Bool} {n : Nat} {s : MS} {K : MK} {x} {i} : mop det P (.extract x i) n s K =
    match s.val x with
    | .tup vs => i < vs.length ∧ K (vs.getD i .u) [] []
    | _ => False := (rfl)
theorem mopR_len {det : Bool} {n : Nat} {s : MS} {K : MK} {x} : mop det P (.len x) n s K =
    match s.val x with
    | .sr _ _ len => K (.i .i64 len) [] []
    | .s _ _ es => K (.i .i64 es.length) [] []
    | .nl _ => K (.i .i64 0) [] []
    | .sn _ _ len => K (.i .i64 len) [] []
    | _ => False := (rfl)
theorem mopR_append {det : Bool} {n : Nat} {s : MS} {K : MK} {k} {bytes} {drop} {x} {y} : mop det P (.append k bytes drop x y) n s K =
    match sliceOf s (s.val y) with
    | some (t', k', ys, rs) =>
      k' = k ∧
      match s.val x with
      | .nl _ => (ys.length : Int) * bytes ≤ 140737488355328 ∧ K (.sr n 0 ys.length) ((if drop then rs.map (·, none) else []) ++ [(n, some (.arr t' k ys))]) rs
      | .sr id off len =>
        match s.obj id with
        | some (.arr t k'' es) => k'' = k ∧ ((((es.drop off).take len).length + ys.length : Nat) : Int) * bytes ≤ 140737488355328 ∧ off + len ≤ es.length ∧
            K (.sr n 0 (((es.drop off).take len).length + ys.length)) ((id, none) :: (if drop then rs.map (·, none) else []) ++ [(n, some (.arr (t && t') k ((es.drop off).take len ++ ys)))]) (id :: rs)
        | some (.rm t k'' es C) => k'' = k ∧ ((((es.drop off).take len).length + ys.length : Nat) : Int) * bytes ≤ 140737488355328 ∧ off + len ≤ es.length ∧ C < off + len + ys.length ∧
            K (.sr n 0 (((es.drop off).take len).length + ys.length)) ((if drop then rs.map (·, none) else []) ++ [(n, some (.arr (t && t') k ((es.drop off).take len ++ ys)))]) (id :: rs)
        | _ => False
      | _ => False
    | none => False := (rfl)
theorem mopR_minmax {det : Bool} {n : Nat} {s : MS} {K : MK} {mx} {x} {y} : mop det P (.minmax mx x y) n s K =
    match s.val x, s.val y with
    | .i k a, .i k' b => k' = k ∧ K (.i k (if mx then max a b else min a b)) [] []
    | _, _ => False := (rfl)
theorem mopR_call {det : Bool} {n : Nat} {s : MS} {K : MK} {f} {al} {ms} {args} : mop det P (.call f al ms args) n s K =
    argsK P s al ms (args.map s.val) fun xs is gs rs =>
      gs.Nodup ∧ (∀ i ∈ rs, i ∉ gs) ∧
      callK det P f xs fun outs r => outK (!al) s (flatI is) (flatO is outs) n fun u n1 =>
        let x := imp (some (!al)) 4 r n1
        x.2.2 ≤ n + 64 ∧ K x.1 (gs.map (·, none) ++ u ++ x.2.1.map (fun y => (y.1, some y.2))) (gs ++ rs) := (rfl)
theorem mopR_callv {det : Bool} {n : Nat} {s : MS} {K : MK} {f} {args} : mop det P (.callv f args) n s K =
    match s.val f, mapO flatM (args.map s.val) with
    | .fn dom φ, some xs => dom xs ∧ K (φ xs).mv [] []
    | .clo f first caps, some xs =>
      ∃ dom φ, FnOk P s f first caps dom φ ∧ dom xs ∧ K (φ xs).mv [] (readsM s (.clo f first caps))
    | _, _ => False := (rfl)
theorem mopR_mkfn {det : Bool} {n : Nat} {s : MS} {K : MK} {f} {first} {caps} : mop det P (.mkfn f first caps) n s K = K (.clo f (first.map s.val) (caps.map s.val)) [] [] := (rfl)

theorem mopR_cap {det : Bool} {n : Nat} {s : MS} {K : MK} {x} : mop det P (.cap x) n s K =
    match s.val x with
    | .sr id off len =>
      match s.obj id with
      | some (.arr t k es) => 0 < len ∧ ∀ c : Nat, len ≤ c → es.length ≤ off + c → K (.i .i64 c) [(id, some (.rm t k es (off + c)))] [id]
      | _ => False
    | .nl _ => K (.i .i64 0) [] []
    | _ => False := (rfl)
theorem mopR_copy {det : Bool} {n : Nat} {s : MS} {K : MK} {k x y} : mop det P (.copy k x y) n s K =
    match s.val x, lenV s (s.val y) with
    | .sr id off len, some m =>
      match s.obj id with
      | some (.arr t k' es) | some (.rm t k' es _) =>
        match prefOf s (min m len) (s.val y) with
        | some (t', k'', ys, rs) => k' = k ∧ k'' = k ∧ off ≤ es.length ∧ K (.i .i64 (min m len : Nat)) [(id, some (.arr (t && t') k (overR es off ys)))] (id :: rs)
        | none => False
      | _ => False
    | _, _ => False := (rfl)
theorem mopR_clear {det : Bool} {n : Nat} {s : MS} {K : MK} {k zero x} : mop det P (.clear k zero x) n s K =
    match s.val x with
    | .sr id off len =>
      match s.obj id with
      | some (.arr t k' es) => k' = k ∧ off + len ≤ es.length ∧ K (.tup []) [(id, some (.arr t k (overR es off (List.replicate len zero))))] [id]
      | _ => False
    | _ => False := (rfl)
theorem mopR_appendMk {det : Bool} {n : Nat} {s : MS} {K : MK} {k bytes zero x y} : mop det P (.appendMk k bytes zero x y) n s K =
    match s.val x, s.val y with
    | .sr id off len, .i _ m =>
      match s.obj id with
      | some (.rm t k' es C) => k' = k ∧ 0 < m ∧ off + len ≤ es.length ∧ C < off + len + m.toNat ∧ ((len + m.toNat : Nat) : Int) * bytes ≤ 140737488355328 ∧
          K (.sr n 0 (len + m.toNat)) [(n, some (.arr t k ((es.drop off).take len ++ List.replicate m.toNat zero)))] [id]
      | _ => False
    | .nl _, .i _ m => 0 < m ∧ (m.toNat : Int) * bytes ≤ 140737488355328 ∧ K (.sr n 0 m.toNat) [(n, some (.arr true k (List.replicate m.toNat zero)))] []
    | _, _ => False := (rfl)
theorem mopR_overlaps {det : Bool} {n : Nat} {s : MS} {K : MK} {f x y} : mop det P (.overlaps f x y) n s K =
    match s.val x, s.val y with
    | .sr id _ len, .sr id' _ len' =>
      match s.obj id, s.obj id' with
      | some o, some o' => OvOK P f ∧ 0 < len ∧ 0 < len' ∧ hasRow o = true ∧ hasRow o' = true ∧ id ≠ id' ∧ K (.b false) [] [id, id']
      | _, _ => False
    | _, _ => False := (rfl)

theorem mopR_sliceHd {det : Bool} {n : Nat} {s : MS} {K : MK} {k} {x} {hi} : mop det P (.sliceHd k x hi) n s K =
    match s.val x with
    | .sr id off len =>
      match s.obj id with
      | some (.arr _ k' _) => k' = k ∧ 0 < len ∧ bound s len hi fun h => h ≤ len ∧ K (.sn id off h) [] [id]
      | _ => False
    | _ => False := (rfl)
theorem mopR_sliceUp {det : Bool} {n : Nat} {s : MS} {K : MK} {k} {x} {lo} {hi} : mop det P (.sliceUp k x lo hi) n s K =
    match s.val x with
    | .sn id off len =>
      match s.obj id with
      | some (.arr _ k' es) => k' = k ∧ bound s 0 lo fun l => bound s len hi fun h => l ≤ h ∧ off + h ≤ es.length ∧ K (.sr id (off + l) (h - l)) [] [id]
      | _ => False
    | _ => False := (rfl)
theorem mopR_sliceTr {det : Bool} {n : Nat} {s : MS} {K : MK} {k} {x} {hi} : mop det P (.sliceTr k x hi) n s K =
    match s.val x with
    | .sr id off len =>
      match s.obj id with
      | some (.arr t k' es) => k' = k ∧ off = 0 ∧ 0 < len ∧ len = es.length ∧ bound s len hi fun h => h ≤ len ∧ K (.sr id 0 h) [(id, some (.arr t k' (es.take h)))] [id]
      | _ => False
    | _ => False := (rfl)
theorem mopR_dead {det : Bool} {n : Nat} {s : MS} {K : MK} : mop det P .dead n s K = False := (rfl)
theorem mopR_nestNil {det : Bool} {n : Nat} {s : MS} {K : MK} {k} : mop det P (.nestNil k) n s K = K (.sr n 0 0) [(n, some (.nst [] k []))] [] := (rfl)
theorem mopR_boxRow {det : Bool} {n : Nat} {s : MS} {K : MK} {x} : mop det P (.boxRow x) n s K =
    match s.val x with
    | .sr id off len => K (.sr n 0 1) [(n, some (.box [.sr id off len]))] []
    | _ => False := (rfl)
theorem mopR_appendRow {det : Bool} {n : Nat} {s : MS} {K : MK} {bytes} {x} {y} : mop det P (.appendRow bytes x y) n s K =
    match s.val x, s.val y with
    | .sr id off len, .sr bid boff 1 =>
      match s.obj id, s.obj bid with
      | some (.nst hs k ess), some (.box [.sr cid coff m]) =>
        match s.obj cid with
        | some (.arr _ k' es) => k' = k ∧ off = 0 ∧ len = ess.length ∧ boff = 0 ∧ coff = 0 ∧ m = es.length ∧ Flat es ∧ ((len + 1 : Nat) : Int) * bytes ≤ 140737488355328 ∧
            ∀ h, K (.sr n 0 (len + 1)) [(id, none), (bid, none), (cid, none), (n, some (.nst (hs ++ [h]) k (ess ++ [es]))), (cid, some (.al (some n) ess.length))] [id, bid, cid]
        | _ => False
      | _, _ => False
    | _, _ => False := (rfl)
theorem mopR_rowAddr {det : Bool} {n : Nat} {s : MS} {K : MK} {x} {y} : mop det P (.rowAddr x y) n s K =
    match s.val x, s.val y with
    | .sr id off len, .i _ a =>
      match s.obj id with
      | some (.nst _ _ ess) => off = 0 ∧ len = ess.length ∧ 0 ≤ a ∧ a < len ∧ K (.pr id a.toNat 0) [] [id]
      | _ => False
    | _, _ => False := (rfl)
theorem mopR_rowLoad {det : Bool} {n : Nat} {s : MS} {K : MK} {x} : mop det P (.rowLoad x) n s K =
    match s.val x with
    | .pr id i off =>
      match s.obj id with
      | some (.nst _ _ ess) => off = 0 ∧ i < ess.length ∧ ∀ h, K (.nr h id i) [] [id]
      | _ => False
    | _ => False := (rfl)
theorem mopR_callRow {det : Bool} {n : Nat} {s : MS} {K : MK} {f} {x} {y} : mop det P (.callRow f x y) n s K =
    match s.val x, s.val y with
    | .nr _ id i, .i .i64 a =>
      match s.obj id with
      | some (.nst hs k ess) => i < ess.length ∧ ∀ es, ess[i]? = some es → ∃ (es' : List (List D)) (r : Int), MCall P f [.ow true k es, .i .i64 a] (fun o r' => o = [.ow true k es', .u] ∧ r' = .i .i64 r) ∧ Flat es' ∧
          K (.i .i64 r) [(id, some (.nst hs k (ess.set i es')))] [id]
      | _ => False
    | _, _ => False := (rfl)
theorem mopR_strIdx {det : Bool} {n : Nat} {s : MS} {K : MK} {bs} {y} : mop det P (.strIdx bs y) n s K =
    match s.val y with
    | .i _ a => 0 ≤ a ∧ a < bs.length ∧ K (.i .u8 (bs.getD a.toNat 0 : Nat)) [] []
    | _ => False := (rfl)
theorem mopR_slice3 {det : Bool} {n : Nat} {s : MS} {K : MK} {x} {lo} {hi} {mx} : mop det P (.slice3 x lo hi mx) n s K =
    match s.val x with
    | .sr _ _ len => bound s 0 lo fun l => bound s len hi fun h => bound s len mx fun m => l ≤ h ∧ h ≤ m ∧ m ≤ len ∧ K .u [] []
    | _ => False := (rfl)
theorem mopR_appendIn {det : Bool} {n : Nat} {s : MS} {K : MK} {k} {x} {y} : mop det P (.appendIn k x y) n s K =
    match sliceOf s (s.val y) with
    | some (t', k', ys, rs) =>
      match s.val x with
      | .sn id off len =>
        match s.obj id with
        | some (.arr t k'' es) => k' = k ∧ k'' = k ∧ off + len + ys.length ≤ es.length ∧ K (.sn id off (len + ys.length)) [(id, some (.arr (t && t') k (overR es (off + len) ys)))] (id :: rs)
        | _ => False
      | _ => False
    | none => False := (rfl)

theorem MCall.run (hm : P.follows .mixedOrders = true) {f : FuncId} {fd : Func} {n : Nat} {fx : List Nat} {rs : List RSl} {m : MCode} {args : List MV} {Q : List MV → MV → Prop} (hf : P.funcs[f]? = some fd)
    (hok : okFn P fd n fx rs m = true) (hN : args.length ≤ n) (hrs : rs.length ≤ 4) (hw : Wwp P m (retQ rs fx args.length Q) (entry args)) : MCall P f args Q := MCall.of_code hm hf hok hN hrs (Wwp.eq ▸ hw)

/-- A loop: what holds ahead of every round. -/
theorem mwp_loop {live b} {X : Type} (mk : X → MS) (ok : X → Prop) (μ : X → Nat) (x0 : X) (h0 : norm live s = mk x0) (h1 : ok x0)
    (h : ∀ x, ok x → Wwp P b (thenM (fun s' => ∃ x', norm live s' = mk x' ∧ ok x' ∧ μ x' < μ x) Q) (mk x)) : Wwp P (.loop live b) Q s :=
  .mk ⟨X, mk, ok, μ, ⟨x0, h0, h1⟩, fun x hx => Wwp.eq ▸ h x hx⟩
/-- The same; what follows a round stands behind a variable. -/
theorem mwp_loopk {live b} {X : Type} (mk : X → MS) (ok : X → Prop) (μ : X → Nat) (x0 : X) (h0 : norm live s = mk x0) (h1 : ok x0)
    (h : ∀ x, ok x → ∀ K : Ex → MS → Prop, (∀ s' x', norm live s' = mk x' → ok x' → μ x' < μ x → K .normal s') → (∀ id s', Q (.exit id) s' → K (.exit id) s') → (∀ s', Q .ret s' → K .ret s') → Wwp P b K (mk x)) : Wwp P (.loop live b) Q s :=
  mwp_loop mk ok μ x0 h0 h1 fun x hx => h x hx _ (fun s' x' h1 h2 h3 => ⟨x', h1, h2, h3⟩) (fun _ _ q => q) (fun _ q => q)
theorem mwp_cut {live a b} {X : Type} (mk : X → MS) (ok : X → Prop) (h : Wwp P a (thenM (fun s' => ∃ x, norm live s' = mk x ∧ ok x) Q) s) (h2 : ∀ x, ok x → Wwp P b Q (mk x)) : Wwp P (.cut live a b) Q s :=
  .mk ⟨X, mk, ok, Wwp.eq ▸ h, fun x hx => Wwp.eq ▸ h2 x hx⟩

/-- A function of its arguments alone. -/
abbrev Is (P : Program) (f : FuncId) (args : List MV) (r : MV) : Prop := MCall P f args (fun o r' => o = args.map (fun _ => MV.u) ∧ r' = r)

theorem callK_is {d : Bool} {f : FuncId} {xs : List MV} {r : MV} {K : List MV → MV → Prop} (h : Is P f xs r) (k : K (xs.map fun _ => MV.u) r) : callK d P f xs K := by
  cases d
  · exact ⟨_, h, fun o r' e => by rw [e.1, e.2]; exact k⟩
  · exact ⟨_, _, h, k⟩

theorem callK_det {d : Bool} {f : FuncId} {xs os : List MV} {r : MV} {K : List MV → MV → Prop} (h : MCall P f xs (fun o' r' => o' = os ∧ r' = r)) (k : K os r) : callK d P f xs K := by
  cases d
  · exact ⟨_, h, fun o r' e => by rw [e.1, e.2]; exact k⟩
  · exact ⟨_, _, h, k⟩
theorem callK_any {f : FuncId} {xs : List MV} {Q : List MV → MV → Prop} {K : List MV → MV → Prop} (h : MCall P f xs Q) (k : ∀ o r, Q o r → K o r) : callK false P f xs K := ⟨_, h, k⟩

theorem getK_map {α : Type} {f : α → List D} {l : List α} {i : Nat} {K : List D → Prop} : getK (l.map f) i K = ∀ x, l[i]? = some x → K (f x) := by
  simp only [getK, List.getElem?_map, Option.map_eq_some_iff, eq_iff_iff]
  exact ⟨fun h x hx => h _ ⟨x, hx, rfl⟩, fun h e ⟨x, hx, he⟩ => he ▸ h x hx⟩

end
/-- 256 truth values, none true. -/
def zs256 : List MV := List.replicate 256 (.b false)
end Go.Fw
