/-
  Calls.
-/
import Derived.Test.YtdfbdbbjnihmaaaFwP
namespace Go.Fw
set_option linter.unusedVariables false
set_option linter.unusedSimpArgs false
section
variable {P : Program} {N : FrS} {A : Nat → Prop} {w0 : World} {F0 : List Nat} {J0 : Imm} {g : Env} {s : MS} {a : Act} {w : World} {hp : List (Nat × MO)}
variable {n : Nat} {o : Oper} {K : MK} {next : Act → World → Prop} {Q : Exit → Act → World → Prop}

def blk (g : Env) (id : Nat) : List Nat :=
  match g.inj id with
  | some l => [l.b]
  | none => []

theorem mem_blk {b id : Nat} : b ∈ blk g id ↔ ∃ l, g.inj id = some l ∧ l.b = b := by
  unfold blk
  cases h : g.inj id with
  | none => simp
  | some l => simp [eq_comm]

/-- One argument: the value, what it is handed over as, the object that comes back, the objects handed over, their blocks. -/
inductive Arg (P : Program) (I' J' : Imm) (w : World) (g : Env) (s : MS) : Value → MV → Option Nat → List Nat → List Nat → Prop
  | plain (v x ids F) (h : Own P I' J' w v x F) (hF : F.Sublist (ids.flatMap (blk g))) (hl : ∀ i ∈ ids, ∃ o, s.obj i = some o ∧ o.live = true) : Arg P I' J' w g s v x none ids F
  | arr (v x) (id : Nat) (t k es l len cap) (h1 : s.obj id = some (.arr t k es)) (h2 : g.inj id = some l) (hv : v = .slice (some ⟨l.b, l.base, none⟩) len cap) (hlen : len = es.length) (hcap : cap ≤ l.C) (hc0 : 0 < cap) (hlk : l.k = k)
      (h : Own P I' J' w v x [l.b]) : Arg P I' J' w g s v x (some id) [id] [l.b]
  | arr0 (v x) (id : Nat) (t k es p) (h1 : s.obj id = some (.arr t k es)) (he : es.length = 0) (hv : v = .slice p 0 0) (h : Own P I' J' w v x []) : Arg P I' J' w g s v x (some id) [id] []
  | box (v x) (id : Nat) (cs l ids F) (h1 : s.obj id = some (.box cs)) (h2 : g.inj id = some l) (hv : v = .pointer (some ⟨l.b, l.base, none⟩)) (h : Own P I' J' w v x (l.b :: F)) (hF : F.Sublist (ids.flatMap (blk g)))
      (hl : ∀ i ∈ ids, ∃ o, s.obj i = some o ∧ o.live = true) : Arg P I' J' w g s v x (some id) (id :: ids) (l.b :: F)

inductive ArgL (P : Program) (I' J' : Imm) (w : World) (g : Env) (s : MS) : List Value → List MV → List (Option Nat) → List Nat → List Nat → Prop
  | nil : ArgL P I' J' w g s [] [] [] [] []
  | cons (v vs x xs i is ids gs F G) (h : Arg P I' J' w g s v x i ids F) (hs : ArgL P I' J' w g s vs xs is gs G) : ArgL P I' J' w g s (v :: vs) (x :: xs) (i :: is) (ids ++ gs) (F ++ G)

theorem takeC_own (h : HRel P A w0 F0 J0 g s.hp w) {al : Bool} {v : Value} {m : MV} {Kt : MV → List Nat → Prop} (hv : RV P g v m) (hk : takeC s al m Kt) :
    ∃ x ids, Kt x ids ∧ (∀ i ∈ ids, ∃ o, s.obj i = some o ∧ o.live = true) ∧ ∀ I' J' : Imm, (∀ b o, g.I b = some o → I' b = some o) → (∀ b o, (if al then g.I else g.J) b = some o → J' b = some o) →
      ∃ F, Own P I' J' w v x F ∧ F.Sublist (ids.flatMap (blk g)) := by
  cases m <;> simp only [takeC] at hk
  case i => cases hv; exact ⟨_, _, hk, by simp, fun I' J' _ _ => ⟨[], .imm _ _ (.i _ _), by simp⟩⟩
  case b => cases hv; exact ⟨_, _, hk, by simp, fun I' J' _ _ => ⟨[], .imm _ _ (.b _), by simp⟩⟩
  case s t k es =>
    cases hv with
    | s _ _ _ _ hd =>
      refine ⟨_, _, hk, by simp, fun I' J' hI hJ => ⟨[], .imm _ _ (.s _ _ _ _ (hd.mono (fun b o x => ?_))), by simp⟩⟩
      cases al
      · cases t
        · exact hI b o x
        · exact hJ b o x
      · rw [Bool.or_true]
        exact hJ b o (by cases t; exact x; exact h.JI b o x)
  case nl k => cases hv; exact ⟨_, _, hk, by simp, fun I' J' _ _ => ⟨[], .ow0 _ _ _, by simp⟩⟩
  case sr id off len =>
    split at hk
    · rename_i t k es hob
      obtain ⟨rfl, rfl, hk⟩ := hk
      refine ⟨_, _, hk, by simp [MS.obj] at hob ⊢; exact ⟨_, hob, rfl⟩, fun I' J' hI hJ => ?_⟩
      obtain ⟨hek, hrep⟩ := h.objs id _ hob
      generalize hln : es.length = ln at hv
      cases hv with
      | sr0 p =>
        have : es = [] := List.eq_nil_of_length_eq_zero hln
        subst this
        exact ⟨[], .ow0 _ _ _, by simp⟩
      | sr _ _ _ cap l hl h1 h2 =>
        rcases hrep with ⟨_, h3⟩ | ⟨l', h3, hlk, cs, E, h4, h5, h6, h7⟩
        · rw [hl] at h3; cases h3
        · rw [hl] at h3; cases h3
          refine ⟨[l.b], ?_, by simp [blk, hl]⟩
          have := Own.ow (P := P) (I := I') (J := J') (w := w) l false k es cap ln hln.symm h2 (by omega) hek ⟨hlk, cs, E, h4, h5, h6, fun i j hi hj => by
            obtain ⟨u, hu, hr⟩ := h7 i j hi hj
            exact ⟨u, hu, hr.mono (fun b o x => hI b o (by cases t; exact x; exact h.JI b o x))⟩⟩
          simpa using this
    · exact hk.elim
  all_goals exact hk.elim

theorem takeL_own (h : HRel P A w0 F0 J0 g s.hp w) {al : Bool} : ∀ {vs : List Value} {ms : List MV} {Kt : List MV → List Nat → Prop}, RVL P g vs ms → takeL s al ms Kt →
    ∃ xs ids, Kt xs ids ∧ (∀ i ∈ ids, ∃ o, s.obj i = some o ∧ o.live = true) ∧ ∀ I' J' : Imm, (∀ b o, g.I b = some o → I' b = some o) → (∀ b o, (if al then g.I else g.J) b = some o → J' b = some o) →
      ∃ F, OwnL P I' J' w vs xs F ∧ F.Sublist (ids.flatMap (blk g)) := by
  intro vs
  induction vs with
  | nil => intro ms Kt hv hk; cases hv; exact ⟨_, _, hk, by simp, fun I' J' _ _ => ⟨[], .nil, by simp⟩⟩
  | cons v vs ih =>
    intro ms Kt hv hk
    cases hv with
    | cons _ _ m ms h1 h2 =>
      simp only [takeL] at hk
      obtain ⟨x, ids, hk, l1, o1⟩ := takeC_own h h1 hk
      obtain ⟨xs, ids', hk, l2, o2⟩ := ih h2 hk
      refine ⟨_, _, hk, fun i hi => ?_, fun I' J' hI hJ => ?_⟩
      · rcases List.mem_append.1 hi with hi | hi
        · exact l1 i hi
        · exact l2 i hi
      · obtain ⟨F, p1, p2⟩ := o1 I' J' hI hJ
        obtain ⟨G, q1, q2⟩ := o2 I' J' hI hJ
        exact ⟨F ++ G, .cons _ _ _ _ _ _ p1 q1, by rw [List.flatMap_append]; exact p2.append q2⟩

theorem flatI_cons (b : Bk) (is : List Bk) : flatI (b :: is) = flatI [b] ++ flatI is := by
  cases b <;> simp [flatI]

theorem ArgL.append {I' J' : Imm} : ∀ {vs xs is gs F}, ArgL P I' J' w g s vs xs is gs F → ∀ {vs' xs' is' gs' F'}, ArgL P I' J' w g s vs' xs' is' gs' F' →
    ArgL P I' J' w g s (vs ++ vs') (xs ++ xs') (is ++ is') (gs ++ gs') (F ++ F')
  | _, _, _, _, _, .nil, _, _, _, _, _, k => k
  | _, _, _, _, _, .cons v vs x xs i is ids gs F G h hs, _, _, _, _, _, k => by
    have := ArgL.cons _ _ _ _ _ _ _ _ _ _ h (hs.append k)
    simpa [List.append_assoc] using this

theorem ArgL.one {I' J' : Imm} {v x i ids F} (h : Arg P I' J' w g s v x i ids F) : ArgL P I' J' w g s [v] [x] [i] ids F := by
  have := ArgL.cons _ _ _ _ _ _ _ _ _ _ h .nil
  simpa using this

/-- Values, cell by cell. -/
inductive FlatV : List Value → List Bk → List Value → Prop
  | nil : FlatV [] [] []
  | one (v vs i is fvs) (h : FlatV vs is fvs) : FlatV (v :: vs) (.one i :: is) (v :: fvs)
  | many (cells : Array Value) (vs js is fvs) (hl : cells.toList.length = js.length) (h : FlatV vs is fvs) : FlatV (.agg cells :: vs) (.many js :: is) (cells.toList ++ fvs)

theorem OwnL.rep {I' J' : Imm} : ∀ (vs : List Value), OwnL P I' J' w vs (List.replicate vs.length .u) []
  | [] => .nil
  | v :: vs => by
    have := OwnL.cons (P := P) (I := I') (J := J') (w := w) v vs .u _ [] [] (.imm _ _ (.u v)) (OwnL.rep vs)
    simpa [List.replicate_succ] using this
theorem OwnL.of_RVL2 {I' J' : Imm} : ∀ {vs : List Value} {ms : List MV}, RVL P ⟨I', J', noInj⟩ vs ms → OwnL P I' J' w vs ms []
  | _, _, .nil => .nil
  | _, _, .cons v vs m ms h hs => by
    have := OwnL.cons (P := P) (I := I') (J := J') (w := w) v vs m ms [] [] (.imm _ _ h) (OwnL.of_RVL2 hs)
    simpa using this
theorem OwnL.app2 {I' J' : Imm} : ∀ {vs vs' : List Value} {ms ms' : List MV} {F F' : List Nat}, OwnL P I' J' w vs ms F → OwnL P I' J' w vs' ms' F' → OwnL P I' J' w (vs ++ vs') (ms ++ ms') (F ++ F')
  | _, _, _, _, _, _, .nil, k => k
  | _, _, _, _, _, _, .cons v vs m ms F G h hs, k => by
    have := OwnL.cons _ _ _ _ _ _ h (hs.app2 k)
    simpa [List.append_assoc] using this

theorem FlatV.outs {I' J' : Imm} : ∀ {vs is fvs}, FlatV vs is fvs → ∀ {outs G}, OwnL P I' J' w vs outs G → ∃ G', OwnL P I' J' w fvs (flatO is outs) G' ∧ G'.Sublist G
  | _, _, _, .nil, _, _, ho => by cases ho; exact ⟨[], .nil, by simp⟩
  | _, _, _, .one v vs i is fvs h, _, _, ho => by
    cases ho with
    | cons _ _ m ms F G h1 h2 =>
      obtain ⟨G', p1, p2⟩ := h.outs h2
      exact ⟨_, .cons _ _ _ _ _ _ h1 p1, (List.Sublist.refl F).append p2⟩
  | _, _, _, .many cells vs js is fvs hl h, _, _, ho => by
    cases ho with
    | cons _ _ m ms F G h1 h2 =>
      obtain ⟨G', p1, p2⟩ := h.outs h2
      have fb : ∃ F', OwnL P I' J' w cells.toList (List.replicate js.length .u) F' ∧ F'.Sublist F := ⟨[], by rw [← hl]; exact OwnL.rep _, by simp⟩
      have hc : ∃ F', OwnL P I' J' w cells.toList (cellsO js.length m) F' ∧ F'.Sublist F := by
        cases m with
        | agg cs =>
          simp only [cellsO]
          split
          · cases h1 with
            | imm _ _ hr => cases hr with | agg _ _ hr _ => exact ⟨[], OwnL.of_RVL2 hr, by simp⟩
            | agg _ _ _ hr _ => exact ⟨F, hr, List.Sublist.refl F⟩
          · exact fb
        | _ => exact fb
      obtain ⟨F', q1, q2⟩ := hc
      exact ⟨_, q1.app2 p1, q2.append p2⟩

theorem lendC_own (h : HRel P A w0 F0 J0 g s.hp w) {v : Value} {m : MV} {Kt : MV → Option Nat → List Nat → Prop} (hv : RV P g v m) (hk : lendC s m Kt) :
    ∃ x i ids, Kt x i ids ∧ ∀ I' J' : Imm, (∀ b o, g.I b = some o → I' b = some o) → ∃ F, Arg P I' J' w g s v x i ids F := by
  cases m <;> simp only [lendC] at hk
  case i => cases hv; exact ⟨_, none, [], hk, fun I' J' _ => ⟨[], .plain _ _ _ _ (.imm _ _ (.i _ _)) (by simp) (by simp)⟩⟩
  case b => cases hv; exact ⟨_, none, [], hk, fun I' J' _ => ⟨[], .plain _ _ _ _ (.imm _ _ (.b _)) (by simp) (by simp)⟩⟩
  case nl k => cases hv; exact ⟨_, none, [], hk, fun I' J' _ => ⟨[], .plain _ _ _ _ (.ow0 _ _ _) (by simp) (by simp)⟩⟩
  case sr id off len =>
    split at hk
    · rename_i t k es hob
      obtain ⟨rfl, rfl, hk⟩ := hk
      refine ⟨_, some id, [id], hk, fun I' J' hI => ?_⟩
      obtain ⟨hek, hrep⟩ := h.objs id _ hob
      generalize hln : es.length = ln at hv
      cases hv with
      | sr0 p =>
        have : es = [] := List.eq_nil_of_length_eq_zero hln
        subst this
        exact ⟨[], .arr0 _ _ id t k [] p hob rfl rfl (.ow0 _ _ _)⟩
      | sr _ _ _ cap l hl c1 c2 =>
        rcases hrep with ⟨_, h3⟩ | ⟨l', h3, hlk, cs, E, h4, h5, h6, h7⟩
        · rw [hl] at h3; cases h3
        · rw [hl] at h3; cases h3
          have := Own.ow (P := P) (I := I') (J := J') (w := w) l false k es cap ln hln.symm c2 (by omega) hek ⟨hlk, cs, E, h4, h5, h6, fun i j hi hj => by
            obtain ⟨u, hu, hr⟩ := h7 i j hi hj
            exact ⟨u, hu, hr.mono (fun b o x => hI b o (by cases t; exact x; exact h.JI b o x))⟩⟩
          by_cases hc0 : cap = 0
          · subst hc0
            have hl0 : ln = 0 := by omega
            subst hl0
            have hes : es = [] := List.eq_nil_of_length_eq_zero hln
            subst hes
            exact ⟨[], .arr0 _ _ id t k [] _ hob rfl rfl (.ow0 _ _ _)⟩
          · exact ⟨[l.b], .arr _ _ id t k es l ln cap hob hl (by simp) hln.symm (by omega) (by omega) hlk (by simpa using this)⟩
    · exact hk.elim
  all_goals exact hk.elim

theorem lendL_own (h : HRel P A w0 F0 J0 g s.hp w) : ∀ {vs : List Value} {ms : List MV} {Kt : List MV → List (Option Nat) → List Nat → Prop}, RVL P g vs ms → lendL s ms Kt →
    ∃ xs is ids, Kt xs is ids ∧ is.length = vs.length ∧ ∀ I' J' : Imm, (∀ b o, g.I b = some o → I' b = some o) → ∃ F, ArgL P I' J' w g s vs xs is ids F := by
  intro vs
  induction vs with
  | nil => intro ms Kt hv hk; cases hv; exact ⟨_, _, _, hk, rfl, fun I' J' _ => ⟨[], .nil⟩⟩
  | cons v vs ih =>
    intro ms Kt hv hk
    cases hv with
    | cons _ _ m ms h1 h2 =>
      simp only [lendL] at hk
      obtain ⟨x, i, ids, hk, o1⟩ := lendC_own h h1 hk
      obtain ⟨xs, is, ids', hk, hl, o2⟩ := ih h2 hk
      refine ⟨_, _, _, hk, by simp [hl], fun I' J' hI => ?_⟩
      obtain ⟨F, p⟩ := o1 I' J' hI
      obtain ⟨G, q⟩ := o2 I' J' hI
      exact ⟨_, .cons _ _ _ _ _ _ _ _ _ _ p q⟩

theorem args_sound (h : HRel P A w0 F0 J0 g s.hp w) {al : Bool} : ∀ {vs : List Value} {ms : List Mode} {mvs : List MV} {Ka : List MV → List Bk → List Nat → List Nat → Prop}, RVL P g vs mvs → argsK P s al ms mvs Ka →
    ∃ xs is gs rs, Ka xs is gs rs ∧ ∀ I' J' : Imm, (∀ b o, w.heap[b]? = some o → Reads g s.hp rs b → I' b = some o) → (∀ b o, (if al then g.I else g.J) b = some o → J' b = some o) →
      ∃ F fvs fxs, ArgL P I' J' w g s fvs fxs (flatI is) gs F ∧ OwnL P I' J' w vs xs F ∧ FlatV vs is fvs := by
  intro vs
  induction vs with
  | nil =>
    intro ms mvs Ka hv hk
    cases hv
    cases ms with
    | nil => exact ⟨_, _, _, _, hk, fun I' J' _ _ => ⟨[], [], [], .nil, .nil, .nil⟩⟩
    | cons => simp [argsK] at hk
  | cons v vs ih =>
    intro ms mvs Ka hv hk
    cases hv with
    | cons _ _ m mvs h1 h2 =>
      cases ms with
      | nil => simp [argsK] at hk
      | cons o ms =>
        have fncase : ∀ f a b, m = .clo f a b → o = .fn → (∃ dom φ, FnOk P s f a b dom φ ∧ argsK P s al ms mvs fun xs is gs rs => Ka (.fn dom φ :: xs) (.one none :: is) gs (readsM s (.clo f a b) ++ rs)) →
            ∃ xs is gs rs, Ka xs is gs rs ∧ ∀ I' J' : Imm, (∀ b o, w.heap[b]? = some o → Reads g s.hp rs b → I' b = some o) → (∀ b o, (if al then g.I else g.J) b = some o → J' b = some o) →
              ∃ F fvs fxs, ArgL P I' J' w g s fvs fxs (flatI is) gs F ∧ OwnL P I' J' w (v :: vs) xs F ∧ FlatV (v :: vs) is fvs := by
          intro f a b hm _ hh
          subst hm
          obtain ⟨dom, φ, hok, hk⟩ := hh
          obtain ⟨xs, is, gs, rs, hk, hrest⟩ := ih h2 hk
          refine ⟨_, _, _, _, hk, fun I' J' hI hJ => ?_⟩
          obtain ⟨G, fvs, fxs, hG, hO, hV⟩ := hrest I' J' (fun b o x y => hI b o x (y.mono (fun i hi => List.mem_append_right _ hi))) hJ
          cases h1 with
          | clo _ fv cv _ _ c1 c2 =>
            have hc := FnOk.calls h hok c1 c2 (I' := I') (rs := readsM s (.clo f a b) ++ rs) hI (fun i hi => List.mem_append_left _ hi)
            have := ArgL.cons _ _ _ _ _ _ [] _ [] _ (.plain (I' := I') (J' := J') (w := w) (g := g) (s := s) _ (.fn dom φ) [] [] (.imm _ _ (.fn f fv cv dom φ hc.1 hc.2)) (by simp) (by simp)) hG
            exact ⟨_, _, _, by simpa [flatI] using this, by simpa using OwnL.cons _ _ _ _ [] _ (.imm _ _ (.fn f fv cv dom φ hc.1 hc.2)) hO, .one _ _ _ _ _ hV⟩
        have fn2case : ∀ dom φ, m = .fn dom φ → o = .fn → (argsK P s al ms mvs fun xs is gs rs => Ka (.fn dom φ :: xs) (.one none :: is) gs rs) →
            ∃ xs is gs rs, Ka xs is gs rs ∧ ∀ I' J' : Imm, (∀ b o, w.heap[b]? = some o → Reads g s.hp rs b → I' b = some o) → (∀ b o, (if al then g.I else g.J) b = some o → J' b = some o) →
              ∃ F fvs fxs, ArgL P I' J' w g s fvs fxs (flatI is) gs F ∧ OwnL P I' J' w (v :: vs) xs F ∧ FlatV (v :: vs) is fvs := by
          intro dom φ hm _ hk2
          subst hm
          obtain ⟨xs, is, gs, rs, hk2, hrest⟩ := ih h2 hk2
          refine ⟨_, _, _, _, hk2, fun I' J' hI hJ => ?_⟩
          obtain ⟨G, fvs, fxs, hG, hO, hV⟩ := hrest I' J' hI hJ
          cases h1 with
          | fn f fv cv _ _ h0 hh =>
            have := ArgL.cons _ _ _ _ _ _ [] _ [] _ (.plain (I' := I') (J' := J') (w := w) (g := g) (s := s) _ (.fn dom φ) [] [] (.imm _ _ (.fn f fv cv dom φ h0 (fun w' xs hw => hh w' xs (fun b o x => hw b o (h.I_of hI b o x))))) (by simp) (by simp)) hG
            exact ⟨_, _, _, by simpa [flatI] using this, by simpa using OwnL.cons _ _ _ _ [] _ (.imm _ _ (.fn f fv cv dom φ h0 (fun w' xs hw => hh w' xs (fun b o x => hw b o (h.I_of hI b o x))))) hO, .one _ _ _ _ _ hV⟩
        have gen : (argK s al o m fun x i g => argsK P s al ms mvs fun xs is gs rs => Ka (x :: xs) (i :: is) (g ++ gs) ((if o = .im then readsA s m else []) ++ rs)) →
            ∃ xs is gs rs, Ka xs is gs rs ∧ ∀ I' J' : Imm, (∀ b o, w.heap[b]? = some o → Reads g s.hp rs b → I' b = some o) → (∀ b o, (if al then g.I else g.J) b = some o → J' b = some o) →
              ∃ F fvs fxs, ArgL P I' J' w g s fvs fxs (flatI is) gs F ∧ OwnL P I' J' w (v :: vs) xs F ∧ FlatV (v :: vs) is fvs := by
          intro hk
          -- one argument, then the others
          have step : ∃ x i ids, (argsK P s al ms mvs fun xs is gs rs => Ka (x :: xs) (i :: is) (ids ++ gs) ((if o = .im then readsA s m else []) ++ rs)) ∧
              ∀ I' J' : Imm, (∀ b o', w.heap[b]? = some o' → Reads g s.hp (if o = .im then readsA s m else []) b → I' b = some o') → (∀ b o, (if al then g.I else g.J) b = some o → J' b = some o) →
                ∃ F fv fx, ArgL P I' J' w g s fv fx (flatI [i]) ids F ∧ Own P I' J' w v x F ∧ ∀ vs is fvs, FlatV vs is fvs → FlatV (v :: vs) (i :: is) (fv ++ fvs) := by
            have one : ∀ {I' J' : Imm} {x : MV} {i : Option Nat} {ids F : List Nat}, Arg P I' J' w g s v x i ids F →
                ∃ F fv fx, ArgL P I' J' w g s fv fx (flatI [.one i]) ids F ∧ Own P I' J' w v x F ∧ ∀ vs is fvs, FlatV vs is fvs → FlatV (v :: vs) (.one i :: is) (fv ++ fvs) := by
              intro I' J' x i ids F ha
              have ho : Own P I' J' w v x F := by
                cases ha with
                | plain _ _ h _ _ => exact h
                | arr _ _ _ _ _ _ _ _ _ _ _ _ _ _ h => exact h
                | arr0 _ _ _ _ _ _ _ _ h => exact h
                | box _ _ _ _ _ _ _ _ h _ _ => exact h
              exact ⟨F, [v], [x], by simpa [flatI] using ArgL.one ha, ho, fun vs is fvs hf => .one _ _ _ _ _ hf⟩
            cases o with
            | im =>
              simp only [argK] at hk
              split at hk
              · rename_i x hx
                refine ⟨_, _, _, hk, fun I' J' hI hJ => one (.plain _ _ [] [] (.imm _ _ (closeM_RV h (rs := readsA s m) (fun b o x y => hI b o x (by simpa using y)) hJ h1 hx (fun i hi => hi))) (by simp) (by simp))⟩
              · exact hk.elim
            | fn => cases m <;> simp [argK] at hk
            | co =>
              have hco : ∀ (m' : MV), (∀ cs, m' ≠ .agg cs) → m = m' → takeC s al m' (fun x is => argsK P s al ms mvs fun xs is' gs rs => Ka (x :: xs) (.one none :: is') (is ++ gs) ((if Mode.co = .im then readsA s m else []) ++ rs)) →
                  ∃ x i ids, (argsK P s al ms mvs fun xs is gs rs => Ka (x :: xs) (i :: is) (ids ++ gs) ((if Mode.co = .im then readsA s m else []) ++ rs)) ∧
                  ∀ I' J' : Imm, (∀ b o', w.heap[b]? = some o' → Reads g s.hp (if Mode.co = .im then readsA s m else []) b → I' b = some o') → (∀ b o, (if al then g.I else g.J) b = some o → J' b = some o) →
                  ∃ F fv fx, ArgL P I' J' w g s fv fx (flatI [i]) ids F ∧ Own P I' J' w v x F ∧ ∀ vs is fvs, FlatV vs is fvs → FlatV (v :: vs) (i :: is) (fv ++ fvs) := by
                intro m' _ hm hk
                subst hm
                obtain ⟨x, ids, hk, l1, o1⟩ := takeC_own h h1 hk
                refine ⟨x, .one none, ids, hk, fun I' J' hI hJ => ?_⟩
                obtain ⟨F, p1, p2⟩ := o1 I' J' (h.I_of hI) hJ
                exact one (.plain _ _ _ _ p1 p2 l1)
              cases m
              case agg cs =>
                simp only [argK] at hk
                cases h1 with
                | agg us _ hr ho1 =>
                  obtain ⟨xs, ids, hk, l1, o1⟩ := takeL_own h hr hk
                  refine ⟨.agg xs, .one none, ids, hk, fun I' J' hI hJ => ?_⟩
                  obtain ⟨F, p1, p2⟩ := o1 I' J' (h.I_of hI) hJ
                  exact one (.plain _ _ _ _ (.agg _ _ _ p1 ho1) p2 l1)
              all_goals exact hco _ (by simp) rfl (by simpa only [argK] using hk)
            | io =>
              have hlend : ∀ (m' : MV), m = m' → lendC s m' (fun x i ids => argsK P s al ms mvs fun xs is' gs rs => Ka (x :: xs) (.one i :: is') (ids ++ gs) ((if Mode.io = .im then readsA s m else []) ++ rs)) →
                  ∃ x i ids, (argsK P s al ms mvs fun xs is gs rs => Ka (x :: xs) (i :: is) (ids ++ gs) ((if Mode.io = .im then readsA s m else []) ++ rs)) ∧
                  ∀ I' J' : Imm, (∀ b o', w.heap[b]? = some o' → Reads g s.hp (if Mode.io = .im then readsA s m else []) b → I' b = some o') → (∀ b o, (if al then g.I else g.J) b = some o → J' b = some o) →
                  ∃ F fv fx, ArgL P I' J' w g s fv fx (flatI [i]) ids F ∧ Own P I' J' w v x F ∧ ∀ vs is fvs, FlatV vs is fvs → FlatV (v :: vs) (i :: is) (fv ++ fvs) := by
                intro m' hm hk
                subst hm
                obtain ⟨x, i, ids, hk, o1⟩ := lendC_own h h1 hk
                refine ⟨x, .one i, ids, hk, fun I' J' hI hJ => ?_⟩
                obtain ⟨F, p⟩ := o1 I' J' (h.I_of hI)
                exact one p
              cases m with
              | agg cs =>
                simp only [argK] at hk
                cases h1 with
                | agg us _ hr ho1 =>
                  obtain ⟨xs, is, ids, hk, hl, o1⟩ := lendL_own h hr hk
                  refine ⟨.agg xs, .many is, ids, hk, fun I' J' hI hJ => ?_⟩
                  obtain ⟨F, p⟩ := o1 I' J' (h.I_of hI)
                  have ho : ∀ {vs xs is gs F}, ArgL P I' J' w g s vs xs is gs F → OwnL P I' J' w vs xs F := by
                    intro vs xs is gs F p
                    induction p with
                    | nil => exact .nil
                    | cons v vs x xs i is ids gs F G hA hs ih =>
                      refine .cons _ _ _ _ _ _ ?_ ih
                      cases hA with
                      | plain _ _ h _ _ => exact h
                      | arr _ _ _ _ _ _ _ _ _ _ _ _ _ _ h => exact h
                      | arr0 _ _ _ _ _ _ _ _ h => exact h
                      | box _ _ _ _ _ _ _ _ h _ _ => exact h
                  exact ⟨F, us.toList, xs, by simpa [flatI] using p, .agg _ _ _ (ho p) ho1, fun vs is' fvs hf => .many _ _ _ _ _ hl.symm hf⟩
              | pr id i off =>
                simp only [argK] at hk
                split at hk
                · rename_i cs hob
                  obtain ⟨rfl, rfl, hk⟩ := hk
                  cases h1 with
                  | pr _ _ _ l hl =>
                    obtain ⟨l', cells, E, c1, c2, c3, c4, c5⟩ := h.objs id _ hob
                    rw [hl] at c1; cases c1
                    obtain ⟨xs, ids, hk, l1, o1⟩ := takeL_own h c5 hk
                    refine ⟨.pw xs, .one (some id), id :: ids, hk, fun I' J' hI hJ => ?_⟩
                    obtain ⟨F, p1, p2⟩ := o1 I' J' (h.I_of hI) hJ
                    have hlx : xs.length = cs.length := by
                      have e1 := c5.length
                      have : ∀ {vs : List Value} {ms : List MV} {F : List Nat}, OwnL P I' J' w vs ms F → vs.length = ms.length := by
                        intro vs
                        induction vs with
                        | nil => intro ms F hh; cases hh; rfl
                        | cons v vs ihv => intro ms F hh; cases hh with | cons _ _ _ _ _ _ _ hs => simp [ihv hs]
                      rw [← this p1, e1]
                    have := Own.pw (P := P) (I := I') (J := J') (w := w) l.b l.base cells E xs F c2 (by rw [hlx]; exact c3) c4 (by rw [hlx]; exact p1)
                    exact one (.box _ _ id cs l ids F hob hl (by simp) (by simpa using this) p2 l1)
                · exact hk.elim
              | nl k => exact hlend _ rfl (by simpa only [argK] using hk)
              | sr id off len => exact hlend _ rfl (by simpa only [argK] using hk)
              | i k n => exact hlend _ rfl (by simpa only [argK] using hk)
              | b x => exact hlend _ rfl (by simpa only [argK] using hk)
              | _ => simp only [argK, lendC] at hk
          obtain ⟨x, i, ids, hk, harg⟩ := step
          obtain ⟨xs, is, gs, rs, hk, hrest⟩ := ih h2 hk
          refine ⟨_, _, _, _, hk, fun I' J' hI hJ => ?_⟩
          obtain ⟨F, fv, fx, hF, hO, hV⟩ := harg I' J' (fun b o x y => hI b o x (y.mono (fun i hi => List.mem_append_left _ hi))) hJ
          obtain ⟨G, fvs, fxs, hG, hO', hV'⟩ := hrest I' J' (fun b o x y => hI b o x (y.mono (fun i hi => List.mem_append_right _ hi))) hJ
          exact ⟨F ++ G, fv ++ fvs, fx ++ fxs, by rw [flatI_cons]; exact hF.append hG, .cons _ _ _ _ _ _ hO hO', hV _ _ _ hV'⟩
        cases o with
        | fn =>
          cases m
          case clo f a b => exact fncase f a b rfl rfl (by simpa only [argsK] using hk)
          case fn dom φ => exact fn2case dom φ rfl rfl (by simpa only [argsK] using hk)
          all_goals (exfalso; simp only [argsK, argK] at hk)
        | im => exact gen (by cases m <;> simpa only [argsK] using hk)
        | io => exact gen (by cases m <;> simpa only [argsK] using hk)
        | co => exact gen (by cases m <;> simpa only [argsK] using hk)
end
end Go.Fw
