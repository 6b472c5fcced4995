/-
  What an operation of the model reads: its outcome is the same in any state that agrees on that (for regions that draw their order).
-/
import Derived.Test.YtdfbdbbjnihmaaaFwU
namespace Go.Fw
set_option linter.unusedVariables false
set_option linter.unusedSimpArgs false

def Opd.slots : Opd → List Nat
  | .t n => [n]
  | .v _ => []
def ooSlots : Option Opd → List Nat
  | some x => x.slots
  | none => []
def MOp.slots : MOp → List Nat
  | .mov x | .box _ x | .load _ _ x | .nilCheck x | .nilq _ x | .un _ x | .conv _ x | .fieldAddr _ x | .field _ _ _ x | .extract x _ | .len x => x.slots
  | .pick a b c => a.slots ++ b.slots ++ c.slots
  | .alloc _ => []
  | .build _ ps => ps.flatMap (·.2.2.slots)
  | .buildSlice _ xs => xs.flatMap Opd.slots
  | .store _ x y | .bin _ x y | .binb _ x y | .eqAgg _ _ x y | .makeSlice _ _ _ x y | .indexAddr _ x y | .arrAddr _ _ x y | .arrIndex _ _ _ x y | .append _ _ _ x y | .minmax _ x y => x.slots ++ y.slots
  | .slice _ x lo hi => x.slots ++ ooSlots lo ++ ooSlots hi
  | .call _ _ _ xs => xs.flatMap Opd.slots
  | .callv f xs => f.slots ++ xs.flatMap Opd.slots
  | .mkfn _ xs ys => xs.flatMap Opd.slots ++ ys.flatMap Opd.slots
  | .cap x | .clear _ _ x => x.slots
  | .copy _ x y | .overlaps _ x y | .appendMk _ _ _ x y => x.slots ++ y.slots

def SameFr (s s' : MS) (l : List Nat) : Prop := ∀ t ∈ l, look s'.fr t = look s.fr t
def SameHp (s s' : MS) (l : List Nat) : Prop := ∀ t ∈ l, look s'.hp t = look s.hp t

section
variable {P : Program} {s s' : MS} {n : Nat} {K : MK}

theorem SameFr.left {l l' : List Nat} (h : SameFr s s' (l ++ l')) : SameFr s s' l := fun t ht => h t (List.mem_append_left _ ht)
theorem SameFr.right {l l' : List Nat} (h : SameFr s s' (l ++ l')) : SameFr s s' l' := fun t ht => h t (List.mem_append_right _ ht)
theorem SameHp.left {l l' : List Nat} (h : SameHp s s' (l ++ l')) : SameHp s s' l := fun t ht => h t (List.mem_append_left _ ht)
theorem SameHp.right {l l' : List Nat} (h : SameHp s s' (l ++ l')) : SameHp s s' l' := fun t ht => h t (List.mem_append_right _ ht)
theorem SameHp.obj {l : List Nat} (h : SameHp s s' l) {id : Nat} (hi : id ∈ l) : s'.obj id = s.obj id := h id hi

theorem val_local {x : Opd} (h : SameFr s s' x.slots) : s'.val x = s.val x := by
  cases x with
  | t k => simp only [MS.val]; rw [h k (by simp [Opd.slots])]
  | v m => rfl
theorem vals_local : ∀ {xs : List Opd}, SameFr s s' (xs.flatMap Opd.slots) → xs.map s'.val = xs.map s.val
  | [], _ => rfl
  | x :: xs, h => by
    rw [List.flatMap_cons] at h
    simp only [List.map_cons]; rw [val_local h.left, vals_local h.right]

theorem toD_local {m : MV} (h : SameHp s s' (srs [m])) : toD s' m = toD s m := by
  cases m <;> try rfl
  rename_i id off len
  simp only [toD]; rw [h.obj (by simp [srs])]
theorem toDs_local : ∀ {ms : List MV}, SameHp s s' (srs ms) → toDs s' ms = toDs s ms
  | [], _ => rfl
  | m :: ms, h => by
    have e : srs (m :: ms) = srs [m] ++ srs ms := by simp [srs]
    rw [e] at h
    simp only [toDs]; rw [toD_local h.left, toDs_local h.right]
theorem rowsV_local {k : Nat} : ∀ {xs : List Opd}, SameFr s s' (xs.flatMap Opd.slots) → SameHp s s' (xs.flatMap fun x => srs (((s.val x).cells).getD [])) → rowsV s' k xs = rowsV s k xs
  | [], _, _ => rfl
  | x :: xs, h, h' => by
    rw [List.flatMap_cons] at h h'
    simp only [rowsV]
    rw [val_local h.left, rowsV_local h.right h'.right]
    cases hc : (s.val x).cells with
    | none => rfl
    | some cs =>
      have h1 := h'.left
      rw [hc] at h1
      simp only [toDs_local (show SameHp s s' (srs cs) from h1)]

theorem closeD_local {m : MV} (h : SameHp s s' (match m with | .sr i _ _ => [i] | _ => [])) : closeD s' m = closeD s m := by
  cases m <;> try rfl
  rename_i id off len
  simp only [closeD]; rw [h.obj (by simp)]
theorem mapO_same {α β : Type} {f f' : α → Option β} : ∀ {l : List α}, (∀ x ∈ l, f' x = f x) → mapO f' l = mapO f l
  | [], _ => rfl
  | x :: l, h => by
    simp only [mapO]; rw [h x (by simp), mapO_same (fun y hy => h y (by simp [hy]))]
theorem closeC_local {al : Bool} {m : MV} (h : SameHp s s' (readsC s m)) : closeC s' al m = closeC s al m := by
  cases m <;> try rfl
  · rename_i id off len
    simp only [closeC]; rw [h.obj (by simp [readsC])]
  · rename_i id i off
    have h1 : s'.obj id = s.obj id := by
      cases ho : s.obj id with
      | none => rw [← ho]; exact h.obj (by simp [readsC, ho])
      | some o => cases o <;> (rw [← ho]; exact h.obj (by simp [readsC, ho]))
    simp only [closeC]; rw [h1]
    cases ho : s.obj id with
    | none => rfl
    | some o =>
      cases o with
      | box cs =>
        have : mapO (closeD s') cs = mapO (closeD s) cs := by
          refine mapO_same fun x hx => closeD_local fun t ht => h t ?_
          simp only [readsC, ho, List.mem_cons, List.mem_flatMap]
          exact .inr ⟨x, hx, ht⟩
        split
        · rfl
        · rename_i cs' hn e; cases e; rw [this]
        · rfl
      | _ => rfl
theorem readsC_local {c : MV} (hs : SameHp s s' (readsC s c)) : readsC s' c = readsC s c := by
  cases c <;> try rfl
  rename_i id i off
  have h1 : s'.obj id = s.obj id := by
    cases ho : s.obj id with
    | none => rw [← ho]; exact hs.obj (by simp [readsC, ho])
    | some o => cases o <;> (rw [← ho]; exact hs.obj (by simp [readsC, ho]))
  simp only [readsC]; rw [h1]
theorem flatMap_local {f f' : MV → List Nat} : ∀ {l : List MV}, (∀ c ∈ l, f' c = f c) → l.flatMap f' = l.flatMap f
  | [], _ => rfl
  | c :: l, h => by rw [List.flatMap_cons, List.flatMap_cons, h c (by simp), flatMap_local (fun d hd => h d (by simp [hd]))]
theorem readsA_local {c : MV} (hs : SameHp s s' (readsA s c)) : readsA s' c = readsA s c := by
  cases c with
  | agg cs =>
    simp only [readsA] at hs ⊢
    exact flatMap_local fun c hc => readsC_local fun t ht => hs t (by simp only [List.mem_flatMap]; exact ⟨c, hc, ht⟩)
  | sr a b c => exact readsC_local (c := .sr a b c) hs
  | pr a b c => exact readsC_local (c := .pr a b c) hs
  | _ => rfl
theorem readsM_local {c : MV} (hs : SameHp s s' (readsM s c)) : readsM s' c = readsM s c := by
  cases c with
  | clo f a b =>
    simp only [readsM] at hs ⊢
    rw [flatMap_local fun c hc => readsA_local fun t ht => hs.left t (by simp only [List.mem_flatMap]; exact ⟨c, hc, ht⟩),
      flatMap_local fun c hc => readsA_local fun t ht => hs.right t (by simp only [List.mem_flatMap]; exact ⟨c, hc, ht⟩)]
  | agg cs => exact readsA_local (c := .agg cs) hs
  | sr a b c => exact readsC_local (c := .sr a b c) hs
  | pr a b c => exact readsC_local (c := .pr a b c) hs
  | _ => rfl
theorem closeM_local {al : Bool} {m : MV} (h : SameHp s s' (readsA s m)) : closeM s' al m = closeM s al m := by
  cases m with
  | agg cs =>
    simp only [closeM]
    rw [mapO_same fun x hx => closeC_local fun t ht => h t (by simp only [readsA, List.mem_flatMap]; exact ⟨x, hx, ht⟩)]
  | sr a b c => exact closeC_local (al := al) (m := .sr a b c) h
  | pr a b c => exact closeC_local (al := al) (m := .pr a b c) h
  | _ => rfl
theorem FnOk_local {f : FuncId} {a b : List MV} {dom : List FV → Prop} {φ : List FV → FV} (h : SameHp s s' (readsM s (.clo f a b))) (hf : FnOk P s f a b dom φ) : FnOk P s' f a b dom φ := by
  unfold FnOk at *
  rw [mapO_same (f := closeM s false) fun x hx => closeM_local fun t ht => h t (by simp only [readsM, List.mem_append, List.mem_flatMap]; exact .inl ⟨x, hx, ht⟩),
    mapO_same (f := closeM s false) fun x hx => closeM_local fun t ht => h t (by simp only [readsM, List.mem_append, List.mem_flatMap]; exact .inr ⟨x, hx, ht⟩)]
  exact hf

theorem takeC_local {al : Bool} {m : MV} {K : MV → List Nat → Prop} (h : takeC s al m K) :
    ∃ x is, K x is ∧ ∀ s', SameHp s s' is → ∀ K' : MV → List Nat → Prop, K' x is → takeC s' al m K' := by
  cases m <;> simp only [takeC] at h <;> try exact h.elim
  case sr id off len =>
    split at h
    · rename_i t k es ho
      refine ⟨_, _, h.2.2, fun s' hs K' hk => ?_⟩
      simp only [takeC]; rw [hs.obj (by simp), ho]
      exact ⟨h.1, h.2.1, hk⟩
    · exact h.elim
  all_goals exact ⟨_, _, h, fun s' hs K' hk => by simpa only [takeC] using hk⟩
theorem takeL_local {al : Bool} : ∀ {ms : List MV} {K : List MV → List Nat → Prop}, takeL s al ms K →
    ∃ x is, K x is ∧ ∀ s', SameHp s s' is → ∀ K' : List MV → List Nat → Prop, K' x is → takeL s' al ms K'
  | [], K, h => ⟨_, _, h, fun s' _ K' hk => hk⟩
  | m :: ms, K, h => by
    simp only [takeL] at h
    obtain ⟨x, is, h1, l1⟩ := takeC_local h
    obtain ⟨y, js, h2, l2⟩ := takeL_local h1
    exact ⟨_, _, h2, fun s' hs K' hk => l1 s' hs.left _ (l2 s' hs.right _ hk)⟩

theorem lendC_local {m : MV} {K : MV → Option Nat → List Nat → Prop} (h : lendC s m K) :
    ∃ x i g, K x i g ∧ (∀ j, i = some j → j ∈ g) ∧ ∀ s', SameHp s s' g → ∀ K' : MV → Option Nat → List Nat → Prop, K' x i g → lendC s' m K' := by
  cases m <;> simp only [lendC] at h <;> try exact h.elim
  case sr id off len =>
    split at h
    · rename_i t k es ho
      refine ⟨_, _, _, h.2.2, by simp, fun s' hs K' hk => ?_⟩
      simp only [lendC]; rw [hs.obj (by simp), ho]
      exact ⟨h.1, h.2.1, hk⟩
    · exact h.elim
  all_goals exact ⟨_, _, _, h, by simp, fun s' hs K' hk => by simpa only [lendC] using hk⟩
theorem lendL_local : ∀ {ms : List MV} {K : List MV → List (Option Nat) → List Nat → Prop}, lendL s ms K →
    ∃ x i g, K x i g ∧ (∀ j, some j ∈ i → j ∈ g) ∧ ∀ s', SameHp s s' g → ∀ K' : List MV → List (Option Nat) → List Nat → Prop, K' x i g → lendL s' ms K'
  | [], K, h => ⟨_, _, _, h, by simp, fun s' _ K' hk => hk⟩
  | m :: ms, K, h => by
    simp only [lendL] at h
    obtain ⟨x, i, g, h1, e1, l1⟩ := lendC_local h
    obtain ⟨y, is, gs, h2, e2, l2⟩ := lendL_local h1
    refine ⟨_, _, _, h2, fun j hj => ?_, fun s' hs K' hk => l1 s' hs.left _ (l2 s' hs.right _ hk)⟩
    rcases List.mem_cons.1 hj with e | hj
    · exact List.mem_append_left _ (e1 j e.symm)
    · exact List.mem_append_right _ (e2 j hj)

theorem argK_local {al : Bool} {o : Mode} {m : MV} {K : MV → Bk → List Nat → Prop} (h : argK s al o m K) :
    ∃ x i g, K x i g ∧ (∀ j, some j ∈ flatI [i] → j ∈ g) ∧ ∀ s', SameHp s s' ((if o = .im then readsA s m else []) ++ g) → ∀ K' : MV → Bk → List Nat → Prop, K' x i g → argK s' al o m K' := by
  cases o with
  | im =>
    simp only [argK] at h
    split at h
    · rename_i x hx
      refine ⟨x, _, [], h, by simp [flatI], fun s' hs K' hk => ?_⟩
      simp only [argK]
      rw [closeM_local (by simpa using hs), hx]; exact hk
    · exact h.elim
  | io =>
    have one : lendC s m (fun x i g => K x (.one i) g) → (∀ s' K', argK s' al .io m K' = lendC s' m (fun x i g => K' x (.one i) g)) →
        ∃ x i g, K x i g ∧ (∀ j, some j ∈ flatI [i] → j ∈ g) ∧ ∀ s', SameHp s s' ((if Mode.io = Mode.im then readsA s m else []) ++ g) → ∀ K' : MV → Bk → List Nat → Prop, K' x i g → argK s' al .io m K' := fun h e => by
      obtain ⟨x, i, g, h1, e1, l1⟩ := lendC_local h
      exact ⟨x, .one i, g, h1, fun j hj => e1 j (by simpa [flatI, eq_comm] using hj), fun s' hs K' hk => by rw [e]; exact l1 s' (by simpa using hs) _ hk⟩
    cases m with
    | agg cs =>
      simp only [argK] at h
      obtain ⟨x, i, g, h1, e1, l1⟩ := lendL_local h
      exact ⟨_, _, _, h1, fun j hj => e1 j (by simpa [flatI] using hj), fun s' hs K' hk => by simp only [argK]; exact l1 s' (by simpa using hs) _ hk⟩
    | pr id i off =>
      simp only [argK] at h
      split at h
      · rename_i cs ho
        obtain ⟨h1, h2, h⟩ := h
        obtain ⟨x, is, hk, l1⟩ := takeL_local h
        refine ⟨_, _, _, hk, by simp [flatI], fun s' hs K' hk' => ?_⟩
        simp only [argK]
        rw [hs.obj (by simp), ho]
        exact ⟨h1, h2, l1 s' (fun t ht => hs t (by simp [ht])) _ hk'⟩
      · exact h.elim
    | _ => exact one h (fun _ _ => rfl)
  | co =>
    have one : takeC s al m (fun x is => K x (.one none) is) → (∀ s' K', argK s' al .co m K' = takeC s' al m (fun x is => K' x (.one none) is)) →
        ∃ x i g, K x i g ∧ (∀ j, some j ∈ flatI [i] → j ∈ g) ∧ ∀ s', SameHp s s' ((if Mode.co = Mode.im then readsA s m else []) ++ g) → ∀ K' : MV → Bk → List Nat → Prop, K' x i g → argK s' al .co m K' := fun h e => by
      obtain ⟨x, is, h1, l1⟩ := takeC_local h
      exact ⟨x, _, is, h1, by simp [flatI], fun s' hs K' hk => by rw [e]; exact l1 s' (by simpa using hs) _ hk⟩
    cases m with
    | agg cs =>
      simp only [argK] at h
      obtain ⟨x, is, h1, l1⟩ := takeL_local h
      exact ⟨_, _, _, h1, by simp [flatI], fun s' hs K' hk => by simp only [argK]; exact l1 s' (by simpa using hs) _ hk⟩
    | _ => exact one h (fun _ _ => rfl)
  | fn => cases m <;> exact h.elim

theorem argsK_local {al : Bool} : ∀ {os : List Mode} {ms : List MV} {K : List MV → List Bk → List Nat → List Nat → Prop}, argsK P s al os ms K →
    ∃ xs is gs rs, K xs is gs rs ∧ (∀ j, some j ∈ flatI is → j ∈ gs) ∧ ∀ s', SameHp s s' (gs ++ rs) → ∀ K' : List MV → List Bk → List Nat → List Nat → Prop, K' xs is gs rs → argsK P s' al os ms K'
  | [], [], K, h => ⟨_, _, _, _, h, by simp [flatI], fun s' _ K' hk => hk⟩
  | [], _ :: _, K, h => by simp [argsK] at h
  | o :: os, [], K, h => by cases o <;> simp [argsK] at h
  | o :: os, m :: ms, K, h => by
    have gen : (argK s al o m fun x i g => argsK P s al os ms fun xs is gs rs => K (x :: xs) (i :: is) (g ++ gs) ((if o = .im then readsA s m else []) ++ rs)) →
        (∀ s' (K' : List MV → List Bk → List Nat → List Nat → Prop), (argK s' al o m fun x i g => argsK P s' al os ms fun xs is gs rs => K' (x :: xs) (i :: is) (g ++ gs) ((if o = .im then readsA s' m else []) ++ rs)) → argsK P s' al (o :: os) (m :: ms) K') →
        ∃ xs is gs rs, K xs is gs rs ∧ (∀ j, some j ∈ flatI is → j ∈ gs) ∧ ∀ s', SameHp s s' (gs ++ rs) → ∀ K' : List MV → List Bk → List Nat → List Nat → Prop, K' xs is gs rs → argsK P s' al (o :: os) (m :: ms) K' := by
      intro h e
      obtain ⟨x, i, g, h1, e1, l1⟩ := argK_local h
      obtain ⟨xs, is, gs, rs, h2, i2, l2⟩ := argsK_local h1
      have hfl : flatI (i :: is) = flatI [i] ++ flatI is := by cases i <;> simp [flatI]
      refine ⟨_, _, _, _, h2, fun j hj => by rw [hfl] at hj; exact (List.mem_append.1 hj).elim (fun x => List.mem_append_left _ (e1 j x)) (fun x => List.mem_append_right _ (i2 j x)), fun s' hs K' hk => e s' K' (l1 s' (fun t ht => hs t ?_) _ (l2 s' (fun t ht => hs t ?_) _ ?_))⟩
      · simp only [List.mem_append] at ht ⊢
        rcases ht with ht | ht
        · exact .inr (.inl ht)
        · exact .inl (.inl ht)
      · simp only [List.mem_append] at ht ⊢
        rcases ht with ht | ht
        · exact .inl (.inr ht)
        · exact .inr (.inr ht)
      · by_cases ho : o = .im
        · rw [if_pos ho] at hk ⊢
          rw [readsA_local (fun t ht => hs t (by simp [ho, ht]))]; exact hk
        · rw [if_neg ho] at hk ⊢; exact hk
    cases o with
    | fn =>
      cases m
      case fn dom φ =>
        simp only [argsK] at h
        obtain ⟨xs, is, gs, rs, h2, i2, l2⟩ := argsK_local h
        exact ⟨_, _, _, _, h2, by simpa [flatI] using i2, fun s' hs K' hk => by simp only [argsK]; exact l2 s' hs _ hk⟩
      case clo f a b =>
        simp only [argsK] at h
        obtain ⟨dom, φ, hf, h⟩ := h
        obtain ⟨xs, is, gs, rs, h2, i2, l2⟩ := argsK_local h
        refine ⟨_, _, _, _, h2, by simpa [flatI] using i2, fun s' hs K' hk => ?_⟩
        have hrs : SameHp s s' (readsM s (.clo f a b)) := fun t ht => hs t (by simp [ht])
        simp only [argsK]
        refine ⟨dom, φ, FnOk_local hrs hf, l2 s' (fun t ht => hs t ?_) _ (by rw [readsM_local hrs]; exact hk)⟩
        simp only [List.mem_append] at ht ⊢
        rcases ht with ht | ht
        · exact .inl ht
        · exact .inr (.inr ht)
      all_goals simp [argsK, argK] at h
    | im => exact gen (by simpa only [argsK] using h) (fun s' K' x => by simpa only [argsK] using x)
    | io => exact gen (by simpa only [argsK] using h) (fun s' K' x => by simpa only [argsK] using x)
    | co => exact gen (by simpa only [argsK] using h) (fun s' K' x => by simpa only [argsK] using x)

theorem outK_local {t : Bool} : ∀ {is : List (Option Nat)} {ms : List MV} {n : Nat} {K : Upd → Nat → Prop}, outK t s is ms n K →
    ∃ u n', K u n' ∧ ∀ s', (∀ id, some id ∈ is → s'.obj id = s.obj id) → ∀ K' : Upd → Nat → Prop, K' u n' → outK t s' is ms n K'
  | [], [], n, K, h => ⟨[], n, h, fun _ _ _ x => x⟩
  | [], _ :: _, n, K, h => by simp [outK] at h
  | none :: is, [], n, K, h => by simp [outK] at h
  | some id :: is, [], n, K, h => by simp [outK] at h
  | none :: is, m :: ms, n, K, h => by
    simp only [outK] at h
    obtain ⟨u, n', h1, l1⟩ := outK_local h
    exact ⟨u, n', h1, fun s' hs K' hk => by simp only [outK]; exact l1 s' (fun i hi => hs i (by simp [hi])) K' hk⟩
  | some id :: is, m :: ms, n, K, h => by
    simp only [outK] at h
    split at h
    · rename_i t0 k es t' k' es' ho
      obtain ⟨e1, e2, h⟩ := h
      obtain ⟨u, n', h1, l1⟩ := outK_local h
      refine ⟨_, n', h1, fun s' hs K' hk => ?_⟩
      simp only [outK]
      rw [hs id (by simp), ho]
      exact ⟨e1, e2, l1 s' (fun i hi => hs i (by simp [hi])) _ hk⟩
    · rename_i cs0 cs ho
      obtain ⟨u, n', h1, l1⟩ := outK_local h
      refine ⟨_, n', h1, fun s' hs K' hk => ?_⟩
      simp only [outK]
      rw [hs id (by simp), ho]
      exact l1 s' (fun i hi => hs i (by simp [hi])) _ hk
    · rename_i x1 x2 hx1 hx2
      obtain ⟨u, n', h1, l1⟩ := outK_local h
      refine ⟨u, n', h1, fun s' hs K' hk => ?_⟩
      simp only [outK]
      rw [hs id (by simp)]
      have := l1 s' (fun i hi => hs i (by simp [hi])) _ hk
      split
      · rename_i e1; exact absurd rfl (hx1 _ _ _ _ _ _ e1)
      · rename_i e1; exact absurd rfl (hx2 _ _ e1)
      · exact this

theorem bound_local {d : Nat} {o : Option Opd} {K : Nat → Prop} (h : bound s d o K) : ∃ l, K l ∧ ∀ s', SameFr s s' (ooSlots o) → ∀ K' : Nat → Prop, K' l → bound s' d o K' := by
  cases o with
  | none => exact ⟨d, h, fun s' _ K' hk => hk⟩
  | some x =>
    simp only [bound] at h
    split at h
    · rename_i k m hx
      refine ⟨_, h.2, fun s' hs K' hk => ?_⟩
      simp only [bound]; rw [val_local hs, hx]; exact ⟨h.1, hk⟩
    · exact h.elim
theorem intBin_local {op : BinOp} {k : IntKind} {a b : Int} {K : MV → Prop} (h : intBin op k a b K) : ∃ m, K m ∧ ∀ K' : MV → Prop, K' m → intBin op k a b K' := by
  cases op <;> simp only [intBin] at h
  case quo => exact ⟨_, h.2.2, fun K' hk => ⟨h.1, h.2.1, hk⟩⟩
  all_goals first
    | exact ⟨_, h.2, fun K' hk => ⟨h.1, hk⟩⟩
    | exact ⟨_, h, fun K' hk => hk⟩
theorem buildC_local : ∀ {ps : List (Nat × Nat × Opd)} {cs : List MV} {K : List MV → Prop}, buildC s ps cs K → ∃ cs', K cs' ∧ ∀ s', SameFr s s' (ps.flatMap (·.2.2.slots)) → ∀ K' : List MV → Prop, K' cs' → buildC s' ps cs K'
  | [], cs, K, h => ⟨cs, h, fun _ _ _ x => x⟩
  | (off, k, x) :: ps, cs, K, h => by
    simp only [buildC] at h
    split at h
    · rename_i xs hx
      obtain ⟨cs', h1, l1⟩ := buildC_local h.2.2
      refine ⟨cs', h1, fun s' hs K' hk => ?_⟩
      rw [List.flatMap_cons] at hs
      simp only [buildC]; rw [val_local hs.left, hx]
      exact ⟨h.1, h.2.1, l1 s' hs.right K' hk⟩
    · exact h.elim
theorem sliceOf_local {m : MV} {t k es rs} (h : sliceOf s m = some (t, k, es, rs)) (hs : SameHp s s' rs) : sliceOf s' m = some (t, k, es, rs) := by
  cases m <;> simp only [sliceOf] at h ⊢ <;> try exact h
  rename_i id off len
  have hi : id ∈ rs := by
    split at h
    · split at h
      · cases h; simp
      · cases h
    · split at h
      · cases h; simp
      · cases h
    · cases h
  rw [hs.obj hi]; exact h

end
end Go.Fw
