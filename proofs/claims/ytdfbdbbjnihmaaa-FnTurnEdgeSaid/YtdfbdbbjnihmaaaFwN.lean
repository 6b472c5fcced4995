/-
  What a callee is handed.
-/
import Derived.Test.YtdfbdbbjnihmaaaFwMb
namespace Go.Fw
set_option linter.unusedVariables false
set_option linter.unusedSimpArgs false
section
variable {P : Program} {N : FrS} {A : Nat → Prop} {w0 : World} {F0 : List Nat} {J0 : Imm} {g : Env} {s : MS} {a : Act} {w : World} {hp : List (Nat × MO)}

/-- Memory that is not written, or that belongs to one of the objects in rs. -/
def Reads (g : Env) (hp : List (Nat × MO)) (rs : List Nat) (b : Nat) : Prop :=
  g.I b ≠ none ∨ ∃ id o l, id ∈ rs ∧ look hp id = some o ∧ o.live = true ∧ g.inj id = some l ∧ l.b = b

theorem Reads.mono {rs rs' : List Nat} {b : Nat} (h : Reads g hp rs b) (hs : ∀ i ∈ rs, i ∈ rs') : Reads g hp rs' b := by
  rcases h with h | ⟨id, o, l, h1, h2⟩
  · exact .inl h
  · exact .inr ⟨id, o, l, hs _ h1, h2⟩

theorem HRel.I_of (h : HRel P A w0 F0 J0 g hp w) {I' : Imm} {rs : List Nat} (hI' : ∀ b o, w.heap[b]? = some o → Reads g hp rs b → I' b = some o) : ∀ b o, g.I b = some o → I' b = some o :=
  fun b o x => hI' b o (h.imm b o x) (.inl (by rw [x]; simp))

theorem DR.slice_of {I' : Imm} {v : Value} {k : Nat} {ys : List (List D)} {p len cap} (hk : ∀ e ∈ ys, e.length = k) (hv : v = .slice p len cap) (hlen : len = ys.length) (hcap : len ≤ cap)
    (hc : ys = [] ∨ ∃ (b q : Nat) (cs : Array Value) (E : TypeId) (z : Nat × Nat), p = some ⟨b, q, none⟩ ∧ I' b = some (.cells cs E z) ∧ ∀ i j, i < ys.length → j < k → ∃ u, cs[q + i * k + j]? = some u ∧ DR I' u (cellD ys i j)) :
    DR I' v (.a k ys) := by
  subst hv
  rcases hc with rfl | ⟨b, q, cs, E, z, rfl, hI, hcc⟩
  · subst hlen; exact .a0 _ _ _
  · refine .a b q cap len cs E z k ys (fun i j => cs.getD (q + i * k + j) undef) hI hlen hk hcap (fun i j hi hj => ?_) (fun i j hi hj => ?_)
    · obtain ⟨u, hu, _⟩ := hcc i j hi hj
      show _ = some (cs.getD _ undef)
      rw [Array.getD_eq_getD_getElem?, hu]; rfl
    · obtain ⟨u, hu, hr⟩ := hcc i j hi hj
      show DR I' (cs.getD _ undef) _
      rw [Array.getD_eq_getD_getElem?, hu]; exact hr

/-- A slice that is read, as the callee sees it. -/
theorem HRel.slice_in (h : HRel P A w0 F0 J0 g s.hp w) {I' : Imm} {rs : List Nat} (hI' : ∀ b o, w.heap[b]? = some o → Reads g s.hp rs b → I' b = some o)
    {v : Value} {m : MV} (hv : RV P g v m) {t : Bool} {k : Nat} {ys : List (List D)} {rs' : List Nat} (hs : sliceOf s m = some (t, k, ys, rs')) (hr : ∀ i ∈ rs', i ∈ rs) : DR I' v (.a k ys) := by
  obtain ⟨hk, p, len, cap, e1, e2, e3, e4⟩ := h.slice hv hs
  refine DR.slice_of hk e1 e2 e3 ?_
  rcases e4 with e | ⟨b, q, cs, E, z, h1, h2, h3, h4⟩
  · exact .inl e
  · refine .inr ⟨b, q, cs, E, z, h1, hI' _ _ h2 ?_, fun i j hi hj => ?_⟩
    · rcases h4 with h4 | ⟨id, o, l, a1, a2⟩
      · exact .inl h4
      · exact .inr ⟨id, o, l, hr _ a1, a2⟩
    · obtain ⟨u, hu, hd⟩ := h3 i j hi hj
      refine ⟨u, hu, hd.mono ?_⟩
      intro b o x
      cases t
      · exact h.I_of hI' b o x
      · exact h.I_of hI' b o (h.JI b o x)

theorem closeD_DR (h : HRel P A w0 F0 J0 g s.hp w) {I' : Imm} {rs : List Nat} (hI' : ∀ b o, w.heap[b]? = some o → Reads g s.hp rs b → I' b = some o)
    {v : Value} {m : MV} (hv : RV P g v m) {d : D} (hd : closeD s m = some d) (hr : ∀ id off len, m = .sr id off len → id ∈ rs) : DR I' v d := by
  cases m <;> simp [closeD] at hd
  case i => subst hd; cases hv; exact .i _ _
  case b => subst hd; cases hv; exact .b _
  case s t k es =>
    subst hd
    cases hv with
    | s _ _ _ _ hh => exact hh.mono (fun b o x => h.I_of hI' b o (by cases t; exact x; exact h.JI b o x))
  case nl => subst hd; cases hv; exact .a0 _ _ _
  case sr id off len =>
    have hid := hr id off len rfl
    split at hd
    · rename_i t k es hob
      simp at hd
      obtain ⟨hle, rfl⟩ := hd
      exact h.slice_in hI' hv (t := t) (k := k) (ys := (es.drop off).take len) (rs' := [id]) (by simp [sliceOf, hob, hle]) (by simpa using hid)
    · rename_i t k es hob
      simp at hd
      obtain ⟨hle, rfl⟩ := hd
      exact h.slice_in hI' hv (t := t) (k := k) (ys := (es.drop off).take len) (rs' := [id]) (by simp [sliceOf, hob, hle]) (by simpa using hid)
    · simp at hd

theorem mapO_get {α β : Type} {f : α → Option β} : ∀ {xs : List α} {ys : List β}, mapO f xs = some ys → ys.length = xs.length ∧ ∀ (i : Nat) (x : α), xs[i]? = some x → ∃ y, f x = some y ∧ ys[i]? = some y
  | [], ys, h => by simp [mapO] at h; subst h; exact ⟨rfl, by simp⟩
  | x :: xs, ys, h => by
    simp only [mapO] at h
    split at h
    · rename_i y hy
      split at h
      · rename_i ys' hys
        cases h
        obtain ⟨h1, h2⟩ := mapO_get hys
        refine ⟨by simp [h1], fun i z hz => ?_⟩
        cases i with
        | zero => simp at hz; subst hz; exact ⟨y, hy, rfl⟩
        | succ i => simp at hz; obtain ⟨y', h3, h4⟩ := h2 i z hz; exact ⟨y', h3, by simpa using h4⟩
      · cases h
    · cases h

theorem closeC_RV (h : HRel P A w0 F0 J0 g s.hp w) {I' J' : Imm} {rs : List Nat} {al : Bool} (hI' : ∀ b o, w.heap[b]? = some o → Reads g s.hp rs b → I' b = some o)
    (hJ' : ∀ b o, (if al then g.I else g.J) b = some o → J' b = some o) {v : Value} {m x : MV} (hv : RV P g v m) (hc : closeC s al m = some x) (hr : ∀ i ∈ readsC s m, i ∈ rs) :
    RV P ⟨I', J', noInj⟩ v x := by
  have toJ : ∀ t, al = true → ∀ b o, g.im t b = some o → J' b = some o := fun t ha b o y => by
    subst ha; exact hJ' b o (by cases t; exact y; exact h.JI b o y)
  have flagI : ∀ t, ∀ b o, g.im t b = some o → (⟨I', J', noInj⟩ : Env).im (t || al) b = some o := fun t b o y => by
    cases al
    · cases t
      · exact h.I_of hI' b o y
      · exact hJ' b o y
    · rw [Bool.or_true]; exact toJ t rfl b o y
  cases m <;> simp [closeC] at hc
  case i => subst hc; cases hv; exact .i _ _
  case b => subst hc; cases hv; exact .b _
  case s t k es =>
    subst hc
    cases hv with
    | s _ _ _ _ hh => exact .s _ _ _ _ (hh.mono (flagI t))
  case nl => subst hc; cases hv; exact .s _ _ _ _ (.a0 _ _ _)
  case sr id off len =>
    have hid : id ∈ rs := hr id (by simp [readsC])
    split at hc
    · rename_i t k es hob
      simp at hc
      obtain ⟨hle, rfl⟩ := hc
      exact .s _ _ _ _ (h.slice_in hI' hv (t := t) (k := k) (ys := (es.drop off).take len) (rs' := [id]) (by simp [sliceOf, hob, hle]) (by simpa using hid))
    · rename_i t k es hob
      simp at hc
      obtain ⟨hle, rfl⟩ := hc
      exact .s _ _ _ _ (h.slice_in hI' hv (t := t) (k := k) (ys := (es.drop off).take len) (rs' := [id]) (by simp [sliceOf, hob, hle]) (by simpa using hid))
    · simp at hc
  case pd t cs off =>
    subst hc
    cases hv with
    | pd _ _ _ bb p cells E z vs hI hcc hrr => exact .pd _ _ _ bb p cells E z vs (flagI t _ _ hI) hcc (fun j hj => (hrr j hj).mono (flagI t))
  case pf d φ =>
    subst hc
    cases hv with
    | pf bb p cells E z v _ _ hI hcc hf =>
      cases hf with
      | fn f fv cv _ _ h0 hh => exact .pf bb p cells E z _ _ _ (h.I_of hI' _ _ hI) hcc (.fn f fv cv _ _ h0 (fun w' xs hw => hh w' xs (fun b o x => hw b o (h.I_of hI' b o x))))
  case pr id i off =>
    split at hc
    · rename_i d φ hob
      simp at hc
      obtain ⟨⟨rfl, rfl⟩, rfl⟩ := hc
      have hr1 : id ∈ rs := hr id (by simp [readsC, hob])
      cases hv with
      | pr _ _ _ l hl =>
        obtain ⟨l', cells, E, h1, h2, h3, h4, h5⟩ := h.objs id _ hob
        rw [hl] at h1; cases h1
        simp at h3
        have hlt : l.base < cells.size := by omega
        have hce : cells[l.base]? = some cells[l.base] := by simp [hlt]
        have hf := h5.get 0 cells[l.base] (.fn d φ) (by rw [List.getElem?_take_of_lt (by simp), List.getElem?_drop, Array.getElem?_toList]; first | exact hce | (simp; exact hce)) (by simp)
        generalize cells[l.base] = v at hce hf
        have key : RV P ⟨I', J', noInj⟩ v (.fn d φ) := by
          cases hf with
          | fn f fv cv _ _ h0 hh => exact .fn f fv cv _ _ h0 (fun w' xs hw => hh w' xs (fun b o x => hw b o (h.I_of hI' b o x)))
        have := RV.pf (P := P) (g := ⟨I', J', noInj⟩) l.b l.base cells E (0, 0) v d φ (hI' _ _ h2 (.inr ⟨id, _, l, hr1, hob, rfl, hl, rfl⟩)) hce key
        simpa using this
    · rename_i cs _ hob
      simp at hc
      obtain ⟨rfl, ds, hds, rfl⟩ := hc
      have hr1 : id ∈ rs := hr id (by simp [readsC, hob])
      cases hv with
      | pr _ _ _ l hl =>
        obtain ⟨l', cells, E, h1, h2, h3, h4, h5⟩ := h.objs id _ hob
        rw [hl] at h1; cases h1
        obtain ⟨hlen, hget⟩ := mapO_get hds
        have hcell : ∀ j, j < ds.length → ∃ (m : MV) (d : D), cs[j]? = some m ∧ closeD s m = some d ∧ ds[j]? = some d ∧ cells[l.base + j]? = some (cells.getD (l.base + j) undef) ∧ RV P g (cells.getD (l.base + j) undef) m := by
          intro j hj
          rw [hlen] at hj
          obtain ⟨d, hd1, hd2⟩ := hget j _ (List.getElem?_eq_getElem hj)
          have hlt : l.base + j < cells.size := by omega
          have hce : cells[l.base + j]? = some (cells.getD (l.base + j) undef) := by simp [Array.getD_eq_getD_getElem?, hlt]
          refine ⟨_, d, List.getElem?_eq_getElem hj, hd1, hd2, hce, ?_⟩
          have := h5.get j (cells.getD (l.base + j) undef) cs[j] (by rw [List.getElem?_take_of_lt hj, List.getElem?_drop, Array.getElem?_toList, hce]) (List.getElem?_eq_getElem hj)
          exact this
        have := RV.pd (P := P) (g := ⟨I', J', noInj⟩) false ds off l.b l.base cells E (0, 0) (fun j => cells.getD (l.base + j) undef) (hI' _ _ h2 (.inr ⟨id, _, l, hr1, hob, rfl, hl, rfl⟩))
          (fun j hj => (hcell j hj).choose_spec.choose_spec.2.2.2.1) (fun j hj => by
            obtain ⟨m, d, c1, c2, c3, _, c5⟩ := hcell j hj
            have e1 : ds.getD j default = d := by simp [List.getD, c3]
            rw [e1]
            refine closeD_DR h hI' c5 c2 (fun i o ln hm => hr i ?_)
            subst hm
            simp only [readsC, hob, List.mem_cons, List.mem_flatMap]
            exact .inr ⟨_, List.mem_of_getElem? c1, by simp⟩)
        simpa using this
    · simp at hc
  case fn d φ =>
    subst hc
    cases hv with
    | fn f fv cv _ _ h0 hh => exact .fn f fv cv _ _ h0 (fun w' xs hw => hh w' xs (fun b o x => hw b o (h.I_of hI' b o x)))

theorem closeM_RV (h : HRel P A w0 F0 J0 g s.hp w) {I' J' : Imm} {rs : List Nat} {al : Bool} (hI' : ∀ b o, w.heap[b]? = some o → Reads g s.hp rs b → I' b = some o)
    (hJ' : ∀ b o, (if al then g.I else g.J) b = some o → J' b = some o) {v : Value} {m x : MV} (hv : RV P g v m) (hc : closeM s al m = some x) (hr : ∀ i ∈ readsA s m, i ∈ rs) :
    RV P ⟨I', J', noInj⟩ v x := by
  cases m
  case agg cs =>
    simp only [closeM, Option.map_eq_some_iff] at hc
    obtain ⟨ys, hys, rfl⟩ := hc
    obtain ⟨hlen, hget⟩ := mapO_get hys
    cases hv with
    | agg vs _ hvs h1 =>
      refine .agg _ _ (RVL.of_get (by rw [hvs.length, hlen]) (fun i v y e1 e2 => ?_)) h1
      have hi : i < cs.length := by
        have := hvs.length
        have : i < vs.toList.length := (List.getElem?_eq_some_iff.1 e1).1
        omega
      obtain ⟨y', h2, h3⟩ := hget i _ (List.getElem?_eq_getElem hi)
      rw [e2] at h3; cases h3
      refine closeC_RV h hI' hJ' (hvs.get i v _ e1 (List.getElem?_eq_getElem hi)) h2 (fun j hj => hr j ?_)
      simp only [readsA, List.mem_flatMap]
      exact ⟨_, List.getElem_mem hi, hj⟩
  all_goals exact closeC_RV h hI' hJ' hv hc hr

theorem flat_val {d : D} {v : Value} (hd : d.isFlat = true) (h : RV P g v (ofD true d)) : v = d.val := by
  cases d with
  | i k n => cases h; rfl
  | b x => cases h; rfl
  | a => simp [D.isFlat] at hd

theorem flat_vals : ∀ {ds : List D} {vs : List Value}, ds.all D.isFlat = true → RVL P g vs (ds.map (ofD true)) → vs = ds.map D.val
  | [], _, _, .nil => rfl
  | d :: ds, _, h, .cons v vs _ _ hv hvs => by
    simp at h
    rw [List.map_cons, flat_val h.1 hv, flat_vals (by simpa using h.2) hvs]

theorem flat_FV {x : FV} {v : Value} (hx : x.isFlat = true) (h : RV P g v x.mv) : v = x.val := by
  cases x with
  | c d => exact flat_val hx h
  | g ds =>
    simp only [FV.mv] at h
    cases h with
    | agg vs _ hr _ =>
      have := flat_vals hx hr
      simp only [FV.val]; rw [← this]

theorem flat_RV {d : D} (hd : d.isFlat = true) : RV P g d.val (ofD true d) := by
  cases d with
  | i k n => exact .i _ _
  | b x => exact .b _
  | a => simp [D.isFlat] at hd
theorem flat_RVL : ∀ {ds : List D}, ds.all D.isFlat = true → RVL P g (ds.map D.val) (ds.map (ofD true)) ∧ ∀ v ∈ ds.map D.val, v.oneCell' = true
  | [], _ => ⟨.nil, by simp⟩
  | d :: ds, h => by
    simp at h
    have ih := flat_RVL (ds := ds) (by simpa using h.2)
    refine ⟨.cons _ _ _ _ (flat_RV h.1) ih.1, fun v hv => ?_⟩
    rcases List.mem_cons.1 hv with e | hv
    · subst e; cases d <;> rfl
    · exact ih.2 v hv
theorem FV_RV {x : FV} (hx : x.isFlat = true) : RV P g x.val x.mv := by
  cases x with
  | c d => exact flat_RV hx
  | g ds =>
    have := flat_RVL (P := P) (g := g) hx
    exact .agg _ _ (by simpa using this.1) (by simpa using this.2)

theorem Own_flat {I J : Imm} {x : FV} {v : Value} {F : List Nat} (hx : x.isFlat = true) (h : Own P I J w v x.mv F) : v = x.val := by
  cases x with
  | c d =>
    simp only [FV.mv] at h
    generalize hm : ofD true d = m at h
    cases h with
    | imm _ _ hv => subst hm; exact flat_val hx hv
    | ow0 => cases d <;> simp [ofD] at hm
    | ow => cases d <;> simp [ofD] at hm
    | pw => cases d <;> simp [ofD] at hm
    | agg => cases d <;> simp [ofD] at hm
    | tup => cases d <;> simp [ofD] at hm
  | g ds =>
    simp only [FV.mv] at h
    cases h with
    | imm _ _ hv => exact flat_FV (x := .g ds) hx hv
    | agg vs _ _ hr h1 =>
      have key : ∀ {vs : List Value} {ds : List D} {F : List Nat}, ds.all D.isFlat = true → OwnL P I J w vs (ds.map (ofD true)) F → vs = ds.map D.val := by
        intro vs ds
        induction ds generalizing vs with
        | nil => intro F _ hh; cases hh; rfl
        | cons d ds ih =>
          intro F hd hh
          simp at hd
          cases hh with
          | cons v vs _ _ F' G' h1 h2 =>
            rw [ih (by simpa using hd.2) h2]
            congr 1
            generalize hm : ofD true d = m at h1
            cases h1 with
            | imm _ _ hv => subst hm; exact flat_val hd.1 hv
            | ow0 => cases d <;> simp [ofD] at hm
            | ow => cases d <;> simp [ofD] at hm
            | pw => cases d <;> simp [ofD] at hm
            | agg => cases d <;> simp [ofD] at hm
            | tup => cases d <;> simp [ofD] at hm
      have := key hx hr
      simp only [FV.val]; rw [← this]

theorem OwnL.app {I J : Imm} : ∀ {vs us : List Value} {ms ns : List MV} {F G : List Nat}, OwnL P I J w vs ms F → OwnL P I J w us ns G → OwnL P I J w (vs ++ us) (ms ++ ns) (F ++ G)
  | _, _, _, _, _, _, .nil, k => by simpa using k
  | _, _, _, _, _, _, .cons v vs m ms F G h hs, k => by
    have := OwnL.cons v _ m _ F _ h (hs.app k)
    simpa [List.append_assoc] using this
theorem OwnL.of_RVL {I J : Imm} : ∀ {vs : List Value} {ms : List MV}, RVL P ⟨I, J, noInj⟩ vs ms → OwnL P I J w vs ms []
  | _, _, .nil => .nil
  | _, _, .cons v vs m ms h hs => by
    have := OwnL.cons v vs m ms [] [] (.imm v m h) (OwnL.of_RVL hs)
    simpa using this

/-- A closure, called. -/
theorem FnOk.calls (h : HRel P A w0 F0 J0 g s.hp w) {f : FuncId} {fv cv : Array Value} {first caps : List MV} {dom : List FV → Prop} {φ : List FV → FV} (hok : FnOk P s f first caps dom φ)
    (hf : RVL P g fv.toList first) (hc : RVL P g cv.toList caps) {I' : Imm} {rs : List Nat} (hI' : ∀ b o, w.heap[b]? = some o → Reads g s.hp rs b → I' b = some o)
    (hr : ∀ i ∈ readsM s (.clo f first caps), i ∈ rs) :
    Callable P f ∧ ∀ w' xs, (∀ b o, I' b = some o → w'.heap[b]? = some o) → (∀ x ∈ xs, x.isFlat = true) → dom xs →
      Calls P f (fv ++ (xs.map FV.val).toArray ++ cv) w' (fun e w'' => e = .returned (φ xs).val ∧ (φ xs).isFlat = true ∧ WExt w' [] w'') := by
  unfold FnOk at hok
  split at hok
  · rename_i fs cs h1 h2
    obtain ⟨hcal, hok⟩ := hok
    refine ⟨hcal, ?_⟩
    intro w' xs hw hxs hdom
    have hM := hok xs hxs hdom
    have cl : ∀ {vs : List Value} {ms ys : List MV}, RVL P g vs ms → mapO (closeM s false) ms = some ys → (∀ m ∈ ms, ∀ i ∈ readsA s m, i ∈ rs) → RVL P ⟨heapBut w' [], g.J, noInj⟩ vs ys := by
      intro vs ms ys hv hm hrr
      obtain ⟨hlen, hget⟩ := mapO_get hm
      refine RVL.of_get (by rw [hv.length, hlen]) (fun i v y e1 e2 => ?_)
      have hi : i < ms.length := by
        have := hv.length
        have : i < vs.length := (List.getElem?_eq_some_iff.1 e1).1
        omega
      obtain ⟨y', h3, h4⟩ := hget i _ (List.getElem?_eq_getElem hi)
      rw [e2] at h4; cases h4
      refine closeM_RV h (al := false) (rs := rs) (fun b o x y => ?_) (fun b o x => x) (hv.get i v _ e1 (List.getElem?_eq_getElem hi)) h3 (hrr _ (List.getElem_mem hi))
      simp only [heapBut, List.not_mem_nil, if_false]
      exact hw b o (hI' b o x y)
    have r1 := cl hf h1 (fun m hm i hi => hr i (by
      simp only [readsM, List.mem_append, List.mem_flatMap]
      exact .inl ⟨m, hm, hi⟩))
    have r2 := cl hc h2 (fun m hm i hi => hr i (by
      simp only [readsM, List.mem_append, List.mem_flatMap]
      exact .inr ⟨m, hm, hi⟩))
    have hx : RVL P ⟨heapBut w' [], g.J, noInj⟩ (xs.map FV.val) (xs.map FV.mv) := by
      clear hM hdom hok
      induction xs with
      | nil => exact .nil
      | cons x xs ih => exact .cons _ _ _ _ (FV_RV (hxs x (by simp))) (ih (fun y hy => hxs y (by simp [hy])))
    have hall := OwnL.of_RVL (w := w') ((r1.append hx).append r2)
    refine (hM w' g.J (fv ++ (xs.map FV.val).toArray ++ cv) [] (fun b o x => ⟨hw b o (h.I_of hI' b o (h.JI b o x)), by simp⟩) (by simp) (by simpa using hall)).mono ?_
    rintro e w'' ⟨v, outs, r, J', G, he, ⟨rfl, hfl⟩, hext, _, _, _, _, hown⟩
    refine ⟨?_, hfl, hext⟩
    cases hown with
    | cons _ _ _ _ F1 G1 h3 _ => rw [he, Own_flat hfl h3]
  · exact hok.elim
end
end Go.Fw
