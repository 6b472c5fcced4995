/-
  Calls, the operation.
-/
import Derived.Test.YtdfbdbbjnihmaaaFwQ
namespace Go.Fw
set_option linter.unusedVariables false
set_option linter.unusedSimpArgs false
section
variable {P : Program} {N : FrS} {A : Nat → Prop} {w0 : World} {F0 : List Nat} {J0 : Imm} {g : Env} {s : MS} {a : Act} {w : World} {hp : List (Nat × MO)}
variable {n : Nat} {o : Oper} {K : MK} {next : Act → World → Prop} {Q : Exit → Act → World → Prop}

theorem Arg.own {I' J' : Imm} {v x i ids F} (h : Arg P I' J' w g s v x i ids F) : Own P I' J' w v x F ∧ F.Sublist (ids.flatMap (blk g)) ∧ (∀ j ∈ ids, ∃ o, s.obj j = some o ∧ o.live = true) ∧ (∀ j, i = some j → j ∈ ids) := by
  cases h with
  | plain _ _ h hF hl => exact ⟨h, hF, hl, by simp⟩
  | arr id t k es l len cap h1 h2 hv hlen hcap hc0 hlk h => exact ⟨h, by simp [blk, h2], by simp; exact ⟨_, h1, rfl⟩, by simp⟩
  | arr0 id t k es p h1 he hv h => exact ⟨h, by simp, by simp; exact ⟨_, h1, rfl⟩, by simp⟩
  | box id cs l ids F h1 h2 hv h hF hl =>
    refine ⟨h, ?_, fun j hj => ?_, by simp⟩
    · rw [List.flatMap_cons]
      have : blk g id = [l.b] := by simp [blk, h2]
      rw [this]; exact hF.cons_cons _
    · rcases List.mem_cons.1 hj with e | hj
      · subst e; exact ⟨_, h1, rfl⟩
      · exact hl j hj

theorem ArgL.own {I' J' : Imm} : ∀ {vs xs is gs F}, ArgL P I' J' w g s vs xs is gs F → OwnL P I' J' w vs xs F ∧ F.Sublist (gs.flatMap (blk g)) ∧ (∀ j ∈ gs, ∃ o, s.obj j = some o ∧ o.live = true) ∧ (∀ j, some j ∈ is → j ∈ gs)
  | _, _, _, _, _, .nil => ⟨.nil, by simp, by simp, by simp⟩
  | _, _, _, _, _, .cons v vs x xs i is ids gs F G h hs => by
    obtain ⟨a1, a2, a3, a4⟩ := h.own
    obtain ⟨b1, b2, b3, b4⟩ := hs.own
    refine ⟨.cons _ _ _ _ _ _ a1 b1, by rw [List.flatMap_append]; exact a2.append b2, fun j hj => ?_, fun j hj => ?_⟩
    · rcases List.mem_append.1 hj with hj | hj
      · exact a3 j hj
      · exact b3 j hj
    · rcases List.mem_cons.1 hj with e | hj
      · exact List.mem_append_left _ (a4 j e.symm)
      · exact List.mem_append_right _ (b4 j hj)

theorem ArgL.ids_nodup {I' J' : Imm} : ∀ {vs xs is gs F}, ArgL P I' J' w g s vs xs is gs F → gs.Nodup → (is.filterMap _root_.id).Nodup
  | _, _, _, _, _, .nil, _ => by simp
  | _, _, _, _, _, .cons v vs x xs i is ids gs F G h hs, hnd => by
    have hn := List.nodup_append.1 hnd
    have ih := hs.ids_nodup hn.2.1
    cases i with
    | none => simpa using ih
    | some j =>
      show (j :: is.filterMap _root_.id).Nodup
      refine List.nodup_cons.2 ⟨fun hm => ?_, ih⟩
      obtain ⟨q, hq, e⟩ := List.mem_filterMap.1 hm
      simp at e; subst e
      exact hn.2.2 j (h.own.2.2.2 j rfl) j (hs.own.2.2.2 j hq) rfl

/-- Two objects do not lie in one block. -/
theorem HRel.apart (h : HRel P A w0 F0 J0 g hp w) {i j : Nat} {b : Nat} (hi : ∃ o, look hp i = some o ∧ o.live = true) (hj : ∃ o, look hp j = some o ∧ o.live = true) (hbi : b ∈ blk g i) (hbj : b ∈ blk g j) : i = j := by
  obtain ⟨o1, a1, b1⟩ := hi
  obtain ⟨o2, a2, b2⟩ := hj
  obtain ⟨l1, c1, d1⟩ := mem_blk.1 hbi
  obtain ⟨l2, c2, d2⟩ := mem_blk.1 hbj
  exact h.sep i j o1 o2 l1 l2 a1 a2 b1 b2 c1 c2 (by rw [d1, d2])

theorem back_of (h : HRel P A w0 F0 J0 g s.hp w) {I' Jc J' : Imm} {w' : World} {F' : List Nat} (hw : WExt w F' w') (Ft : List Nat) (hF' : ∀ b ∈ F', b ∈ Ft) :
    ∀ {vs xs is gs F outs G}, ArgL P I' Jc w g s vs xs is gs F → OwnL P J' J' w' vs outs G → gs.Nodup → G.Nodup → (∀ b ∈ G, w.heap.size ≤ b ∨ b ∈ Ft) →
    (∀ b ∈ Ft, b ∈ F ∨ ∃ j, j ∉ gs ∧ (∃ o, s.obj j = some o ∧ o.live = true) ∧ b ∈ blk g j) →
    ∃ G', BackL P J' w' g.inj s outs is G' ∧ G'.Nodup ∧ ∀ b ∈ G', b ∈ G ∨ (b ∉ Ft ∧ b < w.heap.size ∧ ∃ j ∈ gs, b ∈ blk g j) := by
  intro vs
  induction vs with
  | nil => intro xs is gs F outs G ha ho _ _ _ _; cases ha; cases ho; exact ⟨[], .nil, by simp, by simp⟩
  | cons v vs ih =>
    intro xs is gs F outs G ha ho hgs hG hGf hFt
    cases ha with
    | cons _ _ x xs i is ids gs F1 F2 h1 hs =>
    cases ho with
    | cons _ _ m ms G1 G2 o1 os =>
      have hgn := List.nodup_append.1 hgs
      have hGn := List.nodup_append.1 hG
      obtain ⟨hown, hsub, hlive, hio⟩ := h1.own
      obtain ⟨_, hsub2, hlive2, hio2⟩ := hs.own
      have hFt2 : ∀ b ∈ Ft, b ∈ F2 ∨ ∃ j, j ∉ gs ∧ (∃ o, s.obj j = some o ∧ o.live = true) ∧ b ∈ blk g j := fun b hb => by
        rcases hFt b hb with hb | ⟨j, hj, hl, hbj⟩
        · rcases List.mem_append.1 hb with hb | hb
          · obtain ⟨j, hj, hbj⟩ := List.mem_flatMap.1 (hsub.subset hb)
            exact .inr ⟨j, fun e => hgn.2.2 j hj j e rfl, hlive j hj, hbj⟩
          · exact .inl hb
        · exact .inr ⟨j, fun e => hj (List.mem_append_right _ e), hl, hbj⟩
      obtain ⟨G', q1, q2, q3⟩ := ih hs os hgn.2.1 hGn.2.1 (fun b hb => hGf b (List.mem_append_right _ hb)) hFt2
      -- the first one's own blocks go before the others'
      have build : ∀ (H : List Nat), Back P J' w' g.inj s m i H → H.Nodup → (∀ b ∈ H, b ∈ G1 ∨ (b ∉ Ft ∧ b < w.heap.size ∧ ∃ j ∈ ids, b ∈ blk g j)) →
          ∃ G', BackL P J' w' g.inj s (m :: ms) (i :: is) G' ∧ G'.Nodup ∧ ∀ b ∈ G', b ∈ G1 ++ G2 ∨ (b ∉ Ft ∧ b < w.heap.size ∧ ∃ j ∈ ids ++ gs, b ∈ blk g j) := by
        intro H hb hnd hH
        refine ⟨H ++ G', .cons _ _ _ _ _ _ hb q1, ?_, fun b hb => ?_⟩
        · refine List.nodup_append.2 ⟨hnd, q2, fun x hx y hy e => ?_⟩
          subst e
          rcases hH x hx with c1 | ⟨c1, c2, j, hj, cj⟩
          · rcases q3 x hy with d1 | ⟨d1, d2, _⟩
            · exact hGn.2.2 x c1 x d1 rfl
            · rcases hGf x (List.mem_append_left _ c1) with f | f
              · omega
              · exact d1 f
          · rcases q3 x hy with d1 | ⟨d1, d2, j', hj', cj'⟩
            · rcases hGf x (List.mem_append_right _ d1) with f | f
              · omega
              · exact c1 f
            · have := h.apart (hlive j hj) (hlive2 j' hj') cj cj'
              subst this
              exact hgn.2.2 j hj j hj' rfl
        · rcases List.mem_append.1 hb with hb | hb
          · rcases hH b hb with c | ⟨c1, c2, j, hj, cj⟩
            · exact .inl (List.mem_append_left _ c)
            · exact .inr ⟨c1, c2, j, List.mem_append_left _ hj, cj⟩
          · rcases q3 b hb with c | ⟨c1, c2, j, hj, cj⟩
            · exact .inl (List.mem_append_right _ c)
            · exact .inr ⟨c1, c2, j, List.mem_append_right _ hj, cj⟩
      cases h1 with
      | plain => exact build [] (.none _ _) (by simp) (by simp)
      | arr id t k es l len cap e1 e2 hv hlen hcap hc0 hlk hh =>
        obtain ⟨hek, hrep⟩ := h.objs id _ e1
        have hcell : ∃ (cs : Array Value) (E : TypeId), w.heap[l.b]? = some (.cells cs E (0, 0)) ∧ l.base + l.C * k ≤ cs.size := by
          rcases hrep with ⟨_, h3⟩ | ⟨l', h3, _, cs, E, h4, h5, _⟩
          · rw [e2] at h3; cases h3
          · rw [e2] at h3; cases h3; exact ⟨cs, E, h4, h5⟩
        obtain ⟨cs, E, c1, c2⟩ := hcell
        obtain ⟨cs', c3, c4⟩ := hw.shape _ _ _ _ c1
        by_cases hm : ∃ t' k' es', m = .ow t' k' es'
        · obtain ⟨t', k', es', rfl⟩ := hm
          subst hv
          generalize hvv : Value.slice (some ⟨l.b, l.base, none⟩) len cap = vv at o1
          cases o1 with
          | imm _ _ hi => cases hi
          | ow0 p => simp at hvv; omega
          | ow l2 _ _ _ cap2 len2 hlen2 hcap2 hC2 hk2 hb2 =>
            simp at hvv
            obtain ⟨⟨hb, hbase⟩, rfl, rfl⟩ := hvv
            refine build [l.b] (.arr id t k es t' k' es' l e1 e2 (by omega) (fun hkk => ?_)) (by simp) (by simp [hb])
            subst hkk
            refine ⟨?_, hk2⟩
            obtain ⟨p1, cs2, E2, p2, p3, p4, p5⟩ := hb2
            rw [← hb, c3] at p2; cases p2
            refine ⟨by omega, cs', E, c3, by omega, by omega, fun i j hi hj => ?_⟩
            obtain ⟨u, hu, hr⟩ := p5 i j hi hj
            exact ⟨u, by rw [hbase]; exact hu, by cases t' <;> exact hr⟩
        · exact build [] (.off _ _ _ (fun _ _ _ _ t' k' es' e => hm ⟨t', k', es', e⟩) (fun cs hob => by rw [e1] at hob; cases hob)) (by simp) (by simp)
      | arr0 id t k es p e1 he hv hh =>
        obtain ⟨hek, hrep⟩ := h.objs id _ e1
        by_cases hm : ∃ t' k' es', m = .ow t' k' es'
        · obtain ⟨t', k', es', rfl⟩ := hm
          have hes' : es' = [] := by
            subst hv
            generalize hvv : Value.slice p 0 0 = vv at o1
            cases o1 with
            | imm _ _ hi => cases hi
            | ow0 => rfl
            | ow l2 _ _ _ cap2 len2 hlen2 hcap2 hC2 hk2 hb2 =>
              simp at hvv
              exact List.eq_nil_of_length_eq_zero (by omega)
          subst hes'
          cases hinj : g.inj id with
          | none => exact build [] (.arr0 id t k es t' k' [] e1 hinj rfl (by simp [he])) (by simp) (by simp)
          | some l =>
            rcases hrep with ⟨_, h3⟩ | ⟨l', h3, hlk, cs, E, h4, h5, _⟩
            · rw [hinj] at h3; cases h3
            · rw [hinj] at h3; cases h3
              have hlb : l.b < w.heap.size := (Array.getElem?_eq_some_iff.1 h4).1
              obtain ⟨cs', c3, c4⟩ := hw.shape _ _ _ _ h4
              have hmine : l.b ∈ blk g id := mem_blk.2 ⟨l, hinj, rfl⟩
              have hnot : l.b ∉ Ft := fun hin => by
                rcases hFt l.b hin with hb | ⟨j, hj, hl, hbj⟩
                · simp at hb
                  obtain ⟨j, hj, hbj⟩ := List.mem_flatMap.1 (hsub2.subset hb)
                  have := h.apart ⟨_, e1, rfl⟩ (hlive2 j hj) hmine hbj
                  subst this
                  exact hgn.2.2 id (by simp) id hj rfl
                · have := h.apart ⟨_, e1, rfl⟩ hl hmine hbj
                  subst this
                  exact hj (by simp)
              refine build [l.b] (.arr id t k es t' k' [] l e1 hinj (by simp [he]) (fun hkk => ⟨⟨by omega, cs', E, c3, by omega, by simp, by simp⟩, by simp⟩)) (by simp) ?_
              intro b hb
              simp at hb; subst hb
              exact .inr ⟨hnot, hlb, id, by simp, hmine⟩
        · exact build [] (.off _ _ _ (fun _ _ _ _ t' k' es' e => hm ⟨t', k', es', e⟩) (fun cs hob => by rw [e1] at hob; cases hob)) (by simp) (by simp)
      | box id cs l ids F e1 e2 hv hh hF hl =>
        by_cases hm : ∃ cs', m = .pw cs'
        · obtain ⟨cs', rfl⟩ := hm
          subst hv
          generalize hvv : Value.pointer (some ⟨l.b, l.base, none⟩) = vv at o1
          cases o1 with
          | imm _ _ hi => cases hi
          | pw b base cells E _ F2 hb hsz ho1 hown2 =>
            simp at hvv
            obtain ⟨rfl, rfl⟩ := hvv
            exact build (l.b :: F2) (.box id cs cs' l cells E F2 e1 e2 hb hsz ho1 hown2) hGn.1 (fun b hb => .inl hb)
        · exact build [] (.off _ _ _ (fun _ _ _ hob => by rw [e1] at hob; cases hob) (fun _ _ cs' e => hm ⟨cs', e⟩)) (by simp) (by simp)

theorem HRel.after (h : HRel P A w0 F0 J0 g hp w) {w' : World} {F : List Nat} {J' : Imm} {al : Bool} (hw : WExt w F w') (hlive : ∀ id o l, look hp id = some o → o.live = true → g.inj id = some l → l.b ∉ F)
    (hFI : ∀ b ∈ F, g.I b = none) (hFf : ∀ b ∈ F, w0.heap.size ≤ b ∨ b ∈ F0) (hJ : ∀ b o, (if al then g.I else g.J) b = some o → J' b = some o)
    (hJ' : ∀ b o, J' b = some o → w'.heap[b]? = some o ∧ ((if al then g.I else g.J) b = some o ∨ w.heap.size ≤ b ∨ b ∈ F)) :
    ∃ g', g.le g' ∧ g'.inj = g.inj ∧ (∀ b o, J' b = some o → g'.im (!al) b = some o) ∧ (∀ b, g'.I b = none ↔ (g.I b = none ∧ J' b = none)) ∧ HRel P A w0 F0 J0 g' hp w' := by
  have hJI : ∀ b o, (if al then g.I else g.J) b = some o → g.I b = some o := fun b o x => by
    cases al
    · exact h.JI b o (by simpa using x)
    · simpa using x
  have hagree : ∀ b o o', g.I b = some o → J' b = some o' → o = o' := fun b o o' x y => by
    have h1 := h.imm b o x
    have hb : b ∉ F := fun e => by rw [hFI b e] at x; cases x
    have h2 := hw.block b (Array.getElem?_eq_some_iff.1 h1).1 hb
    have h3 := (hJ' b o' y).1
    rw [h2, h1] at h3; cases h3; rfl
  have hIle : ∀ b o, g.I b = some o → (if (J' b).isSome then J' b else g.I b) = some o := fun b o x => by
    cases hj : J' b with
    | none => simpa using x
    | some o' => rw [hagree b o o' x hj]; simp
  have hJle : ∀ b o, g.J b = some o → (if al then g.J b else J' b) = some o := fun b o x => by
    cases al
    · exact hJ b o (by simpa using x)
    · simpa using x
  refine ⟨⟨fun b => if (J' b).isSome then J' b else g.I b, fun b => if al then g.J b else J' b, g.inj⟩, ⟨hIle, hJle, fun _ _ x => x⟩, rfl, fun b o x => ?_, fun b => ?_, ?_⟩
  · cases al
    · exact x
    · show (if (J' b).isSome then J' b else g.I b) = some o
      simp [x]
  · cases hj : J' b <;> simp [hj]
  · refine ⟨fun id o x => ?_, h.avail, h.sep, fun id o l x y z => ?_, h.fresh, fun b o x => ?_, fun b o x => ?_, fun b o x => ?_, h.ext.trans hw (fun b hb hlt => ?_)⟩
    · refine (h.objs id o x).move ⟨hIle, hJle, fun _ _ y => y⟩ (fun y => y) (fun l hl hi => ?_)
      exact hw.block _ (h.lt_live x hl hi) (hlive id o l x hl hi)
    · have h1 := h.disj id o l x y z
      show (if (J' l.b).isSome then J' l.b else g.I l.b) = none
      cases hj : J' l.b with
      | none => simpa using h1
      | some o' =>
        exfalso
        rcases (hJ' _ _ hj).2 with c | c | c
        · have := hJI _ _ c; rw [h1] at this; cases this
        · have := h.lt_live x y z; omega
        · exact hlive id o l x y z c
    · have x' : (if (J' b).isSome then J' b else g.I b) = some o := x
      cases hj : J' b with
      | none =>
        simp [hj] at x'
        have h1 := h.imm b o x'
        rw [hw.block b (Array.getElem?_eq_some_iff.1 h1).1 (fun e => by rw [hFI b e] at x'; cases x')]; exact h1
      | some o' => simp [hj] at x'; subst x'; exact (hJ' _ _ hj).1
    · have x' : (if al then g.J b else J' b) = some o := x
      show (if (J' b).isSome then J' b else g.I b) = some o
      cases al
      · simp at x'; simp [x']
      · simp at x'; exact hIle b o (h.JI b o x')
    · have x' : (if al then g.J b else J' b) = some o := x
      cases al
      · simp at x'
        rcases (hJ' _ _ x').2 with c | c | c
        · exact h.Jf b o (by simpa using c)
        · exact .inr (.inl (Nat.le_trans h.ext.size c))
        · rcases hFf b c with f | f
          · exact .inr (.inl f)
          · exact .inr (.inr f)
      · simp at x'; exact h.Jf b o x'
    · rcases hFf b hb with f | f
      · omega
      · exact f

theorem S.call {f : FuncId} {al : Bool} {ms : List Mode} {args : Array Operand} {args' : List Opd} {ts : Array TypeId} {fd : Func} (ho : o.op = .call { callee := .value (.func f), args := args, argTypes := ts })
    (hargs : args.toList.length = args'.length ∧ ∀ (i : Nat) (x : Operand) (y : Opd), args.toList[i]? = some x → args'[i]? = some y → okOpd x y = true)
    (hf : P.funcs[f]? = some fd) (hname : (fd.name == "runtime.NumGoroutine") = false) (hbody : fd.body.isNone = false) (hA : ∀ id, n ≤ id → id < n + 64 → A id)
    (h : Rel P N A w0 F0 J0 g s a w) (hm : mop false P (.call f al ms args') n s K) (hn : Goes P A w0 F0 J0 g s.hp n o a K next) : o.wp P a w next Q := by
  have hvals : RVL P g (args.map a.eval).toList (args'.map s.val) := by
    refine RVL.of_get (by simpa using hargs.1) (fun i v m e1 e2 => ?_)
    simp only [Array.toList_map, List.getElem?_map, Option.map_eq_some_iff] at e1 e2
    obtain ⟨x, hx1, rfl⟩ := e1
    obtain ⟨y, hy1, rfl⟩ := e2
    exact h.val (hargs.2 i x y hx1 hy1)
  simp only [mop] at hm
  obtain ⟨xs, is, gs, rs, ⟨hgs, hrs, hcK⟩, hargL⟩ := args_sound h.hp hvals hm
  obtain ⟨Qc, hM, hcont⟩ : ∃ Q, MCall P f xs Q ∧ ∀ o r, Q o r → _ := by simpa only [callK, Bool.false_eq_true, if_false] using hcK
  have hgsl : ∀ j ∈ gs, ∃ o, look s.hp j = some o ∧ o.live = true := by
    obtain ⟨F, _, _, hF, _, _⟩ := hargL (fun b => w.heap[b]?) (if al then g.I else g.J) (fun b o x _ => x) (fun b o x => x)
    exact hF.own.2.2.1
  have hblkI : ∀ j ∈ gs, ∀ b ∈ blk g j, g.I b = none ∧ (w0.heap.size ≤ b ∨ b ∈ F0) ∧ b < w.heap.size := fun j hj b hb => by
    obtain ⟨o1, a1, b1⟩ := hgsl j hj
    obtain ⟨l, c1, rfl⟩ := mem_blk.1 hb
    exact ⟨h.hp.disj j o1 l a1 b1 c1, h.hp.fresh j o1 l a1 b1 c1, h.hp.lt_live a1 b1 c1⟩
  have hJI : ∀ b o, (if al then g.I else g.J) b = some o → g.I b = some o := fun b o x => by
    cases al
    · exact h.hp.JI b o (by simpa using x)
    · simpa using x
  obtain ⟨F, fvs, fxs, hF, hown, hflat⟩ := hargL (fun b => if b ∈ gs.flatMap (blk g) then none else w.heap[b]?) (if al then g.I else g.J) (fun b o x y => by
      show (if b ∈ gs.flatMap (blk g) then none else w.heap[b]?) = some o
      rw [if_neg]
      · exact x
      · intro hb
        obtain ⟨j, hj, hbj⟩ := List.mem_flatMap.1 hb
        rcases y with y | ⟨i, oi, l, y1, y2, y3, y4, y5⟩
        · exact y (hblkI j hj b hbj).1
        · have := h.hp.apart ⟨oi, y2, y3⟩ (hgsl j hj) (mem_blk.2 ⟨l, y4, y5⟩) hbj
          subst this
          exact hrs i y1 hj) (fun b o x => x)
  obtain ⟨_, hsub, _, hio⟩ := hF.own
  have hFb : ∀ b ∈ F, ∃ j ∈ gs, b ∈ blk g j := fun b hb => List.mem_flatMap.1 (hsub.subset hb)
  have hFnd : F.Nodup := by
    refine List.Sublist.nodup hsub ?_
    have : ∀ (l : List Nat), l.Nodup → (∀ j ∈ l, j ∈ gs) → (l.flatMap (blk g)).Nodup := by
      intro l
      induction l with
      | nil => intro _ _; simp
      | cons j l ih =>
        intro hnd hl
        have hn1 := List.nodup_cons.1 hnd
        rw [List.flatMap_cons]
        refine List.nodup_append.2 ⟨by unfold blk; split <;> simp, ih hn1.2 (fun i hi => hl i (List.mem_cons_of_mem _ hi)), fun x hx y hy e => ?_⟩
        subst e
        obtain ⟨i, hi, hxi⟩ := List.mem_flatMap.1 hy
        have := h.hp.apart (hgsl j (hl j (by simp))) (hgsl i (hl i (List.mem_cons_of_mem _ hi))) hx hxi
        subst this
        exact hn1.1 hi
    exact this gs hgs (fun _ x => x)
  have hcall := hM w (if al then g.I else g.J) (args.map a.eval) F (fun b o x => ⟨h.hp.imm b o (hJI b o x), fun hb => by
      obtain ⟨j, hj, hbj⟩ := hFb b hb
      have h1 := (hblkI j hj b hbj).1
      rw [hJI b o x] at h1; cases h1⟩) hFnd (hown.mono (fun b o x => by
      simp only [heapBut]
      by_cases hb : b ∈ gs.flatMap (blk g)
      · simp [hb] at x
      · simp only [hb, if_false] at x
        rw [if_neg (fun e => hb (hsub.subset e))]; exact x) (fun _ _ x => x))
  have hexec : (execOp a.eval o).run P w = .ok (.enter f (args.map a.eval)) w := by
    have hname' : ¬ fd.name = "runtime.NumGoroutine" := by simpa using hname
    have hbody' : ¬ fd.body = none := by intro e; rw [e] at hbody; cases hbody
    simp [execOp, ho, resolve, Act.eval, Deferred.ofValue, invoke, callFunc, run_program, hf, hname', hbody']
  simp only [Oper.wp, hexec, Oper.upon]
  refine hcall.mono ?_
  rintro e w' ⟨v, outs, r, J', G, rfl, hq, hw, hJJ, hJ', hGn, hGf, hownL⟩
  show next (a.put o.dst v) w'
  cases hownL with
  | cons _ _ _ _ Gr Go hr houts =>
    have hGs := List.nodup_append.1 hGn
    obtain ⟨hk1, hk2⟩ := h.hp.kills gs
    have hnotF : ∀ id o l, look (upds s.hp (gs.map (·, none))) id = some o → o.live = true → g.inj id = some l → l.b ∉ F := fun i oi l x y z hb => by
      obtain ⟨x1, x2⟩ := hk2 i oi x
      obtain ⟨j, hj, hbj⟩ := hFb l.b hb
      have := h.hp.apart ⟨oi, x1, y⟩ (hgsl j hj) (mem_blk.2 ⟨l, z, rfl⟩) hbj
      subst this
      exact x2 hj
    obtain ⟨g1, hle1, hinj1, hJ1, hI1, hr1⟩ := hk1.after (al := al) hw hnotF (fun b hb => by obtain ⟨j, hj, hbj⟩ := hFb b hb; exact (hblkI j hj b hbj).1)
      (fun b hb => by obtain ⟨j, hj, hbj⟩ := hFb b hb; exact (hblkI j hj b hbj).2.1) hJJ (fun b o x => ⟨(hJ' b o x).1, (hJ' b o x).2.2⟩)
    obtain ⟨Go', houts', hsubo⟩ := hflat.outs houts
    obtain ⟨G', hback, hG'n, hG'0⟩ := back_of h.hp (w' := w') (F' := F) hw F (fun _ x => x) hF houts' hgs (hsubo.nodup hGs.2.1) (fun b hb => hGf b (List.mem_append_right _ (hsubo.subset hb))) (fun b hb => .inl hb)
    have hG' : ∀ b ∈ G', b ∈ Go ∨ (b ∉ F ∧ b < w.heap.size ∧ ∃ j ∈ gs, b ∈ blk g j) := fun b hb => (hG'0 b hb).imp (fun x => hsubo.subset x) (fun x => x)
    -- nobody holds the blocks that come back
    have hfreeAll : ∀ b, (b ∈ Gr ++ Go ∨ (b ∉ F ∧ b < w.heap.size ∧ ∃ j ∈ gs, b ∈ blk g j)) → g1.I b = none ∧ (w0.heap.size ≤ b ∨ b ∈ F0) ∧ ∀ id o l, look (upds s.hp (gs.map (·, none))) id = some o → o.live = true → g1.inj id = some l → l.b ≠ b := by
      intro b hb
      have hgI : g.I b = none := by
        rcases hb with hb | ⟨_, _, j, hj, hbj⟩
        · rcases hGf b hb with c | c
          · cases hI : g.I b with
            | none => rfl
            | some o' => have := (Array.getElem?_eq_some_iff.1 (h.hp.imm b o' hI)).1; omega
          · obtain ⟨j, hj, hbj⟩ := hFb b c; exact (hblkI j hj b hbj).1
        · exact (hblkI j hj b hbj).1
      have hJn : J' b = none := by
        cases hj' : J' b with
        | none => rfl
        | some o' =>
          exfalso
          obtain ⟨_, d2, d3⟩ := hJ' b o' hj'
          rcases hb with hb | ⟨c1, c2, _⟩
          · exact d2 hb
          · rcases d3 with d | d | d
            · have := hJI b o' d; rw [hgI] at this; cases this
            · omega
            · exact c1 d
      refine ⟨(hI1 b).2 ⟨hgI, hJn⟩, ?_, fun i oi l x y z e => ?_⟩
      · rcases hb with hb | ⟨_, _, j, hj, hbj⟩
        · rcases hGf b hb with c | c
          · exact .inl (Nat.le_trans h.hp.ext.size c)
          · obtain ⟨j, hj, hbj⟩ := hFb b c; exact (hblkI j hj b hbj).2.1
        · exact (hblkI j hj b hbj).2.1
      · rw [hinj1] at z
        obtain ⟨x1, x2⟩ := hk2 i oi x
        have hjj : ∀ j ∈ gs, b ∈ blk g j → False := fun j hj hbj => by
          have := h.hp.apart ⟨oi, x1, y⟩ (hgsl j hj) (mem_blk.2 ⟨l, z, e⟩) hbj
          subst this
          exact x2 hj
        rcases hb with hb | ⟨_, _, j, hj, hbj⟩
        · rcases hGf b hb with c | c
          · have := h.hp.lt_live x1 y z; omega
          · obtain ⟨j, hj, hbj⟩ := hFb b c; exact hjj j hj hbj
        · exact hjj j hj hbj
    have his : ∀ id, some id ∈ flatI is → look (upds s.hp (gs.map (·, none))) id = none ∧ ¬ A id := fun j hj => by
      have hjg := hio j hj
      obtain ⟨oj, a1, b1⟩ := hgsl j hjg
      refine ⟨?_, fun e => by rw [(h.hp.avail j e).2] at a1; cases a1⟩
      cases hl : look (upds s.hp (gs.map (·, none))) j with
      | none => rfl
      | some o' => exact absurd hjg (hk2 j o' hl).2
    have hQ := hcont outs r hq
    obtain ⟨u, n1, ⟨hn64, hK⟩, hnn1, hrest⟩ := outs_sound (t := !al) (J' := J') hr1 (fun b o x => hJ1 b o x) (hback.inj (fun _ _ => by rw [hinj1])) hG'n
      (fun b hb => hfreeAll b (by
        rcases hG' b hb with c | c
        · exact .inl (List.mem_append_right _ c)
        · exact .inr c)) his (hF.ids_nodup hgs) hQ
    have hge := imp_ge (some (!al)) 4 r n1
    obtain ⟨g2, hle2, hI2, hJ2, hr2, hb2⟩ := hrest (fun i c d => hA i c (by omega))
    have hdisj : ∀ b ∈ Gr, b ∉ G' := fun b hb hb' => by
      rcases hG' b hb' with c | ⟨c1, c2, _⟩
      · exact hGs.2.2 b hb b c rfl
      · rcases hGf b (List.mem_append_left _ hb) with d | d
        · omega
        · exact c1 d
    obtain ⟨g3, ⟨hle3, hI3, hJ3, hn3, hr3, _, _⟩, hv3⟩ := imp_own (t := some (!al)) 4 (n := n1) hr2 (fun t' b o x => hle2.im _ b o (hJ1 b o (by cases t' <;> exact x))) (fun b o x => by have := hle2.im _ b o (hJ1 b o x); cases al; exact hr2.JI b o this; exact this) hr hGs.1 (fun b hb => by
        obtain ⟨c1, c2, c3⟩ := hfreeAll b (.inl (List.mem_append_left _ hb))
        refine ⟨by rw [hI2]; exact c1, c2, fun i oi l x y z e => ?_⟩
        rcases hb2 i oi l x y z with ⟨d1, d2⟩ | d
        · exact c3 i oi l d1 y d2 e
        · subst e; exact hdisj l.b hb d) (fun i c d => ⟨hA i (by omega) (by omega), by omega⟩)
    refine hn _ _ _ g3 w' v hK (hle1.trans (hle2.trans hle3)) hv3 ?_
    rw [List.append_assoc, upds_append, upds_append]
    exact hr3.weaken (fun i hi => ⟨⟨hi.1, fun e => hi.2 ⟨e.1, by omega⟩⟩, fun e => hi.2 ⟨by omega, by omega⟩⟩)
end
end Go.Fw
