/-
  Calls of function values.
-/
import Derived.Test.YtdfbdbbjnihmaaaFwR
namespace Go.Fw
set_option linter.unusedVariables false
set_option linter.unusedSimpArgs false
section
variable {P : Program} {N : FrS} {A : Nat → Prop} {w0 : World} {F0 : List Nat} {J0 : Imm} {g : Env} {s : MS} {a : Act} {w : World} {hp : List (Nat × MO)}
variable {n : Nat} {o : Oper} {K : MK} {next : Act → World → Prop} {Q : Exit → Act → World → Prop}

theorem flatD_val {m : MV} {d : D} {v : Value} (hm : flatD m = some d) (h : RV P g v m) : v = d.val ∧ d.isFlat = true := by
  cases m <;> simp [flatD] at hm
  · subst hm; cases h; exact ⟨rfl, rfl⟩
  · subst hm; cases h; exact ⟨rfl, rfl⟩

theorem flatM_val {m : MV} {x : FV} {v : Value} (hm : flatM m = some x) (h : RV P g v m) : v = x.val ∧ x.isFlat = true := by
  cases m
  case agg cs =>
    simp only [flatM, Option.map_eq_some_iff] at hm
    obtain ⟨ds, hds, rfl⟩ := hm
    obtain ⟨hlen, hget⟩ := mapO_get hds
    cases h with
    | agg vs _ hr h1 =>
      have hl := hr.length
      have hcell : ∀ i (hi : i < ds.length), vs.toList[i]? = some (ds[i].val) ∧ ds[i].isFlat = true := fun i hi => by
        have hi' : i < cs.length := by omega
        obtain ⟨d, e1, e2⟩ := hget i _ (List.getElem?_eq_getElem hi')
        have hv : i < vs.toList.length := by omega
        have := flatD_val e1 (hr.get i _ _ (List.getElem?_eq_getElem hv) (List.getElem?_eq_getElem hi'))
        rw [List.getElem?_eq_getElem hi] at e2; cases e2
        exact ⟨by rw [List.getElem?_eq_getElem hv, this.1], this.2⟩
      refine ⟨?_, ?_⟩
      · simp only [FV.val]
        congr 1
        apply Array.ext'
        refine List.ext_getElem? (fun i => ?_)
        by_cases hi : i < ds.length
        · rw [(hcell i hi).1]; simp [hi]
        · rw [List.getElem?_eq_none (by omega), List.getElem?_eq_none (by simp; omega)]
      · simp only [FV.isFlat, List.all_eq_true]
        intro d hd
        obtain ⟨i, hi, rfl⟩ := List.mem_iff_getElem.1 hd
        exact (hcell i hi).2
  all_goals
    simp only [flatM, Option.map_eq_some_iff] at hm
    obtain ⟨d, hd, rfl⟩ := hm
    exact flatD_val hd h

theorem S.callv {f : Operand} {f' : Opd} {args : Array Operand} {args' : List Opd} {ts : Array TypeId} (ho : o.op = .call { callee := .value f, args := args, argTypes := ts }) (hf : okOpd f f' = true)
    (hargs : args.toList.length = args'.length ∧ ∀ (i : Nat) (x : Operand) (y : Opd), args.toList[i]? = some x → args'[i]? = some y → okOpd x y = true)
    (h : Rel P N A w0 F0 J0 g s a w) (hm : mop false P (.callv f' args') n s K) (hn : Goes P A w0 F0 J0 g s.hp n o a K next) : o.wp P a w next Q := by
  have rf := h.val hf
  simp only [mop] at hm
  have hvals : ∀ xs, mapO flatM (args'.map s.val) = some xs → (args.map a.eval) = (xs.map FV.val).toArray ∧ ∀ x ∈ xs, x.isFlat = true := by
    intro xs hxs
    obtain ⟨hlen, hget⟩ := mapO_get hxs
    simp at hlen
    have hcell : ∀ i (hi : i < xs.length), (args.map a.eval).toList[i]? = some (xs[i].val) ∧ xs[i].isFlat = true := fun i hi => by
      have hi' : i < args'.length := by omega
      have hi2 : i < args.toList.length := by omega
      obtain ⟨d, e1, e2⟩ := hget i (s.val args'[i]) (by simp [hi'])
      rw [List.getElem?_eq_getElem hi] at e2; cases e2
      have := flatM_val e1 (h.val (hargs.2 i _ _ (List.getElem?_eq_getElem hi2) (List.getElem?_eq_getElem hi')))
      refine ⟨?_, this.2⟩
      rw [← this.1]
      simp only [Array.toList_map, List.getElem?_map, List.getElem?_eq_getElem hi2, Option.map_some]
    refine ⟨?_, fun x hx => ?_⟩
    · apply Array.ext'
      refine List.ext_getElem? (fun i => ?_)
      by_cases hi : i < xs.length
      · rw [(hcell i hi).1]; simp [hi]
      · rw [List.getElem?_eq_none (by simp at hargs ⊢; omega), List.getElem?_eq_none (by simp; omega)]
    · obtain ⟨i, hi, rfl⟩ := List.mem_iff_getElem.1 hx
      exact (hcell i hi).2
  have fin : ∀ (F : FuncId) (fv cv : Array Value) (xs : List FV) (dom : List FV → Prop) (φ : List FV → FV) (rd : List Nat), a.eval f = .func (.func F) fv cv → Callable P F → args.map a.eval = (xs.map FV.val).toArray →
      Calls P F (fv ++ (xs.map FV.val).toArray ++ cv) w (fun e w'' => e = .returned (φ xs).val ∧ (φ xs).isFlat = true ∧ WExt w [] w'') → K (φ xs).mv [] rd → o.wp P a w next Q := by
    intro F fv cv xs dom φ rd hfv ⟨fd, hfd, hname, hbody⟩ hx hcall hK
    have hexec : (execOp a.eval o).run P w = .ok (.enter F (fv ++ (xs.map FV.val).toArray ++ cv)) w := by
      have hname' : ¬ fd.name = "runtime.NumGoroutine" := by simpa using hname
      have hbody' : ¬ fd.body = none := by intro e; rw [e] at hbody; cases hbody
      simp [execOp, ho, resolve, hfv, Deferred.ofValue, invoke, callFunc, run_program, hfd, hname', hbody', hx]
    simp only [Oper.wp, hexec, Oper.upon]
    refine hcall.mono ?_
    rintro e w' ⟨rfl, hfl, hw⟩
    show next (a.put o.dst (φ xs).val) w'
    obtain ⟨g1, hle, _, _, _, hr⟩ := h.hp.after (al := false) (J' := g.J) hw (by simp) (by simp) (by simp) (fun b o x => by simpa using x) (fun b o x => ⟨by
      have h1 := h.hp.imm b o (h.hp.JI b o x)
      rw [hw.block b (Array.getElem?_eq_some_iff.1 h1).1 (by simp)]; exact h1, .inl (by simpa using x)⟩)
    exact hn _ _ _ g1 w' _ hK hle (FV_RV hfl) (hr.weaken (fun _ x => x.1))
  split at hm
  · rename_i dom φ xs hfn hxs
    obtain ⟨hx, hflat⟩ := hvals xs hxs
    rw [hfn] at rf
    generalize hv : a.eval f = v at rf
    cases rf with
    | fn F fv cv _ _ hc hh => exact fin F fv cv xs dom φ [] hv hc hx (hh w xs (fun b o x => h.hp.imm b o x) hflat hm.1) hm.2
  · rename_i F first caps xs hfn hxs
    obtain ⟨hx, hflat⟩ := hvals xs hxs
    rw [hfn] at rf
    generalize hv : a.eval f = v at rf
    obtain ⟨dom, φ, hok, hdom, hK⟩ := hm
    cases rf with
    | clo _ fv cv _ _ c1 c2 =>
      obtain ⟨hc, hh⟩ := FnOk.calls h.hp hok c1 c2 (I' := fun b => w.heap[b]?) (rs := readsM s (.clo F first caps)) (fun b o x _ => x) (fun _ x => x)
      exact fin F fv cv xs dom φ _ hv hc hx (hh w xs (fun b o x => x) hflat hdom) hK
  · exact hm.elim
end
end Go.Fw
