/-
  From the code of a function to what a call of it comes to.
-/
import Derived.Test.YtdfbdbbjnihmaaaFxA
import Derived.OwnWalk
namespace Go.Fw
set_option linter.unusedVariables false
set_option linter.unusedSimpArgs false

def enumFr : Nat → List MV → List (Nat × MV)
  | _, [] => []
  | k, m :: r => (k, m) :: enumFr (k + 1) r
/-- The state at a function's entry. -/
def entry (args : List MV) : MS :=
  let r := impL (imp none 4) args 0
  ⟨enumFr 0 r.1, upds [] (somes r.2.1), r.2.2⟩

/-- What is handed out, and the objects that go with it. -/
def exC (s : MS) : MV → (MV → List Nat → Prop) → Prop
  | .i k n, K => K (.i k n) []
  | .b x, K => K (.b x) []
  | .s t k es, K => t = true ∧ K (.s true k es) []
  | .nl k, K => K (.ow true k []) []
  | .sr id off len, K =>
    match s.obj id with
    | some (.arr t k es) => (t = true ∨ Flat es) ∧ off + len ≤ es.length ∧ K (.ow true k ((es.drop off).take len)) [id]
    | some (.fz t k es) => t = true ∧ off + len ≤ es.length ∧ K (.s true k ((es.drop off).take len)) []
    | _ => False
  | _, _ => False
def exL (s : MS) : List MV → (List MV → List Nat → Prop) → Prop
  | [], K => K [] []
  | m :: r, K => exC s m fun x is => exL s r fun xs js => K (x :: xs) (is ++ js)
def exM (s : MS) : MV → (MV → List Nat → Prop) → Prop
  | .agg cs, K => exL s cs fun xs is => K (.agg xs) is
  | .pr id i off, K =>
    match s.obj id with
    | some (.box cs) => i = 0 ∧ off = 0 ∧ exL s cs fun xs is => K (.pw xs) (id :: is)
    | _ => False
  | m, K => exC s m K
def exMs (s : MS) : List MV → (List MV → List Nat → Prop) → Prop
  | [], K => K [] []
  | m :: r, K => exM s m fun x is => exMs s r fun xs js => K (x :: xs) (is ++ js)
def oneOr : List MV → MV
  | [x] => x
  | xs => .tup xs
/-- A result lies in a slot, or in the variable that a slot points to. -/
abbrev RSl := Nat × Option (Bool × Nat)
def resV (s : MS) : RSl → MV
  | (t, none) => s.val (.t t)
  | (a, some (ag, k)) =>
    match s.val (.t a) with
    | .pr id i off =>
      match s.obj id with
      | some (.box cs) => if i = 0 ∧ off + k ≤ cs.length then chunkVal ag k off cs else .u
      | _ => .u
    | _ => .u
/-- The arguments that are handed back; n: how many are still to be looked at. -/
def exO (s : MS) (fx : List Nat) : Nat → Nat → (List MV → List Nat → Prop) → Prop
  | _, 0, K => K [] []
  | k, n + 1, K =>
    if fx.contains k then exM s (s.val (.t k)) fun x is => exO s fx (k + 1) n fun xs js => K (x :: xs) (is ++ js)
    else exO s fx (k + 1) n fun xs js => K (.u :: xs) js
def retK (rs : List RSl) (fx : List Nat) (n : Nat) (Q : List MV → MV → Prop) (s : MS) : Prop :=
  exMs s (rs.map (resV s)) fun xs is => exO s fx 0 n fun os js => (is ++ js).Nodup ∧ Q os (oneOr xs)
def retQ (rs : List RSl) (fx : List Nat) (n : Nat) (Q : List MV → MV → Prop) : Ex → MS → Prop
  | .normal, s => retK rs fx n Q s
  | .ret, s => retK rs fx n Q s
  | .exit _, _ => False

def okRes1 (P : Program) : ResultVar → RSl → Bool
  | .tmp t, (t', none) => t == t'
  | .cell a T, (a', some (ag, k)) => a == a' && tyAg P T ag && tySz P T k && (ag || k == 1)
  | _, _ => false
def okRes (P : Program) : List ResultVar → List RSl → Bool
  | [], [] => true
  | r :: l, r' :: l' => okRes1 P r r' && okRes P l l'
  | _, _ => false
def okFn (P : Program) (fd : Func) (N : Nat) (fx : List Nat) (rs : List RSl) (m : MCode) : Bool :=
  fd.ntmps == N && okRes P fd.results.toList rs && (match fd.body with | some c => okCode P N fx c m | none => false) && !(fd.name == "runtime.NumGoroutine")

section
variable {P : Program} {N : FrS} {A : Nat → Prop} {w0 : World} {F0 : List Nat} {J0 : Imm} {g : Env} {s : MS} {a : Act} {w : World}

theorem DR.flat {I I' : Imm} {v : Value} {d : D} (h : DR I v d) (hd : d.isFlat = true) : DR I' v d := by
  cases h with
  | i k n => exact .i k n
  | b x => exact .b x
  | a0 => simp [D.isFlat] at hd
  | a => simp [D.isFlat] at hd

theorem cellD_flat {es : List (List D)} {i j : Nat} (h : Flat es) : (cellD es i j).isFlat = true := by
  unfold cellD
  by_cases hi : i < es.length
  · have e : es.getD i [] = es[i] := by simp [List.getD, hi]
    rw [e]
    by_cases hj : j < es[i].length
    · have e2 : es[i].getD j default = es[i][j] := by simp [List.getD, hj]
      rw [e2]; exact h _ (List.getElem_mem hi) _ (List.getElem_mem hj)
    · have e2 : es[i].getD j default = default := by simp [List.getD, List.getElem?_eq_none (Nat.le_of_not_lt hj)]
      rw [e2]; rfl
  · have e : es.getD i [] = [] := by simp [List.getD, List.getElem?_eq_none (Nat.le_of_not_lt hi)]
    rw [e]; rfl

theorem cellD_part {es : List (List D)} {off len i j : Nat} (hi : i < len) : cellD ((es.drop off).take len) i j = cellD es (off + i) j := by
  unfold cellD
  have : ((es.drop off).take len).getD i [] = es.getD (off + i) [] := by
    simp [List.getD, hi]
  rw [this]

theorem exC_own (h : HRel P A w0 F0 J0 g s.hp w) {v : Value} {m : MV} {K : MV → List Nat → Prop} (hv : RV P g v m) (hk : exC s m K) :
    ∃ x ids F, K x ids ∧ (∀ i ∈ ids, ∃ o, s.obj i = some o ∧ o.live = true) ∧ Own P g.J g.J w v x F ∧ F.Sublist (ids.flatMap (blk g)) := by
  cases m <;> simp only [exC] at hk
  case i => cases hv; exact ⟨_, _, [], hk, by simp, .imm _ _ (.i _ _), by simp⟩
  case b => cases hv; exact ⟨_, _, [], hk, by simp, .imm _ _ (.b _), by simp⟩
  case s t k es =>
    obtain ⟨rfl, hk⟩ := hk
    cases hv with
    | s _ _ _ _ hd => exact ⟨_, _, [], hk, by simp, .imm _ _ (.s _ _ _ _ hd), by simp⟩
  case nl k => cases hv; exact ⟨_, _, [], hk, by simp, .ow0 _ _ _, by simp⟩
  case sr id off len =>
    split at hk
    · rename_i t k es hob
      obtain ⟨hf, hle, hk⟩ := hk
      obtain ⟨hek, hrep⟩ := h.objs id _ hob
      have hlen : ((es.drop off).take len).length = len := by simp; omega
      have hlive : ∀ i ∈ [id], ∃ o, s.obj i = some o ∧ o.live = true := by simp [MS.obj] at hob ⊢; exact ⟨_, hob, rfl⟩
      cases hv with
      | sr0 p =>
        refine ⟨_, _, [], hk, hlive, ?_, by simp⟩
        simp; exact .ow0 _ _ _
      | sr _ _ _ cap l hl h1 h2 =>
        rcases hrep with ⟨_, h3⟩ | ⟨l', h3, hlk, cs, E, h4, h5, h6, h7⟩
        · rw [hl] at h3; cases h3
        · rw [hl] at h3; cases h3
          subst hlk
          refine ⟨_, _, [l.b], hk, hlive, ?_, by simp [blk, hl]⟩
          refine Own.ow (P := P) (I := g.J) (J := g.J) (w := w) ⟨l.b, l.base + off * l.k, l.k, l.C - off⟩ true l.k _ cap len hlen.symm h2 (by show cap ≤ l.C - off; omega)
            (fun e he => hek e (List.mem_of_mem_drop (List.mem_of_mem_take he))) ⟨rfl, cs, E, h4, ?_, by rw [hlen]; show len ≤ l.C - off; omega, fun i j hi hj => ?_⟩
          · show l.base + off * l.k + (l.C - off) * l.k ≤ cs.size
            have : off * l.k + (l.C - off) * l.k = l.C * l.k := by rw [← Nat.add_mul]; congr 1; omega
            omega
          · rw [hlen] at hi
            obtain ⟨u, hu, hr⟩ := h7 (off + i) j (by omega) hj
            have e : l.base + (off + i) * l.k + j = l.base + off * l.k + i * l.k + j := by rw [Nat.add_mul]; omega
            rw [e] at hu
            refine ⟨u, hu, ?_⟩
            rw [cellD_part hi]
            rcases hf with rfl | hf
            · simpa [Env.im] using hr
            · exact hr.flat (cellD_flat hf)
    · rename_i t k es hob
      obtain ⟨rfl, hle, hk⟩ := hk
      obtain ⟨hek, hrep⟩ := h.objs id _ hob
      refine ⟨_, _, [], hk, by simp, .imm _ _ (.s _ _ _ _ ?_), by simp⟩
      have hlen : ((es.drop off).take len).length = len := by simp; omega
      cases hv with
      | sr0 p => simp; exact .a0 _ _ _
      | sr _ _ _ cap l hl h1 h2 =>
        rcases hrep with ⟨_, h3⟩ | ⟨l', h3, hlk, cs, E, z, h4, h5, h6, h7⟩
        · rw [hl] at h3; cases h3
        · rw [hl] at h3; cases h3
          subst hlk
          refine .a l.b (l.base + off * l.k) cap len cs E z l.k _ (fun i j => (cs[l.base + off * l.k + i * l.k + j]?).getD undef) h4 hlen.symm (fun e he => hek e (List.mem_of_mem_drop (List.mem_of_mem_take he))) h2 ?_ ?_
          · intro i j hi hj
            rw [hlen] at hi
            obtain ⟨u, hu, _⟩ := h7 (off + i) j (by omega) hj
            have e : l.base + (off + i) * l.k + j = l.base + off * l.k + i * l.k + j := by rw [Nat.add_mul]; omega
            rw [e] at hu
            simp [hu]
          · intro i j hi hj
            rw [hlen] at hi
            obtain ⟨u, hu, hr⟩ := h7 (off + i) j (by omega) hj
            have e : l.base + (off + i) * l.k + j = l.base + off * l.k + i * l.k + j := by rw [Nat.add_mul]; omega
            rw [e] at hu
            rw [cellD_part hi]
            simpa [hu, Env.im] using hr
    · exact hk.elim
  all_goals exact hk.elim

theorem exL_own (h : HRel P A w0 F0 J0 g s.hp w) : ∀ {vs : List Value} {ms : List MV} {K : List MV → List Nat → Prop}, RVL P g vs ms → exL s ms K →
    ∃ xs ids F, K xs ids ∧ (∀ i ∈ ids, ∃ o, s.obj i = some o ∧ o.live = true) ∧ OwnL P g.J g.J w vs xs F ∧ F.Sublist (ids.flatMap (blk g)) := by
  intro vs
  induction vs with
  | nil => intro ms K hv hk; cases hv; exact ⟨_, _, [], hk, by simp, .nil, by simp⟩
  | cons v vs ih =>
    intro ms K hv hk
    cases hv with
    | cons _ _ m ms h1 h2 =>
      simp only [exL] at hk
      obtain ⟨x, ids, F, hk, l1, o1, s1⟩ := exC_own h h1 hk
      obtain ⟨xs, ids', G, hk, l2, o2, s2⟩ := ih h2 hk
      exact ⟨_, _, _, hk, fun i hi => (List.mem_append.1 hi).elim (l1 i) (l2 i), .cons _ _ _ _ _ _ o1 o2, by rw [List.flatMap_append]; exact s1.append s2⟩

theorem exM_own (h : HRel P A w0 F0 J0 g s.hp w) {v : Value} {m : MV} {K : MV → List Nat → Prop} (hv : RV P g v m) (hk : exM s m K) :
    ∃ x ids F, K x ids ∧ (∀ i ∈ ids, ∃ o, s.obj i = some o ∧ o.live = true) ∧ Own P g.J g.J w v x F ∧ F.Sublist (ids.flatMap (blk g)) := by
  cases m with
  | agg cs =>
    cases hv with
    | agg vs _ hr h1 =>
      simp only [exM] at hk
      obtain ⟨xs, ids, F, hk, l1, o1, s1⟩ := exL_own h hr hk
      exact ⟨_, _, F, hk, l1, .agg _ _ _ o1 h1, s1⟩
  | pr id i off =>
    simp only [exM] at hk
    split at hk
    · rename_i cs hob
      obtain ⟨rfl, rfl, hk⟩ := hk
      cases hv with
      | pr _ _ _ l hl =>
        obtain ⟨l', cells, E, h2, h3, h4, h5, h6⟩ := h.objs id _ hob
        rw [hl] at h2; cases h2
        have hlen := h6.length
        obtain ⟨xs, ids, F, hk, l1, o1, s1⟩ := exL_own h h6 hk
        have hxl : xs.length = cs.length := by
          have : ∀ {vs : List Value} {ms : List MV} {F : List Nat}, OwnL P g.J g.J w vs ms F → vs.length = ms.length := by
            intro vs
            induction vs with
            | nil => intro ms F h; cases h; rfl
            | cons v vs ih => intro ms F h; cases h with | cons _ _ _ _ _ _ _ h2 => simp [ih h2]
          rw [← this o1, hlen]
        refine ⟨_, _, l.b :: F, hk, fun i hi => ?_, ?_, ?_⟩
        · rcases List.mem_cons.1 hi with rfl | hi
          · exact ⟨_, hob, rfl⟩
          · exact l1 i hi
        · have := Own.pw (P := P) (I := g.J) (J := g.J) (w := w) l.b l.base cells E xs F h3 (by rw [hxl]; exact h4) h5 (by rw [hxl]; exact o1)
          simpa using this
        · rw [List.flatMap_cons, show blk g id = [l.b] by simp [blk, hl]]
          exact s1.cons_cons _
    · exact hk.elim
  | _ => exact exC_own h hv hk

theorem exMs_own (h : HRel P A w0 F0 J0 g s.hp w) : ∀ {vs : List Value} {ms : List MV} {K : List MV → List Nat → Prop}, RVL P g vs ms → exMs s ms K →
    ∃ xs ids F, K xs ids ∧ (∀ i ∈ ids, ∃ o, s.obj i = some o ∧ o.live = true) ∧ OwnL P g.J g.J w vs xs F ∧ F.Sublist (ids.flatMap (blk g)) := by
  intro vs
  induction vs with
  | nil => intro ms K hv hk; cases hv; exact ⟨_, _, [], hk, by simp, .nil, by simp⟩
  | cons v vs ih =>
    intro ms K hv hk
    cases hv with
    | cons _ _ m ms h1 h2 =>
      simp only [exMs] at hk
      obtain ⟨x, ids, F, hk, l1, o1, s1⟩ := exM_own h h1 hk
      obtain ⟨xs, ids', G, hk, l2, o2, s2⟩ := ih h2 hk
      exact ⟨_, _, _, hk, fun i hi => (List.mem_append.1 hi).elim (l1 i) (l2 i), .cons _ _ _ _ _ _ o1 o2, by rw [List.flatMap_append]; exact s1.append s2⟩

theorem HRel.blks_nodup {hp : List (Nat × MO)} (h : HRel P A w0 F0 J0 g hp w) : ∀ (l : List Nat), l.Nodup → (∀ j ∈ l, ∃ o, look hp j = some o ∧ o.live = true) → (l.flatMap (blk g)).Nodup := by
  intro l
  induction l with
  | nil => intro _ _; simp
  | cons j l ih =>
    intro hnd hl
    have hn1 := List.nodup_cons.1 hnd
    rw [List.flatMap_cons]
    refine List.nodup_append.2 ⟨by unfold blk; split <;> simp, ih hn1.2 (fun i hi => hl i (List.mem_cons_of_mem _ hi)), fun x hx y hy e => ?_⟩
    subst e
    obtain ⟨i, hi, hxi⟩ := List.mem_flatMap.1 hy
    have := h.apart (hl j (by simp)) (hl i (List.mem_cons_of_mem _ hi)) hx hxi
    subst this
    exact hn1.1 hi

theorem look_enumFr {t : Nat} {m : MV} : ∀ {l : List MV} {k : Nat}, look (enumFr k l) t = some m → k ≤ t ∧ l[t - k]? = some m
  | [], _, h => by simp [enumFr, look] at h
  | x :: l, k, h => by
    simp only [enumFr, look] at h
    split at h
    · rename_i e; subst e; simp at h; simp [h]
    · have := look_enumFr h
      refine ⟨by omega, ?_⟩
      rw [show t - k = (t - (k + 1)) + 1 by omega]; simpa using this.2

theorem entry_St {n : Nat} {fx : List Nat} {args : List MV} {J : Imm} {vs : Array Value} {F : List Nat} (hN : args.length ≤ n) (hJ : ∀ b o, J b = some o → w.heap[b]? = some o ∧ b ∉ F) (hnd : F.Nodup) (ho : OwnL P (heapBut w F) J w vs.toList args F) :
    St P ⟨n, fx, fun t => vs.getD t undef⟩ w F J (entry args) { tmps := vs ++ Array.replicate (n - vs.size) undef, defers := [] } w := by
  have h0 : HRel P (fun _ => True) w F J ⟨heapBut w F, J, noInj⟩ [] w := by
    refine ⟨fun id o x => by simp [look] at x, fun id _ => ⟨rfl, rfl⟩, fun _ _ _ _ _ _ x => by simp [look] at x, fun _ _ _ x => by simp [look] at x, fun _ _ _ x => by simp [look] at x, fun b o x => ?_, fun b o x => ?_, fun b o x => .inl x, WExt.refl w F⟩
    · simp only [heapBut] at x; split at x
      · cases x
      · exact x
    · show heapBut w F b = some o
      simp only [heapBut]; rw [if_neg (hJ b o x).2]; exact (hJ b o x).1
  obtain ⟨g', ⟨hle, hI, hJ', hn, hr, _, _⟩, hv⟩ := imp_ownL (t := none) 4 (n := 0) h0 (I' := heapBut w F) (J' := J) (fun t' b o x => by cases t' <;> exact x) (fun _ _ x => x) ho hnd
    (fun b hb => ⟨by simp [heapBut, hb], .inr hb, fun _ _ _ x => by simp [look] at x⟩) (fun _ _ _ => trivial)
  have hlen := hv.length
  rw [impL_len] at hlen
  have hsz : vs.size ≤ n := by rw [← Array.length_toList, hlen]; exact hN
  have hfx : ∀ t, (vs ++ Array.replicate (n - vs.size) undef).getD t undef = vs.getD t undef := fun t => by
    by_cases ht : t < vs.size
    · simp [Array.getD_eq_getD_getElem?, Array.getElem?_append_left ht]
    · rw [Array.getD_eq_getD_getElem?, Array.getD_eq_getD_getElem?, Array.getElem?_append_right (by omega), Array.getElem?_eq_none (xs := vs) (by omega)]
      by_cases h2 : t - vs.size < n - vs.size
      · simp [h2]
      · rw [Array.getElem?_eq_none (by simpa using h2)]
  refine ⟨g', ⟨by simp; omega, fun t _ => hfx t, rfl, fun t m ht => ?_, hr.weaken fun id x => ⟨trivial, fun e => Nat.not_lt.2 x e.2⟩⟩, fun b o x => by rw [hJ']; exact x⟩
  have := (look_enumFr ht).2
  rw [Nat.sub_zero] at this
  have hlt : t < vs.toList.length := by
    have := (List.getElem?_eq_some_iff.1 this).1
    rw [impL_len] at this; omega
  refine hv.get t _ m ?_ this
  have hlt' : t < vs.size := by simpa using hlt
  simp [Array.getD_eq_getD_getElem?, Array.getElem?_append_left hlt', hlt']

def resA (tmps : Array Value) : ResultVar → Sem Value
  | .tmp t => pure (tmps.getD t undef)
  | .cell a t => do loadVar t (← asAddr (tmps.getD a undef))
theorem results_eq (fn : Func) (tmps : Array Value) : results fn tmps = (do let vs ← fn.results.mapM (resA tmps); pure (if h : vs.size = 1 then vs[0] else .tuple vs)) := rfl

theorem resA_run {r : ResultVar} {r' : RSl} (hok : okRes1 P r r' = true) (h : Rel P N A w0 F0 J0 g s a w) (hne : resV s r' ≠ .u) : ∃ v, (resA a.tmps r).run P w = .ok v w ∧ RV P g v (resV s r') := by
  unfold okRes1 at hok
  split at hok
  · rename_i t t'
    simp at hok; subst hok
    exact ⟨a.tmps.getD t undef, by simp [resA], h.val (x := .tmp t) (y := .t t) (by simp [okOpd])⟩
  · rename_i ad T ad' ag k
    simp only [Bool.and_eq_true, beq_iff_eq] at hok
    obtain ⟨⟨⟨rfl, h1⟩, h2⟩, h3⟩ := hok
    obtain ⟨d, hd, hag⟩ := tyAg_get h1
    obtain ⟨inf, hi, hk⟩ := tySz_get h2
    have hk1 : ag = false → k = 1 := fun e => by subst e; simpa using h3
    have rx := h.val (x := .tmp ad) (y := .t ad) (by simp [okOpd])
    simp only [resV] at hne ⊢
    split at hne
    · rename_i id i off hb
      rw [hb] at rx
      generalize hv : a.eval (.tmp ad) = v at rx
      split at hne
      · rename_i cs hob
        split at hne
        · rename_i hc
          obtain ⟨rfl, hm2⟩ := hc
          cases rx with
          | pr _ _ _ l hl =>
            obtain ⟨cells, E, z, vs, e3, e4, e5, e7⟩ := (h.hp.chunk (i := 0) hob hl).2 cs rfl hm2
            have hrun := run_loadAt (P := P) (w := w) hd hag hi hk hk1 e3 e4
            rw [if_pos ⟨rfl, hm2⟩]
            refine ⟨_, ?_, rv_chunk hk1 e5 hm2 e7⟩
            have hv' : a.tmps.getD ad undef = .pointer (some ⟨l.b, l.base + 0 * l.k + off, none⟩) := hv
            rw [Nat.zero_mul, Nat.add_zero] at hv'
            simpa [resA, hv', Instr.loadAt, Instr.sureAddr, asAddr] using hrun
        · exact absurd rfl hne
      · exact absurd rfl hne
    · exact absurd rfl hne
  · cases hok

theorem exMs_ne : ∀ {ms : List MV} {K : List MV → List Nat → Prop}, exMs s ms K → ∀ m ∈ ms, m ≠ .u
  | [], _, _, m, hm => by simp at hm
  | x :: ms, K, h, m, hm => by
    have hx : x ≠ .u := by rintro rfl; simp [exMs, exM, exC] at h
    have hr : ∃ K', exMs s ms K' := by
      have one : ∀ {y : MV} {K1 : MV → List Nat → Prop}, exC s y K1 → ∃ a b, K1 a b := by
        intro y K1 hy
        cases y <;> simp only [exC] at hy
        case sr =>
          split at hy
          · exact ⟨_, _, hy.2.2⟩
          · exact ⟨_, _, hy.2.2⟩
          · exact hy.elim
        case s => exact ⟨_, _, hy.2⟩
        all_goals first | exact hy.elim | exact ⟨_, _, hy⟩
      have lst : ∀ {ys : List MV} {K1 : List MV → List Nat → Prop}, exL s ys K1 → ∃ a b, K1 a b := by
        intro ys
        induction ys with
        | nil => intro K1 hy; exact ⟨_, _, hy⟩
        | cons y ys ih =>
          intro K1 hy
          obtain ⟨_, _, h1⟩ := one hy
          obtain ⟨_, _, h2⟩ := ih h1
          exact ⟨_, _, h2⟩
      simp only [exMs] at h
      cases x with
      | agg cs => simp only [exM] at h; obtain ⟨_, _, h1⟩ := lst h; exact ⟨_, h1⟩
      | pr id i off =>
        simp only [exM] at h
        split at h
        · obtain ⟨_, _, h1⟩ := lst h.2.2; exact ⟨_, h1⟩
        · exact h.elim
      | _ => simp only [exM] at h; obtain ⟨_, _, h1⟩ := one h; exact ⟨_, h1⟩
    rcases List.mem_cons.1 hm with rfl | hm
    · exact hx
    · obtain ⟨K', hr⟩ := hr; exact exMs_ne hr m hm

theorem resAs_run (h : Rel P N A w0 F0 J0 g s a w) : ∀ {l : List ResultVar} {rs : List RSl}, okRes P l rs = true → (∀ m ∈ rs.map (resV s), m ≠ .u) →
    ∃ vs, vs.length = l.length ∧ (∀ (i : Nat) (r : ResultVar) (v : Value), l[i]? = some r → vs[i]? = some v → (resA a.tmps r).run P w = .ok v w) ∧ RVL P g vs (rs.map (resV s))
  | [], [], _, _ => ⟨[], rfl, by simp, .nil⟩
  | r :: l, r' :: rs, hok, hne => by
    simp only [okRes, Bool.and_eq_true] at hok
    obtain ⟨v, h1, h2⟩ := resA_run hok.1 h (hne _ (by simp))
    obtain ⟨vs, h3, h4, h5⟩ := resAs_run h hok.2 (fun m hm => hne m (by simp [hm]))
    refine ⟨v :: vs, by simp [h3], fun i r2 v2 hi hv => ?_, .cons _ _ _ _ h2 h5⟩
    cases i with
    | zero => simp at hi hv; subst hi hv; exact h1
    | succ i => exact h4 i r2 v2 (by simpa using hi) (by simpa using hv)
  | [], _ :: _, hok, _ => by simp [okRes] at hok
  | _ :: _, [], hok, _ => by simp [okRes] at hok

theorem results_run {fn : Func} {tmps : Array Value} : ∀ {l : List ResultVar} {vs : List Value}, fn.results.toList = l → vs.length = l.length → l.length ≤ 3 →
    (∀ (i : Nat) (r : ResultVar) (v : Value), l[i]? = some r → vs[i]? = some v → (resA tmps r).run P w = .ok v w) →
    ∃ v, (results fn tmps).run P w = .ok v w ∧ ∀ {I J : Imm} {xs : List MV} {F : List Nat}, OwnL P I J w vs xs F → Own P I J w v (oneOr xs) F
  | [], [], h, _, _, hr => ⟨_, results_none (Array.ext' h) tmps P w, fun ho => by cases ho; exact .tup _ _ _ .nil⟩
  | [r], [v], h, _, _, hr => by
    have h1 := hr 0 r v rfl rfl
    refine ⟨v, ?_, fun ho => ?_⟩
    · rw [results_eq, show fn.results = #[r] from Array.ext' h]; simp [h1]
    · cases ho with
      | cons _ _ m ms F G h1 h2 => cases h2; simpa [oneOr] using h1
  | [r, r2], [v, v2], h, _, _, hr => by
    have h1 := hr 0 r v rfl rfl
    have h2 := hr 1 r2 v2 rfl rfl
    refine ⟨.tuple #[v, v2], ?_, fun ho => ?_⟩
    · rw [results_eq, show fn.results = #[r, r2] from Array.ext' h]; simp [h1, h2]
    · cases ho with
      | cons _ _ m ms F G h1 h2 =>
        cases h2 with
        | cons _ _ m2 ms2 F2 G2 h3 h4 => cases h4; exact .tup _ _ _ (.cons _ _ _ _ _ _ h1 (.cons _ _ _ _ _ _ h3 .nil))
  | [r, r2, r3], [v, v2, v3], h, _, _, hr => by
    have h1 := hr 0 r v rfl rfl
    have h2 := hr 1 r2 v2 rfl rfl
    have h3 := hr 2 r3 v3 rfl rfl
    refine ⟨.tuple #[v, v2, v3], ?_, fun ho => ?_⟩
    · rw [results_eq, show fn.results = #[r, r2, r3] from Array.ext' h]; simp [h1, h2, h3]
    · cases ho with
      | cons _ _ m ms F G h1 h2 =>
        cases h2 with
        | cons _ _ m2 ms2 F2 G2 h3 h4 =>
          cases h4 with
          | cons _ _ m3 ms3 F3 G3 h5 h6 => cases h6; exact .tup _ _ _ (.cons _ _ _ _ _ _ h1 (.cons _ _ _ _ _ _ h3 (.cons _ _ _ _ _ _ h5 .nil)))
  | _ :: _ :: _ :: _ :: _, _, _, _, h, _ => by simp at h
  | [], _ :: _, _, h, _, _ => by simp at h
  | _ :: _, [], _, h, _, _ => by simp at h
  | [_], _ :: _ :: _, _, h, _, _ => by simp at h
  | [_, _], [_], _, h, _, _ => by simp at h
  | [_, _], _ :: _ :: _ :: _, _, h, _, _ => by simp at h
  | [_, _, _], [_], _, h, _, _ => by simp at h
  | [_, _, _], [_, _], _, h, _, _ => by simp at h
  | [_, _, _], _ :: _ :: _ :: _ :: _, _, h, _, _ => by simp at h

theorem okRes_length : ∀ {l : List ResultVar} {rs : List RSl}, okRes P l rs = true → l.length = rs.length
  | [], [], _ => rfl
  | _ :: l, _ :: rs, h => by simp only [okRes, Bool.and_eq_true] at h; simp [okRes_length h.2]
  | [], _ :: _, h => by simp [okRes] at h
  | _ :: _, [], h => by simp [okRes] at h

theorem exO_own {fx : List Nat} (h : Rel P N A w0 F0 J0 g s a w) : ∀ {n k : Nat} {us : List Value} {K : List MV → List Nat → Prop}, us.length = n → (∀ i, i < n → k + i ∈ fx → us[i]? = some (a.tmps.getD (k + i) undef)) → exO s fx k n K →
    ∃ os ids F, K os ids ∧ (∀ i ∈ ids, ∃ o, s.obj i = some o ∧ o.live = true) ∧ OwnL P g.J g.J w us os F ∧ F.Sublist (ids.flatMap (blk g)) := by
  intro n
  induction n with
  | zero => intro k us K hl _ hk; cases us with
    | nil => exact ⟨_, _, [], hk, by simp, .nil, by simp⟩
    | cons => simp at hl
  | succ n ih =>
    intro k us K hl hv hk
    cases us with
    | nil => simp at hl
    | cons u us =>
      have hl' : us.length = n := by simpa using hl
      have hv' : ∀ i, i < n → k + 1 + i ∈ fx → us[i]? = some (a.tmps.getD (k + 1 + i) undef) := fun i hi hm => by
        have := hv (i + 1) (by omega) (by rw [show k + (i + 1) = k + 1 + i by omega]; exact hm)
        rw [show k + (i + 1) = k + 1 + i by omega] at this
        simpa using this
      simp only [exO] at hk
      split at hk
      · rename_i hc
        have hu := hv 0 (by omega) (by simpa using hc)
        simp at hu
        have hr := h.val (x := .tmp k) (y := .t k) (by simp [okOpd])
        have : a.eval (.tmp k) = u := by rw [hu]; simp [Act.eval, Array.getD_eq_getD_getElem?]
        rw [this] at hr
        obtain ⟨x, ids, F, hk, l1, o1, s1⟩ := exM_own h.hp hr hk
        obtain ⟨xs, ids', G, hk, l2, o2, s2⟩ := ih hl' hv' hk
        exact ⟨_, _, _, hk, fun i hi => (List.mem_append.1 hi).elim (l1 i) (l2 i), .cons _ _ _ _ _ _ o1 o2, by rw [List.flatMap_append]; exact s1.append s2⟩
      · obtain ⟨xs, ids', G, hk, l2, o2, s2⟩ := ih hl' hv' hk
        exact ⟨_, _, _, hk, l2, .cons _ _ _ _ [] _ (.imm _ _ (.u _)) o2, s2⟩

theorem OwnL.len {I J : Imm} : ∀ {vs : List Value} {ms : List MV} {F : List Nat}, OwnL P I J w vs ms F → vs.length = ms.length
  | _, _, _, .nil => rfl
  | _, _, _, .cons _ _ _ _ _ _ _ hs => by simp [hs.len]

theorem MCall.of_code (hm : P.follows .mixedOrders = true) {f : FuncId} {fd : Func} {n : Nat} {fx : List Nat} {rs : List RSl} {m : MCode} {args : List MV} {Q : List MV → MV → Prop} (hf : P.funcs[f]? = some fd)
    (hok : okFn P fd n fx rs m = true) (hN : args.length ≤ n) (hrs : rs.length ≤ 3) (hw : mwp P m (retQ rs fx args.length Q) (entry args)) : MCall P f args Q := by
  simp only [okFn, Bool.and_eq_true, beq_iff_eq] at hok
  obtain ⟨⟨⟨h1, h2⟩, h3⟩, _⟩ := hok
  split at h3
  · rename_i c hc
    intro w J vs F hJ hnd ho
    refine calls_of_wp hf hc ?_
    rw [h1]
    refine wp_mono (mwp_sound (N := ⟨n, fx, fun t => vs.getD t undef⟩) hm m c _ _ _ w h3 (entry_St hN hJ hnd ho) hw) ?_
    have hlen : vs.toList.length = args.length := ho.len
    have fin : ∀ s a' w', St P ⟨n, fx, fun t => vs.getD t undef⟩ w F J s a' w' → retK rs fx args.length Q s → bodyPost P fd (fun e w' => ∃ v outs r J' G, e = .returned v ∧ Q outs r ∧ WExt w F w' ∧ (∀ b o, J b = some o → J' b = some o) ∧
        (∀ b o, J' b = some o → w'.heap[b]? = some o ∧ b ∉ G ∧ (J b = some o ∨ w.heap.size ≤ b ∨ b ∈ F)) ∧ G.Nodup ∧ (∀ b ∈ G, w.heap.size ≤ b ∨ b ∈ F) ∧
        OwnL P J' J' w' (v :: vs.toList) (r :: outs) G) .ret a' w' := by
      rintro s a' w' ⟨g, hr, hJg⟩ hk
      refine ⟨hr.defers, ?_⟩
      obtain ⟨rvs, hl1, hl2, hvs⟩ := resAs_run hr h2 (exMs_ne hk)
      obtain ⟨v, hv, hown⟩ := results_run (fn := fd) (l := fd.results.toList) rfl hl1 (by rw [okRes_length h2]; exact hrs) hl2
      refine ⟨v, hv, ?_⟩
      obtain ⟨xs, ids, G, hk, hl, ho', hsub⟩ := exMs_own hr.hp hvs hk
      obtain ⟨os, ids', G', ⟨hnd', hq⟩, hl', hos, hsub'⟩ := exO_own hr (us := vs.toList) hlen (fun i hi hm => by
        have h5 := hr.fix (0 + i) hm
        have hi' : i < vs.size := by rw [← Array.length_toList, hlen]; exact hi
        rw [h5]
        simp [Array.getD_eq_getD_getElem?, hi']) hk
      have hs := hsub.append hsub'
      rw [← List.flatMap_append] at hs
      have hlive : ∀ j ∈ ids ++ ids', ∃ o, look s.hp j = some o ∧ o.live = true := fun j hj => (List.mem_append.1 hj).elim (hl j) (hl' j)
      have hG : ∀ b ∈ G ++ G', ∃ id l o, look s.hp id = some o ∧ o.live = true ∧ g.inj id = some l ∧ l.b = b := by
        intro b hb
        obtain ⟨id, hid, hb⟩ := List.mem_flatMap.1 (hs.subset hb)
        obtain ⟨l, h1, h2⟩ := mem_blk.1 hb
        obtain ⟨o, h3, h4⟩ := hlive id hid
        exact ⟨id, l, o, h3, h4, h1, h2⟩
      refine ⟨v, os, oneOr xs, g.J, G ++ G', rfl, hq, hr.hp.ext, hJg, fun b o x => ⟨hr.hp.imm b o (hr.hp.JI b o x), fun hb => ?_, hr.hp.Jf b o x⟩, hs.nodup (hr.hp.blks_nodup _ hnd' hlive), fun b hb => ?_, ?_⟩
      · obtain ⟨id, l, o', e1, e2, e3, rfl⟩ := hG b hb
        have := hr.hp.disj id o' l e1 e2 e3
        rw [hr.hp.JI _ _ x] at this; cases this
      · obtain ⟨id, l, o', e1, e2, e3, rfl⟩ := hG b hb
        exact hr.hp.fresh id o' l e1 e2 e3
      · exact OwnL.cons _ _ _ _ _ _ (hown ho') hos
    intro e a' w' h
    cases e with
    | normal => obtain ⟨s, h4, h5⟩ := h; exact fin s a' w' h4 h5
    | exit id => obtain ⟨s, h4, h5⟩ := h; exact h5.elim
    | ret => obtain ⟨s, h4, h5⟩ := h; exact fin s a' w' h4 h5
    | goto l => exact h.elim
    | panic c => exact h.elim
    | outgrown => exact h.elim
  · cases h3

theorem callable_of {f : FuncId} {fd : Func} {n : Nat} {fx : List Nat} {rs : List RSl} {m : MCode} (hf : P.funcs[f]? = some fd) (hok : okFn P fd n fx rs m = true) : Callable P f := by
  simp only [okFn, Bool.and_eq_true, Bool.not_eq_true'] at hok
  obtain ⟨⟨_, h3⟩, h4⟩ := hok
  refine ⟨fd, hf, h4, ?_⟩
  cases hb : fd.body with
  | none => rw [hb] at h3; cases h3
  | some c => rfl

end
end Go.Fw
