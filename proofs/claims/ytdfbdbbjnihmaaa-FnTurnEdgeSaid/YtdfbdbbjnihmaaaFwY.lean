/-
  Regions that draw their order: whatever the order, the outcome is that of the text's order.
-/
import Derived.Test.YtdfbdbbjnihmaaaFwX
namespace Go.Fw
set_option linter.unusedVariables false
set_option linter.unusedSimpArgs false

def maskOf (bs : List Nat) : List Edge → Nat
  | [] => 0
  | e :: r => if Region.binds .any e then (2 ^ e.on ||| bs.getD e.on 0) ||| maskOf bs r else maskOf bs r
def okBs (bs : List Nat) : Nat → List Oper → Bool
  | _, [] => true
  | j, o :: l => bs.getD j 0 == maskOf bs o.after.toList && o.after.toList.all (fun e => !Region.binds .any e || decide (e.on < j)) && okBs bs (j + 1) l

theorem maskOf_get {bs : List Nat} {i : Nat} : ∀ {l : List Edge}, (maskOf bs l).testBit i = true → ∃ e ∈ l, Region.binds .any e = true ∧ (e.on = i ∨ (bs.getD e.on 0).testBit i = true)
  | [], h => by simp [maskOf] at h
  | e :: l, h => by
    simp only [maskOf] at h
    split at h
    · rename_i hb
      simp only [Nat.testBit_or, Nat.testBit_two_pow, Bool.or_eq_true, decide_eq_true_eq] at h
      rcases h with h | h
      · exact ⟨e, by simp, hb, h⟩
      · obtain ⟨e', h1, h2⟩ := maskOf_get h; exact ⟨e', by simp [h1], h2⟩
    · obtain ⟨e', h1, h2⟩ := maskOf_get h; exact ⟨e', by simp [h1], h2⟩

theorem okBs_get {bs : List Nat} : ∀ {l : List Oper} {k : Nat}, okBs bs k l = true → ∀ j o, l[j]? = some o →
    (∀ e ∈ o.after, Region.binds .any e = true → e.on < k + j) ∧ ∀ i, (bs.getD (k + j) 0).testBit i = true → ∃ e ∈ o.after, Region.binds .any e = true ∧ (e.on = i ∨ (bs.getD e.on 0).testBit i = true)
  | [], _, _, j, o, h => by simp at h
  | o' :: l, k, h, j, o, ho => by
    simp only [okBs, Bool.and_eq_true, beq_iff_eq] at h
    cases j with
    | zero =>
      simp at ho; subst ho
      refine ⟨fun e he hb => ?_, fun i hi => ?_⟩
      · have := List.all_eq_true.1 h.1.2 e (by simpa using he)
        simpa [hb] using this
      · rw [Nat.add_zero, h.1.1] at hi
        obtain ⟨e, h1, h2⟩ := maskOf_get hi
        exact ⟨e, by simpa using h1, h2⟩
    | succ j =>
      rw [show k + (j + 1) = k + 1 + j by omega]
      exact okBs_get h.2 j o (by simpa using ho)

section
variable {P : Program} {N : FrS} {w0 : World} {F0 : List Nat} {J0 : Imm} {Q : Exit → Act → World → Prop} {ops : Array Oper}

/-- Listed with each operation are all that stand ahead of it. -/
def Down (ops : Array Oper) (S : Nat → Bool) : Prop := ∀ (j : Nat) (o : Oper), ops[j]? = some o → S j = true → ∀ e ∈ o.after, Region.binds .any e = true → S e.on = true

theorem bit_listed {bs : List Nat} {S : Nat → Bool} (hb : okBs bs 0 ops.toList = true) (hd : Down ops S) {i : Nat} : ∀ (j : Nat) (o : Oper), ops[j]? = some o →
    (∀ e ∈ o.after, Region.binds .any e = true → S e.on = true) → (bs.getD j 0).testBit i = true → S i = true := by
  intro j
  induction j using Nat.strongRecOn with
  | _ j ih =>
    intro o ho hs hbit
    have hg := okBs_get hb j o (by simpa using ho)
    rw [Nat.zero_add] at hg
    obtain ⟨e, he, hbe, h⟩ := hg.2 i hbit
    have hl := hs e he hbe
    rcases h with h | h
    · rw [← h]; exact hl
    · have hlt := hg.1 e he hbe
      have hsz : j < ops.size := (Array.getElem?_eq_some_iff.1 ho).1
      have heo : ops[e.on]? = some ops[e.on] := Array.getElem?_eq_getElem (by omega)
      exact ih e.on hlt _ heo (hd e.on _ heo hl) h

theorem okOpers_get {l : List Oper} : ∀ {ms : List MOper}, okOpers P N.n N.fx ops l ms = true → l.length = ms.length ∧ ∀ (i : Nat) (o : Oper) (m : MOper), l[i]? = some o → ms[i]? = some m → okOper P N.n N.fx ops o m = true := by
  induction l with
  | nil => intro ms h; cases ms with
    | nil => simp
    | cons m ms => simp [okOpers] at h
  | cons o l ih =>
    intro ms h
    cases ms with
    | nil => simp [okOpers] at h
    | cons m ms =>
      simp only [okOpers, Bool.and_eq_true] at h
      have := ih h.2
      refine ⟨by simp [this.1], fun i o' m' ho hm => ?_⟩
      cases i with
      | zero => simp at ho hm; subst ho hm; exact h.1
      | succ i => exact this.2 i o' m' (by simpa using ho) (by simpa using hm)

theorem HRel.congr {A : Nat → Prop} {g : Env} {hp hp' : List (Nat × MO)} {w : World} (h : HRel P A w0 F0 J0 g hp w) (e : ∀ id, look hp' id = look hp id) : HRel P A w0 F0 J0 g hp' w := by
  refine ⟨fun id o x => h.objs id o (by rw [← e]; exact x), fun id x => by rw [e]; exact h.avail id x, fun id1 id2 o1 o2 l1 l2 a1 a2 => h.sep id1 id2 o1 o2 l1 l2 (by rw [← e]; exact a1) (by rw [← e]; exact a2),
    fun id o l a1 => h.disj id o l (by rw [← e]; exact a1), fun id o l a1 => h.fresh id o l (by rw [← e]; exact a1), h.imm, h.JI, h.Jf, h.ext⟩

theorem Rel.congr {A : Nat → Prop} {g : Env} {s s' : MS} {a : Act} {w : World} (h : Rel P N A w0 F0 J0 g s a w) (e : ∀ κ, s'.at κ = s.at κ) : Rel P N A w0 F0 J0 g s' a w :=
  ⟨h.size, h.fix, h.defers, fun t m ht => h.slots t m (by rw [← look_of_at_s (e (.s t))]; exact ht), h.hp.congr fun id => look_of_at_o (e (.o id))⟩

theorem step_sound {A : Nat → Prop} {g : Env} {s : MS} {a : Act} {w : World} {i n : Nat} {o : Oper} {m : MOper} {r : Rec} {K : Act → World → Prop} (ho : ops[i]? = some o)
    (hok : okOper P N.n N.fx ops o m = true) (hA : ∀ id, n ≤ id → id < n + 64 → A id) (h : Rel P N A w0 F0 J0 g s a w) (hr : r.dst = m.dst) (hs : StepAt P m n s r)
    (hn : ∀ g' a' w', g.le g' → Rel P N (fun id => A id ∧ ¬(n ≤ id ∧ id < n + 64)) w0 F0 J0 g' (s.did r) a' w' → K a' w') : wpOp P ops Q i K a w := by
  simp only [okOper, Bool.and_eq_true] at hok
  obtain ⟨⟨h1, h2⟩, h3⟩ := hok
  obtain ⟨e2, h2⟩ := okDst_get h2
  unfold wpOp
  simp only [ho]
  rcases hs with ⟨hg, hm⟩ | ⟨t, want, hg, hv, rv, ru⟩
  · have hw : Region.wanted o (yielded ops a.tmps) = true := by
      cases hgd : o.guard with
      | none => simp [Region.wanted, hgd]
      | some p =>
        obtain ⟨j, want⟩ := p
        rw [hgd] at h3
        obtain ⟨t, ht, hj, hN⟩ := okGuard_get h3
        have hl := look_of_val (hg t want ht) (by simp)
        simp [Region.wanted, hgd, yielded_b hj (h.know hl)]
    simp only [hw, if_true]
    refine .inl (mop_sound h1 hA h hm ?_)
    rintro v u rd g' w' x ⟨rfl, rfl⟩ hgl hv hh
    refine hn g' _ w' hgl ?_
    rw [e2, ← hr]
    exact h.app (fun t ht => h2 t (e2 ▸ hr ▸ ht)) hgl hv hh
  · have hw : Region.wanted o (yielded ops a.tmps) = false := by
      cases hgd : o.guard with
      | none => rw [hgd, hg] at h3; simp [okGuard] at h3
      | some p =>
        obtain ⟨j, want'⟩ := p
        rw [hgd] at h3
        obtain ⟨t', ht', hj, hN⟩ := okGuard_get h3
        rw [hg] at ht'; cases ht'
        rcases hv with hv | hv
        · have hl := look_of_val hv (by simp)
          simp [Region.wanted, hgd, yielded_b hj (h.know hl)]
        · have hl := look_of_val hv (by simp)
          have hu : a.tmps.getD t undef = undef := by
            have := h.slots t _ hl
            generalize a.tmps.getD t undef = v at this
            cases this; rfl
          simp [Region.wanted, hgd, yielded_un hj hu]
    simp only [hw, Bool.false_eq_true, if_false]
    refine hn g _ w (Env.le.refl g) ?_
    have : s.did r = s.set o.dst .un := by
      simp only [MS.did, MS.app, ru, rv, upds, hr, e2]
    rw [this]
    exact (h.skip h2).weaken fun _ x => x.1

variable {A : Nat → Prop} {s : MS} {ms : List MOper} {rs : List Rec} {bs : List Nat} {n : Nat} {g0 : Env}

theorem any_sound (hok : okOpers P N.n N.fx ops ops.toList ms = true) (hb : okBs bs 0 ops.toList = true) (htr : okTrace bs 0 rs = true) (hlen : rs.length = ms.length)
    (hst : ∀ i o r, ms[i]? = some o → rs[i]? = some r → StepOK P o (n + 64 * i) (runR s (rs.take i)) r)
    (hA : ∀ id, n ≤ id → id < n + 64 * ms.length → A id)
    (hq : ∀ g' a' w', g0.le g' → Rel P N (fun id => A id ∧ ¬(n ≤ id ∧ id < n + 64 * ms.length)) w0 F0 J0 g' (runR s rs) a' w' → Q .normal a' w') :
    ∀ (fuel : Nat) (left : List Nat) (listed : Array Bool) (g : Env) (a : Act) (w : World), g0.le g → listed.size = ops.size → left.Nodup → (∀ j, j ∈ left ↔ j < ops.size ∧ listed.getD j true = false) →
      left.length ≤ fuel → Down ops (fun j => listed.getD j false) →
      Rel P N (fun id => A id ∧ ¬∃ j, j < ops.size ∧ listed.getD j false = true ∧ n + 64 * j ≤ id ∧ id < n + 64 * j + 64) w0 F0 J0 g (stR (fun j => listed.getD j false) 0 s rs) a w →
      wpAny P .any ops Q fuel listed a w := by
  have hops : ops.size = ms.length := by rw [← Array.length_toList]; exact (okOpers_get hok).1
  have two : ∀ (listed : Array Bool) (j : Nat), listed.size = ops.size → j < ops.size → listed.getD j true = listed.getD j false := fun listed j h hj => by
    rw [Array.getD_eq_getD_getElem?, Array.getD_eq_getD_getElem?, Array.getElem?_eq_getElem (by omega)]; rfl
  -- all listed: done
  have fin : ∀ (listed : Array Bool) (g : Env) (a : Act) (w : World), g0.le g → listed.size = ops.size → (∀ j, j < ops.size → listed.getD j false = true) →
      Rel P N (fun id => A id ∧ ¬∃ j, j < ops.size ∧ listed.getD j false = true ∧ n + 64 * j ≤ id ∧ id < n + 64 * j + 64) w0 F0 J0 g (stR (fun j => listed.getD j false) 0 s rs) a w → Q .normal a w := by
    intro listed g a w hg0 hsz hall h
    rw [stR_all rs 0 s (fun j hj => by rw [Nat.zero_add]; exact hall j (by omega))] at h
    refine hq g a w hg0 (h.weaken fun id x => ⟨x.1, fun ⟨j, h1, h2, h3, h4⟩ => x.2 ⟨by omega, by omega⟩⟩)
  -- none ready: all listed
  have stuck : ∀ (listed : Array Bool), listed.size = ops.size → Region.ready .any ops listed = [] → ∀ j, j < ops.size → listed.getD j false = true := by
    intro listed hsz hr j
    induction j using Nat.strongRecOn with
    | _ j ih =>
      intro hj
      cases hl : listed.getD j false with
      | true => rfl
      | false =>
        have : j ∈ Region.ready .any ops listed := by
          refine mem_ready.2 ⟨by rw [two listed j hsz hj]; exact hl, ops[j], Array.getElem?_eq_getElem hj, fun e he hbe => ?_⟩
          have hg := okBs_get hb j ops[j] (by simp [hj])
          rw [Nat.zero_add] at hg
          have hlt := hg.1 e he hbe
          exact ih e.on hlt (by omega)
        rw [hr] at this; cases this
  intro fuel
  induction fuel with
  | zero =>
    intro left listed g a w hg0 hsz hnd hmem hf hd h
    have hl : left = [] := by cases left <;> simp at hf ⊢
    have hall : ∀ j, j < ops.size → listed.getD j false = true := fun j hj => by
      cases hx : listed.getD j false with
      | true => rfl
      | false =>
        have := (hmem j).2 ⟨hj, by rw [two listed j hsz hj]; exact hx⟩
        rw [hl] at this; cases this
    refine ⟨?_, fin listed g a w hg0 hsz hall h⟩
    rw [List.eq_nil_iff_forall_not_mem]
    intro j hj
    have h1 := (mem_ready.1 hj).1
    obtain ⟨o, ho, _⟩ := (mem_ready.1 hj).2
    have hj' : j < ops.size := (Array.getElem?_eq_some_iff.1 ho).1
    rw [two listed j hsz hj', hall j hj'] at h1; cases h1
  | succ fuel ih =>
    intro left listed g a w hg0 hsz hnd hmem hf hd h
    refine ⟨fun hr => fin listed g a w hg0 hsz (stuck listed hsz hr) h, fun i hi => ?_⟩
    obtain ⟨hi0, o, ho, hpre⟩ := mem_ready.1 hi
    have hilt : i < ops.size := (Array.getElem?_eq_some_iff.1 ho).1
    have hiS : listed.getD i false = false := by rw [← two listed i hsz hilt]; exact hi0
    obtain ⟨m, hm⟩ : ∃ m, ms[i]? = some m := ⟨_, List.getElem?_eq_getElem (by omega)⟩
    obtain ⟨r, hr⟩ : ∃ r, rs[i]? = some r := ⟨_, List.getElem?_eq_getElem (by omega)⟩
    have hor := (okOpers_get hok).2 i o m (by simpa using ho) hm
    obtain ⟨hdst, hids, hloc⟩ := hst i m r hm hr
    have hidsAll : ∀ (j : Nat) (x : Rec), rs[j]? = some x → ∀ y ∈ x.u, y.1 ∈ x.ids := fun j x hx => by
      have hj : j < rs.length := (List.getElem?_eq_some_iff.1 hx).1
      exact (hst j ms[j] x (List.getElem?_eq_getElem (by omega)) hx).2.1
    -- what touches the operation, and is listed, stands ahead of it; and the other way about
    have ahead : ∀ (j : Nat) (x : Rec), rs[j]? = some x → Touch x r → j ≠ i → listed.getD j false = decide (j < i) := by
      intro j x hx ht hne
      obtain ⟨c1, c2⟩ := ht.clash (hidsAll j x hx) hids
      rcases Nat.lt_or_gt_of_ne hne with hlt | hgt
      · have := okTrace_get htr j i x r hx hr hlt c1
        rw [Nat.zero_add, Nat.zero_add] at this
        have := bit_listed (S := fun j => listed.getD j false) hb hd i o ho hpre this
        simp [hlt, this]
      · have hbit := okTrace_get htr i j r x hr hx hgt c2
        rw [Nat.zero_add, Nat.zero_add] at hbit
        have hj : j < ops.size := by have := (List.getElem?_eq_some_iff.1 hx).1; omega
        cases hS : listed.getD j false with
        | false => simp; omega
        | true =>
          have hjo : ops[j]? = some ops[j] := Array.getElem?_eq_getElem hj
          have := bit_listed (S := fun j => listed.getD j false) hb hd j _ hjo (hd j _ hjo hS) hbit
          rw [hiS] at this; cases this
    have same : ∀ κ, (match κ with | .s t => t ∈ r.rs | .o id => id ∈ r.ids) → (stR (fun j => listed.getD j false) 0 s rs).at κ = (runR s (rs.take i)).at κ := by
      intro κ hκ
      rw [← stR_take (S := fun j => decide (j < i)) rs i 0 s (fun j _ => by rw [Nat.zero_add])]
      refine stR_same rs 0 s s rfl (fun j x hx hef => ?_)
      rw [Nat.zero_add]
      by_cases e : j = i
      · subst e; simpa using hiS
      · exact ahead j x hx ⟨κ, hef, .inr hκ⟩ e
    have hat : StepAt P m (n + 64 * i) (stR (fun j => listed.getD j false) 0 s rs) r :=
      hloc _ (fun t ht => look_of_at_s (same (.s t) ht)) (fun id hid => look_of_at_o (same (.o id) hid))
    have hav : ∀ id, n + 64 * i ≤ id → id < n + 64 * i + 64 → (A id ∧ ¬∃ j, j < ops.size ∧ listed.getD j false = true ∧ n + 64 * j ≤ id ∧ id < n + 64 * j + 64) := by
      intro id h1 h2
      refine ⟨hA id (by omega) (by omega), fun ⟨j, h3, h4, h5, h6⟩ => ?_⟩
      have : j = i := by omega
      subst this; rw [hiS] at h4; cases h4
    refine step_sound ho hor hav h hdst hat ?_
    intro g' a' w' hg hrel
    have hget : ∀ (j : Nat) (d : Bool), j < ops.size → (listed.setIfInBounds i true).getD j d = if j = i then true else listed.getD j d := fun j d hj => by
      by_cases e : j = i
      · subst e; simp [Array.getD_eq_getD_getElem?, hsz, hj]
      · rw [if_neg e, getD_set_ne d (Ne.symm e)]
    have hgetF : ∀ (j : Nat), (listed.setIfInBounds i true).getD j false = if j = i then true else listed.getD j false := fun j => by
      by_cases hj : j < ops.size
      · exact hget j false hj
      · have e : j ≠ i := by omega
        rw [if_neg e, getD_set_ne false (Ne.symm e)]
    refine ih (left.erase i) _ g' a' w' (hg0.trans hg) (by simpa using hsz) (hnd.erase i) (fun j => ?_) ?_ ?_ ?_
    · rw [hnd.mem_erase_iff, hmem j]
      constructor
      · rintro ⟨h1, h2, h3⟩; exact ⟨h2, by rw [hget j true h2, if_neg h1]; exact h3⟩
      · rintro ⟨h2, h3⟩
        rw [hget j true h2] at h3
        by_cases e : j = i
        · rw [if_pos e] at h3; cases h3
        · rw [if_neg e] at h3; exact ⟨e, h2, h3⟩
    · have := (hmem i).2 ⟨hilt, hi0⟩
      rw [List.length_erase_of_mem this]
      omega
    · intro j o' ho' hj e he hbe
      simp only [] at hj ⊢
      rw [hgetF] at hj ⊢
      by_cases e1 : j = i
      · subst e1
        rw [ho] at ho'; cases ho'
        have := hpre e he hbe
        by_cases e2 : e.on = j
        · rw [if_pos e2]
        · rw [if_neg e2]; exact this
      · rw [if_neg e1] at hj
        have := hd j o' ho' hj e he hbe
        by_cases e2 : e.on = i
        · rw [if_pos e2]
        · rw [if_neg e2]; exact this
    · refine (hrel.congr (fun κ => ?_)).weaken (fun id x => ⟨⟨x.1, fun ⟨j, h1, h2, h3⟩ => x.2 ⟨j, h1, ?_, h3⟩⟩, fun h3 => x.2 ⟨i, hilt, ?_, h3⟩⟩)
      · rw [at_did]
        cases hef : r.eff κ with
        | none =>
          refine stR_same rs 0 s s rfl (fun j x hx hxe => ?_)
          simp only [Nat.zero_add]
          rw [hgetF]
          by_cases e : j = i
          · subst e; rw [hr] at hx; cases hx; rw [hef] at hxe; cases hxe
          · rw [if_neg e]
        | some x =>
          refine stR_done (i := i) hef rs 0 s hr (by simp only [Nat.zero_add]; rw [hgetF, if_pos rfl]) (fun j x' hx' hlt hS => ?_)
          simp only [Nat.zero_add] at hS
          rw [hgetF, if_neg (by omega)] at hS
          cases hxe : x'.eff κ with
          | none => rfl
          | some y =>
            have := ahead j x' hx' ⟨κ, by simp [hxe], .inl (by simp [hef])⟩ (by omega)
            rw [hS] at this
            simp at this; omega
      · rw [hgetF]
        by_cases e : j = i
        · rw [if_pos e]
        · rw [if_neg e]; exact h2
      · rw [hgetF, if_pos rfl]

theorem mdraw_sound {id0 : Nat} {g : Env} {a : Act} {w : World} {K : MS → Prop} (hm : P.follows .mixedOrders = true) (hok : okOpers P N.n N.fx ops ops.toList ms = true) (hb : okBs bs 0 ops.toList = true)
    (hpl : ∀ o ∈ ms, o.op.plain = true) (hA : ∀ id, n ≤ id → id < n + 64 * ms.length → A id) (h : Rel P N A w0 F0 J0 g s a w) (hd : mdraw P bs ms n s K)
    (hq : ∀ s' g' a' w', K s' → g.le g' → Rel P N (fun id => A id ∧ ¬(n ≤ id ∧ id < n + 64 * ms.length)) w0 F0 J0 g' s' a' w' → Q .normal a' w') : (Code.region id0 ops true).wp P Q a w := by
  obtain ⟨rs, ⟨htr, hk⟩, hlen, hst⟩ := mtrace_get hpl hd
  refine wp_region_any hm ?_
  have hrep : ∀ j d, j < ops.size → (Array.replicate ops.size false).getD j d = false := fun j d hj => by simp [Array.getD_eq_getD_getElem?, hj]
  have hrepF : ∀ j, (Array.replicate ops.size false).getD j false = false := fun j => by
    by_cases hj : j < ops.size <;> simp [Array.getD_eq_getD_getElem?, hj]
  refine any_sound (g0 := g) hok hb htr hlen hst hA (fun g' a' w' hl hr => hq _ g' a' w' hk hl hr) ops.size (List.range ops.size) _ g a _ (Env.le.refl g) (by simp) List.nodup_range
    (fun j => by rw [List.mem_range]; exact ⟨fun hj => ⟨hj, hrep j true hj⟩, fun hj => hj.1⟩) (by simp) (fun j o _ hj => by simp only [] at hj; rw [hrepF] at hj; cases hj) ?_
  have e : stR (fun j => (Array.replicate ops.size false).getD j false) 0 s rs = s := by
    rw [stR_take (S := fun j => (Array.replicate ops.size false).getD j false) rs 0 0 s (fun j _ => by rw [hrepF]; simp)]
    simp [runR]
  rw [e]
  refine ⟨h.size, h.fix, h.defers, h.slots, (h.hp.drew).weaken fun id x => x.1⟩

end
end Go.Fw
