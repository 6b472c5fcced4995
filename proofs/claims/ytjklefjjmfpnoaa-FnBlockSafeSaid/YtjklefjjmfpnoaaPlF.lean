/-
  Graphs: how many parts, forests and what they connect. No program in sight.
-/
import Derived.Test.YtjklefjjmfpnoaaPlG3
namespace Go.Pl
set_option linter.unusedVariables false
set_option linter.unusedSimpArgs false

theorem ext_nth {a b : List Int} (hl : a.length = b.length) (h : ∀ x : Int, 0 ≤ x → x < a.length → nth a x = nth b x) : a = b := by
  apply List.ext_getElem hl
  intro i h1 h2
  have := h i (by omega) (by omega)
  have e1 := nth_some (l := a) (x := (i : Int)) (by omega)
  have e2 := nth_some (l := b) (x := (i : Int)) (by omega)
  rw [Int.toNat_natCast, List.getElem?_eq_getElem h1] at e1
  rw [Int.toNat_natCast, List.getElem?_eq_getElem h2] at e2
  have e1 := Option.some.inj e1
  have e2 := Option.some.inj e2
  rw [e1, e2, this]
theorem IsLab.uniq {n : Nat} {es fs : List Ed} {a b : List Int} (ha : IsLab n es a) (hb : IsLab n fs b) (h : ∀ x y : Int, 0 ≤ x → x < n → (Rch es x y ↔ Rch fs x y)) : a = b := by
  refine ext_nth (ha.len.trans hb.len.symm) fun x h0 h1 => ?_
  rw [ha.len] at h1
  have a1 := ha.least x h0 h1 _ ((h x _ h0 h1).2 (hb.own x h0 h1))
  have b1 := hb.least x h0 h1 _ ((h x _ h0 h1).1 (ha.own x h0 h1))
  omega
theorem Rch.of_adj {es fs : List Ed} (h : ∀ d ∈ es, Rch fs d.1 d.2) {x y : Int} (r : Rch es x y) : Rch fs x y := by
  induction r with
  | refl => exact .refl
  | step _ a ih =>
    rcases a with a | a
    · exact ih.trans (h _ a)
    · exact ih.trans (h _ a).symm
theorem labL_congr {n : Int} {es fs : List Ed} (hn : 0 ≤ n) (hE : ∀ e ∈ es, EIn n e) (hF : ∀ e ∈ fs, EIn n e) (h : ∀ x y : Int, Rch es x y ↔ Rch fs x y) : labL n es = labL n fs :=
  (labL_is hn hE).uniq (labL_is hn hF) fun x y _ _ => h x y
theorem labL_inj {n : Int} {es fs : List Ed} (hn : 0 ≤ n) (hE : ∀ e ∈ es, EIn n e) (hF : ∀ e ∈ fs, EIn n e) (h : labL n es = labL n fs) {x y : Int} (hx : 0 ≤ x ∧ x < n) : Rch es x y ↔ Rch fs x y := by
  have i1 := labL_is hn hE
  have i2 := labL_is hn hF
  rw [← h] at i2
  constructor
  · intro r
    have hy := r.rng hE hx
    exact (i2.same (by omega) (by omega)).1 ((i1.same (by omega) (by omega)).2 r)
  · intro r
    have hy := r.rng hF hx
    exact (i1.same (by omega) (by omega)).1 ((i2.same (by omega) (by omega)).2 r)
theorem labL_inj2 {n : Int} {es fs : List Ed} (hn : 0 ≤ n) (hE : ∀ e ∈ es, EIn n e) (hF : ∀ e ∈ fs, EIn n e) (h : labL n es = labL n fs) {x y : Int} : Rch es x y ↔ Rch fs x y := by
  constructor
  · exact Rch.of_adj fun d hd => by
      have := hE d hd; unfold EIn at this
      exact (labL_inj hn hE hF h (by omega)).1 (.one (.inl hd))
  · exact Rch.of_adj fun d hd => by
      have := hF d hd; unfold EIn at this
      exact (labL_inj hn hE hF h (by omega)).2 (.one (.inl hd))

/-- How many parts there are. -/
def pc (n : Int) (es : List Ed) : Nat := (List.range n.toNat).countP fun i : Nat => decide (nth (labL n es) i = i)
theorem rep_iff {n : Int} {es : List Ed} (hE : ∀ e ∈ es, EIn n e) {x : Int} (hx : 0 ≤ x ∧ x < n) : nth (labL n es) x = x ↔ ∀ y, Rch es x y → x ≤ y := by
  have i := labL_is (n := n) (es := es) (by omega) hE
  have hr := i.own x (by omega) (by omega)
  have hl := i.least x (by omega) (by omega)
  constructor
  · intro h y r; have := hl y r; omega
  · intro h
    have h1 := h _ hr
    have h2 := hl x .refl
    omega
theorem countP_except {p q : Nat → Bool} {m : Nat} : ∀ {l : List Nat}, l.Nodup → m ∈ l → p m = true → (∀ i ∈ l, q i = (p i && decide (i ≠ m))) → l.countP q + 1 = l.countP p
  | [], _, h, _, _ => by simp at h
  | a :: l, hn, hm, hp, hq => by
    rw [List.nodup_cons] at hn
    rw [List.countP_cons, List.countP_cons]
    by_cases e : a = m
    · subst e
      have h1 : q a = false := by rw [hq a (by simp)]; simp
      have h2 : l.countP q = l.countP p := by
        refine List.countP_congr fun i hi => ?_
        rw [hq i (List.mem_cons_of_mem _ hi)]
        have : i ≠ a := fun k => hn.1 (k ▸ hi)
        simp [this]
      simp [h1, hp, h2]
    · have ih := countP_except (p := p) (q := q) (m := m) hn.2 ((List.mem_cons.1 hm).resolve_left (fun k => e k.symm)) hp (fun i hi => hq i (List.mem_cons_of_mem _ hi))
      have h1 : q a = p a := by rw [hq a (by simp)]; simp [e]
      rw [h1]; omega
theorem pc_congr {n : Int} {es fs : List Ed} (hn : 0 ≤ n) (hE : ∀ e ∈ es, EIn n e) (hF : ∀ e ∈ fs, EIn n e) (h : ∀ x y : Int, Rch es x y ↔ Rch fs x y) : pc n es = pc n fs := by
  unfold pc; rw [labL_congr hn hE hF h]
theorem pc_le {n : Int} {es : List Ed} : pc n es ≤ n.toNat := by
  have := List.countP_le_length (p := fun i : Nat => decide (nth (labL n es) i = i)) (l := List.range n.toNat)
  simpa [pc] using this
theorem pc_nil {n : Int} : pc n [] = n.toNat := by
  have h : ∀ i ∈ List.range n.toNat, decide (nth (labL n []) (i : Nat) = ((i : Nat) : Int)) = true := fun i hi => by
    simp at hi
    refine decide_eq_true ((rep_iff (n := n) (es := []) (by simp) (by omega)).2 fun y r => ?_)
    cases r with
    | refl => omega
    | step _ a => rcases a with a | a <;> simp at a
  unfold pc
  rw [List.countP_eq_length.2 h, List.length_range]
/-- An edge between two parts makes one of them. -/
theorem pc_new {n : Int} {es fs : List Ed} {e : Ed} (hE : ∀ d ∈ es, EIn n d) (he : EIn n e) (hf : ∀ d, d ∈ fs ↔ d = e ∨ d ∈ es) (h : ¬ Rch es e.1 e.2) : pc n fs + 1 = pc n es := by
  have hn : 0 ≤ n := by unfold EIn at he; omega
  have he' := he
  unfold EIn at he'
  have hF : ∀ d ∈ fs, EIn n d := fun d hd => by
    rcases (hf d).1 hd with rfl | k
    · exact he
    · exact hE d k
  have il := labL_is hn hE
  have oa := il.own e.1 (by omega) (by omega)
  have ob := il.own e.2 (by omega) (by omega)
  have la := il.least e.1 (by omega) (by omega)
  have lb := il.least e.2 (by omega) (by omega)
  generalize ha : nth (labL n es) e.1 = a at oa la
  generalize hb : nth (labL n es) e.2 = b at ob lb
  have ra := oa.rng hE (by omega)
  have rb := ob.rng hE (by omega)
  have hab : a ≠ b := fun k => h (oa.trans (k ▸ ob.symm))
  have up : ∀ {x y}, Rch es x y → Rch fs x y := fun r => r.mono fun d hd => (hf d).2 (.inr hd)
  have ee : Rch fs e.1 e.2 := .one (.inl ((hf e).2 (.inl rfl)))
  have hm : ((max a b).toNat : Int) = max a b := by omega
  have hspl : ∀ {x y}, Rch fs x y → Rch es x y ∨ (Rch es x e.1 ∧ Rch es e.2 y) ∨ (Rch es x e.2 ∧ Rch es e.1 y) := fun r => r.split fun d hd => (hf d).1 hd
  unfold pc
  refine countP_except (m := (max a b).toNat) List.nodup_range (by simp; omega) ?_ fun i hi => ?_
  · rw [hm]
    refine decide_eq_true ((rep_iff hE (by omega)).2 fun y r => ?_)
    have : max a b = a ∨ max a b = b := by omega
    rcases this with q | q <;> rw [q] at r ⊢
    · exact la y (oa.trans r)
    · exact lb y (ob.trans r)
  · simp at hi
    rw [Bool.eq_iff_iff, Bool.and_eq_true, decide_eq_true_eq, decide_eq_true_eq, decide_eq_true_eq, rep_iff hF (by omega), rep_iff hE (by omega)]
    constructor
    · intro q
      refine ⟨fun y r => q y (up r), fun k => ?_⟩
      have hi2 : (i : Int) = max a b := by omega
      have ab : Rch fs a b := ((up oa.symm).trans ee).trans (up ob)
      by_cases c : a ≤ b
      · have := q a (by rw [hi2, show max a b = b by omega]; exact ab.symm); omega
      · have := q b (by rw [hi2, show max a b = a by omega]; exact ab); omega
    · rintro ⟨q, k⟩ y r
      rcases hspl r with r | ⟨r1, r2⟩ | ⟨r1, r2⟩
      · exact q y r
      · have h1 := q a (r1.trans oa)
        have h2 := la i r1.symm
        have h3 := lb y r2
        omega
      · have h1 := q b (r1.trans ob)
        have h2 := lb i r1.symm
        have h3 := la y r2
        omega
theorem pc_old {n : Int} {es fs : List Ed} {e : Ed} (hE : ∀ d ∈ es, EIn n d) (he : EIn n e) (hf : ∀ d, d ∈ fs ↔ d = e ∨ d ∈ es) (h : Rch es e.1 e.2) : pc n fs = pc n es := by
  have hn : 0 ≤ n := by unfold EIn at he; omega
  refine pc_congr hn (fun d hd => ?_) hE fun x y => ⟨Rch.of_adj fun d hd => ?_, Rch.mono fun d hd => (hf d).2 (.inr hd)⟩
  · rcases (hf d).1 hd with rfl | k
    · exact he
    · exact hE d k
  · rcases (hf d).1 hd with rfl | k
    · exact h
    · exact .one (.inl k)
theorem pc_mem {n : Int} {es fs : List Ed} (hn : 0 ≤ n) (hE : ∀ d ∈ es, EIn n d) (hf : ∀ d, d ∈ fs ↔ d ∈ es) : pc n fs = pc n es :=
  pc_congr hn (fun d hd => hE d ((hf d).1 hd)) hE fun x y => Rch.congr hf
/-- More edges, fewer parts. -/
theorem pc_mono {n : Int} {es fs : List Ed} (hE : ∀ d ∈ es, EIn n d) (hf : ∀ d ∈ fs, d ∈ es) : pc n es ≤ pc n fs := by
  unfold pc
  refine countP_le_of fun i hi h => ?_
  simp at hi
  rw [decide_eq_true_eq] at h ⊢
  rw [rep_iff hE (by omega)] at h
  rw [rep_iff (fun d hd => hE d (hf d hd)) (by omega)]
  exact fun y r => h y (r.mono hf)

/-- Without cycles. -/
def Acy (n : Int) (es : List Ed) : Prop := es.length + pc n es = n.toNat
theorem Acy.nil {n : Int} : Acy n [] := by simp [Acy, pc_nil]
theorem forL_all {n : Int} : ∀ {es out : List Ed}, (∀ d ∈ out, EIn n d) → (∀ d ∈ es, EIn n d) → Acy n out → Acy n (forL n out es) ∧ (∀ d ∈ forL n out es, EIn n d) ∧ ∀ x y : Int, Rch (forL n out es) x y ↔ Rch (out ++ es) x y
  | [], out, ho, he, ha => ⟨ha, ho, fun x y => by simp [forL]⟩
  | e :: r, out, ho, he, ha => by
    have hen := he e (by simp)
    have hen' := hen
    unfold EIn at hen'
    have hr : ∀ d ∈ r, EIn n d := fun d hd => he d (List.mem_cons_of_mem _ hd)
    rw [forL]
    cases q : jn n out e.1 e.2
    · have q' := (jn_no ho (by omega) (by omega)).1 q
      have ho' : ∀ d ∈ out ++ [e], EIn n d := fun d hd => by
        rcases List.mem_append.1 hd with k | k
        · exact ho d k
        · simp at k; subst k; exact hen
      have ha' : Acy n (out ++ [e]) := by
        have := pc_new ho hen (fs := out ++ [e]) (fun d => by simp [or_comm]) q'
        unfold Acy at ha ⊢
        simp; omega
      have := forL_all ho' hr ha'
      simp only [Bool.false_eq_true, if_false]
      refine ⟨this.1, this.2.1, fun x y => ?_⟩
      rw [this.2.2 x y]; simp
    · have q' := (jn_iff ho (by omega) (by omega)).1 q
      have := forL_all ho hr ha
      simp only [if_true]
      refine ⟨this.1, this.2.1, fun x y => ?_⟩
      rw [this.2.2 x y]
      refine ⟨Rch.mono fun d hd => ?_, Rch.of_adj fun d hd => ?_⟩
      · simp at hd ⊢; rcases hd with k | k
        · exact .inl k
        · exact .inr (.inr k)
      · simp at hd
        rcases hd with k | rfl | k
        · exact .one (.inl (by simp [k]))
        · exact q'.mono fun d hd => by simp [hd]
        · exact .one (.inl (by simp [k]))
theorem forest_acy {n : Int} {es : List Ed} (hE : ∀ d ∈ es, EIn n d) : Acy n (forest n es) := (forL_all (by simp) hE Acy.nil).1
theorem forest_rch {n : Int} {es : List Ed} (hE : ∀ d ∈ es, EIn n d) {x y : Int} : Rch (forest n es) x y ↔ Rch es x y := by
  exact (forL_all (n := n) (es := es) (out := []) (by simp) hE Acy.nil).2.2 x y
theorem forest_pc {n : Int} {es : List Ed} (hn : 0 ≤ n) (hE : ∀ d ∈ es, EIn n d) : (forest n es).length + pc n es = n.toNat := by
  have h := forest_acy hE
  unfold Acy at h
  rwa [pc_congr hn (fun d hd => hE d (forest_mem hd)) hE fun x y => forest_rch hE] at h
theorem acy_iff {n : Int} {es : List Ed} (hn : 0 ≤ n) (hE : ∀ d ∈ es, EIn n d) : (forest n es).length = es.length ↔ Acy n es := by
  have := forest_pc hn hE
  unfold Acy; omega
theorem le_pc {n : Int} {es : List Ed} (hn : 0 ≤ n) (hE : ∀ d ∈ es, EIn n d) : n.toNat ≤ es.length + pc n es := by
  have := forest_pc hn hE
  have := forest_len (n := n) (es := es)
  omega
theorem acy_tail {n : Int} {e : Ed} {es : List Ed} (hE : ∀ d ∈ e :: es, EIn n d) (h : Acy n (e :: es)) : Acy n es ∧ ¬ Rch es e.1 e.2 := by
  have hen := hE e (by simp)
  have hn : 0 ≤ n := by unfold EIn at hen; omega
  have hE' : ∀ d ∈ es, EIn n d := fun d hd => hE d (List.mem_cons_of_mem _ hd)
  have h1 := le_pc hn hE'
  unfold Acy at h ⊢
  rw [List.length_cons] at h
  by_cases q : Rch es e.1 e.2
  · have := pc_old hE' hen (fs := e :: es) (fun d => by simp) q
    omega
  · have := pc_new hE' hen (fs := e :: es) (fun d => by simp) q
    exact ⟨by omega, q⟩
theorem acy_cons {n : Int} {e : Ed} {es : List Ed} (hE : ∀ d ∈ es, EIn n d) (he : EIn n e) (h : Acy n es) (q : ¬ Rch es e.1 e.2) : Acy n (e :: es) := by
  have := pc_new hE he (fs := e :: es) (fun d => by simp) q
  unfold Acy at h ⊢
  rw [List.length_cons]; omega
theorem acy_sub {n : Int} {as bs : List Ed} (h : as.Sublist bs) : (∀ d ∈ bs, EIn n d) → Acy n bs → Acy n as := by
  induction h with
  | slnil => exact fun _ h => h
  | cons e _ ih => exact fun hE h => ih (fun d hd => hE d (List.mem_cons_of_mem _ hd)) (acy_tail hE h).1
  | @cons_cons as bs e hs ih =>
    intro hE h
    have t := acy_tail hE h
    exact acy_cons (fun d hd => hE d (List.mem_cons_of_mem _ (hs.subset hd))) (hE e (by simp)) (ih (fun d hd => hE d (List.mem_cons_of_mem _ hd)) t.1) fun r => t.2 (r.mono fun d hd => hs.subset hd)
theorem acy_mem {n : Int} {es fs : List Ed} (hn : 0 ≤ n) (hE : ∀ d ∈ es, EIn n d) (hf : ∀ d, d ∈ fs ↔ d ∈ es) (hl : fs.length = es.length) (h : Acy n es) : Acy n fs := by
  unfold Acy at h ⊢; rw [hl, pc_mem hn hE hf]; exact h
theorem filter_ne_length {es : List Ed} {e : Ed} (hn : es.Nodup) (he : e ∈ es) : (es.filter fun d => !decide (d = e)).length + 1 = es.length := by
  induction es with
  | nil => simp at he
  | cons a l ih =>
    rw [List.nodup_cons] at hn
    by_cases q : a = e
    · subst q
      have : (l.filter fun d => !decide (d = a)) = l := List.filter_eq_self.2 fun d hd => by
        have : d ≠ a := fun k => hn.1 (k ▸ hd)
        simp [this]
      simp [this]
    · have := ih hn.2 ((List.mem_cons.1 he).resolve_left (fun k => q k.symm))
      simp [q]; omega
/-- An edge cut out of a forest parts its ends. -/
theorem acy_cut {n : Int} {es : List Ed} {e : Ed} (hE : ∀ d ∈ es, EIn n d) (hd : es.Nodup) (he : e ∈ es) (h : Acy n es) : Acy n (es.filter fun d => !decide (d = e)) ∧ ¬ Rch (es.filter fun d => !decide (d = e)) e.1 e.2 := by
  have hen := hE e he
  have hn : 0 ≤ n := by unfold EIn at hen; omega
  have h2 : Acy n (e :: es.filter fun d => !decide (d = e)) := acy_mem hn hE (fun d => by
    simp only [List.mem_cons, List.mem_filter, Bool.not_eq_true', decide_eq_false_iff_not]
    constructor
    · rintro (rfl | k)
      · exact he
      · exact k.1
    · intro k
      by_cases q : d = e
      · exact .inl q
      · exact .inr ⟨k, q⟩) (by rw [List.length_cons]; exact filter_ne_length hd he) h
  exact acy_tail (fun d hd => by
    rcases List.mem_cons.1 hd with rfl | k
    · exact hen
    · exact hE d (List.mem_filter.1 k).1) h2
end Go.Pl
