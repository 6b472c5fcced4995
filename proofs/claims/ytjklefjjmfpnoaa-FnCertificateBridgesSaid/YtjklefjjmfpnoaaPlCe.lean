/-
  Certificates: the edges of some forests know the parts, the bridges and the safe parts of a graph. No program in sight.
-/
import Derived.Test.YtjklefjjmfpnoaaPlFo
import Derived.Test.YtjklefjjmfpnoaaPlG3
namespace Go.Pl
set_option linter.unusedVariables false
set_option linter.unusedSimpArgs false

theorem rch_nil {x y : Int} (h : Rch [] x y) : x = y := by
  induction h with
  | refl => rfl
  | step _ a _ => rcases a with a | a <;> cases a
theorem mem_wo {es f : List Ed} {x : Ed} : x ∈ wo es f ↔ x ∈ es ∧ x ∉ f := by unfold wo; simp [List.mem_filter]
theorem forest_ne {n : Int} {es : List Ed} (hE : ∀ e ∈ es, EIn n e) (h : es ≠ []) : forest n es ≠ [] := fun q => by
  obtain ⟨e, r, rfl⟩ := List.exists_cons_of_ne_nil h
  have he := hE e (by simp)
  have k := (forest_rch hE (x := e.1) (y := e.2)).2 (Rch.one (.inl (by simp)))
  rw [q] at k
  have := rch_nil k
  unfold EIn at he; omega
theorem rst_lt {n : Int} {es : List Ed} (hE : ∀ e ∈ es, EIn n e) (h : es ≠ []) : (rst n es).length < es.length := by
  obtain ⟨e, r, q⟩ := List.exists_cons_of_ne_nil (forest_ne hE h)
  have he : e ∈ forest n es := by rw [q]; simp
  have hl := (wo_len (es := es) (f := forest n es))
  have hx := forest_mem he
  refine Nat.lt_of_le_of_ne hl fun e1 => ?_
  have := List.length_filter_eq_length_iff.1 e1 e hx
  simp [he] at this
theorem rsts_count {n : Int} {es : List Ed} (hE : ∀ e ∈ es, EIn n e) : ∀ k : Nat, rsts n k es = [] ∨ (rsts n k es).length + k ≤ es.length
  | 0 => .inr (Nat.le_refl _)
  | k + 1 => by
    by_cases q : rsts n k es = []
    · left
      rw [rsts, q]; rfl
    · rcases rsts_count hE k with h | h
      · exact absurd h q
      · have := rst_lt (n := n) (es := rsts n k es) (fun e he => hE e (rsts_sub he)) q
        right
        rw [rsts]; omega
theorem rsts_none {n : Int} {es : List Ed} (hE : ∀ e ∈ es, EIn n e) {k : Nat} (h : es.length ≤ k) : rsts n k es = [] := by
  rcases rsts_count hE k with q | q
  · exact q
  · exact List.length_eq_zero_iff.1 (by omega)
theorem rsts_anti {n : Int} {es : List Ed} {x : Ed} {j : Nat} : ∀ {k : Nat}, j ≤ k → x ∈ rsts n k es → x ∈ rsts n j es
  | 0, h, m => by obtain rfl : j = 0 := by omega
                  exact m
  | k + 1, h, m => by
    by_cases q : j = k + 1
    · subst q; exact m
    · exact rsts_anti (k := k) (by omega) (wo_sub m)
theorem mem_frs {n : Int} {es : List Ed} {x : Ed} : ∀ {k : Nat}, x ∈ (frs n k es).flatten ↔ x ∈ es ∧ x ∉ rsts n k es
  | 0 => by simp [frs, rsts]
  | k + 1 => by
    have ih := mem_frs (n := n) (es := es) (x := x) (k := k)
    rw [frs, List.flatten_append, List.mem_append, ih, rsts, rst, mem_wo]
    simp only [List.flatten_cons, List.flatten_nil, List.append_nil]
    constructor
    · rintro (⟨a, b⟩ | a)
      · exact ⟨a, fun c => b c.1⟩
      · exact ⟨rsts_sub (forest_mem a), fun c => c.2 a⟩
    · rintro ⟨a, b⟩
      by_cases q : x ∈ rsts n k es
      · exact .inr (Classical.byContradiction fun c => b ⟨q, c⟩)
      · exact .inl ⟨a, q⟩
theorem frs_nodup {n : Int} {es : List Ed} (h : gvB n es = true) : ∀ k : Nat, (frs n k es).flatten.Nodup
  | 0 => by simp [frs]
  | k + 1 => by
    rw [frs, List.flatten_append, List.nodup_append]
    refine ⟨frs_nodup h k, ?_, ?_⟩
    · simp only [List.flatten_cons, List.flatten_nil, List.append_nil]
      exact (GV.nodup (gvB_iff.1 (gv_rsts (k := k) h))).sublist forest_sub
    · intro a ha b hb e
      subst e
      simp only [List.flatten_cons, List.flatten_nil, List.append_nil] at hb
      exact (mem_frs.1 ha).2 (forest_mem hb)
/-- The certificate's edges, in order. -/
def cer (n : Int) (k : Nat) (es : List Ed) : List Ed := wo es (rsts n k es)
theorem cer_sorted {n : Int} {es : List Ed} (h : gvB n es = true) {k : Nat} : (cer n k es).Pairwise eLt := (gvB_iff.1 h).2.2.2.2.filter _
theorem gv_cer {n : Int} {es : List Ed} (h : gvB n es = true) {k : Nat} : gvB n (cer n k es) = true := gv_wo h
theorem cer_sub {n : Int} {es : List Ed} {k : Nat} {x : Ed} (h : x ∈ cer n k es) : x ∈ es := wo_sub h
theorem cer_perm {n : Int} {es : List Ed} (h : gvB n es = true) {k : Nat} : ((frs n k es).flatten).Perm (cer n k es) := by
  rw [List.perm_ext_iff_of_nodup (frs_nodup h k) (GV.nodup (gvB_iff.1 (gv_cer h)))]
  intro x
  rw [mem_frs]; exact mem_wo.symm
theorem cer_all {n : Int} {es : List Ed} (h : gvB n es = true) {k : Nat} (hk : es.length ≤ k) : cer n k es = es := by
  unfold cer
  rw [rsts_none (gvB_iff.1 h).2.2.2.1 hk]; exact wo_nil
theorem cer_zero {n : Int} {es : List Ed} : cer n 0 es = [] := by
  unfold cer; rw [rsts]; unfold wo
  rw [List.filter_eq_nil_iff]; intro a ha; simp [ha]
theorem frs_desc {n : Int} {es : List Ed} (h : gvB n es = true) {i : Nat} : (forest n (rsts n (i + 1) es)).length ≤ (forest n (rsts n i es)).length := by
  have hv := gvB_iff.1 h
  have hn := hv.1
  have h1 := forest_pc (n := n) (es := rsts n i es) (by omega) (fun d hd => hv.2.2.2.1 d (rsts_sub hd))
  have h2 := forest_pc (n := n) (es := rsts n (i + 1) es) (by omega) (fun d hd => hv.2.2.2.1 d (rsts_sub hd))
  have h3 := pc_mono (n := n) (es := rsts n i es) (fs := rsts n (i + 1) es) (fun d hd => hv.2.2.2.1 d (rsts_sub hd)) (fun d hd => rsts_anti (Nat.le_succ i) hd)
  omega
theorem one_cer {n : Int} {es : List Ed} {k : Nat} (hk : 1 ≤ k) {x : Ed} (h : x ∈ forest n es) : x ∈ cer n k es :=
  mem_wo.2 ⟨forest_mem h, fun m => (mem_wo.1 (rsts_anti (j := 1) hk m)).2 h⟩
theorem two_cer {n : Int} {es : List Ed} {k : Nat} (hk : 2 ≤ k) {x : Ed} (h : x ∈ forest n (rst n es)) : x ∈ cer n k es :=
  mem_wo.2 ⟨wo_sub (forest_mem h), fun m => (mem_wo.1 (rsts_anti (j := 2) hk m)).2 h⟩
section
variable {n : Int} {es : List Ed} {k : Nat}
theorem cer_rch (hE : ∀ e ∈ es, EIn n e) (hk : 1 ≤ k) {x y : Int} : Rch (cer n k es) x y ↔ Rch es x y :=
  ⟨Rch.mono fun e he => cer_sub he, fun r => Rch.mono (fun e he => one_cer hk he) ((forest_rch hE).2 r)⟩
theorem cer_lab (hE : ∀ e ∈ es, EIn n e) (hn : 0 ≤ n) (hk : 1 ≤ k) : labL n (cer n k es) = labL n es :=
  labL_congr hn (fun e he => hE e (cer_sub he)) hE (fun x y => cer_rch hE hk)
/-- All but one edge. -/
def buE (es : List Ed) (e : Ed) : List Ed := es.filter fun x => !decide (x = e)
theorem mem_buE {e x : Ed} : x ∈ buE es e ↔ x ∈ es ∧ x ≠ e := by unfold buE; simp [List.mem_filter]
theorem cer_has (hE : ∀ e ∈ es, EIn n e) (hk : 1 ≤ k) {e : Ed} (he : e ∈ es) (h : ¬ Rch (buE es e) e.1 e.2) : e ∈ cer n k es := by
  refine one_cer hk (Classical.byContradiction fun q => h ?_)
  exact Rch.mono (fun d hd => mem_buE.2 ⟨forest_mem hd, fun (c : d = e) => q (c ▸ hd)⟩) ((forest_rch hE).2 (Rch.one (.inl he)))
theorem cer_but (hE : ∀ e ∈ es, EIn n e) (hk : 2 ≤ k) {e : Ed} (he : e ∈ cer n k es) : Rch (buE (cer n k es) e) e.1 e.2 ↔ Rch (buE es e) e.1 e.2 := by
  constructor
  · exact Rch.mono fun d hd => mem_buE.2 ⟨cer_sub (mem_buE.1 hd).1, (mem_buE.1 hd).2⟩
  · intro r
    by_cases q : e ∈ forest n es
    · refine Rch.of_adj (fun d hd => ?_) r
      obtain ⟨d1, d2⟩ := mem_buE.1 hd
      by_cases p : d ∈ forest n es
      · exact Rch.one (.inl (mem_buE.2 ⟨one_cer (by omega) p, d2⟩))
      · have m : d ∈ rst n es := mem_wo.2 ⟨d1, p⟩
        refine Rch.mono (fun c hc => mem_buE.2 ⟨two_cer hk hc, fun e1 => ?_⟩) ((forest_rch (n := n) (es := rst n es) (fun c hc => hE c (wo_sub hc))).2 (Rch.one (.inl m)))
        subst e1
        exact (mem_wo.1 (forest_mem hc)).2 q
    · exact Rch.mono (fun d hd => mem_buE.2 ⟨one_cer (by omega) hd, fun (c : d = e) => q (c ▸ hd)⟩) ((forest_rch hE).2 (Rch.one (.inl (cer_sub he))))
/-- Bridges, by what the programs reckon. -/
def bdB (n : Int) (es : List Ed) (e : Ed) : Bool := !jn n (es.filter fun x => !decide (x = e)) e.1 e.2
theorem bdB_iff (hE : ∀ e ∈ es, EIn n e) {e : Ed} (he : e ∈ es) : bdB n es e = true ↔ ¬ Rch (buE es e) e.1 e.2 := by
  have q := hE e he
  unfold EIn at q
  unfold bdB
  rw [Bool.not_eq_true', jn_no (fun d hd => hE d (List.mem_filter.1 hd).1) (by omega) (by omega)]
  exact Iff.rfl
theorem cer_bridges (h : gvB n es = true) (hk : 2 ≤ k) : (cer n k es).filter (bdB n (cer n k es)) = es.filter (bdB n es) := by
  have hv := gvB_iff.1 h
  have hE := hv.2.2.2.1
  have hC : ∀ e ∈ cer n k es, EIn n e := fun e he => hE e (cer_sub he)
  refine sorted_ext ((cer_sorted h).filter _) (hv.2.2.2.2.filter _) fun x => ?_
  rw [List.mem_filter, List.mem_filter]
  constructor
  · rintro ⟨a, b⟩
    exact ⟨cer_sub a, (bdB_iff hE (cer_sub a)).2 fun r => (bdB_iff hC a).1 b ((cer_but hE hk a).2 r)⟩
  · rintro ⟨a, b⟩
    have r := (bdB_iff hE a).1 b
    have m := cer_has hE (by omega : 1 ≤ k) a r
    exact ⟨m, (bdB_iff hC m).2 fun q => r ((cer_but hE hk m).1 q)⟩
theorem cer_safe (h : gvB n es = true) (hk : 2 ≤ k) : labL n ((cer n k es).filter fun e => !bdB n (cer n k es) e) = labL n (es.filter fun e => !bdB n es e) := by
  have hv := gvB_iff.1 h
  have hn := hv.1
  have hE := hv.2.2.2.1
  have hC : ∀ e ∈ cer n k es, EIn n e := fun e he => hE e (cer_sub he)
  refine labL_congr (by omega) (fun e he => hC e (List.mem_filter.1 he).1) (fun e he => hE e (List.mem_filter.1 he).1) fun x y => ⟨?_, ?_⟩
  · refine Rch.mono fun e he => ?_
    obtain ⟨a, b⟩ := List.mem_filter.1 he
    refine List.mem_filter.2 ⟨cer_sub a, ?_⟩
    simp only [Bool.not_eq_true', Bool.eq_false_iff] at b ⊢
    exact fun c => b ((bdB_iff hC a).2 fun r => (bdB_iff hE (cer_sub a)).1 c ((cer_but hE hk a).1 r))
  · refine Rch.of_adj fun d hd => ?_
    obtain ⟨a, b⟩ := List.mem_filter.1 hd
    simp only [Bool.not_eq_true', Bool.eq_false_iff] at b
    by_cases q : d ∈ cer n k es
    · refine Rch.one (.inl (List.mem_filter.2 ⟨q, ?_⟩))
      simp only [Bool.not_eq_true', Bool.eq_false_iff]
      exact fun c => b ((bdB_iff hE a).2 fun r => (bdB_iff hC q).1 c ((cer_but hE hk q).2 r))
    · have p : d ∉ forest n es := fun c => q (one_cer (by omega) c)
      have m : d ∈ rst n es := mem_wo.2 ⟨a, p⟩
      refine Rch.mono (fun c hc => List.mem_filter.2 ⟨two_cer hk hc, ?_⟩) ((forest_rch (n := n) (es := rst n es) (fun c hc => hE c (wo_sub hc))).2 (Rch.one (.inl m)))
      have mc := two_cer hk hc
      simp only [Bool.not_eq_true', Bool.eq_false_iff]
      refine fun e1 => (bdB_iff hC mc).1 e1 ?_
      have nf : c ∉ forest n es := (mem_wo.1 (forest_mem hc)).2
      exact Rch.mono (fun d hd => mem_buE.2 ⟨one_cer (by omega) hd, fun (e2 : d = c) => nf (e2 ▸ hd)⟩) ((forest_rch hE).2 (Rch.one (.inl (wo_sub (forest_mem hc)))))
end
end Go.Pl
