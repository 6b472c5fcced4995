/-
  Graphs: turns, one after the other. No program in sight.
-/
import Derived.Test.YtjklefjjmfpnoaaGreatPlG3
namespace Go.Pl
set_option linter.unusedVariables false
set_option linter.unusedSimpArgs false

def cutE (es : List Ed) (e : Ed) : List Ed := es.filter fun x => !decide (x = e)
def turnOK (n : Int) (es : List Ed) (e : Ed) : Bool := gvB n es && (decide (e ∈ es) || gvB n (putE es e))
def turnE (n : Int) (es : List Ed) (e : Ed) : List Ed := if turnOK n es e then (if e ∈ es then cutE es e else putE es e) else []
def turnN (n : Int) (es : List Ed) (e : Ed) : Int := if turnOK n es e then n else 0
theorem turnOK_gv {n : Int} {es : List Ed} {e : Ed} (h : turnOK n es e = true) : gvB n es = true ∧ gvB n (turnE n es e) = true ∧ turnN n es e = n := by
  have h0 := h
  simp only [turnOK, Bool.and_eq_true, Bool.or_eq_true, decide_eq_true_eq] at h
  refine ⟨h.1, ?_, by simp [turnN, h0]⟩
  unfold turnE
  rw [if_pos h0]
  by_cases m : e ∈ es
  · rw [if_pos m]; exact gvB_iff.2 (GV_filter (gvB_iff.1 h.1) _)
  · rw [if_neg m]; exact h.2.resolve_left m
theorem turnBack {n : Int} {es : List Ed} {e : Ed} (h : turnOK n es e = true) : turnOK n (turnE n es e) e = true ∧ turnE n (turnE n es e) e = es := by
  have h0 := h
  simp only [turnOK, Bool.and_eq_true, Bool.or_eq_true, decide_eq_true_eq] at h
  obtain ⟨h1, h2⟩ := h
  have hg := gvB_iff.1 h1
  by_cases m : e ∈ es
  · have e1 : turnE n es e = cutE es e := by unfold turnE; rw [h0]; simp [m]
    have m1 : e ∉ cutE es e := by simp [cutE]
    have g1 : gvB n (cutE es e) = true := gvB_iff.2 (GV_filter hg _)
    have e2 : putE (cutE es e) e = es := sorted_ext (putE_sorted (gvB_iff.1 g1).2.2.2.2 m1) hg.2.2.2.2 fun x => by
      rw [mem_putE]; simp only [cutE, List.mem_filter, Bool.not_eq_true', decide_eq_false_iff_not]
      exact ⟨fun q => q.elim (fun q => q ▸ m) (fun q => q.1), fun q => (Classical.em (x = e)).elim .inl fun w => .inr ⟨q, w⟩⟩
    have o : turnOK n (cutE es e) e = true := by unfold turnOK; rw [g1, e2, h1]; simp
    rw [e1]
    refine ⟨o, ?_⟩
    unfold turnE; rw [o]; simp [m1, e2]
  · have gp : gvB n (putE es e) = true := h2.resolve_left m
    have e1 : turnE n es e = putE es e := by unfold turnE; rw [h0]; simp [m]
    have m1 : e ∈ putE es e := mem_putE.2 (.inl rfl)
    have e2 : cutE (putE es e) e = es := sorted_ext ((gvB_iff.1 gp).2.2.2.2.filter _) hg.2.2.2.2 fun x => by
      simp only [cutE, List.mem_filter, Bool.not_eq_true', decide_eq_false_iff_not, mem_putE]
      exact ⟨fun q => q.1.resolve_left q.2, fun q => ⟨.inr q, fun w => m (w ▸ q)⟩⟩
    have o : turnOK n (putE es e) e = true := by unfold turnOK; rw [gp]; simp [m1]
    rw [e1]
    refine ⟨o, ?_⟩
    unfold turnE; rw [o]; simp [m1, e2]

/-- Turns, one after the other: the graph behind them, whether they can be made, all graphs. -/
def trG (n : Int) : List Ed → List Ed → List Ed
  | es, [] => es
  | es, t :: r => trG n (turnE n es t) r
def trT (n : Int) : List Ed → List Ed → Bool
  | _, [] => true
  | es, t :: r => turnOK n es t && trT n (turnE n es t) r
def grs (n : Int) : List Ed → List Ed → List (List Ed)
  | es, [] => [es]
  | es, t :: r => es :: grs n (turnE n es t) r
theorem trG_app {n : Int} : ∀ {a es b : List Ed}, trG n es (a ++ b) = trG n (trG n es a) b
  | [], es, b => rfl
  | t :: r, es, b => trG_app (a := r)
theorem trT_app {n : Int} : ∀ {a es b : List Ed}, trT n es (a ++ b) = (trT n es a && trT n (trG n es a) b)
  | [], es, b => by simp [trT, trG]
  | t :: r, es, b => by simp only [List.cons_append, trT, trG, trT_app (a := r), Bool.and_assoc]
theorem grs_snoc {n : Int} : ∀ {a es : List Ed} {t : Ed}, grs n es (a ++ [t]) = grs n es a ++ [turnE n (trG n es a) t]
  | [], es, t => rfl
  | x :: r, es, t => by simp only [List.cons_append, grs, trG, grs_snoc (a := r)]
theorem grs_length {n : Int} : ∀ {a es : List Ed}, (grs n es a).length = a.length + 1
  | [], es => rfl
  | x :: r, es => by simp only [grs, List.length_cons, grs_length (a := r)]
theorem grs_get {n : Int} : ∀ {a es : List Ed} {i : Nat}, i ≤ a.length → (grs n es a)[i]? = some (trG n es (a.take i))
  | [], es, i, h => by simp at h; subst h; rfl
  | x :: r, es, 0, h => rfl
  | x :: r, es, i + 1, h => by
    simp only [grs, List.getElem?_cons_succ, List.take_succ_cons, trG]
    exact grs_get (by simpa using h)
theorem trT_gv {n : Int} : ∀ {a es : List Ed}, gvB n es = true → trT n es a = true → gvB n (trG n es a) = true
  | [], es, h, _ => h
  | x :: r, es, h, k => by
    simp only [trT, Bool.and_eq_true] at k
    exact trT_gv (a := r) (turnOK_gv k.1).2.1 k.2
theorem trT_take {n : Int} {a es : List Ed} {i : Nat} (h : trT n es a = true) : trT n es (a.take i) = true := by
  have := trT_app (n := n) (a := a.take i) (b := a.drop i) (es := es)
  rw [List.take_append_drop, h] at this
  simp at this; exact this.1
theorem trT_bad {n : Int} {a es : List Ed} {i : Nat} (h : trT n es (a.take i) = false) : trT n es a = false := by
  cases q : trT n es a
  · rfl
  · rw [trT_take q] at h; cases h
theorem trT_next {n : Int} {a es : List Ed} {i : Nat} {t : Ed} (ht : a[i]? = some t) : trT n es (a.take (i + 1)) = (trT n es (a.take i) && turnOK n (trG n es (a.take i)) t) := by
  rw [take_snoc ht, trT_app]; simp [trT]
theorem trG_next {n : Int} {a es : List Ed} {i : Nat} {t : Ed} (ht : a[i]? = some t) : trG n es (a.take (i + 1)) = turnE n (trG n es (a.take i)) t := by
  rw [take_snoc ht, trG_app]; rfl
theorem grs_next {n : Int} {a es : List Ed} {i : Nat} {t : Ed} (ht : a[i]? = some t) : grs n es (a.take (i + 1)) = grs n es (a.take i) ++ [turnE n (trG n es (a.take i)) t] := by
  rw [take_snoc ht, grs_snoc]
/-- Turns that are made backwards. -/
theorem tr_back {n : Int} : ∀ {a es : List Ed}, gvB n es = true → trT n es a = true → trT n (trG n es a) a.reverse = true ∧ trG n (trG n es a) a.reverse = es
  | [], es, _, _ => ⟨rfl, rfl⟩
  | x :: r, es, h, k => by
    simp only [trT, Bool.and_eq_true] at k
    have ih := tr_back (a := r) (turnOK_gv k.1).2.1 k.2
    have b := turnBack k.1
    simp only [List.reverse_cons, trG, trT_app, trG_app, trT, ih.1, ih.2, b.1, b.2, Bool.and_self, and_self]
def runB (n : Int) (es ts : List Ed) : Bool := gvB n es && decide (ts.length ≤ 60) && trT n es ts
def runE (n : Int) (es ts : List Ed) : List Ed := if runB n es ts then trG n es ts else []
def rnN (n : Int) (es ts : List Ed) : Int := if runB n es ts then n else 0
theorem runB_get {n : Int} {es ts : List Ed} (h : runB n es ts = true) : gvB n es = true ∧ ts.length ≤ 60 ∧ trT n es ts = true ∧ gvB n (trG n es ts) = true := by
  simp only [runB, Bool.and_eq_true, decide_eq_true_eq] at h
  exact ⟨h.1.1, h.1.2, h.2, trT_gv h.1.1 h.2⟩
theorem runE_len {n : Int} {es ts : List Ed} : (runE n es ts).length ≤ 40 := by
  unfold runE
  split
  · rename_i h; exact (gvB_iff.1 (runB_get h).2.2.2).2.2.1
  · simp
end Go.Pl
