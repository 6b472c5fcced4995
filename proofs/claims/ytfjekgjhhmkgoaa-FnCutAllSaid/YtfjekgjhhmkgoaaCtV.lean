/-
  Levels: small parts, valid graphs with levels.
-/
import Derived.Test.YtfjekgjhhmkgoaaCtR2
import Derived.Test.YtfjekgjhhmkgoaaCtP
import Derived.Test.YtfjekgjhhmkgoaaCtJ
namespace Go.Fw
set_option linter.unusedSimpArgs false
set_option linter.unusedVariables false
set_option maxRecDepth 100000
set_option maxHeartbeats 4000000
open Go.Proofs.Try (prog)
open Go.Pl

/-- No part has more than so many nodes, but for single ones. -/
def smlP (l : List Int) (m : Int) (x : Int) : Bool := !(decide (1 < (l.count x : Int)) && decide (m < (l.count x : Int)))
def smlB (l : List Int) (m : Int) : Bool := l.all (smlP l m)
theorem all_bad {α : Type} {l : List α} {p : α → Bool} {i : Nat} {x : α} (hx : l[i]? = some x) (h : p x = false) : l.all p = false := by
  cases q : l.all p
  · rfl
  · rw [List.all_eq_true] at q; rw [q x (List.mem_of_getElem? hx)] at h; cases h
theorem all_next {α : Type} {l : List α} {p : α → Bool} {i : Nat} {x : α} (h : (l.take i).all p = true) (hx : l[i]? = some x) (hp : p x = true) : (l.take (i + 1)).all p = true := by
  rw [take_snoc hx, List.all_append, h]; simp [hp]
theorem count_next {l : List Int} {i : Nat} {x v : Int} (hx : l[i]? = some x) : (((l.take (i + 1)).count v : Nat) : Int) = ((l.take i).count v : Int) + if x = v then 1 else 0 := by
  rw [take_snoc hx, List.count_append]
  by_cases h : x = v
  · subst h; simp
  · simp [List.count_cons, h]
theorem l7Small_is (t : Bool) (n : Int) (es : List E) (m : Int) (hg : GE n es) (hm : 0 ≤ m ∧ m ≤ 1000) : Is prog fid_spec_l7Small [Gr t n es, .i .i64 m] (.b (smlB (labL n es) m)) := by
  refine MCall.run mixed get_spec_l7Small ok_spec_l7Small (Nat.le_of_ble_eq_true rfl) (by decide) ?_
  unfold mc_spec_l7Small
  have hlen := labL_length n es
  have hn := hg.1
  have hn2 := hg.2.1
  simp (config := { maxSteps := 10000000, implicitDefEqProofs := false }) only [go_sem, ↓reduceIte, Nat.reduceAdd, Nat.reduceMul, Nat.reduceEqDiff, Nat.reduceSub, Nat.reduceLT, reduceCtorEq, Nat.reduceLeDiff, Nat.reduceBEq, mwp_draw]
  refine callK_is (l2Labels_is _ n es hg) ?_
  generalize labL n es = lab at hlen
  simp (config := { maxSteps := 10000000, implicitDefEqProofs := false }) only [go_sem, ↓reduceIte, Nat.reduceAdd, Nat.reduceMul, Nat.reduceEqDiff, Nat.reduceSub, Nat.reduceLT, reduceCtorEq, Nat.reduceLeDiff, Nat.reduceBEq, mwp_draw]
  refine mwp_loopk (X := Nat) (fun i => ⟨[(1, .i .i64 m), (2, .pr 0 0 0), (5, .sr 1 0 lab.length), (6, .i .i64 i)], [(0, .box [.i .i64 n, .s t 2 (encE es)]), (1, .arr true 1 (encI lab))], 2⟩)
    (fun i => i ≤ lab.length ∧ (lab.take i).all (smlP lab m) = true) (fun i => lab.length - i) 0 (by rfl) (by simp) ?_
  rintro i ⟨h1, h2⟩ K kN kE kR
  simp (config := { maxSteps := 10000000, implicitDefEqProofs := false }) only [go_sem, ↓reduceIte, Nat.reduceAdd, Nat.reduceMul, Nat.reduceEqDiff, Nat.reduceSub, Nat.reduceLT, reduceCtorEq, Nat.reduceLeDiff, Nat.reduceBEq, mwp_draw]
  refine ⟨fun h3 => ?_, fun h3 => kE _ _ ?_⟩
  · obtain ⟨x, hx⟩ : ∃ x, lab[i]? = some x := ⟨lab[i], List.getElem?_eq_getElem (by omega)⟩
    refine mwp_loopk (X := Nat) (fun j => ⟨[(1, .i .i64 m), (2, .pr 0 0 0), (5, .sr 1 0 lab.length), (6, .i .i64 i), (7, .i .i64 ((lab.take j).count x)), (8, .i .i64 j)], [(0, .box [.i .i64 n, .s t 2 (encE es)]), (1, .arr true 1 (encI lab))], 2⟩)
      (fun j => j ≤ lab.length) (fun j => lab.length - j) 0 (by rfl) (by simp) ?_
    rintro j g1 K' kN' kE' kR'
    have hcl : ((lab.take j).count x : Int) ≤ j := by have := List.count_le_length (a := x) (l := lab.take j); simp at this; omega
    simp (config := { maxSteps := 10000000, implicitDefEqProofs := false }) only [go_sem, ↓reduceIte, Nat.reduceAdd, Nat.reduceMul, Nat.reduceEqDiff, Nat.reduceSub, Nat.reduceLT, reduceCtorEq, Nat.reduceLeDiff, Nat.reduceBEq, mwp_draw]
    refine ⟨fun g3 => ⟨by omega, by omega, by omega, fun y hy => ⟨by omega, by omega, by omega, fun z hz => ?_⟩⟩, fun g3 => kE' _ _ ?_⟩
    · obtain rfl : x = z := by rw [hx] at hz; exact Option.some.inj hz
      have hc := count_next (v := x) hy
      by_cases e : y = x
      · rw [if_pos e] at hc
        simp (config := { maxSteps := 10000000, implicitDefEqProofs := false }) only [go_sem, ↓reduceIte, Nat.reduceAdd, Nat.reduceMul, Nat.reduceEqDiff, Nat.reduceSub, Nat.reduceLT, reduceCtorEq, Nat.reduceLeDiff, Nat.reduceBEq, mwp_draw, e]
        repeat (refine ⟨by first | omega | decide | exact fits64 (by omega) (by omega) | kernel_rfl | (intros; omega), ?_⟩)
        exact kN' _ (j + 1) (by rw [hc]; rfl) (by omega) (by omega)
      · rw [if_neg e, Int.add_zero] at hc
        simp (config := { maxSteps := 10000000, implicitDefEqProofs := false }) only [go_sem, ↓reduceIte, Nat.reduceAdd, Nat.reduceMul, Nat.reduceEqDiff, Nat.reduceSub, Nat.reduceLT, reduceCtorEq, Nat.reduceLeDiff, Nat.reduceBEq, mwp_draw, e]
        repeat (refine ⟨by first | omega | decide | exact fits64 (by omega) (by omega) | kernel_rfl | (intros; omega), ?_⟩)
        exact kN' _ (j + 1) (by rw [hc]; rfl) (by omega) (by omega)
    · clear kN' kR'
      obtain rfl : j = lab.length := by omega
      rw [List.take_length] at hcl ⊢
      by_cases q1 : 1 < (lab.count x : Int)
      · by_cases q2 : m < (lab.count x : Int)
        · have b1 : (1 < (lab.count x : Int)) = True := eq_true q1
          have b2 : (m < (lab.count x : Int)) = True := eq_true q2
          simp (config := { maxSteps := 10000000, implicitDefEqProofs := false }) only [go_sem, ↓reduceIte, Nat.reduceAdd, Nat.reduceMul, Nat.reduceEqDiff, Nat.reduceSub, Nat.reduceLT, reduceCtorEq, Nat.reduceLeDiff, Nat.reduceBEq, mwp_draw, b1, b2]
          refine kR _ ?_
          simp (config := { maxSteps := 10000000, implicitDefEqProofs := false }) only [go_sem, ↓reduceIte, Nat.reduceAdd, Nat.reduceMul, Nat.reduceEqDiff, Nat.reduceSub, Nat.reduceLT, reduceCtorEq, Nat.reduceLeDiff, Nat.reduceBEq, mwp_draw]
          exact mvb (all_bad hx (by simp [smlP]; omega)).symm
        · have b1 : (1 < (lab.count x : Int)) = True := eq_true q1
          have b2 : (m < (lab.count x : Int)) = False := eq_false q2
          simp (config := { maxSteps := 10000000, implicitDefEqProofs := false }) only [go_sem, ↓reduceIte, Nat.reduceAdd, Nat.reduceMul, Nat.reduceEqDiff, Nat.reduceSub, Nat.reduceLT, reduceCtorEq, Nat.reduceLeDiff, Nat.reduceBEq, mwp_draw, b1, b2]
          repeat (refine ⟨by first | omega | decide | exact fits64 (by omega) (by omega) | kernel_rfl | (intros; omega), ?_⟩)
          exact kN _ (i + 1) (by rfl) ⟨by omega, all_next h2 hx (by simp [smlP]; omega)⟩ (by omega)
      · have b1 : (1 < (lab.count x : Int)) = False := eq_false q1
        simp (config := { maxSteps := 10000000, implicitDefEqProofs := false }) only [go_sem, ↓reduceIte, Nat.reduceAdd, Nat.reduceMul, Nat.reduceEqDiff, Nat.reduceSub, Nat.reduceLT, reduceCtorEq, Nat.reduceLeDiff, Nat.reduceBEq, mwp_draw, b1]
        repeat (refine ⟨by first | omega | decide | exact fits64 (by omega) (by omega) | kernel_rfl | (intros; omega), ?_⟩)
        exact kN _ (i + 1) (by rfl) ⟨by omega, all_next h2 hx (by simp [smlP]; omega)⟩ (by omega)
  · simp (config := { maxSteps := 10000000, implicitDefEqProofs := false }) only [go_sem, ↓reduceIte, Nat.reduceAdd, Nat.reduceMul, Nat.reduceEqDiff, Nat.reduceSub, Nat.reduceLT, reduceCtorEq, Nat.reduceLeDiff, Nat.reduceBEq, mwp_draw]
    obtain rfl : i = lab.length := by omega
    rw [List.take_length] at h2
    exact mvb h2.symm
/-- Valid graphs with levels. -/
theorem lvL_mem {es : List E} {ls : List Int} {fs : List Bool} {k : Int} {b : Bool} : ∀ {i : Nat}, i ≤ es.length → ∀ e ∈ lvL es ls fs k b i, e ∈ es
  | 0, _, e, h => by simp [lvL] at h
  | i + 1, hi, e, h => by
    simp only [lvL] at h
    have ih := lvL_mem (es := es) (ls := ls) (fs := fs) (k := k) (b := b) (i := i) (by omega)
    split at h
    · rcases List.mem_append.1 h with h | h
      · exact ih e h
      · simp at h; subst h
        rw [List.getElem?_eq_getElem (by omega)]; exact List.getElem_mem _
    · exact ih e h
abbrev upL (es : List E) (ls : List Int) (fs : List Bool) (k : Int) (b : Bool) : List E := lvL es ls fs k b es.length
theorem upL_ge {n : Int} {es : List E} {ls : List Int} {fs : List Bool} {k : Int} {b : Bool} (hg : GE n es) : GE n (upL es ls fs k b) :=
  ⟨hg.1, hg.2.1, Nat.le_trans (lvL_len es ls fs k b _) hg.2.2.1, fun e he => hg.2.2.2 e (lvL_mem (Nat.le_refl _) e he)⟩
def lvK (x : Int) : Bool := decide (0 ≤ x) && decide (x ≤ 4)
def okL (n : Int) (es : List E) (ls : List Int) (fs : List Bool) (k : Nat) : Bool :=
  decide (((forest n (upL es ls fs k true)).length : Int) = (upL es ls fs k true).length) && (decide (labL n (upL es ls fs k false) = labL n (upL es ls fs k true)) && smlB (labL n (upL es ls fs k false)) (hlf n k))
def lvB (n : Int) (es : List E) (ls : List Int) (fs : List Bool) : Bool :=
  gvB n es && (decide (ls.length = es.length) && (decide (fs.length = es.length) && (ls.all lvK && (List.range 5).all (okL n es ls fs))))
theorem rng_next {p : Nat → Bool} {k : Nat} (h : (List.range k).all p = true) (hp : p k = true) : (List.range (k + 1)).all p = true := by
  rw [List.range_succ, List.all_append, h]; simp [hp]
theorem rng_bad {p : Nat → Bool} {k m : Nat} (hk : k < m) (h : p k = false) : (List.range m).all p = false := by
  cases q : (List.range m).all p
  · rfl
  · rw [List.all_eq_true] at q; rw [q k (by simpa using hk)] at h; cases h
theorem LevelsValidS_is (t1 t2 t3 : Bool) (n : Int) (es : List E) (ls : List Int) (fs : List Bool) (hl : es.length ≤ 1048576) (hl2 : ls.length ≤ 1048576) (hl3 : fs.length ≤ 1048576) :
    Is prog fid_spec_LevelsValid [Lv t1 t2 t3 n es ls fs] (.b (lvB n es ls fs)) := by
  refine MCall.run mixed get_spec_LevelsValid ok_spec_LevelsValid (Nat.le_of_ble_eq_true rfl) (by decide) ?_
  unfold mc_spec_LevelsValid
  simp (config := { maxSteps := 10000000, implicitDefEqProofs := false }) only [go_sem, ↓reduceIte, Nat.reduceAdd, Nat.reduceMul, Nat.reduceEqDiff, Nat.reduceSub, Nat.reduceLT, reduceCtorEq, Nat.reduceLeDiff, Nat.reduceBEq, mwp_draw]
  refine callK_is (GraphValidS_is _ n es hl) ?_
  cases h : gvB n es
  · simp (config := { maxSteps := 10000000, implicitDefEqProofs := false }) only [go_sem, ↓reduceIte, Nat.reduceAdd, Nat.reduceMul, Nat.reduceEqDiff, Nat.reduceSub, Nat.reduceLT, reduceCtorEq, Nat.reduceLeDiff, Nat.reduceBEq, mwp_draw]
    simp [lvB, h]
  have hg := GE_of (gvB_iff.1 h)
  by_cases e1 : ls.length = es.length
  case neg =>
    have b1 : ((ls.length : Int) = es.length) = False := eq_false (by omega)
    simp (config := { maxSteps := 10000000, implicitDefEqProofs := false }) only [go_sem, ↓reduceIte, Nat.reduceAdd, Nat.reduceMul, Nat.reduceEqDiff, Nat.reduceSub, Nat.reduceLT, reduceCtorEq, Nat.reduceLeDiff, Nat.reduceBEq, mwp_draw, b1]
    simp [lvB, e1]
  have b1 : ((ls.length : Int) = es.length) = True := eq_true (by omega)
  by_cases e2 : fs.length = es.length
  case neg =>
    have b2 : ((fs.length : Int) = es.length) = False := eq_false (by omega)
    simp (config := { maxSteps := 10000000, implicitDefEqProofs := false }) only [go_sem, ↓reduceIte, Nat.reduceAdd, Nat.reduceMul, Nat.reduceEqDiff, Nat.reduceSub, Nat.reduceLT, reduceCtorEq, Nat.reduceLeDiff, Nat.reduceBEq, mwp_draw, b1, b2]
    simp [lvB, e2]
  have b2 : ((fs.length : Int) = es.length) = True := eq_true (by omega)
  have hB : lvB n es ls fs = (ls.all lvK && (List.range 5).all (okL n es ls fs)) := by simp [lvB, h, e1, e2]
  rw [hB]
  simp (config := { maxSteps := 10000000, implicitDefEqProofs := false }) only [go_sem, ↓reduceIte, Nat.reduceAdd, Nat.reduceMul, Nat.reduceEqDiff, Nat.reduceSub, Nat.reduceLT, reduceCtorEq, Nat.reduceLeDiff, Nat.reduceBEq, mwp_draw, b1, b2]
  refine mwp_loopk (X := Nat) (fun i => ⟨[(1, .pr 0 0 0), (3, .i .i64 i)], [(0, .box [.i .i64 n, .s t1 2 (encE es), .s t2 1 (encI ls), .s t3 1 (encT fs)])], 1⟩)
    (fun i => i ≤ ls.length ∧ (ls.take i).all lvK = true) (fun i => ls.length - i) 0 (by rfl) (by simp) ?_
  rintro i ⟨h1, h2⟩ K kN kE kR
  simp (config := { maxSteps := 10000000, implicitDefEqProofs := false }) only [go_sem, ↓reduceIte, Nat.reduceAdd, Nat.reduceMul, Nat.reduceEqDiff, Nat.reduceSub, Nat.reduceLT, reduceCtorEq, Nat.reduceLeDiff, Nat.reduceBEq, mwp_draw]
  refine ⟨fun h3 => ⟨by omega, h3, fun x hx => ⟨fun q1 => ⟨by omega, h3, fun y hy => ?_⟩, fun q1 => kR _ ?_⟩⟩, fun h3 => kE _ _ ?_⟩
  · obtain rfl : x = y := by rw [hx] at hy; exact Option.some.inj hy
    refine ⟨fun q2 => kR _ ?_, fun q2 => ⟨fits64 (by omega) (by omega), kN _ (i + 1) (by rfl) ⟨by omega, all_next h2 hx (by simp [lvK]; omega)⟩ (by omega)⟩⟩
    simp (config := { maxSteps := 10000000, implicitDefEqProofs := false }) only [go_sem, ↓reduceIte, Nat.reduceAdd, Nat.reduceMul, Nat.reduceEqDiff, Nat.reduceSub, Nat.reduceLT, reduceCtorEq, Nat.reduceLeDiff, Nat.reduceBEq, mwp_draw]
    exact mvb (by rw [all_bad hx (by simp [lvK]; omega)]; rfl)
  · simp (config := { maxSteps := 10000000, implicitDefEqProofs := false }) only [go_sem, ↓reduceIte, Nat.reduceAdd, Nat.reduceMul, Nat.reduceEqDiff, Nat.reduceSub, Nat.reduceLT, reduceCtorEq, Nat.reduceLeDiff, Nat.reduceBEq, mwp_draw]
    exact mvb (by rw [all_bad hx (by simp [lvK]; omega)]; rfl)
  · clear kN kR
    obtain rfl : i = ls.length := by omega
    rw [List.take_length] at h2
    rw [h2, Bool.true_and]
    simp (config := { maxSteps := 10000000, implicitDefEqProofs := false }) only [go_sem, ↓reduceIte, Nat.reduceAdd, Nat.reduceMul, Nat.reduceEqDiff, Nat.reduceSub, Nat.reduceLT, reduceCtorEq, Nat.reduceLeDiff, Nat.reduceBEq, mwp_draw]
    refine mwp_loopk (X := Nat) (fun k => ⟨[(1, .pr 0 0 0), (4, .i .i64 k)], [(0, .box [.i .i64 n, .s t1 2 (encE es), .s t2 1 (encI ls), .s t3 1 (encT fs)])], 1⟩)
      (fun k => k ≤ 5 ∧ (List.range k).all (okL n es ls fs) = true) (fun k => 5 - k) 0 (by rfl) (by simp) ?_
    rintro k ⟨g1, g2⟩ K kN kE kR
    simp (config := { maxSteps := 10000000, implicitDefEqProofs := false }) only [go_sem, ↓reduceIte, Nat.reduceAdd, Nat.reduceMul, Nat.reduceEqDiff, Nat.reduceSub, Nat.reduceLT, reduceCtorEq, Nat.reduceLeDiff, Nat.reduceBEq, mwp_draw]
    refine ⟨fun c => ?_, fun c => kE _ _ ?_⟩
    · have hk5 : k < 5 := by omega
      refine callK_is (l7At_is _ _ _ n es ls fs k false hl e1 e2) ?_
      simp (config := { maxSteps := 10000000, implicitDefEqProofs := false }) only [go_sem, ↓reduceIte, Nat.reduceAdd, Nat.reduceMul, Nat.reduceEqDiff, Nat.reduceSub, Nat.reduceLT, reduceCtorEq, Nat.reduceLeDiff, Nat.reduceBEq, mwp_draw]
      refine callK_is (l7At_is _ _ _ n es ls fs k true hl e1 e2) ?_
      have hm := hlf_rng (n := n) hg.1 k
      have hgF := upL_ge (ls := ls) (fs := fs) (k := k) (b := true) hg
      have hgG := upL_ge (ls := ls) (fs := fs) (k := k) (b := false) hg
      have hok : okL n es ls fs k = (decide (((forest n (upL es ls fs k true)).length : Int) = (upL es ls fs k true).length) && (decide (labL n (upL es ls fs k false) = labL n (upL es ls fs k true)) && smlB (labL n (upL es ls fs k false)) (hlf n k))) := rfl
      unfold upL at hgF hgG hok
      generalize hF : lvL es ls fs k true es.length = F at hgF hok
      generalize hG : lvL es ls fs k false es.length = G at hgG hok
      simp (config := { maxSteps := 10000000, implicitDefEqProofs := false }) only [go_sem, ↓reduceIte, Nat.reduceAdd, Nat.reduceMul, Nat.reduceEqDiff, Nat.reduceSub, Nat.reduceLT, reduceCtorEq, Nat.reduceLeDiff, Nat.reduceBEq, mwp_draw]
      refine callK_is (l6Forest_is _ n F hgF) ?_
      by_cases p1 : ((forest n F).length : Int) = F.length
      case neg =>
        simp (config := { maxSteps := 10000000, implicitDefEqProofs := false }) only [go_sem, ↓reduceIte, Nat.reduceAdd, Nat.reduceMul, Nat.reduceEqDiff, Nat.reduceSub, Nat.reduceLT, reduceCtorEq, Nat.reduceLeDiff, Nat.reduceBEq, mwp_draw, p1]
        refine ⟨by kernel_rfl, kR _ ?_⟩
        simp (config := { maxSteps := 10000000, implicitDefEqProofs := false }) only [go_sem, ↓reduceIte, Nat.reduceAdd, Nat.reduceMul, Nat.reduceEqDiff, Nat.reduceSub, Nat.reduceLT, reduceCtorEq, Nat.reduceLeDiff, Nat.reduceBEq, mwp_draw]
        exact mvb (rng_bad hk5 (by rw [hok]; simp; omega)).symm
      simp (config := { maxSteps := 10000000, implicitDefEqProofs := false }) only [go_sem, ↓reduceIte, Nat.reduceAdd, Nat.reduceMul, Nat.reduceEqDiff, Nat.reduceSub, Nat.reduceLT, reduceCtorEq, Nat.reduceLeDiff, Nat.reduceBEq, mwp_draw, p1]
      refine callK_is (l2Labels_is _ n G hgG) ?_
      simp (config := { maxSteps := 10000000, implicitDefEqProofs := false }) only [go_sem, ↓reduceIte, Nat.reduceAdd, Nat.reduceMul, Nat.reduceEqDiff, Nat.reduceSub, Nat.reduceLT, reduceCtorEq, Nat.reduceLeDiff, Nat.reduceBEq, mwp_draw]
      refine callK_is (l2Labels_is _ n F hgF) ?_
      have lG := labL_length n G
      have lF := labL_length n F
      have hn16 := hg.2.1
      simp (config := { maxSteps := 10000000, implicitDefEqProofs := false }) only [go_sem, ↓reduceIte, Nat.reduceAdd, Nat.reduceMul, Nat.reduceEqDiff, Nat.reduceSub, Nat.reduceLT, reduceCtorEq, Nat.reduceLeDiff, Nat.reduceBEq, mwp_draw]
      refine callK_is (l7Ints_is _ _ (labL n G) (labL n F) (by omega)) ?_
      by_cases p2 : labL n G = labL n F
      case neg =>
        simp (config := { maxSteps := 10000000, implicitDefEqProofs := false }) only [go_sem, ↓reduceIte, Nat.reduceAdd, Nat.reduceMul, Nat.reduceEqDiff, Nat.reduceSub, Nat.reduceLT, reduceCtorEq, Nat.reduceLeDiff, Nat.reduceBEq, mwp_draw, p1, p2]
        refine ⟨by kernel_rfl, kR _ ?_⟩
        simp (config := { maxSteps := 10000000, implicitDefEqProofs := false }) only [go_sem, ↓reduceIte, Nat.reduceAdd, Nat.reduceMul, Nat.reduceEqDiff, Nat.reduceSub, Nat.reduceLT, reduceCtorEq, Nat.reduceLeDiff, Nat.reduceBEq, mwp_draw]
        exact mvb (rng_bad hk5 (by rw [hok]; simp [p2])).symm
      simp (config := { maxSteps := 10000000, implicitDefEqProofs := false }) only [go_sem, ↓reduceIte, Nat.reduceAdd, Nat.reduceMul, Nat.reduceEqDiff, Nat.reduceSub, Nat.reduceLT, reduceCtorEq, Nat.reduceLeDiff, Nat.reduceBEq, mwp_draw, p1, p2]
      refine callK_is (l7Most_is n k (by omega) (by omega)) ?_
      simp (config := { maxSteps := 10000000, implicitDefEqProofs := false }) only [go_sem, ↓reduceIte, Nat.reduceAdd, Nat.reduceMul, Nat.reduceEqDiff, Nat.reduceSub, Nat.reduceLT, reduceCtorEq, Nat.reduceLeDiff, Nat.reduceBEq, mwp_draw, p1, p2]
      refine callK_is (l7Small_is _ n G (hlf n k) hgG (by omega)) ?_
      cases p3 : smlB (labL n G) (hlf n k)
      · rw [← p2] at *
        simp (config := { maxSteps := 10000000, implicitDefEqProofs := false }) only [go_sem, ↓reduceIte, Nat.reduceAdd, Nat.reduceMul, Nat.reduceEqDiff, Nat.reduceSub, Nat.reduceLT, reduceCtorEq, Nat.reduceLeDiff, Nat.reduceBEq, mwp_draw, p1, p2, p3]
        refine ⟨by kernel_rfl, kR _ ?_⟩
        simp (config := { maxSteps := 10000000, implicitDefEqProofs := false }) only [go_sem, ↓reduceIte, Nat.reduceAdd, Nat.reduceMul, Nat.reduceEqDiff, Nat.reduceSub, Nat.reduceLT, reduceCtorEq, Nat.reduceLeDiff, Nat.reduceBEq, mwp_draw]
        exact mvb (rng_bad hk5 (by rw [hok, p3]; simp)).symm
      · simp (config := { maxSteps := 10000000, implicitDefEqProofs := false }) only [go_sem, ↓reduceIte, Nat.reduceAdd, Nat.reduceMul, Nat.reduceEqDiff, Nat.reduceSub, Nat.reduceLT, reduceCtorEq, Nat.reduceLeDiff, Nat.reduceBEq, mwp_draw, p1, p2, p3]
        repeat (refine ⟨by first | omega | decide | exact fits64 (by omega) (by omega) | kernel_rfl | (intros; omega), ?_⟩)
        exact kN _ (k + 1) (by rfl) ⟨by omega, rng_next g2 (by rw [hok, p3, ← p2]; simp; omega)⟩ (by omega)
    · obtain rfl : k = 5 := by omega
      simp (config := { maxSteps := 10000000, implicitDefEqProofs := false }) only [go_sem, ↓reduceIte, Nat.reduceAdd, Nat.reduceMul, Nat.reduceEqDiff, Nat.reduceSub, Nat.reduceLT, reduceCtorEq, Nat.reduceLeDiff, Nat.reduceBEq, mwp_draw]
      exact mvb g2.symm
end Go.Fw
