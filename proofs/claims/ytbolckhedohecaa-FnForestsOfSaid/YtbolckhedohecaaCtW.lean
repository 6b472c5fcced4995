/-
  Events: what happens to bridges through turns.
-/
import Derived.Test.YtbolckhedohecaaCtS
import Derived.Test.YtbolckhedohecaaCtI
import Derived.Test.YtbolckhedohecaaCtU
namespace Go.Fw
set_option linter.unusedSimpArgs false
set_option linter.unusedVariables false
set_option maxRecDepth 100000
set_option maxHeartbeats 4000000
open Go.Proofs.Try (prog)
open Go.Pl

theorem brL_sub {n : Int} {es : List E} : (brL n es).length ≤ es.length := List.length_filter_le _ _
theorem brL_ok {n : Int} : ∀ es, gvB n es = true → (brL n es).Pairwise eLt ∧ (brL n es).length ≤ 40 := fun es h => by
  have g := gvB_iff.1 h
  exact ⟨g.2.2.2.2.filter _, Nat.le_trans brL_sub g.2.2.1⟩
theorem idx_lt {l : List E} {e : E} : (idxE l e < 0) = ¬ e ∈ l := by
  rw [← idxE_ge (l := l) (e := e)]; exact propext (by omega)
def evP (B : List E) (i : Int) (b : Bool) (l : List E) : List V3 := (l.filter fun x => !decide (x ∈ B)).map (fun e => (i, e, b))
theorem evP_next {B l : List E} {i : Int} {b : Bool} {j : Nat} {x : E} (hx : l[j]? = some x) : evP B i b (l.take (j + 1)) = evP B i b (l.take j) ++ if x ∈ B then [] else [(i, x, b)] := by
  unfold evP; rw [filter_snoc hx]
  by_cases h : x ∈ B <;> simp [h]
theorem evP_len {B l : List E} {i : Int} {b : Bool} {j : Nat} : (evP B i b (l.take j)).length ≤ l.length := by
  unfold evP; rw [List.length_map]; exact Nat.le_trans (List.length_filter_le _ _) (by simp; omega)
theorem ev1_eq {i : Int} {B C : List E} : ev1 i B C = evP C i false B ++ evP B i true C := rfl
theorem l11Events_is (t t' t2 : Bool) (n : Int) (es fs : List E) (k : Int) (out : List V3) (hg : GE n es) (hg' : GE n fs) (h1 : es.length ≤ 1000) (h2 : fs.length ≤ 1000) (ho : out.length ≤ 1000000) :
    Is prog fid_spec_l11Events [Gr t n es, Gr t' n fs, .i .i64 k, .ow t2 4 (encV out)] (.ow true 4 (encV (out ++ ev1 k (brL n es) (brL n fs)))) := by
  refine MCall.run mixed get_spec_l11Events ok_spec_l11Events (Nat.le_of_ble_eq_true rfl) (by decide) ?_
  unfold mc_spec_l11Events
  have lB := brL_sub (n := n) (es := es)
  have lC := brL_sub (n := n) (es := fs)
  simp (config := { maxSteps := 10000000, implicitDefEqProofs := false }) only [go_sem, ↓reduceIte, Nat.reduceAdd, Nat.reduceMul, Nat.reduceEqDiff, Nat.reduceSub, Nat.reduceLT, reduceCtorEq, Nat.reduceLeDiff, Nat.reduceBEq, mwp_draw]
  refine callK_is (l4Bridges_is _ n es hg) ?_
  simp (config := { maxSteps := 10000000, implicitDefEqProofs := false }) only [go_sem, ↓reduceIte, Nat.reduceAdd, Nat.reduceMul, Nat.reduceEqDiff, Nat.reduceSub, Nat.reduceLT, reduceCtorEq, Nat.reduceLeDiff, Nat.reduceBEq, mwp_draw]
  refine callK_is (l4Bridges_is _ n fs hg') ?_
  generalize brL n es = B at lB
  generalize brL n fs = C at lC
  simp (config := { maxSteps := 10000000, implicitDefEqProofs := false }) only [go_sem, ↓reduceIte, Nat.reduceAdd, Nat.reduceMul, Nat.reduceEqDiff, Nat.reduceSub, Nat.reduceLT, reduceCtorEq, Nat.reduceLeDiff, Nat.reduceBEq, mwp_draw]
  refine mwp_loopk (X := Nat × List V3) (fun x => ⟨[(2, .i .i64 k), (3, .sr 0 0 x.2.length), (9, .sr 1 0 B.length), (10, .sr 2 0 C.length), (11, .i .i64 x.1)], [(0, .arr t2 4 (encV x.2)), (1, .arr true 2 (encE B)), (2, .arr true 2 (encE C))], 3⟩)
    (fun x => x.1 ≤ B.length ∧ x.2 = out ++ evP C k false (B.take x.1)) (fun x => B.length - x.1) (0, out) (by rfl) (by simp [evP]) ?_
  rintro ⟨j, o⟩ ⟨g1, g2⟩ K kN kE kR
  simp only at g1 g2
  have l1 := evP_len (B := C) (l := B) (i := k) (b := false) (j := j)
  have l2 : o.length ≤ out.length + B.length := by rw [g2]; simp; omega
  simp (config := { maxSteps := 10000000, implicitDefEqProofs := false }) only [go_sem, ↓reduceIte, Nat.reduceAdd, Nat.reduceMul, Nat.reduceEqDiff, Nat.reduceSub, Nat.reduceLT, reduceCtorEq, Nat.reduceLeDiff, Nat.reduceBEq, mwp_draw]
  refine ⟨fun c => ⟨by omega, c, by omega, fun x hx => ?_⟩, fun c => kE _ _ ?_⟩
  · refine callK_is (l1Find_is _ C x (by omega)) ?_
    have hn := evP_next (B := C) (i := k) (b := false) hx
    by_cases m : x ∈ C
    · rw [if_pos m, List.append_nil] at hn
      have fd : (idxE C x < 0) = False := by rw [idx_lt]; simp [m]
      simp (config := { maxSteps := 10000000, implicitDefEqProofs := false }) only [go_sem, ↓reduceIte, Nat.reduceAdd, Nat.reduceMul, Nat.reduceEqDiff, Nat.reduceSub, Nat.reduceLT, reduceCtorEq, Nat.reduceLeDiff, Nat.reduceBEq, mwp_draw, fd]
      repeat (refine ⟨by first | omega | decide | exact fits64 (by omega) (by omega) | kernel_rfl | (intros; omega), ?_⟩)
      exact kN _ (j + 1, o) (by rfl) ⟨by simp only; omega, by simp only; rw [g2, hn]⟩ (by simp only; omega)
    · rw [if_neg m] at hn
      have fd : (idxE C x < 0) = True := by rw [idx_lt]; simp [m]
      simp (config := { maxSteps := 10000000, implicitDefEqProofs := false }) only [go_sem, ↓reduceIte, Nat.reduceAdd, Nat.reduceMul, Nat.reduceEqDiff, Nat.reduceSub, Nat.reduceLT, reduceCtorEq, Nat.reduceLeDiff, Nat.reduceBEq, mwp_draw, fd]
      repeat (refine ⟨by first | omega | decide | exact fits64 (by omega) (by omega) | kernel_rfl | (intros; omega), ?_⟩)
      intro y hy
      obtain rfl : x = y := by rw [hx] at hy; exact Option.some.inj hy
      repeat (refine ⟨by first | omega | decide | exact fits64 (by omega) (by omega) | kernel_rfl | (intros; omega), ?_⟩)
      exact kN _ (j + 1, o ++ [(k, x, false)]) (by simp; rfl) ⟨by simp only; omega, by simp only; rw [g2, hn, List.append_assoc]⟩ (by simp only; omega)
  · clear kN kR
    obtain rfl : j = B.length := by omega
    rw [List.take_length] at g2
    obtain ⟨o2, hq⟩ : ∃ o2, o = o2 := ⟨_, rfl⟩
    subst hq
    clear l1
    revert l2 g2
    generalize o = o2
    intro l2 hq
    simp (config := { maxSteps := 10000000, implicitDefEqProofs := false }) only [go_sem, ↓reduceIte, Nat.reduceAdd, Nat.reduceMul, Nat.reduceEqDiff, Nat.reduceSub, Nat.reduceLT, reduceCtorEq, Nat.reduceLeDiff, Nat.reduceBEq, mwp_draw]
    refine mwp_loopk (X := Nat × List V3) (fun x => ⟨[(2, .i .i64 k), (3, .sr 0 0 x.2.length), (9, .sr 1 0 B.length), (10, .sr 2 0 C.length), (12, .i .i64 x.1)], [(0, .arr t2 4 (encV x.2)), (1, .arr true 2 (encE B)), (2, .arr true 2 (encE C))], 3⟩)
      (fun x => x.1 ≤ C.length ∧ x.2 = o2 ++ evP B k true (C.take x.1)) (fun x => C.length - x.1) (0, o2) (by rfl) (by simp [evP]) ?_
    rintro ⟨j, o⟩ ⟨g1, g2⟩ K kN kE kR
    simp only at g1 g2
    have l1 := evP_len (B := B) (l := C) (i := k) (b := true) (j := j)
    have l2 : o.length ≤ o2.length + C.length := by rw [g2]; simp; omega
    simp (config := { maxSteps := 10000000, implicitDefEqProofs := false }) only [go_sem, ↓reduceIte, Nat.reduceAdd, Nat.reduceMul, Nat.reduceEqDiff, Nat.reduceSub, Nat.reduceLT, reduceCtorEq, Nat.reduceLeDiff, Nat.reduceBEq, mwp_draw]
    refine ⟨fun c => ⟨by omega, c, by omega, fun x hx => ?_⟩, fun c => kE _ _ ?_⟩
    · refine callK_is (l1Find_is _ B x (by omega)) ?_
      have hn := evP_next (B := B) (i := k) (b := true) hx
      by_cases m : x ∈ B
      · rw [if_pos m, List.append_nil] at hn
        have fd : (idxE B x < 0) = False := by rw [idx_lt]; simp [m]
        simp (config := { maxSteps := 10000000, implicitDefEqProofs := false }) only [go_sem, ↓reduceIte, Nat.reduceAdd, Nat.reduceMul, Nat.reduceEqDiff, Nat.reduceSub, Nat.reduceLT, reduceCtorEq, Nat.reduceLeDiff, Nat.reduceBEq, mwp_draw, fd]
        repeat (refine ⟨by first | omega | decide | exact fits64 (by omega) (by omega) | kernel_rfl | (intros; omega), ?_⟩)
        exact kN _ (j + 1, o) (by rfl) ⟨by simp only; omega, by simp only; rw [g2, hn]⟩ (by simp only; omega)
      · rw [if_neg m] at hn
        have fd : (idxE B x < 0) = True := by rw [idx_lt]; simp [m]
        simp (config := { maxSteps := 10000000, implicitDefEqProofs := false }) only [go_sem, ↓reduceIte, Nat.reduceAdd, Nat.reduceMul, Nat.reduceEqDiff, Nat.reduceSub, Nat.reduceLT, reduceCtorEq, Nat.reduceLeDiff, Nat.reduceBEq, mwp_draw, fd]
        repeat (refine ⟨by first | omega | decide | exact fits64 (by omega) (by omega) | kernel_rfl | (intros; omega), ?_⟩)
        intro y hy
        obtain rfl : x = y := by rw [hx] at hy; exact Option.some.inj hy
        repeat (refine ⟨by first | omega | decide | exact fits64 (by omega) (by omega) | kernel_rfl | (intros; omega), ?_⟩)
        exact kN _ (j + 1, o ++ [(k, x, true)]) (by simp; rfl) ⟨by simp only; omega, by simp only; rw [g2, hn, List.append_assoc]⟩ (by simp only; omega)
    · clear kN kR
      obtain rfl : j = C.length := by omega
      rw [List.take_length] at g2
      simp (config := { maxSteps := 10000000, implicitDefEqProofs := false }) only [go_sem, ↓reduceIte, Nat.reduceAdd, Nat.reduceMul, Nat.reduceEqDiff, Nat.reduceSub, Nat.reduceLT, reduceCtorEq, Nat.reduceLeDiff, Nat.reduceBEq, mwp_draw]
      rw [g2, hq, ev1_eq, ← List.append_assoc]
      try simp
def evV (n : Int) (es ts : List E) : List V3 := if runB n es ts then evs n (brL n) 0 es ts else []
theorem evV_yes {n : Int} {es ts : List E} (h : runB n es ts = true) : evV n es ts = evs n (brL n) 0 es ts := by simp [evV, h]
theorem evV_no {n : Int} {es ts : List E} (h : runB n es ts = false) : evV n es ts = [] := by simp [evV, h]
theorem evV_len {n : Int} {es ts : List E} : (evV n es ts).length ≤ 4800 := by
  cases h : runB n es ts
  · rw [evV_no h]; simp
  · rw [evV_yes h]
    obtain ⟨h1, h2, h3, h4⟩ := runB_get h
    have := evs_len (i := 0) brL_ok h1 h3
    omega
theorem only_eq {n : Int} {es fs : List E} : es.filter (onlyP n es n fs) = (brL n es).filter fun x => !decide (x ∈ brL n fs) := by
  unfold brL onlyP
  rw [List.filter_filter]
  refine List.filter_congr fun x _ => ?_
  rw [Bool.eq_iff_iff]; simp [List.mem_filter]; rw [and_comm]
theorem EventsOfS_is (t t' : Bool) (n : Int) (es ts : List E) (hl : es.length ≤ 1048576) (ht : ts.length ≤ 1048576) :
    Is prog fid_spec_EventsOf [Gr t n es, .s t' 2 (encE ts)] (.tup [.ow true 4 (encV (evV n es ts)), .b (runB n es ts)]) := by
  refine MCall.run mixed get_spec_EventsOf ok_spec_EventsOf (Nat.le_of_ble_eq_true rfl) (by decide) ?_
  unfold mc_spec_EventsOf
  simp (config := { maxSteps := 10000000, implicitDefEqProofs := false }) only [go_sem, ↓reduceIte, Nat.reduceAdd, Nat.reduceMul, Nat.reduceEqDiff, Nat.reduceSub, Nat.reduceLT, reduceCtorEq, Nat.reduceLeDiff, Nat.reduceBEq, mwp_draw]
  refine callK_is (RunTurnsS_is _ _ n es ts hl ht) ?_
  cases h : runB n es ts
  · simp (config := { maxSteps := 10000000, implicitDefEqProofs := false }) only [go_sem, ↓reduceIte, Nat.reduceAdd, Nat.reduceMul, Nat.reduceEqDiff, Nat.reduceSub, Nat.reduceLT, reduceCtorEq, Nat.reduceLeDiff, Nat.reduceBEq, mwp_draw]
    rw [evV_no h]
    try simp [encV]
  · obtain ⟨h1, h2, h3, h4⟩ := runB_get h
    rw [evV_yes h]
    simp (config := { maxSteps := 10000000, implicitDefEqProofs := false }) only [go_sem, ↓reduceIte, Nat.reduceAdd, Nat.reduceMul, Nat.reduceEqDiff, Nat.reduceSub, Nat.reduceLT, reduceCtorEq, Nat.reduceLeDiff, Nat.reduceBEq, mwp_draw]
    refine mwp_loopk (X := Nat) (fun i => ⟨[(1, .s t' 2 (encE ts)), (6, .sr 0 0 (evs n (brL n) 0 es (ts.take i)).length), (9, .pr 1 0 0), (10, .i .i64 i)],
        match i with
        | 0 => [(0, .arr true 4 (encV (evs n (brL n) 0 es (ts.take i)))), (1, .box [.i .i64 n, .s t 2 (encE es)])]
        | _ + 1 => [(0, .arr true 4 (encV (evs n (brL n) 0 es (ts.take i)))), (1, .box [.i .i64 n, .sr 2 0 (trG n es (ts.take i)).length]), (2, .arr true 2 (encE (trG n es (ts.take i))))],
        match i with | 0 => 2 | _ + 1 => 3⟩)
      (fun i => i ≤ ts.length) (fun i => ts.length - i) 0 (by rfl) (Nat.zero_le _) ?_
    rintro i g1 K kN kE kR
    have le := evs_len (i := 0) brL_ok h1 (trT_take (i := i) h3)
    have le2 : (ts.take i).length ≤ 60 := by simp; omega
    have g2 := trT_gv h1 (trT_take (i := i) h3)
    have GG := gvB_iff.1 g2
    cases i with
    | zero =>
      have e0 : trG n es (ts.take 0) = es := rfl
      rw [e0] at GG
      simp (config := { maxSteps := 10000000, implicitDefEqProofs := false }) only [go_sem, ↓reduceIte, Nat.reduceAdd, Nat.reduceMul, Nat.reduceEqDiff, Nat.reduceSub, Nat.reduceLT, reduceCtorEq, Nat.reduceLeDiff, Nat.reduceBEq, mwp_draw]
      refine ⟨fun c => ⟨by omega, c, fun x hx => ?_⟩, fun c => kE _ _ ?_⟩
      · have hT := trT_next (n := n) (es := es) hx
        rw [trT_take h3, trT_take h3, Bool.true_and] at hT
        have hG := trG_next (n := n) (es := es) hx
        have g3 := trT_gv h1 (trT_take (i := 0 + 1) h3)
        have hE := evs_next (n := n) (br := brL n) (es := es) hx
        have GH := gvB_iff.1 g3
        rw [hG] at g3 GH hE
        rw [e0] at hT hG g3 GH hE
        simp only [List.take_zero] at hE le le2
        refine callK_is (TurnEdgeS_is _ n es x (by have := GG.2.2.1; first | exact hl | omega)) ?_
        rw [(turnOK_gv hT.symm).2.2]
        simp (config := { maxSteps := 10000000, implicitDefEqProofs := false }) only [go_sem, ↓reduceIte, Nat.reduceAdd, Nat.reduceMul, Nat.reduceEqDiff, Nat.reduceSub, Nat.reduceLT, reduceCtorEq, Nat.reduceLeDiff, Nat.reduceBEq, mwp_draw]
        repeat (refine ⟨by first | omega | decide | exact fits64 (by omega) (by omega) | kernel_rfl | (intros; omega), ?_⟩)
        refine callK_is (l11Events_is _ _ _ n es (turnE n es x) _ (evs n (brL n) 0 es []) (GE_of GG) (GE_of GH) (by have := GG.2.2.1; omega) (by have := GH.2.2.1; omega) (by omega)) ?_
        first | rw [← hE] | (simp only [cst0] at hE; rw [← hE])
        generalize hq : evs n (brL n) 0 es (ts.take (0 + 1)) = o'
        simp (config := { maxSteps := 10000000, implicitDefEqProofs := false }) only [go_sem, ↓reduceIte, Nat.reduceAdd, Nat.reduceMul, Nat.reduceEqDiff, Nat.reduceSub, Nat.reduceLT, reduceCtorEq, Nat.reduceLeDiff, Nat.reduceBEq, mwp_draw]
        repeat (refine ⟨by first | omega | decide | exact fits64 (by omega) (by omega) | kernel_rfl | (intros; omega), ?_⟩)
        exact kN _ (0 + 1) (by rw [hq, hG]; rfl) (by omega) (by omega)
      · obtain rfl : ts = [] := List.eq_nil_of_length_eq_zero (by omega)
        simp (config := { maxSteps := 10000000, implicitDefEqProofs := false }) only [go_sem, ↓reduceIte, Nat.reduceAdd, Nat.reduceMul, Nat.reduceEqDiff, Nat.reduceSub, Nat.reduceLT, reduceCtorEq, Nat.reduceLeDiff, Nat.reduceBEq, mwp_draw]
    | succ i =>
      simp (config := { maxSteps := 10000000, implicitDefEqProofs := false }) only [go_sem, ↓reduceIte, Nat.reduceAdd, Nat.reduceMul, Nat.reduceEqDiff, Nat.reduceSub, Nat.reduceLT, reduceCtorEq, Nat.reduceLeDiff, Nat.reduceBEq, mwp_draw]
      refine ⟨fun c => ⟨by omega, c, fun x hx => ?_⟩, fun c => kE _ _ ?_⟩
      · have hT := trT_next (n := n) (es := es) hx
        rw [trT_take h3, trT_take h3, Bool.true_and] at hT
        have hG := trG_next (n := n) (es := es) hx
        have g3 := trT_gv h1 (trT_take (i := (i + 1) + 1) h3)
        have hE := evs_next (n := n) (br := brL n) (es := es) hx
        have GH := gvB_iff.1 g3
        rw [hG] at g3 GH hE
        skip
        refine callK_is (TurnEdgeS_is _ n (trG n es (ts.take (i + 1))) x (by have := GG.2.2.1; first | exact hl | omega)) ?_
        rw [(turnOK_gv hT.symm).2.2]
        simp (config := { maxSteps := 10000000, implicitDefEqProofs := false }) only [go_sem, ↓reduceIte, Nat.reduceAdd, Nat.reduceMul, Nat.reduceEqDiff, Nat.reduceSub, Nat.reduceLT, reduceCtorEq, Nat.reduceLeDiff, Nat.reduceBEq, mwp_draw]
        repeat (refine ⟨by first | omega | decide | exact fits64 (by omega) (by omega) | kernel_rfl | (intros; omega), ?_⟩)
        refine callK_is (l11Events_is _ _ _ n (trG n es (ts.take (i + 1))) (turnE n (trG n es (ts.take (i + 1))) x) _ (evs n (brL n) 0 es (ts.take (i + 1))) (GE_of GG) (GE_of GH) (by have := GG.2.2.1; omega) (by have := GH.2.2.1; omega) (by omega)) ?_
        first | rw [← hE] | (simp only [cst0] at hE; rw [← hE])
        generalize hq : evs n (brL n) 0 es (ts.take ((i + 1) + 1)) = o'
        simp (config := { maxSteps := 10000000, implicitDefEqProofs := false }) only [go_sem, ↓reduceIte, Nat.reduceAdd, Nat.reduceMul, Nat.reduceEqDiff, Nat.reduceSub, Nat.reduceLT, reduceCtorEq, Nat.reduceLeDiff, Nat.reduceBEq, mwp_draw]
        repeat (refine ⟨by first | omega | decide | exact fits64 (by omega) (by omega) | kernel_rfl | (intros; omega), ?_⟩)
        exact kN _ ((i + 1) + 1) (by rw [hq, hG]; rfl) (by omega) (by omega)
      · obtain hi : (i + 1) = ts.length := by omega
        simp (config := { maxSteps := 10000000, implicitDefEqProofs := false }) only [go_sem, ↓reduceIte, Nat.reduceAdd, Nat.reduceMul, Nat.reduceEqDiff, Nat.reduceSub, Nat.reduceLT, reduceCtorEq, Nat.reduceLeDiff, Nat.reduceBEq, mwp_draw]
        rw [hi, List.take_length]
theorem EventsOf_is (t t' : Bool) (n : Int) (es ts : List E) (hl : es.length ≤ 1048576) (ht : ts.length ≤ 1048576) :
    Is prog fid_impl_EventsOf [Gr t n es, .s t' 2 (encE ts)] (.tup [.ow true 4 (encV (evV n es ts)), .b (runB n es ts)]) := by
  refine MCall.run mixed get_impl_EventsOf ok_impl_EventsOf (Nat.le_of_ble_eq_true rfl) (by decide) ?_
  unfold mc_impl_EventsOf
  simp (config := { maxSteps := 10000000, implicitDefEqProofs := false }) only [go_sem, ↓reduceIte, Nat.reduceAdd, Nat.reduceMul, Nat.reduceEqDiff, Nat.reduceSub, Nat.reduceLT, reduceCtorEq, Nat.reduceLeDiff, Nat.reduceBEq, mwp_draw]
  refine callK_is (graphsOf_is _ n es ts hl ht) ?_
  cases h : runB n es ts
  · simp (config := { maxSteps := 10000000, implicitDefEqProofs := false }) only [go_sem, ↓reduceIte, Nat.reduceAdd, Nat.reduceMul, Nat.reduceEqDiff, Nat.reduceSub, Nat.reduceLT, reduceCtorEq, Nat.reduceLeDiff, Nat.reduceBEq, mwp_draw]
    rw [evV_no h]
    try simp [encV]
  · obtain ⟨h1, h2, h3, h4⟩ := runB_get h
    rw [evV_yes h, grV_yes h]
    have hlen := grs_length (n := n) (a := ts) (es := es)
    have gat : ∀ {i : Nat} {y : List E}, i ≤ ts.length → (grs n es ts)[i]? = some y → y = trG n es (ts.take i) := fun hi hy => by
      rw [grs_get hi] at hy; exact (Option.some.inj hy).symm
    simp (config := { maxSteps := 10000000, implicitDefEqProofs := false }) only [go_sem, ↓reduceIte, Nat.reduceAdd, Nat.reduceMul, Nat.reduceEqDiff, Nat.reduceSub, Nat.reduceLT, reduceCtorEq, Nat.reduceLeDiff, Nat.reduceBEq, mwp_draw]
    refine mwp_loopk (X := Nat × List V3) (fun x => ⟨[(6, .sr 0 0 (grs n es ts).length), (8, .sr 1 0 x.2.length), (24, .i .i64 ts.length), (25, .i .i64 x.1)],
        [(0, .arr false 2 (encG n (grs n es ts))), (1, .arr true 4 (encV x.2))], 2⟩)
      (fun x => x.1 ≤ ts.length ∧ x.2 = evs n (brL n) 0 es (ts.take x.1)) (fun x => ts.length - x.1) (0, []) (by rfl) ⟨Nat.zero_le _, rfl⟩ ?_
    rintro ⟨i, o⟩ ⟨g1, g2⟩ K kN kE kR
    simp only at g1 g2
    have le := evs_len (i := 0) brL_ok h1 (trT_take (i := i) h3)
    have le2 : (ts.take i).length ≤ 60 := by simp; omega
    rw [← g2] at le
    simp (config := { maxSteps := 10000000, implicitDefEqProofs := false }) only [go_sem, ↓reduceIte, Nat.reduceAdd, Nat.reduceMul, Nat.reduceEqDiff, Nat.reduceSub, Nat.reduceLT, reduceCtorEq, Nat.reduceLeDiff, Nat.reduceBEq, mwp_draw]
    refine ⟨fun c => ?_, fun c => kE _ _ ?_⟩
    · obtain ⟨x, hx⟩ : ∃ x, ts[i]? = some x := ⟨ts[i], List.getElem?_eq_getElem (by omega)⟩
      have hE := evs_next (n := n) (br := brL n) (es := es) hx
      have GG := gvB_iff.1 (trT_gv h1 (trT_take (i := i) h3))
      have GH := gvB_iff.1 (trT_gv h1 (trT_take (i := i + 1) h3))
      have ti : ((i : Int) + 1).toNat = i + 1 := by omega
      have go : ∀ {o2 : List V3} {R : List E} {k : Int} {b : Bool} {j : Nat} {y : E}, R[j]? = some y → o2 ++ (R.take j).map (fun e => (k, e, b)) ++ [(k, y, b)] = o2 ++ (R.take (j + 1)).map (fun e => (k, e, b)) := fun hy => by rw [take_snoc hy]; simp
      repeat (refine ⟨by first | omega | decide | exact fits64 (by omega) (by omega) | kernel_rfl | (intros; omega), ?_⟩)
      intro fs hfs
      obtain rfl := gat (by omega) hfs
      repeat (refine ⟨by first | omega | decide | exact fits64 (by omega) (by omega) | kernel_rfl | (intros; omega), ?_⟩)
      intro gs hgs
      rw [ti] at hgs
      obtain rfl := gat (by omega) hgs
      refine callK_is (bridgesOnly_is _ _ n _ n _ (GE_of GG) (GE_of GH)) ?_
      rw [only_eq]
      have lR := List.length_filter_le (fun x => !decide (x ∈ brL n (trG n es (ts.take (i + 1))))) (brL n (trG n es (ts.take i)))
      have lB := brL_sub (n := n) (es := trG n es (ts.take i))
      have lS := List.length_filter_le (fun x => !decide (x ∈ brL n (trG n es (ts.take i)))) (brL n (trG n es (ts.take (i + 1))))
      have lC := brL_sub (n := n) (es := trG n es (ts.take (i + 1)))
      have lG := GG.2.2.1
      have lH := GH.2.2.1
      unfold ev1 at hE
      generalize hR : (brL n (trG n es (ts.take i))).filter (fun x => !decide (x ∈ brL n (trG n es (ts.take (i + 1))))) = R at hE lR
      simp (config := { maxSteps := 10000000, implicitDefEqProofs := false }) only [go_sem, ↓reduceIte, Nat.reduceAdd, Nat.reduceMul, Nat.reduceEqDiff, Nat.reduceSub, Nat.reduceLT, reduceCtorEq, Nat.reduceLeDiff, Nat.reduceBEq, mwp_draw]
      repeat (refine ⟨by first | omega | decide | exact fits64 (by omega) (by omega) | kernel_rfl | (intros; omega), ?_⟩)
      refine mwp_loopk (X := Nat × List V3) (fun x => ⟨[(6, .sr 0 0 (grs n es ts).length), (8, .sr 1 0 x.2.length), (9, .i .i64 i), (24, .i .i64 ts.length), (25, .i .i64 i), (37, .sr 2 0 R.length), (38, .i .i64 R.length), (39, .i .i64 x.1)],
          [(0, .arr false 2 (encG n (grs n es ts))), (1, .arr true 4 (encV x.2)), (2, .arr true 2 (encE R))], 3⟩)
        (fun x => x.1 ≤ R.length ∧ x.2 = o ++ (R.take x.1).map (fun e => ((i : Int), e, false))) (fun x => R.length - x.1) (0, o) (by rfl) (by simp) ?_
      rintro ⟨j, o1⟩ ⟨p1, p2⟩ K1 kN1 kE1 kR1
      simp only at p1 p2
      have l1 : o1.length ≤ o.length + R.length := by rw [p2]; simp; omega
      simp (config := { maxSteps := 10000000, implicitDefEqProofs := false }) only [go_sem, ↓reduceIte, Nat.reduceAdd, Nat.reduceMul, Nat.reduceEqDiff, Nat.reduceSub, Nat.reduceLT, reduceCtorEq, Nat.reduceLeDiff, Nat.reduceBEq, mwp_draw]
      refine ⟨fun d => ?_, fun d => kE1 _ _ ?_⟩
      · repeat (refine ⟨by first | omega | decide | exact fits64 (by omega) (by omega) | kernel_rfl | (intros; omega), ?_⟩)
        intro y hy
        repeat (refine ⟨by first | omega | decide | exact fits64 (by omega) (by omega) | kernel_rfl | (intros; omega), ?_⟩)
        exact kN1 _ (j + 1, o1 ++ [((i : Int), y, false)]) (by simp; rfl) ⟨by simp only; omega, by simp only; rw [p2, go hy]⟩ (by simp only; omega)
      · clear kN1 kR1
        obtain rfl : j = R.length := by omega
        rw [List.take_length] at p2
        simp (config := { maxSteps := 10000000, implicitDefEqProofs := false }) only [go_sem, ↓reduceIte, Nat.reduceAdd, Nat.reduceMul, Nat.reduceEqDiff, Nat.reduceSub, Nat.reduceLT, reduceCtorEq, Nat.reduceLeDiff, Nat.reduceBEq, mwp_draw]
        repeat (refine ⟨by first | omega | decide | exact fits64 (by omega) (by omega) | kernel_rfl | (intros; omega), ?_⟩)
        intro gs hgs
        rw [ti] at hgs
        obtain rfl := gat (by omega) hgs
        repeat (refine ⟨by first | omega | decide | exact fits64 (by omega) (by omega) | kernel_rfl | (intros; omega), ?_⟩)
        intro fs hfs
        obtain rfl := gat (by omega) hfs
        refine callK_is (bridgesOnly_is _ _ n _ n _ (GE_of GH) (GE_of GG)) ?_
        rw [only_eq]
        generalize hS : (brL n (trG n es (ts.take (i + 1)))).filter (fun x => !decide (x ∈ brL n (trG n es (ts.take i)))) = S at hE lS
        simp (config := { maxSteps := 10000000, implicitDefEqProofs := false }) only [go_sem, ↓reduceIte, Nat.reduceAdd, Nat.reduceMul, Nat.reduceEqDiff, Nat.reduceSub, Nat.reduceLT, reduceCtorEq, Nat.reduceLeDiff, Nat.reduceBEq, mwp_draw]
        repeat (refine ⟨by first | omega | decide | exact fits64 (by omega) (by omega) | kernel_rfl | (intros; omega), ?_⟩)
        refine mwp_loopk (X := Nat × List V3) (fun x => ⟨[(6, .sr 0 0 (grs n es ts).length), (8, .sr 1 0 x.2.length), (9, .i .i64 i), (24, .i .i64 ts.length), (25, .i .i64 i), (59, .sr 2 0 S.length), (60, .i .i64 S.length), (61, .i .i64 x.1)],
            [(0, .arr false 2 (encG n (grs n es ts))), (1, .arr true 4 (encV x.2)), (2, .arr true 2 (encE S))], 3⟩)
          (fun x => x.1 ≤ S.length ∧ x.2 = o1 ++ (S.take x.1).map (fun e => ((i : Int), e, true))) (fun x => S.length - x.1) (0, o1) (by rfl) (by simp) ?_
        rintro ⟨j, o2⟩ ⟨q1, q2⟩ K2 kN2 kE2 kR2
        simp only at q1 q2
        have l2 : o2.length ≤ o1.length + S.length := by rw [q2]; simp; omega
        simp (config := { maxSteps := 10000000, implicitDefEqProofs := false }) only [go_sem, ↓reduceIte, Nat.reduceAdd, Nat.reduceMul, Nat.reduceEqDiff, Nat.reduceSub, Nat.reduceLT, reduceCtorEq, Nat.reduceLeDiff, Nat.reduceBEq, mwp_draw]
        refine ⟨fun d => ?_, fun d => kE2 _ _ ?_⟩
        · repeat (refine ⟨by first | omega | decide | exact fits64 (by omega) (by omega) | kernel_rfl | (intros; omega), ?_⟩)
          intro y hy
          repeat (refine ⟨by first | omega | decide | exact fits64 (by omega) (by omega) | kernel_rfl | (intros; omega), ?_⟩)
          exact kN2 _ (j + 1, o2 ++ [((i : Int), y, true)]) (by simp; rfl) ⟨by simp only; omega, by simp only; rw [q2, go hy]⟩ (by simp only; omega)
        · clear kN2 kR2
          obtain rfl : j = S.length := by omega
          rw [List.take_length] at q2
          simp (config := { maxSteps := 10000000, implicitDefEqProofs := false }) only [go_sem, ↓reduceIte, Nat.reduceAdd, Nat.reduceMul, Nat.reduceEqDiff, Nat.reduceSub, Nat.reduceLT, reduceCtorEq, Nat.reduceLeDiff, Nat.reduceBEq, mwp_draw]
          repeat (refine ⟨by first | omega | decide | exact fits64 (by omega) (by omega) | kernel_rfl | (intros; omega), ?_⟩)
          exact kN _ (i + 1, o2) (by rfl) ⟨by simp only; omega, by simp only; rw [hE, q2, p2, g2, List.append_assoc]⟩ (by simp only; omega)
    · obtain rfl : i = ts.length := by omega
      rw [List.take_length] at g2
      simp (config := { maxSteps := 10000000, implicitDefEqProofs := false }) only [go_sem, ↓reduceIte, Nat.reduceAdd, Nat.reduceMul, Nat.reduceEqDiff, Nat.reduceSub, Nat.reduceLT, reduceCtorEq, Nat.reduceLeDiff, Nat.reduceBEq, mwp_draw]
      rw [g2]
end Go.Fw
