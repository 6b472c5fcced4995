/-
  Numbers for the graphs in front of turns and behind each of them; the rows of the program lie in memory of their own.
-/
import Derived.Test.YtjklefjjmfpnoaaGreatCtS
import Derived.Test.YtjklefjjmfpnoaaGreatCtCn
import Derived.Test.YtjklefjjmfpnoaaGreatCtNe
namespace Go.Fw
set_option linter.unusedSimpArgs false
set_option linter.unusedVariables false
set_option maxRecDepth 100000
set_option maxHeartbeats 4000000
open Go.Proofs.Tryz (prog)
open Go.Pl

/-- Three numbers of a graph. -/
def cn3 (n : Int) (es : List E) : List Int := [pcB n es, ((brV n es).length : Int), ((cnV n es).length : Int)]
def csL (n : Int) (es ts : List E) (i : Nat) : List (List Int) := ((grs n es ts).take i).map (cn3 n)
def csV (n : Int) (es ts : List E) : List (List Int) := if runB n es ts then (grs n es ts).map (cn3 n) else []
theorem csL_next {n : Int} {es ts : List E} {i : Nat} {g : List E} (h : (grs n es ts)[i]? = some g) : csL n es ts (i + 1) = csL n es ts i ++ [cn3 n g] := by
  unfold csL; rw [take_snoc h, List.map_append]; rfl
theorem csL_length {n : Int} {es ts : List E} {i : Nat} (h : i ≤ ts.length + 1) : (csL n es ts i).length = i := by
  unfold csL; rw [List.length_map, List.length_take, grs_length]; omega
theorem csL_all {n : Int} {es ts : List E} : csL n es ts (ts.length + 1) = (grs n es ts).map (cn3 n) := by
  unfold csL; rw [List.take_of_length_le (by rw [grs_length]; exact Nat.le_refl _)]
theorem encI3 (a b c : Int) : [[D.i .i64 a], [D.i .i64 b], [D.i .i64 c]] = encI [a, b, c] := rfl
theorem brV_len {n : Int} {es : List E} : (brV n es).length ≤ es.length := by
  unfold brV brL; split
  · exact List.length_filter_le _ _
  · simp
theorem grs_ok {n : Int} {es ts : List E} (h : runB n es ts = true) {i : Nat} {g : List E} (hg : (grs n es ts)[i]? = some g) : GV n g ∧ g = trG n es (ts.take i) ∧ i ≤ ts.length := by
  obtain ⟨h1, h2, h3, h4⟩ := runB_get h
  have hi := (List.getElem?_eq_some_iff.1 hg).1
  rw [grs_length] at hi
  have e := grs_get (n := n) (es := es) (a := ts) (i := i) (by omega)
  rw [hg] at e; cases e
  exact ⟨gvB_iff.1 (trT_gv h1 (trT_take h3)), rfl, by omega⟩
theorem CountsOf_is (t t' : Bool) (n : Int) (es ts : List E) (hl : es.length ≤ 1048576) (ht : ts.length ≤ 1048576) :
    MCall prog fid_impl_CountsOf [Gr t n es, .s t' 2 (encE ts)] (fun o r => o = [.u, .u] ∧ ((runB n es ts = false ∧ r = .tup [.ow true 1 [], .b false]) ∨ (runB n es ts = true ∧ ∃ hs, r = .tup [.on hs 1 (rwI (csV n es ts)), .b true]))) := by
  refine MCall.run mixed get_impl_CountsOf ok_impl_CountsOf (Nat.le_of_ble_eq_true rfl) (by decide) ?_
  unfold mc_impl_CountsOf
  simp (maxSteps := 9999999) -implicitDefEqProofs only [go_sem, mwp_draw]
  refine callK_is (graphsOf_is _ n es ts hl ht) ?_
  cases h : runB n es ts with
  | false =>
    simp (maxSteps := 9999999) -implicitDefEqProofs only [go_sem, mwp_draw]
    first | done | exact .inl trivial | simp
  | true =>
    rw [grV_yes h]
    have h60 := (runB_get h).2.1
    have glen := grs_length (n := n) (a := ts) (es := es)
    have gok := fun i g hg => grs_ok (n := n) (es := es) (ts := ts) h (i := i) (g := g) hg
    have cnx := fun i g hg => csL_next (n := n) (es := es) (ts := ts) (i := i) (g := g) hg
    have call : csV n es ts = csL n es ts (ts.length + 1) := by unfold csV; rw [if_pos h, csL_all]
    have clen := fun i h => csL_length (n := n) (es := es) (ts := ts) (i := i) h
    have c0' : csL n es ts 0 = [] := by simp [csL]
    rw [call]
    generalize csL n es ts = cs at *
    generalize grs n es ts = gs at *
    simp (maxSteps := 9999999) -implicitDefEqProofs only [go_sem, mwp_draw]
    refine mwp_loopk (X := Nat × List Value) (fun x => ⟨[(8, .sr 0 0 x.1), (20, .sr 1 0 gs.length), (21, .i .i64 gs.length), (22, .i .i64 x.1)], [(0, .nst x.2 1 (rwI (cs x.1))), (1, .arr false 2 (encG n gs))], 2⟩)
      (fun x => x.1 ≤ gs.length) (fun x => gs.length - x.1) (0, []) (by simp only [c0']; kernel_rfl) (Nat.zero_le _) ?_
    rintro ⟨i, hs⟩ g1 K kN kE kR
    simp only at g1 ⊢
    have ci := clen i (by omega)
    by_cases hi : i < gs.length
    · obtain ⟨g, hg⟩ : ∃ g, gs[i]? = some g := ⟨_, List.getElem?_eq_getElem hi⟩
      obtain ⟨gv, _, _⟩ := gok i g hg
      have hgl := gv.2.2.1
      have gg := goneN hg
      have nx := cnx i g hg
      have c1 : ((i : Int) < gs.length) = True := eq_true (by omega)
      have c2 : (i < gs.length) = True := eq_true hi
      simp (maxSteps := 9999999) -implicitDefEqProofs only [go_sem, mwp_draw, c1, c2, ↓gg]
      repeat (refine ⟨by first | omega | decide | exact fits64 (by omega) (by omega) | kernel_rfl | (intros; omega), ?_⟩)
      refine callK_is (PartCount_is _ n g (by omega)) ?_
      simp (maxSteps := 9999999) -implicitDefEqProofs only [go_sem, mwp_draw]
      refine callK_is (BridgesOf_is _ n g (by omega)) ?_
      simp (maxSteps := 9999999) -implicitDefEqProofs only [go_sem, mwp_draw]
      refine callK_is (CutNodesOf_is _ n g (by omega)) ?_
      have ht2 : (cs i).take i = cs i := List.take_of_length_le (by omega)
      simp (maxSteps := 9999999) -implicitDefEqProofs only [go_sem, mwp_draw, encI3, ht2, ci]
      repeat (refine ⟨by first | omega | decide | exact fits64 (by omega) (by omega) | kernel_rfl | (intros; omega), ?_⟩)
      intro hd
      exact ⟨fits64 (by omega) (by omega), kN _ (i + 1, hs ++ [hd]) (by simp only [nx]; kernel_rfl) (by simp only; omega) (by simp only; omega)⟩
    · obtain rfl : i = gs.length := by omega
      have c1 : ((gs.length : Int) < gs.length) = False := eq_false (by omega)
      simp (maxSteps := 9999999) -implicitDefEqProofs only [go_sem, mwp_draw, c1]
      refine kE _ _ ?_
      clear kN kE kR
      simp (maxSteps := 9999999) -implicitDefEqProofs only [go_sem, mwp_draw, ci]
      rw [glen]
      repeat (refine ⟨by first | omega | decide | exact fits64 (by omega) (by omega) | kernel_rfl | (intros; omega), ?_⟩)
      first | done | rfl | exact .inr ⟨_, rfl⟩
theorem CountsOfS_is (t t' : Bool) (n : Int) (es ts : List E) (hl : es.length ≤ 1048576) (ht : ts.length ≤ 1048576) :
    Is prog fid_spec_CountsOf [Gr t n es, .s t' 2 (encE ts)] (.tup [.ow true 1 (encN (csV n es ts)), .b (runB n es ts)]) := by
  refine MCall.run mixed get_spec_CountsOf ok_spec_CountsOf (Nat.le_of_ble_eq_true rfl) (by decide) ?_
  unfold mc_spec_CountsOf
  simp (maxSteps := 9999999) -implicitDefEqProofs only [go_sem, mwp_draw]
  refine callK_is (RunTurnsS_is _ _ n es ts hl ht) ?_
  cases h : runB n es ts with
  | false =>
    simp (maxSteps := 9999999) -implicitDefEqProofs only [go_sem, mwp_draw]
    simp [csV, h, encN]
  | true =>
    have h60 := (runB_get h).2.1
    have hrun : ∀ i, i ≤ ts.length → runB n es (ts.take i) = true := fun i hi => by
      obtain ⟨h1, h2, h3, h4⟩ := runB_get h
      simp only [runB, h1, trT_take h3, Bool.true_and, Bool.and_true, decide_eq_true_eq, List.length_take]; omega
    have glen := grs_length (n := n) (a := ts) (es := es)
    have gok := fun i g hg => grs_ok (n := n) (es := es) (ts := ts) h (i := i) (g := g) hg
    have cnx := fun i g hg => csL_next (n := n) (es := es) (ts := ts) (i := i) (g := g) hg
    have call : csV n es ts = csL n es ts (ts.length + 1) := by unfold csV; rw [if_pos h, csL_all]
    have clen := fun i h => csL_length (n := n) (es := es) (ts := ts) (i := i) h
    have c0' : csL n es ts 0 = [] := by simp [csL]
    have geti : ∀ i, i ≤ ts.length → (grs n es ts)[i]? = some (trG n es (ts.take i)) := fun i hi => grs_get hi
    rw [call]
    generalize csL n es ts = cs at *
    simp (maxSteps := 9999999) -implicitDefEqProofs only [go_sem, mwp_draw]
    refine mwp_loopk (X := Nat) (fun i => ⟨[(1, .s t' 2 (encE ts)), (2, .pr 0 0 0), (6, .sr 1 0 i), (9, .i .i64 i)], [(0, .box [.i .i64 n, .s t 2 (encE es)]), (1, .arr true 1 (encN (cs i)))], 2⟩)
      (fun i => i ≤ ts.length + 1) (fun i => ts.length + 1 - i) 0 (by rw [c0']; kernel_rfl) (Nat.zero_le _) ?_
    rintro i g1 K kN kE kR
    have ci := clen i g1
    by_cases hi : i ≤ ts.length
    · have hg := geti i hi
      obtain ⟨gv, _, _⟩ := gok i _ hg
      have hgl := gv.2.2.1
      have nx := cnx i _ hg
      have c1 : ((i : Int) ≤ ts.length) = True := eq_true (by omega)
      simp (maxSteps := 9999999) -implicitDefEqProofs only [go_sem, mwp_draw, c1]
      repeat (refine ⟨by first | omega | decide | exact fits64 (by omega) (by omega) | kernel_rfl | (intros; omega), ?_⟩)
      refine callK_is (RunTurnsS_is _ _ n es (ts.take i) hl (by simp; omega)) ?_
      have e1 : rnN n es (ts.take i) = n := by unfold rnN; rw [if_pos (hrun i hi)]
      have e2 : runE n es (ts.take i) = trG n es (ts.take i) := by unfold runE; rw [if_pos (hrun i hi)]
      rw [e1, e2]
      generalize trG n es (ts.take i) = g at *
      generalize runB n es (ts.take i) = junk
      simp (maxSteps := 9999999) -implicitDefEqProofs only [go_sem, mwp_draw]
      repeat (refine ⟨by first | omega | decide | exact fits64 (by omega) (by omega) | kernel_rfl | (intros; omega), ?_⟩)
      refine callK_is (PartCountS_is _ n g (by omega)) ?_
      simp (maxSteps := 9999999) -implicitDefEqProofs only [go_sem, mwp_draw]
      refine callK_is (l4Bridges_is _ n g (GE_of gv)) ?_
      have eb : brL n g = brV n g := by unfold brV; rw [if_pos (gvB_iff.2 gv)]
      rw [eb]
      simp (maxSteps := 9999999) -implicitDefEqProofs only [go_sem, mwp_draw]
      refine callK_is (CutNodesOfS_is _ n g (by omega)) ?_
      have ht2 : (cs i).take i = cs i := List.take_of_length_le (by omega)
      simp (maxSteps := 9999999) -implicitDefEqProofs only [go_sem, mwp_draw, encI3, ht2]
      repeat (refine ⟨by first | omega | decide | exact fits64 (by omega) (by omega) | kernel_rfl | (intros; omega), ?_⟩)
      refine kN _ (i + 1) ?_ (by omega) (by omega)
      rw [nx]
      simp only [ci]
      kernel_rfl
    · obtain rfl : i = ts.length + 1 := by omega
      have c1 : (((ts.length + 1 : Nat) : Int) ≤ ts.length) = False := eq_false (by omega)
      simp (maxSteps := 9999999) -implicitDefEqProofs only [go_sem, mwp_draw, c1]
      refine kE _ _ ?_
      clear kN kE kR
      simp (maxSteps := 9999999) -implicitDefEqProofs only [go_sem, mwp_draw]
      have ht2 : (cs (ts.length + 1)).take (ts.length + 1) = cs (ts.length + 1) := List.take_of_length_le (by omega)
      rw [ht2]
      repeat (refine ⟨by first | omega | decide | exact fits64 (by omega) (by omega) | kernel_rfl | (intros; omega), ?_⟩)
      first | done | rfl
theorem csV_len {n : Int} {es ts : List E} : (csV n es ts).length ≤ ts.length + 1 := by
  unfold csV; split
  · rw [List.length_map, grs_length]; exact Nat.le_refl _
  · simp
theorem csV_each {n : Int} {es ts : List E} {c : List Int} (hc : c ∈ csV n es ts) : c.length = 3 := by
  unfold csV at hc; split at hc
  · obtain ⟨g, _, rfl⟩ := List.mem_map.1 hc; rfl
  · simp at hc
theorem csV_no {n : Int} {es ts : List E} (h : runB n es ts = false) : csV n es ts = [] := by simp [csV, h]
theorem runB_len {n : Int} {es ts : List E} (h : runB n es ts = true) : ts.length ≤ 60 := (runB_get h).2.1
end Go.Fw
