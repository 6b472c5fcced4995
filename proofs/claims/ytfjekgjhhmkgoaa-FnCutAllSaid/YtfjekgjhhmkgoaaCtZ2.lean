/-
  Levels: what PutLevel comes to.
-/
import Derived.Test.YtfjekgjhhmkgoaaCtZ1
import Derived.Test.YtfjekgjhhmkgoaaCtG5
namespace Go.Fw
set_option linter.unusedSimpArgs false
set_option linter.unusedVariables false
set_option maxRecDepth 100000
set_option maxHeartbeats 4000000
open Go.Proofs.Try (prog)
open Go.Pl

theorem srt_nodup {es : List E} (h : es.Pairwise eLt) : es.Nodup := by
  rw [List.nodup_iff_pairwise_ne]
  exact h.imp fun hab e => by subst e; exact eLt_irrefl _ hab

/-- Levels with an edge more. -/
theorem idx_nodup : ∀ {l : List E} {j : Nat} {x : E}, l.Nodup → l[j]? = some x → idxE l x = j := by
  intro l j x hn hx
  have hm : x ∈ l := List.mem_of_getElem? hx
  have h0 := idxE_ge.2 hm
  have hne : idxP (fun y => decide (y = x)) l ≠ -1 := by have : idxE l x = idxP (fun y => decide (y = x)) l := rfl; omega
  obtain ⟨i, h1, h2, h3, _⟩ := idxP_some hne
  have e1 : l[i]? = some l[i] := List.getElem?_eq_getElem h2
  have e2 := h3 _ e1
  simp at e2
  have : i = j := (List.getElem?_inj h2 hn).1 (by rw [e1, e2, hx])
  subst this; exact h1
theorem map_atI {es : List E} {ls : List Int} (hn : es.Nodup) (h : ls.length = es.length) {p q : Nat} (hq : p + q ≤ es.length) : ((es.drop p).take q).map (atI es ls) = (ls.drop p).take q := by
  refine List.ext_getElem (by simp; omega) fun i h1 h2 => ?_
  simp only [List.length_map, List.length_take, List.length_drop] at h1
  have hx : es[p + i]? = some es[p + i] := List.getElem?_eq_getElem (by omega)
  simp only [List.getElem_map, List.getElem_take, List.getElem_drop, atI, idx_nodup hn hx]
  rw [if_neg (by omega), Int.toNat_natCast, List.getElem?_eq_getElem (by omega)]; rfl
theorem map_atT {es : List E} {fs : List Bool} {b : Bool} (hn : es.Nodup) (h : fs.length = es.length) {p q : Nat} (hq : p + q ≤ es.length) : ((es.drop p).take q).map (atT es fs b) = (fs.drop p).take q := by
  refine List.ext_getElem (by simp; omega) fun i h1 h2 => ?_
  simp only [List.length_map, List.length_take, List.length_drop] at h1
  have hx : es[p + i]? = some es[p + i] := List.getElem?_eq_getElem (by omega)
  simp only [List.getElem_map, List.getElem_take, List.getElem_drop, atT, idx_nodup hn hx]
  rw [if_neg (by omega), Int.toNat_natCast, List.getElem?_eq_getElem (by omega)]; rfl
def insL {α : Type} (l : List α) (p : Nat) (x : α) : List α := l.take p ++ x :: l.drop p
theorem insL_length {α : Type} {l : List α} {p : Nat} {x : α} (h : p ≤ l.length) : (insL l p x).length = l.length + 1 := by simp [insL]; omega
theorem put_atI {es : List E} {ls : List Int} {e : E} (hs : es.Pairwise eLt) (he : e ∉ es) (h : ls.length = es.length) : (putE es e).map (atI es ls) = insL ls (posE es e) 0 := by
  have hn := srt_nodup hs
  have hp := posE_le es e
  unfold putE insL
  rw [List.map_append, List.map_cons]
  have a := map_atI hn h (p := 0) (q := posE es e) (by omega)
  have b := map_atI hn h (p := posE es e) (q := es.length - posE es e) (by omega)
  rw [List.drop_zero, List.drop_zero] at a
  rw [List.take_of_length_le (by simp), List.take_of_length_le (by simp; omega)] at b
  rw [a, b]
  have : atI es ls e = 0 := by unfold atI; rw [if_pos (by rw [idx_lt]; exact he)]
  rw [this]
theorem put_atT {es : List E} {fs : List Bool} {b : Bool} {e : E} (hs : es.Pairwise eLt) (he : e ∉ es) (h : fs.length = es.length) : (putE es e).map (atT es fs b) = insL fs (posE es e) b := by
  have hn := srt_nodup hs
  have hp := posE_le es e
  unfold putE insL
  rw [List.map_append, List.map_cons]
  have a := map_atT (b := b) hn h (p := 0) (q := posE es e) (by omega)
  have c := map_atT (b := b) hn h (p := posE es e) (q := es.length - posE es e) (by omega)
  rw [List.drop_zero, List.drop_zero] at a
  rw [List.take_of_length_le (by simp), List.take_of_length_le (by simp; omega)] at c
  rw [a, c]
  have : atT es fs b e = b := by unfold atT; rw [if_pos (by rw [idx_lt]; exact he)]
  rw [this]

def pvB (n : Int) (es : List E) (ls : List Int) (fs : List Bool) (e : E) : Bool := lvB n es ls fs && putOK n es e
def pvN (n : Int) (es : List E) (ls : List Int) (fs : List Bool) (e : E) : Int := if pvB n es ls fs e then n else 0
def pvE (n : Int) (es : List E) (ls : List Int) (fs : List Bool) (e : E) : List E := if pvB n es ls fs e then putE es e else []
def pvL (n : Int) (es : List E) (ls : List Int) (fs : List Bool) (e : E) : List Int := if pvB n es ls fs e then insL ls (posE es e) 0 else []
def pvT (n : Int) (es : List E) (ls : List Int) (fs : List Bool) (e : E) : List Bool := if pvB n es ls fs e then insL fs (posE es e) (!jn n es e.1 e.2) else []
abbrev PvR (n : Int) (es : List E) (ls : List Int) (fs : List Bool) (e : E) : MV := .agg [.i .i64 (pvN n es ls fs e), .ow true 2 (encE (pvE n es ls fs e)), .ow true 1 (encI (pvL n es ls fs e)), .ow true 1 (encT (pvT n es ls fs e))]
theorem pv_no {n : Int} {es : List E} {ls : List Int} {fs : List Bool} {e : E} (h : pvB n es ls fs e = false) : PvR n es ls fs e = .agg [.i .i64 0, .ow true 2 [], .ow true 1 [], .ow true 1 []] := by
  simp [PvR, pvN, pvE, pvL, pvT, h, encE, encI, encT]
theorem pv_yes {n : Int} {es : List E} {ls : List Int} {fs : List Bool} {e : E} (h : pvB n es ls fs e = true) :
    PvR n es ls fs e = .agg [.i .i64 n, .ow true 2 (encE (putE es e)), .ow true 1 (encI (insL ls (posE es e) 0)), .ow true 1 (encT (insL fs (posE es e) (!jn n es e.1 e.2)))] := by
  simp [PvR, pvN, pvE, pvL, pvT, h]
theorem putOK_get {n : Int} {es : List E} {e : E} (h : putOK n es e = true) : GV n es ∧ e ∉ es ∧ GV n (putE es e) ∧ EIn n e := by
  simp only [putOK, Bool.and_eq_true, Bool.not_eq_true', decide_eq_false_iff_not] at h
  have g := gvB_iff.1 h.1.1
  have g2 := gvB_iff.1 h.2
  exact ⟨g, h.1.2, g2, g2.2.2.2.1 e (mem_putE.2 (.inl rfl))⟩
theorem pv_len {n : Int} {es : List E} {ls : List Int} {fs : List Bool} {e : E} : (pvE n es ls fs e).length ≤ 41 ∧ (pvL n es ls fs e).length ≤ 41 ∧ (pvT n es ls fs e).length ≤ 41 := by
  unfold pvE pvL pvT
  cases q : pvB n es ls fs e
  · simp
  · simp only [pvB, Bool.and_eq_true] at q
    obtain ⟨h1, h2, h3, h4⟩ := lvB_get q.1
    have hp := posE_le es e
    have := h1.2.2.1
    simp only [if_true]
    rw [putE_length, insL_length (by omega), insL_length (by omega)]; omega
theorem putE_at {es : List E} {e : E} : (putE es e)[posE es e]? = some e := by
  have := posE_le es e
  unfold putE
  rw [List.getElem?_append_right (by simp; omega)]
  simp [show posE es e - min (posE es e) es.length = 0 by omega]
theorem insI_is (l : List Int) (i : Nat) (e : Int) (t t' : Bool) (hi : i ≤ l.length) (hl : l.length ≤ 1048576) : Is prog fid_slices_Insert_int_int [.ow t 1 (encI l), .i .i64 i, .ow t' 1 (encI [e])] (.ow true 1 (encI (insL l i e))) := InsertI_is l i e t t' hi hl
theorem insT_is (l : List Bool) (i : Nat) (e : Bool) (t t' : Bool) (hi : i ≤ l.length) (hl : l.length ≤ 1048576) : Is prog fid_slices_Insert_bool_bool [.ow t 1 (encT l), .i .i64 i, .ow t' 1 (encT [e])] (.ow true 1 (encT (insL l i e))) := InsertT_is l i e t t' hi hl
theorem PutLevel_is (t1 t2 t3 : Bool) (n : Int) (es : List E) (ls : List Int) (fs : List Bool) (e : E) (hl : es.length ≤ 1048576) (hl2 : ls.length ≤ 1048576) (hl3 : fs.length ≤ 1048576) :
    Is prog fid_impl_PutLevel [Lv t1 t2 t3 n es ls fs, Ed1 e] (.tup [PvR n es ls fs e, .b (pvB n es ls fs e)]) := by
  refine MCall.run mixed get_impl_PutLevel ok_impl_PutLevel (Nat.le_of_ble_eq_true rfl) (by decide) ?_
  unfold mc_impl_PutLevel
  simp (config := { maxSteps := 10000000, implicitDefEqProofs := false }) only [go_sem, ↓reduceIte, Nat.reduceAdd, Nat.reduceMul, Nat.reduceEqDiff, Nat.reduceSub, Nat.reduceLT, reduceCtorEq, Nat.reduceLeDiff, Nat.reduceBEq, mwp_draw]
  refine callK_is (LevelsValid_is _ _ _ n es ls fs hl hl2 hl3) ?_
  cases h : lvB n es ls fs
  · have q : pvB n es ls fs e = false := by simp [pvB, h]
    have q1 := pv_no q
    simp (config := { maxSteps := 10000000, implicitDefEqProofs := false }) only [go_sem, ↓reduceIte, Nat.reduceAdd, Nat.reduceMul, Nat.reduceEqDiff, Nat.reduceSub, Nat.reduceLT, reduceCtorEq, Nat.reduceLeDiff, Nat.reduceBEq, mwp_draw]
    rw [q, q1]
  obtain ⟨h1, h2, h3, h4⟩ := lvB_get h
  simp (config := { maxSteps := 10000000, implicitDefEqProofs := false }) only [go_sem, ↓reduceIte, Nat.reduceAdd, Nat.reduceMul, Nat.reduceEqDiff, Nat.reduceSub, Nat.reduceLT, reduceCtorEq, Nat.reduceLeDiff, Nat.reduceBEq, mwp_draw]
  refine callK_is (PutEdge_is _ n es e hl) ?_
  cases ho : putOK n es e
  · have q : pvB n es ls fs e = false := by simp [pvB, ho]
    have q1 := pv_no q
    simp (config := { maxSteps := 10000000, implicitDefEqProofs := false }) only [go_sem, ↓reduceIte, Nat.reduceAdd, Nat.reduceMul, Nat.reduceEqDiff, Nat.reduceSub, Nat.reduceLT, reduceCtorEq, Nat.reduceLeDiff, Nat.reduceBEq, mwp_draw]
    rw [q, q1]
  obtain ⟨k1, k2, k3, k4⟩ := putOK_get ho
  have q : pvB n es ls fs e = true := by simp [pvB, h, ho]
  have q1 := pv_yes q
  have hp := posE_le es e
  have hlen := putE_length es e
  have hl40 := h1.2.2.1
  have hx := idx_nodup (srt_nodup k3.2.2.2.2) (putE_at (es := es) (e := e))
  simp only [if_true]
  simp (config := { maxSteps := 10000000, implicitDefEqProofs := false }) only [go_sem, ↓reduceIte, Nat.reduceAdd, Nat.reduceMul, Nat.reduceEqDiff, Nat.reduceSub, Nat.reduceLT, reduceCtorEq, Nat.reduceLeDiff, Nat.reduceBEq, mwp_draw]
  refine callK_is (IndexE_is _ (putE es e) e (by omega)) ?_
  rw [hx]
  simp (config := { maxSteps := 10000000, implicitDefEqProofs := false }) only [go_sem, ↓reduceIte, Nat.reduceAdd, Nat.reduceMul, Nat.reduceEqDiff, Nat.reduceSub, Nat.reduceLT, reduceCtorEq, Nat.reduceLeDiff, Nat.reduceBEq, mwp_draw]
  refine callK_is (CloneI_is _ ls hl2) ?_
  simp (config := { maxSteps := 10000000, implicitDefEqProofs := false }) only [go_sem, ↓reduceIte, Nat.reduceAdd, Nat.reduceMul, Nat.reduceEqDiff, Nat.reduceSub, Nat.reduceLT, reduceCtorEq, Nat.reduceLeDiff, Nat.reduceBEq, mwp_draw]
  refine callK_is (insI_is ls (posE es e) 0 _ _ (by omega) hl2) ?_
  generalize hI : insL ls (posE es e) 0 = lsI
  simp (config := { maxSteps := 10000000, implicitDefEqProofs := false }) only [go_sem, ↓reduceIte, Nat.reduceAdd, Nat.reduceMul, Nat.reduceEqDiff, Nat.reduceSub, Nat.reduceLT, reduceCtorEq, Nat.reduceLeDiff, Nat.reduceBEq, mwp_draw]
  refine callK_is (CloneT_is _ fs hl3) ?_
  simp (config := { maxSteps := 10000000, implicitDefEqProofs := false }) only [go_sem, ↓reduceIte, Nat.reduceAdd, Nat.reduceMul, Nat.reduceEqDiff, Nat.reduceSub, Nat.reduceLT, reduceCtorEq, Nat.reduceLeDiff, Nat.reduceBEq, mwp_draw]
  refine callK_is (connected_is _ n es e.1 e.2 (GE_of k1) (by unfold EIn at k4; omega) (by unfold EIn at k4; omega)) ?_
  simp (config := { maxSteps := 10000000, implicitDefEqProofs := false }) only [go_sem, ↓reduceIte, Nat.reduceAdd, Nat.reduceMul, Nat.reduceEqDiff, Nat.reduceSub, Nat.reduceLT, reduceCtorEq, Nat.reduceLeDiff, Nat.reduceBEq, mwp_draw]
  refine callK_is (insT_is fs (posE es e) _ _ _ (by omega) hl3) ?_
  generalize hT : insL fs (posE es e) _ = fsI
  simp (config := { maxSteps := 10000000, implicitDefEqProofs := false }) only [go_sem, ↓reduceIte, Nat.reduceAdd, Nat.reduceMul, Nat.reduceEqDiff, Nat.reduceSub, Nat.reduceLT, reduceCtorEq, Nat.reduceLeDiff, Nat.reduceBEq, mwp_draw]
  rw [q, q1, hI, hT]
  repeat (refine ⟨by first | omega | decide | exact fits64 (by omega) (by omega) | kernel_rfl | (intros; omega), ?_⟩)
  try rfl
theorem PutLevelS_is (t1 t2 t3 : Bool) (n : Int) (es : List E) (ls : List Int) (fs : List Bool) (e : E) (hl : es.length ≤ 1048576) (hl2 : ls.length ≤ 1048576) (hl3 : fs.length ≤ 1048576) :
    Is prog fid_spec_PutLevel [Lv t1 t2 t3 n es ls fs, Ed1 e] (.tup [PvR n es ls fs e, .b (pvB n es ls fs e)]) := by
  refine MCall.run mixed get_spec_PutLevel ok_spec_PutLevel (Nat.le_of_ble_eq_true rfl) (by decide) ?_
  unfold mc_spec_PutLevel
  simp (config := { maxSteps := 10000000, implicitDefEqProofs := false }) only [go_sem, ↓reduceIte, Nat.reduceAdd, Nat.reduceMul, Nat.reduceEqDiff, Nat.reduceSub, Nat.reduceLT, reduceCtorEq, Nat.reduceLeDiff, Nat.reduceBEq, mwp_draw]
  refine callK_is (PutEdgeS_is _ n es e (by omega)) ?_
  cases ho : putOK n es e
  · have q : pvB n es ls fs e = false := by simp [pvB, ho]
    have q1 := pv_no q
    simp (config := { maxSteps := 10000000, implicitDefEqProofs := false }) only [go_sem, ↓reduceIte, Nat.reduceAdd, Nat.reduceMul, Nat.reduceEqDiff, Nat.reduceSub, Nat.reduceLT, reduceCtorEq, Nat.reduceLeDiff, Nat.reduceBEq, mwp_draw]
    rw [q, q1]
  simp (config := { maxSteps := 10000000, implicitDefEqProofs := false }) only [go_sem, ↓reduceIte, Nat.reduceAdd, Nat.reduceMul, Nat.reduceEqDiff, Nat.reduceSub, Nat.reduceLT, reduceCtorEq, Nat.reduceLeDiff, Nat.reduceBEq, mwp_draw]
  refine callK_is (LevelsValidS_is _ _ _ n es ls fs (by omega) hl2 hl3) ?_
  cases h : lvB n es ls fs
  · have q : pvB n es ls fs e = false := by simp [pvB, h]
    have q1 := pv_no q
    simp (config := { maxSteps := 10000000, implicitDefEqProofs := false }) only [go_sem, ↓reduceIte, Nat.reduceAdd, Nat.reduceMul, Nat.reduceEqDiff, Nat.reduceSub, Nat.reduceLT, reduceCtorEq, Nat.reduceLeDiff, Nat.reduceBEq, mwp_draw]
    rw [q, q1]
  obtain ⟨h1, h2, h3, h4⟩ := lvB_get h
  obtain ⟨k1, k2, k3, k4⟩ := putOK_get ho
  have q : pvB n es ls fs e = true := by simp [pvB, h, ho]
  have q1 := pv_yes q
  simp (config := { maxSteps := 10000000, implicitDefEqProofs := false }) only [go_sem, ↓reduceIte, Nat.reduceAdd, Nat.reduceMul, Nat.reduceEqDiff, Nat.reduceSub, Nat.reduceLT, reduceCtorEq, Nat.reduceLeDiff, Nat.reduceBEq, mwp_draw]
  refine callK_is (l2Joined_is _ n es e.1 e.2 (GE_of k1) (by unfold EIn at k4; omega) (by unfold EIn at k4; omega)) ?_
  simp (config := { maxSteps := 10000000, implicitDefEqProofs := false }) only [go_sem, ↓reduceIte, Nat.reduceAdd, Nat.reduceMul, Nat.reduceEqDiff, Nat.reduceSub, Nat.reduceLT, reduceCtorEq, Nat.reduceLeDiff, Nat.reduceBEq, mwp_draw]
  refine callK_is (l7Put_is _ _ _ n es ls fs e _ hl h2 h3) ?_
  rw [putS_eq k1.2.2.2.2 k2, put_atI k1.2.2.2.2 k2 h2, put_atT k1.2.2.2.2 k2 h3]
  simp (config := { maxSteps := 10000000, implicitDefEqProofs := false }) only [go_sem, ↓reduceIte, Nat.reduceAdd, Nat.reduceMul, Nat.reduceEqDiff, Nat.reduceSub, Nat.reduceLT, reduceCtorEq, Nat.reduceLeDiff, Nat.reduceBEq, mwp_draw]
  rw [q, q1]
  repeat (refine ⟨by first | omega | decide | exact fits64 (by omega) (by omega) | kernel_rfl | (intros; omega), ?_⟩)
  try rfl
end Go.Fw
