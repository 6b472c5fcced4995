/-
  Nodes without which others are parted; graphs of one block.
-/
import Derived.Test.YtjklefjjmfpnoaaCtNb
namespace Go.Fw
set_option linter.unusedSimpArgs false
set_option linter.unusedVariables false
set_option maxRecDepth 100000
set_option maxHeartbeats 4000000
open Go.Proofs.Try (prog)
open Go.Pl

theorem aloL_ge {n : Int} {es : List E} {x : Int} (hg : GE n es) : GE n (aloL es x) :=
  ⟨hg.1, hg.2.1, Nat.le_trans (List.length_filter_le _ _) hg.2.2.1, fun e he => hg.2.2.2 e (List.mem_filter.1 he).1⟩
theorem isCutNode1_is (t u : Bool) (P all : List Int) (a x : Int) (h0 : all[0]? = some a) (ha : 0 ≤ a ∧ a < P.length) (hx : 0 ≤ x ∧ x < P.length) :
    Is prog fid_impl_Graph_isCutNode_1 [.i .i64 x, .pd t [.a 1 (encI P)] 0, .pd u [.a 1 (encI all)] 0] (.b (!decide (nth P x = nth P a))) := by
  refine MCall.run mixed get_impl_Graph_isCutNode_1 ok_impl_Graph_isCutNode_1 (Nat.le_of_ble_eq_true rfl) (by decide) ?_
  unfold mc_impl_Graph_isCutNode_1
  have g0 := goneS h0
  have g1 := goneS (show P[x.toNat]? = some (nth P x) from nth_some hx)
  have g2 := goneS (show P[a.toNat]? = some (nth P a) from nth_some ha)
  have l0 : 0 < all.length := (List.getElem?_eq_some_iff.1 h0).1
  have c1 : (0 ≤ x) = True := eq_true hx.1
  have c2 : (x < P.length) = True := eq_true hx.2
  have c3 : (x.toNat < P.length) = True := eq_true (by omega)
  have c4 : (0 ≤ a) = True := eq_true ha.1
  have c5 : (a < P.length) = True := eq_true ha.2
  have c6 : (a.toNat < P.length) = True := eq_true (by omega)
  have c7 : ((0 : Int) < all.length) = True := eq_true (by omega)
  have c8 : (0 < all.length) = True := eq_true (by omega)
  simp (maxSteps := 9999999) -implicitDefEqProofs only [go_sem, mwp_draw, c1, c2, c3, c4, c5, c6, c7, c8, ↓g0, ↓g1, ↓g2]
  repeat (refine ⟨by first | omega | decide | exact fits64 (by omega) (by omega) | kernel_rfl | (intros; omega), ?_⟩)
  first | done | exact ⟨by kernel_rfl, rfl⟩ | (show _ = true; kernel_rfl)
theorem caps_two {s : MS} {b b' j j' : Nat} {w w' : Bool} {l l' : List Int} (h1 : s.obj b = some (.box [.sr j 0 l.length])) (h2 : s.obj j = some (.arr w 1 (encI l))) (h3 : s.obj b' = some (.box [.sr j' 0 l'.length])) (h4 : s.obj j' = some (.arr w' 1 (encI l'))) :
    mapO (closeM s false) [.pr b 0 0, .pr b' 0 0] = some [.pd false [.a 1 (encI l)] 0, .pd false [.a 1 (encI l')] 0] := by
  have e : (encI l).take l.length = encI l := List.take_of_length_le (by rw [encI_length]; exact Nat.le_refl _)
  have e' : (encI l').take l'.length = encI l' := List.take_of_length_le (by rw [encI_length]; exact Nat.le_refl _)
  simp [mapO, closeM, closeC, closeD, h1, h2, h3, h4, encI_length, e, e']
theorem isCutNode_is (t : Bool) (n : Int) (es : List E) (x : Int) (hv : GV n es) : Is prog fid_impl_Graph_isCutNode [Gr t n es, .i .i64 x] (.b (cnB n es x)) := by
  have hl := hv.2.2.1
  have hg := GE_of hv
  have hE := hv.2.2.2.1
  refine MCall.run mixed get_impl_Graph_isCutNode ok_impl_Graph_isCutNode (Nat.le_of_ble_eq_true rfl) (by decide) ?_
  unfold mc_impl_Graph_isCutNode
  simp (maxSteps := 9999999) -implicitDefEqProofs only [go_sem, mwp_draw]
  refine callK_is (cutNode_is _ n es x (by omega)) ?_
  simp (maxSteps := 9999999) -implicitDefEqProofs only [go_sem, mwp_draw]
  refine callK_is (parts_is _ n (aloL es x) (aloL_ge hg)) ?_
  have pl := labL_length n (aloL es x)
  unfold cnB cnP
  generalize labL n (aloL es x) = P at pl ⊢
  simp (maxSteps := 9999999) -implicitDefEqProofs only [go_sem, mwp_draw]
  refine callK_is (neighbors_is _ n es x hv) ?_
  have rg : ∀ y ∈ nbr es x, 0 ≤ y ∧ y < P.length := fun y hy => by have := nbr_rng hE ((mem_nbr hE).1 hy); have := hv.1; omega
  have ll := nbr_len hv x
  generalize nbr es x = all at rg ll ⊢
  simp (maxSteps := 9999999) -implicitDefEqProofs only [go_sem, mwp_draw]
  refine ⟨by kernel_rfl, ?_⟩
  refine ⟨tdI all, tsI (fun y => !decide (nth P y = nth P (all[0]?.getD 0))), ?_, ?_⟩
  · cases all with
    | nil =>
      refine fnOk_tsI (fs := []) rfl (caps_two rfl rfl rfl rfl) ⟨_, get_impl_Graph_isCutNode_1, by kernel_rfl, by kernel_rfl⟩ fun y hy => ?_
      simp at hy
    | cons a r =>
      refine fnOk_tsI (fs := []) rfl (caps_two rfl rfl rfl rfl) ⟨_, get_impl_Graph_isCutNode_1, by kernel_rfl, by kernel_rfl⟩ fun y hy => ?_
      exact isCutNode1_is _ _ P (a :: r) a y rfl (rg a (by simp)) (rg y hy)
  · refine callK_is (ContainsFuncI_is _ all _ (by omega)) ?_
    simp (maxSteps := 9999999) -implicitDefEqProofs only [go_sem, mwp_draw]
theorem cutn_test {n : Int} {es : List E} {t : Bool} (hv : GV n es) {s : MS} {first caps : List MV} (h1 : mapO (closeM s false) first = some [Gr t n es]) (h2 : mapO (closeM s false) caps = some []) :
    FnOk prog s fid_impl_Graph_isCutNode first caps (tdI (ups n.toNat)) (tsI (cnB n es)) :=
  fnOk_tsI h1 h2 ⟨_, get_impl_Graph_isCutNode, by kernel_rfl, by kernel_rfl⟩ (fun x hx => isCutNode_is t n es x hv)
theorem nodesBy_is (t : Bool) (n : Int) (es : List E) (p : Int → Bool) (hn : 0 ≤ n ∧ n ≤ 1000000) : Is prog fid_impl_Graph_nodesBy [Gr t n es, .fn (tdI (ups n.toNat)) (tsI p)] (.ow true 1 (encI ((ups n.toNat).filter p))) := by
  refine MCall.run mixed get_impl_Graph_nodesBy ok_impl_Graph_nodesBy (Nat.le_of_ble_eq_true rfl) (by decide) ?_
  unfold mc_impl_Graph_nodesBy
  simp (maxSteps := 9999999) -implicitDefEqProofs only [go_sem, mwp_draw]
  refine mwp_loopk (X := Nat) (fun i => ⟨[(1, .fn (tdI (ups n.toNat)) (tsI p)), (5, .sr 0 0 ((ups i).filter p).length), (9, .i .i64 n), (10, .i .i64 i)], [(0, .arr true 1 (encI ((ups i).filter p)))], 1⟩)
    (fun i => (i : Int) ≤ n) (fun i => n.toNat - i) 0 (by rfl) (by omega) ?_
  rintro i h1 K kN kE kR
  have hfl := List.length_filter_le p (ups i)
  rw [ups_length] at hfl
  have hs : (ups (i + 1)).filter p = (ups i).filter p ++ if p i then [(i : Int)] else [] := by
    rw [ups_succ, List.filter_append]
    cases q : p i <;> simp [q]
  by_cases hi : (i : Int) < n
  · have c1 : ((i : Int) < n) = True := eq_true hi
    simp (maxSteps := 9999999) -implicitDefEqProofs only [go_sem, mwp_draw, c1]
    refine ⟨⟨(i : Int), mem_upsI.2 ⟨by omega, by omega⟩, rfl⟩, ?_⟩
    simp only [tsI]
    cases q : p i with
    | true =>
      rw [q] at hs
      simp only [if_true] at hs
      simp (maxSteps := 9999999) -implicitDefEqProofs only [go_sem, mwp_draw]
      repeat (refine ⟨by first | omega | decide | exact fits64 (by omega) (by omega) | kernel_rfl | (intros; omega), ?_⟩)
      exact kN _ (i + 1) (by rw [hs]; simp only [List.length_append]; kernel_rfl) (by omega) (by omega)
    | false =>
      rw [q] at hs
      simp only [Bool.false_eq_true, if_false, List.append_nil] at hs
      simp (maxSteps := 9999999) -implicitDefEqProofs only [go_sem, mwp_draw]
      repeat (refine ⟨by first | omega | decide | exact fits64 (by omega) (by omega) | kernel_rfl | (intros; omega), ?_⟩)
      exact kN _ (i + 1) (by rw [hs]; kernel_rfl) (by omega) (by omega)
  · have c1 : ((i : Int) < n) = False := eq_false hi
    simp (maxSteps := 9999999) -implicitDefEqProofs only [go_sem, mwp_draw, c1]
    refine kE _ _ ?_
    clear kN kE kR
    obtain rfl : i = n.toNat := by omega
    simp (maxSteps := 9999999) -implicitDefEqProofs only [go_sem, mwp_draw]
    repeat (refine ⟨by first | omega | decide | exact fits64 (by omega) (by omega) | kernel_rfl | (intros; omega), ?_⟩)
    first | done | rfl
theorem CutNodesOf_is (t : Bool) (n : Int) (es : List E) (hl : es.length ≤ 1048576) : Is prog fid_impl_CutNodesOf [Gr t n es] (.ow true 1 (encI (cnV n es))) := by
  refine MCall.run mixed get_impl_CutNodesOf ok_impl_CutNodesOf (Nat.le_of_ble_eq_true rfl) (by decide) ?_
  unfold mc_impl_CutNodesOf
  simp (maxSteps := 9999999) -implicitDefEqProofs only [go_sem, mwp_draw]
  refine callK_is (GraphValid_is _ n es hl) ?_
  cases h : gvB n es
  · simp (maxSteps := 9999999) -implicitDefEqProofs only [go_sem, mwp_draw]
    simp [cnV, h, encI]
  · have hv := gvB_iff.1 h
    have e : cnV n es = cnL n es := by unfold cnV; rw [if_pos h]
    rw [e]
    simp (maxSteps := 9999999) -implicitDefEqProofs only [go_sem, mwp_draw]
    refine ⟨tdI (ups n.toNat), tsI (cnB n es), cutn_test hv rfl rfl, ?_⟩
    refine callK_is (nodesBy_is _ n es (cnB n es) (by have := hv.1; have := hv.2.1; omega)) ?_
    simp (maxSteps := 9999999) -implicitDefEqProofs only [go_sem, mwp_draw]
    rfl
theorem l4Cut_is (t : Bool) (n : Int) (es : List E) (x : Int) (hv : GV n es) : Is prog fid_spec_l4Cut [Gr t n es, .i .i64 x] (.b (cnB n es x)) := by
  have hl := hv.2.2.1
  have hg := GE_of hv
  have hE := hv.2.2.2.1
  refine MCall.run mixed get_spec_l4Cut ok_spec_l4Cut (Nat.le_of_ble_eq_true rfl) (by decide) ?_
  unfold mc_spec_l4Cut
  simp (maxSteps := 9999999) -implicitDefEqProofs only [go_sem, mwp_draw]
  refine callK_is (l1Next_is _ n es x hv) ?_
  simp (maxSteps := 9999999) -implicitDefEqProofs only [go_sem, mwp_draw]
  refine callK_is (l1Alone_is _ n es x (by omega)) ?_
  have rg : ∀ y ∈ nbr es x, 0 ≤ y ∧ y < n := fun y hy => by have := nbr_rng hE ((mem_nbr hE).1 hy); omega
  have ll := nbr_len hv x
  unfold cnB
  have hp : ∀ y, cnP n es x y = !jn n (aloL es x) y ((nbr es x)[0]?.getD 0) := fun y => rfl
  have hp2 : (nbr es x).any (cnP n es x) = (nbr es x).any fun y => !jn n (aloL es x) ((nbr es x)[0]?.getD 0) y := by
    congr 1; funext y; rw [hp]; unfold jn; congr 1; rw [decide_eq_decide]; exact ⟨Eq.symm, Eq.symm⟩
  rw [hp2]
  clear hp hp2
  have ha := aloL_ge (x := x) hg
  generalize nbr es x = all at rg ll ⊢
  generalize aloL es x = al at ha ⊢
  simp (maxSteps := 9999999) -implicitDefEqProofs only [go_sem, mwp_draw]
  refine mwp_loopk (X := Nat) (fun i => ⟨[(5, .sr 0 0 all.length), (6, .pr 1 0 0), (7, .i .i64 ((i + 1 : Nat) : Int))], [(0, .arr true 1 (encI all)), (1, .box [.i .i64 n, .sr 2 0 al.length]), (2, .arr true 2 (encE al))], 3⟩)
    (fun i => (i = 0 ∨ i + 1 ≤ all.length) ∧ ∀ y ∈ all.take (i + 1), jn n al (all[0]?.getD 0) y = true) (fun i => all.length - i) 0 (by rfl) ⟨.inl rfl, fun y hy => ?_⟩ ?_
  · cases all with
    | nil => simp at hy
    | cons a r => simp at hy; subst hy; simp [jn]
  rintro i ⟨h1, h2⟩ K kN kE kR
  by_cases hi : i + 1 < all.length
  · obtain ⟨a, h0⟩ : ∃ a, all[0]? = some a := ⟨_, List.getElem?_eq_getElem (by omega)⟩
    obtain ⟨y, hy⟩ : ∃ y, all[i + 1]? = some y := ⟨_, List.getElem?_eq_getElem hi⟩
    have g0 := goneS h0
    have gy := goneS hy
    have ra := rg a (List.mem_of_getElem? h0)
    have ry := rg y (List.mem_of_getElem? hy)
    have c1 : (((i + 1 : Nat) : Int) < all.length) = True := eq_true (by omega)
    have c2 : (i + 1 < all.length) = True := eq_true hi
    have c3 : ((0 : Int) < all.length) = True := eq_true (by omega)
    have c4 : (0 < all.length) = True := eq_true (by omega)
    have e0 : all[0]?.getD 0 = a := by rw [h0]; rfl
    rw [e0] at h2
    simp (maxSteps := 9999999) -implicitDefEqProofs only [go_sem, mwp_draw, c1, c2, c3, c4, ↓g0, ↓gy]
    repeat (refine ⟨by first | omega | decide | exact fits64 (by omega) (by omega) | kernel_rfl | (intros; omega), ?_⟩)
    refine callK_is (l2Joined_is _ n al a y ha (by omega) (by omega)) ?_
    cases q : jn n al a y with
    | true =>
      simp (maxSteps := 9999999) -implicitDefEqProofs only [go_sem, mwp_draw]
      repeat (refine ⟨by first | omega | decide | exact fits64 (by omega) (by omega) | kernel_rfl | (intros; omega), ?_⟩)
      refine kN _ (i + 1) (by kernel_rfl) ⟨by omega, fun z hz => ?_⟩ (by omega)
      rw [e0]
      rw [List.take_add_one, hy, List.mem_append] at hz
      rcases hz with hz | hz
      · exact h2 z hz
      · simp at hz; subst hz; exact q
    | false =>
      simp (maxSteps := 9999999) -implicitDefEqProofs only [go_sem, mwp_draw]
      repeat (refine ⟨by first | omega | decide | exact fits64 (by omega) (by omega) | kernel_rfl | (intros; omega), ?_⟩)
      refine kR _ ?_
      clear kN kE kR
      simp (maxSteps := 9999999) -implicitDefEqProofs only [go_sem, mwp_draw]
      refine mvb (Eq.symm ?_)
      rw [List.any_eq_true]
      exact ⟨y, List.mem_of_getElem? hy, by rw [e0, q]; rfl⟩
  · have c1 : (((i + 1 : Nat) : Int) < all.length) = False := eq_false (by omega)
    simp (maxSteps := 9999999) -implicitDefEqProofs only [go_sem, mwp_draw, c1]
    refine kE _ _ ?_
    clear kN kE kR
    simp (maxSteps := 9999999) -implicitDefEqProofs only [go_sem, mwp_draw]
    refine mvb (Eq.symm ?_)
    rw [List.any_eq_false]
    intro y hy
    have : all.take (i + 1) = all := List.take_of_length_le (by omega)
    rw [this] at h2
    rw [h2 y hy]; simp
theorem CutNodesOfS_is (t : Bool) (n : Int) (es : List E) (hl : es.length ≤ 1048576) : Is prog fid_spec_CutNodesOf [Gr t n es] (.ow true 1 (encI (cnV n es))) := by
  refine MCall.run mixed get_spec_CutNodesOf ok_spec_CutNodesOf (Nat.le_of_ble_eq_true rfl) (by decide) ?_
  unfold mc_spec_CutNodesOf
  cases h : gvB n es with
  | false =>
    have e : cnV n es = [] := by simp [cnV, h]
    rw [e]
    simp (maxSteps := 9999999) -implicitDefEqProofs only [go_sem, mwp_draw]
    refine mwp_loopk (X := Unit) (fun _ => ⟨[(1, .pr 0 0 0), (3, .sr 1 0 0), (4, .i .i64 0)], [(0, .box [.i .i64 n, .s t 2 (encE es)]), (1, .arr true 1 [])], 2⟩) (fun _ => True) (fun _ => 0) () (by rfl) trivial ?_
    rintro ⟨⟩ - K kN kE kR
    by_cases hi : (0 : Int) < n
    · have c1 : ((0 : Int) < n) = True := eq_true hi
      simp (maxSteps := 9999999) -implicitDefEqProofs only [go_sem, mwp_draw, c1]
      refine callK_is (GraphValidS_is _ n es hl) ?_
      rw [h]
      simp (maxSteps := 9999999) -implicitDefEqProofs only [go_sem, mwp_draw]
      refine kE _ _ ?_
      simp (maxSteps := 9999999) -implicitDefEqProofs only [go_sem, mwp_draw]
      first | done | rfl
    · have c1 : ((0 : Int) < n) = False := eq_false hi
      simp (maxSteps := 9999999) -implicitDefEqProofs only [go_sem, mwp_draw, c1]
      refine kE _ _ ?_
      simp (maxSteps := 9999999) -implicitDefEqProofs only [go_sem, mwp_draw]
      first | done | rfl
  | true =>
    have hv := gvB_iff.1 h
    have hn16 := hv.2.1
    have hn0 := hv.1
    have e : cnV n es = cnL n es := by unfold cnV; rw [if_pos h]
    rw [e]
    unfold cnL
    simp (maxSteps := 9999999) -implicitDefEqProofs only [go_sem, mwp_draw]
    refine mwp_loopk (X := Nat) (fun i => ⟨[(1, .pr 0 0 0), (3, .sr 1 0 ((ups i).filter (cnB n es)).length), (4, .i .i64 i)], [(0, .box [.i .i64 n, .s t 2 (encE es)]), (1, .arr true 1 (encI ((ups i).filter (cnB n es))))], 2⟩)
      (fun i => (i : Int) ≤ n) (fun i => n.toNat - i) 0 (by rfl) (by omega) ?_
    rintro i h1 K kN kE kR
    have hfl := List.length_filter_le (cnB n es) (ups i)
    rw [ups_length] at hfl
    have hs : (ups (i + 1)).filter (cnB n es) = (ups i).filter (cnB n es) ++ if cnB n es i then [(i : Int)] else [] := by
      rw [ups_succ, List.filter_append]
      cases q : cnB n es i <;> simp [q]
    by_cases hi : (i : Int) < n
    · have c1 : ((i : Int) < n) = True := eq_true hi
      simp (maxSteps := 9999999) -implicitDefEqProofs only [go_sem, mwp_draw, c1]
      refine callK_is (GraphValidS_is _ n es hl) ?_
      rw [h]
      simp (maxSteps := 9999999) -implicitDefEqProofs only [go_sem, mwp_draw]
      refine callK_is (l4Cut_is _ n es i hv) ?_
      cases q : cnB n es i with
      | true =>
        rw [q] at hs
        simp only [if_true] at hs
        simp (maxSteps := 9999999) -implicitDefEqProofs only [go_sem, mwp_draw]
        repeat (refine ⟨by first | omega | decide | exact fits64 (by omega) (by omega) | kernel_rfl | (intros; omega), ?_⟩)
        exact kN _ (i + 1) (by rw [hs]; simp only [List.length_append]; kernel_rfl) (by omega) (by omega)
      | false =>
        rw [q] at hs
        simp only [Bool.false_eq_true, if_false, List.append_nil] at hs
        simp (maxSteps := 9999999) -implicitDefEqProofs only [go_sem, mwp_draw]
        repeat (refine ⟨by first | omega | decide | exact fits64 (by omega) (by omega) | kernel_rfl | (intros; omega), ?_⟩)
        exact kN _ (i + 1) (by rw [hs]; kernel_rfl) (by omega) (by omega)
    · have c1 : ((i : Int) < n) = False := eq_false hi
      simp (maxSteps := 9999999) -implicitDefEqProofs only [go_sem, mwp_draw, c1]
      refine kE _ _ ?_
      clear kN kE kR
      obtain rfl : i = n.toNat := by omega
      simp (maxSteps := 9999999) -implicitDefEqProofs only [go_sem, mwp_draw]
      repeat (refine ⟨by first | omega | decide | exact fits64 (by omega) (by omega) | kernel_rfl | (intros; omega), ?_⟩)
      first | done | rfl
/-- A graph of one block. -/
def oneB (n : Int) (es : List E) : Bool := decide (pcB n es = 1) && decide ((cnV n es).length = 0)
theorem IsOneBlock_is (t : Bool) (n : Int) (es : List E) (hl : es.length ≤ 1048576) : Is prog fid_impl_IsOneBlock [Gr t n es] (.b (oneB n es)) := by
  refine MCall.run mixed get_impl_IsOneBlock ok_impl_IsOneBlock (Nat.le_of_ble_eq_true rfl) (by decide) ?_
  unfold mc_impl_IsOneBlock
  simp (maxSteps := 9999999) -implicitDefEqProofs only [go_sem, mwp_draw]
  refine callK_is (PartCount_is _ n es hl) ?_
  by_cases h : pcB n es = 1
  · have c1 : (pcB n es = 1) = True := eq_true h
    simp (maxSteps := 9999999) -implicitDefEqProofs only [go_sem, mwp_draw, c1]
    refine callK_is (CutNodesOf_is _ n es hl) ?_
    simp (maxSteps := 9999999) -implicitDefEqProofs only [go_sem, mwp_draw]
    refine mvb ?_
    unfold oneB; rw [decide_eq_true h, Bool.true_and, decide_eq_decide]; omega
  · have c1 : (pcB n es = 1) = False := eq_false h
    simp (maxSteps := 9999999) -implicitDefEqProofs only [go_sem, mwp_draw, c1]
    refine mvb ?_
    simp [oneB, h]
theorem IsOneBlockS_is (t : Bool) (n : Int) (es : List E) (hl : es.length ≤ 1048576) : Is prog fid_spec_IsOneBlock [Gr t n es] (.b (oneB n es)) := by
  refine MCall.run mixed get_spec_IsOneBlock ok_spec_IsOneBlock (Nat.le_of_ble_eq_true rfl) (by decide) ?_
  unfold mc_spec_IsOneBlock
  simp (maxSteps := 9999999) -implicitDefEqProofs only [go_sem, mwp_draw]
  refine callK_is (PartCountS_is _ n es hl) ?_
  by_cases h : pcB n es = 1
  · have c1 : (pcB n es = 1) = True := eq_true h
    simp (maxSteps := 9999999) -implicitDefEqProofs only [go_sem, mwp_draw, c1]
    refine callK_is (CutNodesOfS_is _ n es hl) ?_
    simp (maxSteps := 9999999) -implicitDefEqProofs only [go_sem, mwp_draw]
    refine mvb ?_
    unfold oneB; rw [decide_eq_true h, Bool.true_and, decide_eq_decide]; omega
  · have c1 : (pcB n es = 1) = False := eq_false h
    simp (maxSteps := 9999999) -implicitDefEqProofs only [go_sem, mwp_draw, c1]
    refine mvb ?_
    simp [oneB, h]
end Go.Fw
