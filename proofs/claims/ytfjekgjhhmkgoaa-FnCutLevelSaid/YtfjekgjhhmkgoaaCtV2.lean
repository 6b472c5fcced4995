/-
  Levels: valid graphs with levels, in the implementation.
-/
import Derived.Test.YtfjekgjhhmkgoaaCtV
namespace Go.Fw
set_option linter.unusedSimpArgs false
set_option linter.unusedVariables false
set_option maxRecDepth 100000
set_option maxHeartbeats 4000000
open Go.Proofs.Try (prog)
open Go.Pl

theorem LevelsValid1_is (x : Int) : Is prog fid_impl_LevelsValid_1 [.i .i64 x] (.b (!lvK x)) := by
  refine MCall.run mixed get_impl_LevelsValid_1 ok_impl_LevelsValid_1 (Nat.le_of_ble_eq_true rfl) (by decide) ?_
  unfold mc_impl_LevelsValid_1
  by_cases h : x < 0
  · have b1 : (x < 0) = True := eq_true h
    simp (config := { maxSteps := 10000000, implicitDefEqProofs := false }) only [go_sem, ↓reduceIte, Nat.reduceAdd, Nat.reduceMul, Nat.reduceEqDiff, Nat.reduceSub, Nat.reduceLT, reduceCtorEq, Nat.reduceLeDiff, Nat.reduceBEq, mwp_draw, b1]
    exact mvb (by simp [lvK]; omega)
  · have b1 : (x < 0) = False := eq_false h
    simp (config := { maxSteps := 10000000, implicitDefEqProofs := false }) only [go_sem, ↓reduceIte, Nat.reduceAdd, Nat.reduceMul, Nat.reduceEqDiff, Nat.reduceSub, Nat.reduceLT, reduceCtorEq, Nat.reduceLeDiff, Nat.reduceBEq, mwp_draw, b1]
    exact mvb (by rw [Bool.eq_iff_iff]; simp [lvK]; omega)
theorem shr_hlf {n : Int} {k : Nat} (hn : 0 ≤ n ∧ n ≤ 16) (hk : k < 5) : n.fdiv (2 ^ min k 64) = hlf n k := by
  have : k = 0 ∨ k = 1 ∨ k = 2 ∨ k = 3 ∨ k = 4 := by omega
  rcases this with rfl | rfl | rfl | rfl | rfl <;> simp only [hlf] <;> rw [Int.fdiv_eq_ediv_of_nonneg _ (by decide)]
  · simp
  · rw [Int.tdiv_eq_ediv_of_nonneg (by omega)]; rfl
  · rw [Int.tdiv_eq_ediv_of_nonneg (a := n) (by omega), Int.tdiv_eq_ediv_of_nonneg (by omega)]; simp; omega
  · rw [Int.tdiv_eq_ediv_of_nonneg (a := n) (by omega), Int.tdiv_eq_ediv_of_nonneg (a := n / 2) (by omega), Int.tdiv_eq_ediv_of_nonneg (by omega)]; simp; omega
  · rw [Int.tdiv_eq_ediv_of_nonneg (a := n) (by omega), Int.tdiv_eq_ediv_of_nonneg (a := n / 2) (by omega), Int.tdiv_eq_ediv_of_nonneg (a := n / 2 / 2) (by omega), Int.tdiv_eq_ediv_of_nonneg (by omega)]; simp; omega
def smlQ (m : Int) (x : Int) : Bool := decide (1 < x) && decide (m < x)
theorem LevelsValid2_is (x : Int) (t1 t2 t3 t : Bool) (n : Int) (es : List E) (ls : List Int) (fs : List Bool) (k : Nat) (hn : 0 ≤ n ∧ n ≤ 16) (hk : k < 5) :
    Is prog fid_impl_LevelsValid_2 [.i .i64 x, .pd t [.i .i64 n, .a 2 (encE es), .a 1 (encI ls), .a 1 (encT fs)] 0, .pd t1 [.i .i64 (k : Int)] 0] (.b (smlQ (hlf n k) x)) := by
  refine MCall.run mixed get_impl_LevelsValid_2 ok_impl_LevelsValid_2 (Nat.le_of_ble_eq_true rfl) (by decide) ?_
  unfold mc_impl_LevelsValid_2
  by_cases h : 1 < x
  · have b1 : (1 < x) = True := eq_true h
    simp (config := { maxSteps := 10000000, implicitDefEqProofs := false }) only [go_sem, ↓reduceIte, Nat.reduceAdd, Nat.reduceMul, Nat.reduceEqDiff, Nat.reduceSub, Nat.reduceLT, reduceCtorEq, Nat.reduceLeDiff, Nat.reduceBEq, mwp_draw, b1]
    exact ⟨by omega, mvb (by rw [shr_hlf hn hk]; simp [smlQ, h])⟩
  · have b1 : (1 < x) = False := eq_false h
    simp (config := { maxSteps := 10000000, implicitDefEqProofs := false }) only [go_sem, ↓reduceIte, Nat.reduceAdd, Nat.reduceMul, Nat.reduceEqDiff, Nat.reduceSub, Nat.reduceLT, reduceCtorEq, Nat.reduceLeDiff, Nat.reduceBEq, mwp_draw, b1]
    exact mvb (by simp [smlQ, h])
def szL (N : Nat) (l : List Int) : List Int := (List.range N).map fun j : Nat => (l.count (j : Int) : Int)
theorem szL_length (N : Nat) (l : List Int) : (szL N l).length = N := by simp [szL]
theorem szL_nil (N : Nat) : szL N [] = List.replicate N 0 := by
  refine List.ext_getElem (by simp [szL]) fun i h1 h2 => ?_
  simp [szL]
theorem szL_next {N : Nat} {l : List Int} {i : Nat} {x y : Int} (hx : l[i]? = some x) (h0 : 0 ≤ x) (hy : (szL N (l.take i))[x.toNat]? = some y) : (szL N (l.take i)).set x.toNat (y + 1) = szL N (l.take (i + 1)) := by
  refine List.ext_getElem? fun j => ?_
  by_cases hj : x.toNat = j
  · subst hj
    have hl := (List.getElem?_eq_some_iff.1 hy).1
    rw [List.getElem?_set_self hl]
    rw [szL_length] at hl
    have e : ((x.toNat : Nat) : Int) = x := by omega
    simp only [szL, List.getElem?_map, List.getElem?_range hl, Option.map_some, Option.some.injEq, e] at hy ⊢
    rw [count_next hx, if_pos rfl, hy]
  · rw [List.getElem?_set_ne hj]
    by_cases hl : j < N
    · simp only [szL, List.getElem?_map, List.getElem?_range hl, Option.map_some, Option.some.injEq]
      rw [count_next hx, if_neg (by omega)]; omega
    · rw [List.getElem?_eq_none (by rw [szL_length]; omega), List.getElem?_eq_none (by rw [szL_length]; omega)]
theorem szL_any {N : Nat} {l : List Int} {m : Int} (h : ∀ x ∈ l, 0 ≤ x ∧ x < N) : (szL N l).any (smlQ m) = !smlB l m := by
  rw [Bool.eq_iff_iff]
  simp only [List.any_eq_true, szL, List.mem_map, List.mem_range, Bool.not_eq_true', smlB]
  constructor
  · rintro ⟨_, ⟨j, hj, rfl⟩, hq⟩
    simp only [smlQ, Bool.and_eq_true, decide_eq_true_eq] at hq
    have hm : (j : Int) ∈ l := List.count_pos_iff.1 (by omega)
    obtain ⟨i, hi⟩ := List.getElem?_of_mem hm
    exact all_bad hi (by simp [smlP]; omega)
  · intro hq
    have : ¬ ∀ x ∈ l, smlP l m x = true := fun w => by rw [← List.all_eq_true] at w; rw [w] at hq; cases hq
    have ⟨x, hx⟩ := Classical.not_forall.1 this
    have ⟨hx1, hx2⟩ := Classical.not_imp.1 hx
    refine ⟨_, ⟨x.toNat, by have := h x hx1; omega, rfl⟩, ?_⟩
    have e : ((x.toNat : Nat) : Int) = x := by have := h x hx1; omega
    rw [e]
    simp [smlP] at hx2
    simp [smlQ]; omega
theorem any_not {α : Type} {l : List α} {p : α → Bool} : l.any (fun x => !p x) = !l.all p := by
  induction l with
  | nil => rfl
  | cons a l ih => rw [List.any_cons, List.all_cons, ih]; cases p a <;> simp
theorem LevelsValid_is (t1 t2 t3 : Bool) (n : Int) (es : List E) (ls : List Int) (fs : List Bool) (hl : es.length ≤ 1048576) (hl2 : ls.length ≤ 1048576) (hl3 : fs.length ≤ 1048576) :
    Is prog fid_impl_LevelsValid [Lv t1 t2 t3 n es ls fs] (.b (lvB n es ls fs)) := by
  refine MCall.run mixed get_impl_LevelsValid ok_impl_LevelsValid (Nat.le_of_ble_eq_true rfl) (by decide) ?_
  unfold mc_impl_LevelsValid
  simp (config := { maxSteps := 10000000, implicitDefEqProofs := false }) only [go_sem, ↓reduceIte, Nat.reduceAdd, Nat.reduceMul, Nat.reduceEqDiff, Nat.reduceSub, Nat.reduceLT, reduceCtorEq, Nat.reduceLeDiff, Nat.reduceBEq, mwp_draw]
  refine callK_is (GraphValid_is _ n es hl) ?_
  cases h : gvB n es
  · simp (config := { maxSteps := 10000000, implicitDefEqProofs := false }) only [go_sem, ↓reduceIte, Nat.reduceAdd, Nat.reduceMul, Nat.reduceEqDiff, Nat.reduceSub, Nat.reduceLT, reduceCtorEq, Nat.reduceLeDiff, Nat.reduceBEq, mwp_draw]
    simp [lvB, h]
  have hg := GE_of (gvB_iff.1 h)
  have hn16 := hg.2.1
  by_cases e1 : ls.length = es.length
  case neg =>
    have b1 : ((ls.length : Int) = es.length) = False := eq_false (by omega)
    simp (config := { maxSteps := 10000000, implicitDefEqProofs := false }) only [go_sem, ↓reduceIte, Nat.reduceAdd, Nat.reduceMul, Nat.reduceEqDiff, Nat.reduceSub, Nat.reduceLT, reduceCtorEq, Nat.reduceLeDiff, Nat.reduceBEq, mwp_draw, b1]
    simp [lvB, e1]
  have b1 : ((ls.length : Int) = es.length) = True := eq_true (by omega)
  by_cases e2 : fs.length = es.length
  case neg =>
    have b2 : ((fs.length : Int) = es.length) = False := eq_false (by omega)
    simp (config := { maxSteps := 10000000, implicitDefEqProofs := false }) only [go_sem, ↓reduceIte, Nat.reduceAdd, Nat.reduceMul, Nat.reduceEqDiff, Nat.reduceSub, Nat.reduceLT, reduceCtorEq, Nat.reduceLeDiff, Nat.reduceBEq, mwp_draw, b1, b2]
    simp [lvB, e2]
  have b2 : ((fs.length : Int) = es.length) = True := eq_true (by omega)
  have hB : lvB n es ls fs = (ls.all lvK && (List.range 5).all (okL n es ls fs)) := by simp [lvB, h, e1, e2]
  obtain ⟨Z, hZ⟩ : ∃ Z, (List.range 5).all (okL n es ls fs) = Z := ⟨_, rfl⟩
  rw [hB, hZ]
  simp (config := { maxSteps := 10000000, implicitDefEqProofs := false }) only [go_sem, ↓reduceIte, Nat.reduceAdd, Nat.reduceMul, Nat.reduceEqDiff, Nat.reduceSub, Nat.reduceLT, reduceCtorEq, Nat.reduceLeDiff, Nat.reduceBEq, mwp_draw, b1, b2]
  refine ⟨tdI ls, tsI fun x => !lvK x, fnOk_tsI rfl rfl ⟨_, get_impl_LevelsValid_1, by kernel_rfl, by kernel_rfl⟩ (fun x hx => LevelsValid1_is x), ?_⟩
  refine callK_is (ContainsFuncI_is _ ls _ hl2) ?_
  rw [any_not]
  cases hA : ls.all lvK
  · simp (config := { maxSteps := 10000000, implicitDefEqProofs := false }) only [go_sem, ↓reduceIte, Nat.reduceAdd, Nat.reduceMul, Nat.reduceEqDiff, Nat.reduceSub, Nat.reduceLT, reduceCtorEq, Nat.reduceLeDiff, Nat.reduceBEq, mwp_draw]
    try rfl
  simp (config := { maxSteps := 10000000, implicitDefEqProofs := false }) only [go_sem, ↓reduceIte, Nat.reduceAdd, Nat.reduceMul, Nat.reduceEqDiff, Nat.reduceSub, Nat.reduceLT, reduceCtorEq, Nat.reduceLeDiff, Nat.reduceBEq, mwp_draw]
  refine mwp_loopk (X := Nat) (fun k => ⟨[(1, .pr 0 0 0), (36, .i .i64 k)], [(0, .box [.i .i64 n, .s t1 2 (encE es), .s t2 1 (encI ls), .s t3 1 (encT fs)])], 1⟩)
    (fun k => k ≤ 5 ∧ (List.range k).all (okL n es ls fs) = true) (fun k => 5 - k) 0 (by rfl) (by simp) ?_
  rintro k ⟨g1, g2⟩ K kN kE kR
  simp (config := { maxSteps := 10000000, implicitDefEqProofs := false }) only [go_sem, ↓reduceIte, Nat.reduceAdd, Nat.reduceMul, Nat.reduceEqDiff, Nat.reduceSub, Nat.reduceLT, reduceCtorEq, Nat.reduceLeDiff, Nat.reduceBEq, mwp_draw]
  refine ⟨fun c => ?_, fun c => kE _ _ ?_⟩
  · have hk5 : k < 5 := by omega
    refine callK_is (above_is _ _ _ n es ls fs k true hl e1 e2) ?_
    have hm := hlf_rng (n := n) hg.1 k
    have hgF := upL_ge (ls := ls) (fs := fs) (k := k) (b := true) hg
    have hgG := upL_ge (ls := ls) (fs := fs) (k := k) (b := false) hg
    have hok : okL n es ls fs k = (decide (((forest n (upL es ls fs k true)).length : Int) = (upL es ls fs k true).length) && (decide (labL n (upL es ls fs k false) = labL n (upL es ls fs k true)) && smlB (labL n (upL es ls fs k false)) (hlf n k))) := rfl
    unfold upL at hgF hgG hok
    generalize hF : lvL es ls fs k true es.length = F at hgF hok
    simp (config := { maxSteps := 10000000, implicitDefEqProofs := false }) only [go_sem, ↓reduceIte, Nat.reduceAdd, Nat.reduceMul, Nat.reduceEqDiff, Nat.reduceSub, Nat.reduceLT, reduceCtorEq, Nat.reduceLeDiff, Nat.reduceBEq, mwp_draw]
    refine callK_is (above_is _ _ _ n es ls fs k false hl e1 e2) ?_
    generalize hG : lvL es ls fs k false es.length = G at hgG hok
    simp (config := { maxSteps := 10000000, implicitDefEqProofs := false }) only [go_sem, ↓reduceIte, Nat.reduceAdd, Nat.reduceMul, Nat.reduceEqDiff, Nat.reduceSub, Nat.reduceLT, reduceCtorEq, Nat.reduceLeDiff, Nat.reduceBEq, mwp_draw]
    refine callK_is (parts_is _ n G hgG) ?_
    have lG := labL_length n G
    have lF := labL_length n F
    have fl := forest_len (n := n) (es := F)
    simp (config := { maxSteps := 10000000, implicitDefEqProofs := false }) only [go_sem, ↓reduceIte, Nat.reduceAdd, Nat.reduceMul, Nat.reduceEqDiff, Nat.reduceSub, Nat.reduceLT, reduceCtorEq, Nat.reduceLeDiff, Nat.reduceBEq, mwp_draw]
    refine ⟨by kernel_rfl, ?_⟩
    refine callK_is (forest_is _ n F hgF) ?_
    by_cases p1 : ((forest n F).length : Int) < F.length
    case pos =>
      simp (config := { maxSteps := 10000000, implicitDefEqProofs := false }) only [go_sem, ↓reduceIte, Nat.reduceAdd, Nat.reduceMul, Nat.reduceEqDiff, Nat.reduceSub, Nat.reduceLT, reduceCtorEq, Nat.reduceLeDiff, Nat.reduceBEq, mwp_draw, p1]
      refine ⟨by kernel_rfl, kR _ ?_⟩
      simp (config := { maxSteps := 10000000, implicitDefEqProofs := false }) only [go_sem, ↓reduceIte, Nat.reduceAdd, Nat.reduceMul, Nat.reduceEqDiff, Nat.reduceSub, Nat.reduceLT, reduceCtorEq, Nat.reduceLeDiff, Nat.reduceBEq, mwp_draw]
      exact mvb (by rw [← hZ, rng_bad hk5 (by rw [hok]; simp; omega)])
    simp (config := { maxSteps := 10000000, implicitDefEqProofs := false }) only [go_sem, ↓reduceIte, Nat.reduceAdd, Nat.reduceMul, Nat.reduceEqDiff, Nat.reduceSub, Nat.reduceLT, reduceCtorEq, Nat.reduceLeDiff, Nat.reduceBEq, mwp_draw, p1]
    refine callK_is (parts_is _ n F hgF) ?_
    simp (config := { maxSteps := 10000000, implicitDefEqProofs := false }) only [go_sem, ↓reduceIte, Nat.reduceAdd, Nat.reduceMul, Nat.reduceEqDiff, Nat.reduceSub, Nat.reduceLT, reduceCtorEq, Nat.reduceLeDiff, Nat.reduceBEq, mwp_draw, p1]
    refine callK_is (EqualI_is _ _ (labL n F) (labL n G) (by omega)) ?_
    by_cases p2 : labL n F = labL n G
    case neg =>
      simp (config := { maxSteps := 10000000, implicitDefEqProofs := false }) only [go_sem, ↓reduceIte, Nat.reduceAdd, Nat.reduceMul, Nat.reduceEqDiff, Nat.reduceSub, Nat.reduceLT, reduceCtorEq, Nat.reduceLeDiff, Nat.reduceBEq, mwp_draw, p1, p2]
      refine ⟨by kernel_rfl, kR _ ?_⟩
      simp (config := { maxSteps := 10000000, implicitDefEqProofs := false }) only [go_sem, ↓reduceIte, Nat.reduceAdd, Nat.reduceMul, Nat.reduceEqDiff, Nat.reduceSub, Nat.reduceLT, reduceCtorEq, Nat.reduceLeDiff, Nat.reduceBEq, mwp_draw]
      exact mvb (by rw [← hZ, rng_bad hk5 (by rw [hok]; simp [Ne.symm p2])])
    have hlab : ∀ x ∈ labL n G, 0 ≤ x ∧ x < n.toNat := fun x hx => by
      obtain ⟨i, hi, rfl⟩ := List.getElem_of_mem hx
      have a := (labL_is (n := n) (es := G) hg.1 hgG.2.2.2).rng (by rw [Int.toNat_of_nonneg hg.1]; exact hgG.2.2.2) (x := (i : Int)) (by omega) (by omega)
      have b := nth_get (l := labL n G) (x := (i : Int)) (List.getElem?_eq_getElem hi)
      rw [b] at a; omega
    simp (config := { maxSteps := 10000000, implicitDefEqProofs := false }) only [go_sem, ↓reduceIte, Nat.reduceAdd, Nat.reduceMul, Nat.reduceEqDiff, Nat.reduceSub, Nat.reduceLT, reduceCtorEq, Nat.reduceLeDiff, Nat.reduceBEq, mwp_draw, p1, p2]
    repeat (refine ⟨by first | omega | decide | exact fits64 (by omega) (by omega) | kernel_rfl | (intros; omega), ?_⟩)
    rw [p2] at hok
    generalize labL n G = lab at hok lG hlab
    have hok2 : okL n es ls fs k = smlB lab (hlf n k) := by
      rw [hok]
      have : ((forest n F).length : Int) = F.length := by omega
      simp [this]
    refine mwp_loopk (X := Nat) (fun i => ⟨[(1, .pr 0 0 0), (3, .pr 1 0 0), (6, .sr 2 0 lab.length), (36, .i .i64 k), (63, .sr 3 0 lab.length), (64, .i .i64 lab.length), (65, .i .i64 i)],
        [(0, .box [.i .i64 n, .s t1 2 (encE es), .s t2 1 (encI ls), .s t3 1 (encT fs)]), (1, .box [.i .i64 k]), (2, .arr true 1 (encI (szL lab.length (lab.take i)))), (3, .arr true 1 (encI lab))], 4⟩)
      (fun i => i ≤ lab.length) (fun i => lab.length - i) 0 (by rw [List.take_zero, szL_nil]; rfl) (by simp) ?_
    rintro i q1 K1 kN1 kE1 kR1
    simp (config := { maxSteps := 10000000, implicitDefEqProofs := false }) only [go_sem, ↓reduceIte, Nat.reduceAdd, Nat.reduceMul, Nat.reduceEqDiff, Nat.reduceSub, Nat.reduceLT, reduceCtorEq, Nat.reduceLeDiff, Nat.reduceBEq, mwp_draw]
    refine ⟨fun d => ?_, fun d => kE1 _ _ ?_⟩
    · repeat (refine ⟨by first | omega | decide | exact fits64 (by omega) (by omega) | kernel_rfl | (intros; omega), ?_⟩)
      intro x hx
      have hxr := hlab x (List.mem_of_getElem? hx)
      have hsl := szL_length lab.length (lab.take i)
      repeat (refine ⟨by first | omega | decide | exact fits64 (by omega) (by omega) | kernel_rfl | (intros; omega), ?_⟩)
      intro y hy
      have hyb : 0 ≤ y ∧ y ≤ 100 := by
        have : y ∈ szL lab.length (lab.take i) := List.mem_of_getElem? hy
        simp only [szL, List.mem_map] at this
        obtain ⟨j, _, rfl⟩ := this
        have := List.count_le_length (a := (j : Int)) (l := lab.take i)
        simp at this; omega
      repeat (refine ⟨by first | omega | decide | exact fits64 (by omega) (by omega) | kernel_rfl | (intros; omega), ?_⟩)
      intro y' hy'
      obtain rfl : y = y' := by rw [hy] at hy'; exact Option.some.inj hy'
      repeat (refine ⟨by first | omega | decide | exact fits64 (by omega) (by omega) | kernel_rfl | (intros; omega), ?_⟩)
      exact kN1 _ (i + 1) (by rw [← szL_next hx hxr.1 hy]; rfl) (by omega) (by omega)
    · clear kN1 kR1
      obtain rfl : i = lab.length := by omega
      rw [List.take_length]
      have z1 : (lab.length ≤ (szL lab.length lab).length) = True := eq_true (by rw [szL_length]; omega)
      have z2 : (szL lab.length lab).take lab.length = szL lab.length lab := List.take_of_length_le (by rw [szL_length]; omega)
      simp (config := { maxSteps := 10000000, implicitDefEqProofs := false }) only [go_sem, ↓reduceIte, Nat.reduceAdd, Nat.reduceMul, Nat.reduceEqDiff, Nat.reduceSub, Nat.reduceLT, reduceCtorEq, Nat.reduceLeDiff, Nat.reduceBEq, mwp_draw, z1, z2]
      refine ⟨tdI (szL lab.length lab), tsI (smlQ (hlf n k)), fnOk_tsI rfl rfl ⟨_, get_impl_LevelsValid_2, by kernel_rfl, by kernel_rfl⟩ (fun x hx => LevelsValid2_is x _ t2 t3 _ n es ls fs k ⟨hg.1, hg.2.1⟩ hk5), ?_⟩
      refine callK_is (ContainsFuncI_is _ _ _ (by rw [szL_length]; omega)) ?_
      rw [szL_any (by rw [lG]; exact hlab)]
      cases p3 : smlB lab (hlf n k)
      · simp (config := { maxSteps := 10000000, implicitDefEqProofs := false }) only [go_sem, ↓reduceIte, Nat.reduceAdd, Nat.reduceMul, Nat.reduceEqDiff, Nat.reduceSub, Nat.reduceLT, reduceCtorEq, Nat.reduceLeDiff, Nat.reduceBEq, mwp_draw]
        refine kR _ ?_
        simp (config := { maxSteps := 10000000, implicitDefEqProofs := false }) only [go_sem, ↓reduceIte, Nat.reduceAdd, Nat.reduceMul, Nat.reduceEqDiff, Nat.reduceSub, Nat.reduceLT, reduceCtorEq, Nat.reduceLeDiff, Nat.reduceBEq, mwp_draw]
        exact mvb (by rw [← hZ, rng_bad hk5 (by rw [hok2, p3])])
      · simp (config := { maxSteps := 10000000, implicitDefEqProofs := false }) only [go_sem, ↓reduceIte, Nat.reduceAdd, Nat.reduceMul, Nat.reduceEqDiff, Nat.reduceSub, Nat.reduceLT, reduceCtorEq, Nat.reduceLeDiff, Nat.reduceBEq, mwp_draw]
        repeat (refine ⟨by first | omega | decide | exact fits64 (by omega) (by omega) | kernel_rfl | (intros; omega), ?_⟩)
        exact kN _ (k + 1) (by rfl) ⟨by omega, rng_next g2 (by rw [hok2, p3])⟩ (by omega)
  · obtain rfl : k = 5 := by omega
    simp (config := { maxSteps := 10000000, implicitDefEqProofs := false }) only [go_sem, ↓reduceIte, Nat.reduceAdd, Nat.reduceMul, Nat.reduceEqDiff, Nat.reduceSub, Nat.reduceLT, reduceCtorEq, Nat.reduceLeDiff, Nat.reduceBEq, mwp_draw]
    exact mvb (by rw [← hZ, g2])
end Go.Fw
