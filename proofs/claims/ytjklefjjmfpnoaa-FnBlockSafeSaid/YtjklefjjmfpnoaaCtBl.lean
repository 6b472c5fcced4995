/-
  Blocks, as the program finds them, in a graph of one block.
-/
import Derived.Test.YtjklefjjmfpnoaaCtNb
import Derived.Test.YtjklefjjmfpnoaaCtNe
import Derived.Test.YtjklefjjmfpnoaaCtG7
import Derived.Test.YtjklefjjmfpnoaaPlBl
namespace Go.Fw
set_option linter.unusedSimpArgs false
set_option linter.unusedVariables false
set_option maxRecDepth 100000
set_option maxHeartbeats 8000000
open Go.Proofs.Try (prog)
open Go.Pl

def cmV : Option (Int × Int × Int) → MV
  | some (v, x, y) => .tup [.i .i64 v, .i .i64 x, .i .i64 y, .b true]
  | none => .tup [.i .i64 0, .i .i64 0, .i .i64 0, .b false]
theorem common_is (e f : E) : Is prog fid_impl_common [Ed1 e, Ed1 f] (cmV (cmn e f)) := by
  refine MCall.run mixed get_impl_common ok_impl_common (Nat.le_of_ble_eq_true rfl) (by decide) ?_
  unfold mc_impl_common
  unfold cmn
  by_cases h1 : e.1 = f.1
  · have c1 := eq_true h1
    rw [if_pos h1]
    simp (maxSteps := 9999999) -implicitDefEqProofs only [go_sem, mwp_draw, c1]
    repeat (refine ⟨by first | omega | decide | exact fits64 (by omega) (by omega) | kernel_rfl | (intros; omega), ?_⟩)
    first | done | rfl
  · have c1 := eq_false h1
    rw [if_neg h1]
    by_cases h2 : e.1 = f.2
    · have c2 := eq_true h2
      rw [if_pos h2]
      simp (maxSteps := 9999999) -implicitDefEqProofs only [go_sem, mwp_draw, c1, c2]
      repeat (refine ⟨by first | omega | decide | exact fits64 (by omega) (by omega) | kernel_rfl | (intros; omega), ?_⟩)
      first | done | rfl
    · have c2 := eq_false h2
      rw [if_neg h2]
      by_cases h3 : e.2 = f.1
      · have c3 := eq_true h3
        rw [if_pos h3]
        simp (maxSteps := 9999999) -implicitDefEqProofs only [go_sem, mwp_draw, c1, c2, c3]
        repeat (refine ⟨by first | omega | decide | exact fits64 (by omega) (by omega) | kernel_rfl | (intros; omega), ?_⟩)
        first | done | rfl
      · have c3 := eq_false h3
        rw [if_neg h3]
        by_cases h4 : e.2 = f.2
        · have c4 := eq_true h4
          rw [if_pos h4]
          simp (maxSteps := 9999999) -implicitDefEqProofs only [go_sem, mwp_draw, c1, c2, c3, c4]
          repeat (refine ⟨by first | omega | decide | exact fits64 (by omega) (by omega) | kernel_rfl | (intros; omega), ?_⟩)
          first | done | rfl
        · have c4 := eq_false h4
          rw [if_neg h4]
          simp (maxSteps := 9999999) -implicitDefEqProofs only [go_sem, mwp_draw, c1, c2, c3, c4]
          first | done | rfl
def mgj (out : List Int) (lo hi : Int) (j : Nat) : List Int := (out.take j).map (rel1 lo hi) ++ out.drop j
theorem mgj_len {out : List Int} {lo hi : Int} {j : Nat} (h : j ≤ out.length) : (mgj out lo hi j).length = out.length := by unfold mgj; simp; omega
theorem mgj_get {out : List Int} {lo hi : Int} {j : Nat} {v : Int} (h : out[j]? = some v) : (mgj out lo hi j)[j]? = some v := by
  have hj := (List.getElem?_eq_some_iff.1 h).1
  unfold mgj
  rw [List.getElem?_append_right (by simp; omega), List.length_map, List.length_take, Nat.min_eq_left (by omega), Nat.sub_self, List.getElem?_drop, Nat.add_zero]; exact h
theorem mgj_next {out : List Int} {lo hi : Int} {j : Nat} {v : Int} (h : out[j]? = some v) : mgj out lo hi (j + 1) = (mgj out lo hi j).set j (rel1 lo hi v) := by
  have hj := (List.getElem?_eq_some_iff.1 h).1
  unfold mgj
  have e1 : out.take (j + 1) = out.take j ++ [v] := by rw [List.take_add_one, h]; rfl
  have e2 : out.drop j = v :: out.drop (j + 1) := by rw [← (List.getElem?_eq_some_iff.1 h).2, List.getElem_cons_drop]
  have l : ((out.take j).map (rel1 lo hi)).length = j := by simp; omega
  rw [List.set_append_right _ _ (by omega), l, Nat.sub_self, e2, e1]
  simp
theorem mgj_skip {out : List Int} {lo hi : Int} {j : Nat} {v : Int} (h : out[j]? = some v) (hv : v ≠ hi) : mgj out lo hi (j + 1) = mgj out lo hi j := by
  have e := mgj_next (lo := lo) (hi := hi) h
  have g := mgj_get (lo := lo) (hi := hi) h
  have hr : rel1 lo hi v = v := if_neg hv
  rw [e, hr]
  refine List.ext_getElem? fun k => ?_
  rw [List.getElem?_set]
  by_cases q : j = k
  · subst q
    rw [if_pos rfl, if_pos (List.getElem?_eq_some_iff.1 g).1, g]
  · rw [if_neg q]
theorem mgj_all {out : List Int} {lo hi : Int} : mgj out lo hi out.length = out.map (rel1 lo hi) := by simp [mgj]
theorem blocks_is (t : Bool) (n : Int) (es : List E) (hv : GV n es) (hcut : ∀ x y z, Adj es x y → Adj es x z → Rch (aloL es x) y z) :
    MCall prog fid_impl_Graph_blocks [Gr t n es] (fun o r => o = [.u] ∧ ∃ out, r = .ow true 1 (encI out) ∧ BL es out es.length 0) := by
  have n0 := hv.1
  have n16 := hv.2.1
  have el := hv.2.2.1
  have hE := hv.2.2.2.1
  refine MCall.run mixed get_impl_Graph_blocks ok_impl_Graph_blocks (Nat.le_of_ble_eq_true rfl) (by decide) ?_
  unfold mc_impl_Graph_blocks
  simp (maxSteps := 9999999) -implicitDefEqProofs only [go_sem, mwp_draw]
  refine mwp_loopk (X := Nat) (fun i => ⟨[(1, .pr 0 0 0), (3, .sr 1 0 i), (19, .i .i64 es.length), (20, .i .i64 i)], [(0, .box [.i .i64 n, .s t 2 (encE es)]), (1, .arr true 1 (encI (ups i)))], 2⟩)
    (fun i => i ≤ es.length) (fun i => es.length - i) 0 (by kernel_rfl) (Nat.zero_le _) ?_
  rintro i h1 K kN kE kR
  have ul := ups_length i
  by_cases hi : i < es.length
  · have c1 : ((i : Int) < es.length) = True := eq_true (by omega)
    have t1 : (ups i).take i = ups i := List.take_of_length_le (by omega)
    have us := (ups_succ i).symm
    simp (maxSteps := 9999999) -implicitDefEqProofs only [go_sem, mwp_draw, c1, ul, t1, us]
    repeat (refine ⟨by first | omega | decide | exact fits64 (by omega) (by omega) | kernel_rfl | (intros; omega), ?_⟩)
    exact kN _ (i + 1) (by kernel_rfl) (by omega) (by omega)
  · obtain rfl : i = es.length := by omega
    have c1 : ((es.length : Int) < es.length) = False := eq_false (by omega)
    simp (maxSteps := 9999999) -implicitDefEqProofs only [go_sem, mwp_draw, c1]
    refine kE _ _ ?_
    clear kN kE kR
    simp (maxSteps := 9999999) -implicitDefEqProofs only [go_sem, mwp_draw]
    refine mwp_loopk (X := Nat × List Int) (fun z => ⟨[(1, .pr 0 0 0), (3, .sr 1 0 es.length), (29, .s t 2 (encE es)), (30, .i .i64 es.length), (31, .i .i64 z.1)], [(0, .box [.i .i64 n, .s t 2 (encE es)]), (1, .arr true 1 (encI z.2))], 2⟩)
      (fun z => z.1 ≤ es.length ∧ BL es z.2 z.1 0) (fun z => es.length - z.1) (0, ups es.length) (by kernel_rfl) ⟨Nat.zero_le _, BL.init⟩ ?_
    rintro ⟨i, out⟩ ⟨i1, hB⟩ K kN kE kR
    simp only at i1 hB ⊢
    by_cases hi : i < es.length
    · obtain ⟨e, he⟩ : ∃ e, es[i]? = some e := ⟨_, List.getElem?_eq_getElem hi⟩
      have ge := goneR he
      have c1 : ((i : Int) < es.length) = True := eq_true (by omega)
      have c2 : (i < es.length) = True := eq_true hi
      have c3 : (0 ≤ (i : Int)) = True := eq_true (by omega)
      have tl : (es.take i).length = i := by rw [List.length_take]; omega
      simp (maxSteps := 9999999) -implicitDefEqProofs only [go_sem, mwp_draw, c1, c2, c3, tl, ↓ge]
      repeat (refine ⟨by first | omega | decide | exact fits64 (by omega) (by omega) | kernel_rfl | (intros; omega), ?_⟩)
      refine mwp_loopk (X := Nat × List Int) (fun z => ⟨[(1, .pr 0 0 0), (3, .sr 1 0 es.length), (5, .i .i64 i), (6, .pr 2 0 0), (29, .s t 2 (encE es)), (30, .i .i64 es.length), (31, .i .i64 i), (39, .s t 2 (encE (es.take i))), (40, .i .i64 i), (41, .i .i64 z.1)],
          [(0, .box [.i .i64 n, .s t 2 (encE es)]), (1, .arr true 1 (encI z.2)), (2, .box [.i .i64 e.1, .i .i64 e.2])], 3⟩)
        (fun z => z.1 ≤ i ∧ BL es z.2 i z.1) (fun z => i - z.1) (0, out) (by kernel_rfl) ⟨Nat.zero_le _, hB⟩ ?_
      clear hB
      rintro ⟨k, out⟩ ⟨k1, hB⟩ K' kN' kE' kR'
      simp only at k1 hB ⊢
      have ol := hB.len
      by_cases hk : k < i
      · obtain ⟨f, hf⟩ : ∃ f, es[k]? = some f := ⟨_, List.getElem?_eq_getElem (by omega)⟩
        obtain ⟨a, ha⟩ : ∃ a, out[i]? = some a := ⟨_, List.getElem?_eq_getElem (by omega)⟩
        obtain ⟨b, hb⟩ : ∃ b, out[k]? = some b := ⟨_, List.getElem?_eq_getElem (by omega)⟩
        have gf := goneR (show (es.take i)[k]? = some f by rw [List.getElem?_take_of_lt hk]; exact hf)
        have ga := goneR ha
        have gb := goneR hb
        have d1 : ((k : Int) < i) = True := eq_true (by omega)
        have d2 : (k < i) = True := eq_true hk
        have d3 : (0 ≤ (k : Int)) = True := eq_true (by omega)
        have d4 : ((k : Int) < es.length) = True := eq_true (by omega)
        have d5 : (k < es.length) = True := eq_true (by omega)
        simp (maxSteps := 9999999) -implicitDefEqProofs only [go_sem, mwp_draw, c1, c2, c3, tl, ol, d1, d2, d3, d4, d5, ↓gf]
        repeat (refine ⟨by first | omega | decide | exact fits64 (by omega) (by omega) | kernel_rfl | (intros; omega), ?_⟩)
        refine callK_is (common_is e f) ?_
        cases hc : cmn e f with
        | none =>
          simp only [cmV]
          simp (maxSteps := 9999999) -implicitDefEqProofs only [go_sem, mwp_draw, c1, c2, c3, tl, ol, d1, d2, d3, d4, d5, ↓ga, ↓gb]
          repeat (refine ⟨by first | omega | decide | exact fits64 (by omega) (by omega) | kernel_rfl | (intros; omega), ?_⟩)
          exact kN' _ (k + 1, out) (by kernel_rfl) ⟨by simp only; omega, hB.skip he hf fun q => absurd hc q⟩ (by simp only; omega)
        | some w =>
          obtain ⟨v, x, y⟩ := w
          obtain ⟨av, aw⟩ := cmn_adj (List.mem_of_getElem? he) (List.mem_of_getElem? hf) hc
          simp only [cmV]
          by_cases hab : a = b
          · have e1 := eq_true hab
            simp (maxSteps := 9999999) -implicitDefEqProofs only [go_sem, mwp_draw, c1, c2, c3, tl, ol, d1, d2, d3, d4, d5, e1, ↓ga, ↓gb]
            repeat (refine ⟨by first | omega | decide | exact fits64 (by omega) (by omega) | kernel_rfl | (intros; omega), ?_⟩)
            exact kN' _ (k + 1, out) (by kernel_rfl) ⟨by simp only; omega, hB.skip he hf fun _ => by rw [ha, hb, hab]⟩ (by simp only; omega)
          · have e1 := eq_false hab
            have rx := nbr_rng hE av
            have ry := nbr_rng hE aw
            have hA : GE n (aloL es v) := by
              have hg := GE_of hv
              exact ⟨hg.1, hg.2.1, Nat.le_trans (List.length_filter_le _ _) hg.2.2.1, fun d hd => hg.2.2.2 d (List.mem_filter.1 hd).1⟩
            have hj : jn n (aloL es v) x y = true := (jn_iff hA.2.2.2 ⟨rx.2.2.1, rx.2.2.2.1⟩ ⟨ry.2.2.1, ry.2.2.2.1⟩).2 (hcut v x y av aw)
            simp (maxSteps := 9999999) -implicitDefEqProofs only [go_sem, mwp_draw, c1, c2, c3, tl, ol, d1, d2, d3, d4, d5, e1, ↓ga, ↓gb]
            repeat (refine ⟨by first | omega | decide | exact fits64 (by omega) (by omega) | kernel_rfl | (intros; omega), ?_⟩)
            refine callK_is (cutNode_is _ n es v (by omega)) ?_
            simp (maxSteps := 9999999) -implicitDefEqProofs only [go_sem, mwp_draw]
            repeat (refine ⟨by first | omega | decide | exact fits64 (by omega) (by omega) | kernel_rfl | (intros; omega), ?_⟩)
            refine callK_is (connected_is _ n (aloL es v) x y hA ⟨rx.2.2.1, rx.2.2.2.1⟩ ⟨ry.2.2.1, ry.2.2.2.1⟩) ?_
            rw [hj]
            simp (maxSteps := 9999999) -implicitDefEqProofs only [go_sem, mwp_draw, c1, c2, c3, tl, ol, d1, d2, d3, d4, d5, e1, ↓ga, ↓gb]
            repeat (refine ⟨by first | omega | decide | exact fits64 (by omega) (by omega) | kernel_rfl | (intros; omega), ?_⟩)
            have mg := hB.merge (lo := min a b) (hi := max a b) ha hb rfl rfl
            generalize min a b = lo at *
            generalize max a b = hh at *
            refine mwp_loopk (X := Nat × List Int) (fun z => ⟨[(1, .pr 0 0 0), (3, .sr 1 0 es.length), (5, .i .i64 i), (6, .pr 2 0 0), (13, .i .i64 lo), (14, .i .i64 hh), (29, .s t 2 (encE es)), (30, .i .i64 es.length), (31, .i .i64 i), (39, .s t 2 (encE (es.take i))), (40, .i .i64 i), (41, .i .i64 k), (95, .i .i64 es.length), (96, .i .i64 z.1)],
                [(0, .box [.i .i64 n, .s t 2 (encE es)]), (1, .arr true 1 (encI z.2)), (2, .box [.i .i64 e.1, .i .i64 e.2])], 3⟩)
              (fun z => z.1 ≤ es.length ∧ z.2 = mgj out lo hh z.1) (fun z => es.length - z.1) (0, out) (by kernel_rfl) ⟨Nat.zero_le _, by simp [mgj]⟩ ?_
            rintro ⟨j, m⟩ ⟨j1, hm⟩ K2 kN2 kE2 kR2
            simp only at j1 hm ⊢
            have ml : m.length = es.length := by rw [hm, mgj_len (by omega)]; exact ol
            by_cases hj2 : j < es.length
            · obtain ⟨w, hw⟩ : ∃ w, out[j]? = some w := ⟨_, List.getElem?_eq_getElem (by omega)⟩
              have gm := goneR (show m[j]? = some w by rw [hm]; exact mgj_get hw)
              have f1 : ((j : Int) < es.length) = True := eq_true (by omega)
              have f2 : (j < es.length) = True := eq_true hj2
              have f3 : (0 ≤ (j : Int)) = True := eq_true (by omega)
              by_cases hwh : w = hh
              · have f4 := eq_true hwh
                simp (maxSteps := 9999999) -implicitDefEqProofs only [go_sem, mwp_draw, ml, f1, f2, f3, f4, ↓gm]
                repeat (refine ⟨by first | omega | decide | exact fits64 (by omega) (by omega) | kernel_rfl | (intros; omega), ?_⟩)
                exact kN2 _ (j + 1, m.set j lo) (by kernel_rfl) ⟨by simp only; omega, by simp only; rw [hm, mgj_next hw, rel1, if_pos hwh]⟩ (by simp only; omega)
              · have f4 := eq_false hwh
                simp (maxSteps := 9999999) -implicitDefEqProofs only [go_sem, mwp_draw, ml, f1, f2, f3, f4, ↓gm]
                repeat (refine ⟨by first | omega | decide | exact fits64 (by omega) (by omega) | kernel_rfl | (intros; omega), ?_⟩)
                exact kN2 _ (j + 1, m) (by kernel_rfl) ⟨by simp only; omega, by simp only; rw [hm, mgj_skip hw hwh]⟩ (by simp only; omega)
            · obtain rfl : j = es.length := by omega
              have f1 : ((es.length : Int) < es.length) = False := eq_false (by omega)
              have hm2 : m = out.map (rel1 lo hh) := by rw [hm, ← ol, mgj_all]
              subst hm2
              simp (maxSteps := 9999999) -implicitDefEqProofs only [go_sem, mwp_draw, f1]
              refine kE2 _ _ ?_
              clear kN2 kE2 kR2
              simp (maxSteps := 9999999) -implicitDefEqProofs only [go_sem, mwp_draw]
              repeat (refine ⟨by first | omega | decide | exact fits64 (by omega) (by omega) | kernel_rfl | (intros; omega), ?_⟩)
              exact kN' _ (k + 1, out.map (rel1 lo hh)) (by kernel_rfl) ⟨by simp only; omega, mg⟩ (by simp only; omega)
      · obtain rfl : k = i := by omega
        have d1 : ((k : Int) < k) = False := eq_false (by omega)
        simp (maxSteps := 9999999) -implicitDefEqProofs only [go_sem, mwp_draw, d1]
        refine kE' _ _ ?_
        clear kN' kE' kR'
        simp (maxSteps := 9999999) -implicitDefEqProofs only [go_sem, mwp_draw]
        repeat (refine ⟨by first | omega | decide | exact fits64 (by omega) (by omega) | kernel_rfl | (intros; omega), ?_⟩)
        exact kN _ (k + 1, out) (by kernel_rfl) ⟨by simp only; omega, hB.row⟩ (by simp only; omega)
    · obtain rfl : i = es.length := by omega
      have c1 : ((es.length : Int) < es.length) = False := eq_false (by omega)
      have ol := hB.len
      have t1 : out.take es.length = out := List.take_of_length_le (by omega)
      simp (maxSteps := 9999999) -implicitDefEqProofs only [go_sem, mwp_draw, c1]
      refine kE _ _ ?_
      clear kN kE kR
      simp (maxSteps := 9999999) -implicitDefEqProofs only [go_sem, mwp_draw, ol, t1]
      first | exact ⟨out, rfl, hB⟩ | exact ⟨Nat.le_refl _, out, rfl, hB⟩
theorem block_is (t t' : Bool) (n : Int) (es : List E) (fs : List Int) (c : Int) (hl : es.length ≤ 100000) (hf : fs.length = es.length) :
    MCall prog fid_impl_Graph_block [Gr t n es, .s t' 1 (encI fs), .i .i64 c] (fun o r => o = [.u, .u, .u] ∧ ∃ b : List E, r = .ow true 2 (encE b)) := by
  refine MCall.run mixed get_impl_Graph_block ok_impl_Graph_block (Nat.le_of_ble_eq_true rfl) (by decide) ?_
  unfold mc_impl_Graph_block
  simp (maxSteps := 9999999) -implicitDefEqProofs only [go_sem, mwp_draw]
  refine mwp_loopk (X := Nat × List E) (fun z => ⟨[(1, .s t' 1 (encI fs)), (2, .i .i64 c), (7, .sr 0 0 z.2.length), (12, .s t 2 (encE es)), (13, .i .i64 es.length), (14, .i .i64 z.1)], [(0, .arr true 2 (encE z.2))], 1⟩)
    (fun z => z.1 ≤ es.length ∧ z.2.length ≤ z.1) (fun z => es.length - z.1) (0, []) (by kernel_rfl) ⟨Nat.zero_le _, Nat.le_refl _⟩ ?_
  rintro ⟨i, w⟩ ⟨i1, i2⟩ K kN kE kR
  simp only at i1 i2 ⊢
  by_cases hi : i < es.length
  · obtain ⟨e, he⟩ : ∃ e, es[i]? = some e := ⟨_, List.getElem?_eq_getElem hi⟩
    obtain ⟨a, ha⟩ : ∃ a, fs[i]? = some a := ⟨_, List.getElem?_eq_getElem (by omega)⟩
    have ge := goneR he
    have ga := goneR ha
    have c1 : ((i : Int) < es.length) = True := eq_true (by omega)
    have c2 : (i < es.length) = True := eq_true hi
    have c3 : (0 ≤ (i : Int)) = True := eq_true (by omega)
    have tw : w.take w.length = w := List.take_length
    by_cases hac : a = c
    · have c4 := eq_true hac
      simp (maxSteps := 9999999) -implicitDefEqProofs only [go_sem, mwp_draw, c1, c2, c3, c4, hf, tw, ↓ge, ↓ga]
      repeat (refine ⟨by first | omega | decide | exact fits64 (by omega) (by omega) | kernel_rfl | (intros; omega), ?_⟩)
      exact kN _ (i + 1, w ++ [e]) (by rw [List.length_append]; kernel_rfl) ⟨by simp only; omega, by simp only [List.length_append, List.length_singleton]; omega⟩ (by simp only; omega)
    · have c4 := eq_false hac
      simp (maxSteps := 9999999) -implicitDefEqProofs only [go_sem, mwp_draw, c1, c2, c3, c4, hf, ↓ge, ↓ga]
      repeat (refine ⟨by first | omega | decide | exact fits64 (by omega) (by omega) | kernel_rfl | (intros; omega), ?_⟩)
      exact kN _ (i + 1, w) (by kernel_rfl) ⟨by simp only; omega, by simp only; omega⟩ (by simp only; omega)
  · obtain rfl : i = es.length := by omega
    have c1 : ((es.length : Int) < es.length) = False := eq_false (by omega)
    have tw : w.take w.length = w := List.take_length
    simp (maxSteps := 9999999) -implicitDefEqProofs only [go_sem, mwp_draw, c1]
    refine kE _ _ ?_
    clear kN kE kR
    simp (maxSteps := 9999999) -implicitDefEqProofs only [go_sem, mwp_draw, tw]
    first | exact ⟨w, rfl⟩ | exact ⟨Nat.le_refl _, w, rfl⟩
/-- One block: one list. -/
theorem BlocksOf_is (t : Bool) (n : Int) (es : List E) (hv : GV n es) (hcut : ∀ x y z, Adj es x y → Adj es x z → Rch (aloL es x) y z) {e0 : E} (h0 : es[0]? = some e0) (hc : ∀ e ∈ es, Rch es e0.1 e.1) :
    MCall prog fid_impl_BlocksOf [Gr t n es] (fun o r => o = [.u] ∧ ∃ b : List E, r = .ow true 1 (encF [b])) := by
  have el := hv.2.2.1
  have hg := gvB_iff.2 hv
  have l0 := (List.getElem?_eq_some_iff.1 h0).1
  refine MCall.run mixed get_impl_BlocksOf ok_impl_BlocksOf (Nat.le_of_ble_eq_true rfl) (by decide) ?_
  unfold mc_impl_BlocksOf
  simp (maxSteps := 9999999) -implicitDefEqProofs only [go_sem, mwp_draw]
  refine callK_is (GraphValid_is _ n es (by omega)) ?_
  rw [hg]
  simp (maxSteps := 9999999) -implicitDefEqProofs only [go_sem, mwp_draw]
  refine callK_any (blocks_is _ n es hv hcut) ?_
  rintro o r ⟨rfl, out, rfl, hB⟩
  have ol := hB.len
  have hz := hB.done h0 hc
  simp (maxSteps := 9999999) -implicitDefEqProofs only [go_sem, mwp_draw]
  refine mwp_loopk (X := Nat × List (List E)) (fun z => ⟨[(1, .pr 0 0 0), (3, .sr 1 0 z.2.length), (4, .sr 2 0 out.length), (13, .sr 2 0 out.length), (14, .i .i64 out.length), (15, .i .i64 z.1)], [(0, .box [.i .i64 n, .s t 2 (encE es)]), (1, .arr true 1 (encF z.2)), (2, .arr true 1 (encI out))], 3⟩)
    (fun z => z.1 ≤ out.length ∧ z.2.length = (if z.1 = 0 then 0 else 1)) (fun z => out.length - z.1) (0, []) (by kernel_rfl) ⟨Nat.zero_le _, rfl⟩ ?_
  rintro ⟨i, L⟩ ⟨i1, i2⟩ K kN kE kR
  simp only at i1 i2 ⊢
  by_cases hi : i < out.length
  · obtain ⟨a, ha⟩ : ∃ a, out[i]? = some a := ⟨_, List.getElem?_eq_getElem hi⟩
    obtain rfl := hz i a ha
    have ga := goneR ha
    have c1 : ((i : Int) < out.length) = True := eq_true (by omega)
    have c2 : (i < out.length) = True := eq_true hi
    have c3 : (0 ≤ (i : Int)) = True := eq_true (by omega)
    have to : out.take out.length = out := List.take_length
    by_cases hi0 : i = 0
    · subst hi0
      rw [if_pos rfl] at i2
      obtain rfl := List.eq_nil_of_length_eq_zero i2
      have c4 : ((0 : Int) < out.length) = True := eq_true (by omega)
      have c5 : ((0 : Int) ≤ 0) = True := eq_true (by omega)
      simp (maxSteps := 9999999) -implicitDefEqProofs only [go_sem, mwp_draw, c1, c2, c3, c4, c5, to, ↓ga]
      repeat (refine ⟨by first | omega | decide | exact fits64 (by omega) (by omega) | kernel_rfl | (intros; omega), ?_⟩)
      refine callK_any (block_is _ _ n es out 0 (by omega) ol) ?_
      rintro o r ⟨rfl, b, rfl⟩
      have tb : b.take b.length = b := List.take_length
      simp (maxSteps := 9999999) -implicitDefEqProofs only [go_sem, mwp_draw, c1, c2, c3, c4, c5, to, tb]
      repeat (refine ⟨by first | omega | decide | exact fits64 (by omega) (by omega) | kernel_rfl | (intros; omega), ?_⟩)
      exact kN _ (1, [b]) (by kernel_rfl) ⟨by simp only; omega, rfl⟩ (by simp only; omega)
    · rw [if_neg hi0] at i2
      have c4 : ((i : Int) = 0) = False := eq_false (by omega)
      simp (maxSteps := 9999999) -implicitDefEqProofs only [go_sem, mwp_draw, c1, c2, c3, c4, to, ↓ga]
      repeat (refine ⟨by first | omega | decide | exact fits64 (by omega) (by omega) | kernel_rfl | (intros; omega), ?_⟩)
      exact kN _ (i + 1, L) (by kernel_rfl) ⟨by simp only; omega, by simp only; rw [if_neg (by omega)]; exact i2⟩ (by simp only; omega)
  · obtain rfl : i = out.length := by omega
    have c1 : ((out.length : Int) < out.length) = False := eq_false (by omega)
    rw [if_neg (by omega)] at i2
    obtain ⟨b, rfl⟩ : ∃ b, L = [b] := by
      cases L with
      | nil => simp at i2
      | cons b r => cases r with
        | nil => exact ⟨b, rfl⟩
        | cons _ _ => simp at i2
    simp (maxSteps := 9999999) -implicitDefEqProofs only [go_sem, mwp_draw, c1]
    refine kE _ _ ?_
    clear kN kE kR
    simp (maxSteps := 9999999) -implicitDefEqProofs only [go_sem, mwp_draw]
    first | exact ⟨b, rfl⟩ | exact ⟨Nat.le_refl _, b, rfl⟩
end Go.Fw
