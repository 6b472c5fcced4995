/-
  Searching by levels and the way back, as the program does it.
-/
import Derived.Test.YtjklefjjmfpnoaaCtNb
import Derived.Test.YtjklefjjmfpnoaaCtNe
import Derived.Test.YtjklefjjmfpnoaaPlFb
namespace Go.Fw
set_option linter.unusedSimpArgs false
set_option linter.unusedVariables false
set_option maxRecDepth 100000
set_option maxHeartbeats 4000000
open Go.Proofs.Try (prog)
open Go.Pl

theorem Mul64_is (n : Int) (h0 : 1 ≤ n) (h1 : n ≤ 16) : Is prog fid_math_bits_Mul64 [.i .u64 1, .i .u64 n] (.tup [.i .u64 0, .i .u64 n]) := by
  have h : n = 1 ∨ n = 2 ∨ n = 3 ∨ n = 4 ∨ n = 5 ∨ n = 6 ∨ n = 7 ∨ n = 8 ∨ n = 9 ∨ n = 10 ∨ n = 11 ∨ n = 12 ∨ n = 13 ∨ n = 14 ∨ n = 15 ∨ n = 16 := by omega
  refine MCall.run mixed get_math_bits_Mul64 ok_math_bits_Mul64 (Nat.le_of_ble_eq_true rfl) (by decide) ?_
  unfold mc_math_bits_Mul64
  simp (maxSteps := 9999999) -implicitDefEqProofs only [go_sem, mwp_draw]
  rcases h with rfl | rfl | rfl | rfl | rfl | rfl | rfl | rfl | rfl | rfl | rfl | rfl | rfl | rfl | rfl | rfl
  all_goals
    repeat' apply And.intro
    all_goals first | decide | (unfold Fits; kernel_rfl) | kernel_rfl
theorem Mul_is (n : Int) (h0 : 1 ≤ n) (h1 : n ≤ 16) : Is prog fid_math_bits_Mul [.i .u64 1, .i .u64 n] (.tup [.i .u64 0, .i .u64 n]) := by
  refine MCall.run mixed get_math_bits_Mul ok_math_bits_Mul (Nat.le_of_ble_eq_true rfl) (by decide) ?_
  unfold mc_math_bits_Mul
  simp (maxSteps := 9999999) -implicitDefEqProofs only [go_sem, mwp_draw]
  refine callK_is (Mul64_is n h0 h1) ?_
  simp (maxSteps := 9999999) -implicitDefEqProofs only [go_sem, mwp_draw]
/-- A row that is filled up to m. -/
def rp (m N : Nat) (c : Int) : List (List D) := List.replicate m [.i .i64 c] ++ List.replicate (N - m) [.i .i64 0]
theorem rp_length {m N : Nat} {c : Int} (h : m ≤ N) : (rp m N c).length = N := by simp [rp]; omega
theorem rp_take {m N q : Nat} {c : Int} (h : q ≤ m) : (rp m N c).take q = List.replicate q [.i .i64 c] := by
  unfold rp
  rw [List.take_append_of_le_length (by simp; exact h), List.take_replicate, Nat.min_eq_left h]
theorem rp_over {m N q : Nat} {c : Int} (h : m + q ≤ N) : overR (rp m N c) m (List.replicate q [.i .i64 c]) = rp (m + q) N c := by
  unfold overR rp
  have e1 : (List.replicate m [D.i .i64 c] ++ List.replicate (N - m) [D.i .i64 0]).take m = List.replicate m [D.i .i64 c] := by
    rw [List.take_append_of_le_length (by simp), List.take_replicate, Nat.min_self]
  have e2 : (List.replicate m [D.i .i64 c] ++ List.replicate (N - m) [D.i .i64 0]).drop (m + (List.replicate q [D.i .i64 c]).length) = List.replicate (N - (m + q)) [D.i .i64 0] := by
    rw [List.drop_append, List.length_replicate, List.length_replicate, List.drop_eq_nil_of_le (by simp), List.nil_append, List.drop_replicate]
    congr 1; omega
  rw [e1, e2, List.replicate_append_replicate]
theorem rp_one {N : Nat} {c : Int} (h : 1 ≤ N) : overR (List.replicate N [D.i .i64 0]) 0 [[.i .i64 c]] = rp 1 N c := by
  unfold overR rp
  simp
theorem rp_all {N : Nat} {c : Int} : rp N N c = encI (List.replicate N c) := by simp [rp, encI]
theorem Repeat_is (t : Bool) (c n : Int) (h0 : 1 ≤ n) (h1 : n ≤ 16) : Is prog fid_slices_Repeat_int_int [.s t 1 [[.i .i64 c]], .i .i64 n] (.ow true 1 (encI (List.replicate n.toNat c))) := by
  refine MCall.run mixed get_slices_Repeat_int_int ok_slices_Repeat_int_int (Nat.le_of_ble_eq_true rfl) (by decide) ?_
  unfold mc_slices_Repeat_int_int
  have c1 : (n < 0) = False := eq_false (by omega)
  simp (maxSteps := 9999999) -implicitDefEqProofs only [go_sem, mwp_draw, c1]
  refine ⟨fitsU64 (by omega) (by omega), fitsU64 (by omega) (by omega), ?_⟩
  refine callK_is (Mul_is n h0 h1) ?_
  have c2 : ((0 : Int) < 0) = False := eq_false (by omega)
  have c3 : (9223372036854775807 < n) = False := eq_false (by omega)
  have c4 : min 1 n.toNat = 1 := by omega
  have z1 : Int.toNat 1 = 1 := rfl
  simp (maxSteps := 9999999) -implicitDefEqProofs only [go_sem, mwp_draw, c2, c3, c4, z1]
  refine ⟨fits64 (by omega) (by omega), by omega, by omega, Nat.zero_le _, ?_⟩
  have e0 : overR (encI (List.replicate n.toNat 0)) 0 [[D.i .i64 c]] = rp 1 n.toNat c := by
    rw [← rp_one (by omega)]; simp [encI]
  rw [e0]
  refine mwp_loopk (X := Nat) (fun m => ⟨[(7, .sr 0 0 n.toNat), (8, .i .i64 m)], [(0, .arr t 1 (rp m n.toNat c))], 1⟩)
    (fun m => 1 ≤ m ∧ m ≤ n.toNat) (fun m => n.toNat - m) 1 (by kernel_rfl) ⟨Nat.le_refl _, by omega⟩ ?_
  rintro m ⟨h2, h3⟩ K kN kE kR
  have rl := rp_length (c := c) h3
  by_cases hm : m < n.toNat
  · have d1 : ((m : Int) < (n.toNat : Int)) = True := eq_true (by omega)
    have d2 : (m ≤ n.toNat) = True := eq_true h3
    have ov := rp_over (m := m) (N := n.toNat) (q := min m (n.toNat - m)) (c := c) (by omega)
    have tk := rp_take (m := m) (N := n.toNat) (q := min m (n.toNat - m)) (c := c) (by omega)
    have d3 : (min m (n.toNat - m) ≤ m) = True := eq_true (by omega)
    have d4 : (min m (n.toNat - m) ≤ n.toNat) = True := eq_true (by omega)
    have ov2 : overR (rp m n.toNat c) m (encI (List.replicate (min m (n.toNat - m)) c)) = rp (m + min m (n.toNat - m)) n.toNat c := by rw [← ov]; simp [encI]
    simp (maxSteps := 9999999) -implicitDefEqProofs only [go_sem, mwp_draw, d1, d2, d3, d4, rl, tk, ov, ov2, Bool.and_self]
    repeat (refine ⟨by first | omega | decide | exact fits64 (by omega) (by omega) | kernel_rfl | (intros; omega), ?_⟩)
    exact kN _ (m + min m (n.toNat - m)) (by kernel_rfl) (by omega) (by omega)
  · obtain rfl : m = n.toNat := by omega
    have d1 : ((n.toNat : Int) < (n.toNat : Int)) = False := eq_false (by omega)
    simp (maxSteps := 9999999) -implicitDefEqProofs only [go_sem, mwp_draw, d1, rl]
    refine kE _ _ ?_
    clear kN kE kR
    rw [rp_all]
    have tk : (List.replicate n.toNat c).take n.toNat = List.replicate n.toNat c := List.take_of_length_le (by simp)
    simp (maxSteps := 9999999) -implicitDefEqProofs only [go_sem, mwp_draw, List.length_replicate, tk]
    first | done | rfl

def ts2 (p : Int → Int → Bool) : List FV → FV
  | [.c (.i _ a), .c (.i _ b)] => .c (.b (p a b))
  | _ => default
def td2 (n : Int) (xs : List FV) : Prop := ∃ a b, (0 ≤ a ∧ a < n ∧ 0 ≤ b ∧ b < n) ∧ xs = [.c (.i .i64 a), .c (.i .i64 b)]
theorem fnOk_ts2 {s : MS} {f : FuncId} {first caps fs cs : List MV} {n : Int} {p : Int → Int → Bool} (h1 : mapO (closeM s false) first = some fs) (h2 : mapO (closeM s false) caps = some cs)
    (hc : Callable prog f) (h : ∀ a b, (0 ≤ a ∧ a < n ∧ 0 ≤ b ∧ b < n) → Is prog f (fs ++ [.i .i64 a, .i .i64 b] ++ cs) (.b (p a b))) : FnOk prog s f first caps (td2 n) (ts2 p) := by
  unfold FnOk
  rw [h1, h2]
  refine ⟨hc, fun xs hx ⟨a, b, hab, hxs⟩ => ?_⟩
  subst hxs
  refine (h a b hab).mono fun o r hr => ?_
  rw [hr.2]
  exact ⟨rfl, rfl⟩
theorem reach_is (t : Bool) (n : Int) (es : List E) (u : Un) (x : Int) (hv : GV n es) (x0 : 0 ≤ x) (x1 : x < n) :
    MCall prog fid_impl_Graph_reach [Gr t n es, .i .i64 x, .fn (td2 n) (ts2 fun a b => !u a b)] (fun o r => o = [.u, .u, .u] ∧ ∃ od fr, r = .tup [.ow true 1 (encI od), .ow true 1 (encI fr)] ∧ BF n es u x od fr od.length) := by
  have n0 := hv.1
  have n16 := hv.2.1
  have hE := hv.2.2.2.1
  refine MCall.run mixed get_impl_Graph_reach ok_impl_Graph_reach (Nat.le_of_ble_eq_true rfl) (by decide) ?_
  unfold mc_impl_Graph_reach
  simp (maxSteps := 9999999) -implicitDefEqProofs only [go_sem, mwp_draw]
  refine callK_is (Repeat_is _ (-1) n n0 n16) ?_
  have lr : (List.replicate n.toNat (-1 : Int)).length = n.toNat := List.length_replicate
  have a1 : (0 ≤ x) = True := eq_true x0
  have a2 : (x < (n.toNat : Int)) = True := eq_true (by omega)
  have a3 : (x.toNat < n.toNat) = True := eq_true (by omega)
  have a4 := goneR (show (List.replicate n.toNat (-1 : Int))[x.toNat]? = some (-1) by rw [List.getElem?_replicate, if_pos (by omega)])
  simp (maxSteps := 9999999) -implicitDefEqProofs only [go_sem, mwp_draw, lr, a1, a2, a3, ↓a4]
  repeat (refine ⟨by first | omega | decide | exact fits64 (by omega) (by omega) | kernel_rfl | (intros; omega), ?_⟩)
  refine mwp_loopk (X := List Int × List Int × Nat) (fun z => ⟨[(2, .fn (td2 n) (ts2 fun a b => !u a b)), (3, .pr 0 0 0), (8, .sr 1 0 n.toNat), (9, .sr 2 0 z.1.length), (10, .i .i64 z.2.2)],
      [(0, .box [.i .i64 n, .s t 2 (encE es)]), (1, .arr true 1 (encI z.2.1)), (2, .arr true 1 (encI z.1))], 3⟩)
    (fun z => BF n es u x z.1 z.2.1 z.2.2) (fun z => n.toNat - z.2.2) ([x], (List.replicate n.toNat (-1)).set x.toNat x, 0) (by kernel_rfl) (BF.init x0 x1) ?_
  rintro ⟨od, fr, i⟩ h K kN kE kR
  simp only at h ⊢
  have ol := h.od_len
  have il := h.il
  have fl := h.len
  by_cases hi : i < od.length
  · obtain ⟨v, hvv⟩ : ∃ v, od[i]? = some v := ⟨_, List.getElem?_eq_getElem hi⟩
    have gv := goneR hvv
    have c1 : ((i : Int) < od.length) = True := eq_true (by omega)
    have c2 : (i < od.length) = True := eq_true hi
    have c3 : (0 ≤ (i : Int)) = True := eq_true (by omega)
    simp (maxSteps := 9999999) -implicitDefEqProofs only [go_sem, mwp_draw, c1, c2, c3, ↓gv]
    repeat (refine ⟨by first | omega | decide | exact fits64 (by omega) (by omega) | kernel_rfl | (intros; omega), ?_⟩)
    refine callK_is (neighbors_is _ n es v hv) ?_
    have nl := nbr_len hv v
    have nm := fun q => mem_nbr hE (x := v) (y := q)
    have nr := fun q (hq : Adj es v q) => nbr_rng hE hq
    generalize nbr es v = nb at *
    simp (maxSteps := 9999999) -implicitDefEqProofs only [go_sem, mwp_draw]
    repeat (refine ⟨by first | omega | decide | exact fits64 (by omega) (by omega) | kernel_rfl | (intros; omega), ?_⟩)
    refine mwp_loopk (X := List Int × List Int × Nat) (fun z => ⟨[(2, .fn (td2 n) (ts2 fun a b => !u a b)), (3, .pr 0 0 0), (8, .sr 1 0 n.toNat), (9, .sr 2 0 z.1.length), (10, .i .i64 i), (34, .sr 3 0 nb.length), (35, .i .i64 nb.length), (36, .i .i64 z.2.2)],
        [(0, .box [.i .i64 n, .s t 2 (encE es)]), (1, .arr true 1 (encI z.2.1)), (2, .arr true 1 (encI z.1)), (3, .arr true 1 (encI nb))], 4⟩)
      (fun z => z.2.2 ≤ nb.length ∧ BF n es u x z.1 z.2.1 i ∧ z.1[i]? = some v ∧ ∀ q ∈ nb.take z.2.2, u v q = false → 0 ≤ nth z.2.1 q) (fun z => nb.length - z.2.2) (od, fr, 0) (by kernel_rfl) ⟨Nat.zero_le _, h, hvv, by simp⟩ ?_
    clear h il fl ol hvv gv c1 c2 hi
    rintro ⟨od, fr, j⟩ ⟨j1, h, hvv, hq⟩ K' kN' kE' kR'
    simp only at j1 h hvv hq ⊢
    have ol := h.od_len
    have il := h.il
    have fl := h.len
    have gv := goneR hvv
    have hi := (List.getElem?_eq_some_iff.1 hvv).1
    have c2 : (i < od.length) = True := eq_true hi
    have c1 : ((i : Int) < od.length) = True := eq_true (by omega)
    have rv := h.rng v (List.mem_of_getElem? hvv)
    by_cases hj : j < nb.length
    · obtain ⟨q, hqq⟩ : ∃ q, nb[j]? = some q := ⟨_, List.getElem?_eq_getElem hj⟩
      have ha := (nm q).1 (List.mem_of_getElem? hqq)
      have rq := nr q ha
      have gq := goneR hqq
      have gf := goneR (nth_some (l := fr) (x := q) ⟨rq.2.2.1, by omega⟩)
      have tk : nb.take (j + 1) = nb.take j ++ [q] := by rw [List.take_add_one, hqq]; rfl
      have d1 : ((j : Int) < nb.length) = True := eq_true (by omega)
      have d2 : (j < nb.length) = True := eq_true hj
      have d3 : (0 ≤ (j : Int)) = True := eq_true (by omega)
      have d4 : (0 ≤ q) = True := eq_true rq.2.2.1
      have d5 : (q < (n.toNat : Int)) = True := eq_true (by omega)
      have d6 : (q.toNat < n.toNat) = True := eq_true (by omega)
      have hd : td2 n [.c (.i .i64 v), .c (.i .i64 q)] = True := eq_true ⟨v, q, ⟨rv.1, rv.2, rq.2.2.1, rq.2.2.2.1⟩, rfl⟩
      by_cases hf : nth fr q < 0
      · have e1 := eq_true hf
        by_cases hu : u v q = true
        · simp (maxSteps := 9999999) -implicitDefEqProofs only [go_sem, mwp_draw, fl, c1, c2, c3, d1, d2, d3, d4, d5, d6, e1, hd, ts2, hu, ↓gv, ↓gq, ↓gf]
          repeat (refine ⟨by first | omega | decide | exact fits64 (by omega) (by omega) | kernel_rfl | (intros; omega), ?_⟩)
          refine kN' _ (od, fr, j + 1) (by kernel_rfl) ⟨by simp only; omega, h, hvv, ?_⟩ (by simp only; omega)
          intro p hp hup
          rw [tk] at hp
          rcases List.mem_append.1 hp with hp | hp
          · exact hq p hp hup
          · simp at hp; subst hp; rw [hu] at hup; cases hup
        · have hu : u v q = false := by simpa using hu
          have gs := goneR (show fr[q.toNat]? = some (nth fr q) from nth_some ⟨rq.2.2.1, by omega⟩)
          simp (maxSteps := 9999999) -implicitDefEqProofs only [go_sem, mwp_draw, fl, c1, c2, c3, d1, d2, d3, d4, d5, d6, e1, hd, ts2, hu, ↓gv, ↓gq, ↓gf]
          repeat (refine ⟨by first | omega | decide | exact fits64 (by omega) (by omega) | kernel_rfl | (intros; omega), ?_⟩)
          refine kN' _ (od ++ [q], fr.set q.toNat v, j + 1) (by rw [List.length_append]; kernel_rfl) ⟨by simp only; omega, h.add hvv rq.2.2.1 rq.2.2.2.1 ha hu hf, by rw [List.getElem?_append_left hi]; exact hvv, ?_⟩ (by simp only; omega)
          intro p hp hup
          rw [tk] at hp
          have r0 : 0 ≤ p := (nr p ((nm p).1 (by
            rcases List.mem_append.1 hp with hp | hp
            · exact List.mem_of_mem_take hp
            · simp at hp; subst hp; exact List.mem_of_getElem? hqq))).2.2.1
          show 0 ≤ nth (fr.set q.toNat v) p
          rw [nth_set rq.2.2.1 r0 (by omega)]
          by_cases e : p = q
          · rw [if_pos e]; exact rv.1
          · rw [if_neg e]
            rcases List.mem_append.1 hp with hp | hp
            · exact hq p hp hup
            · simp at hp; exact absurd hp e
      · have e1 := eq_false hf
        simp (maxSteps := 9999999) -implicitDefEqProofs only [go_sem, mwp_draw, fl, c1, c2, c3, d1, d2, d3, d4, d5, d6, e1, ↓gv, ↓gq, ↓gf]
        repeat (refine ⟨by first | omega | decide | exact fits64 (by omega) (by omega) | kernel_rfl | (intros; omega), ?_⟩)
        refine kN' _ (od, fr, j + 1) (by kernel_rfl) ⟨by simp only; omega, h, hvv, ?_⟩ (by simp only; omega)
        intro p hp hup
        rw [tk] at hp
        rcases List.mem_append.1 hp with hp | hp
        · exact hq p hp hup
        · simp at hp; subst hp; show 0 ≤ nth fr p; omega
    · obtain rfl : j = nb.length := by omega
      have d1 : ((nb.length : Int) < nb.length) = False := eq_false (by omega)
      rw [List.take_length] at hq
      simp (maxSteps := 9999999) -implicitDefEqProofs only [go_sem, mwp_draw, d1]
      refine kE' _ _ ?_
      clear kN' kE' kR'
      simp (maxSteps := 9999999) -implicitDefEqProofs only [go_sem, mwp_draw]
      repeat (refine ⟨by first | omega | decide | exact fits64 (by omega) (by omega) | kernel_rfl | (intros; omega), ?_⟩)
      exact kN _ (od, fr, i + 1) (by kernel_rfl) (h.next hvv fun q ha hu => hq q ((nm q).2 ha) hu) (by simp only; omega)
  · obtain rfl : i = od.length := by omega
    have c1 : ((od.length : Int) < od.length) = False := eq_false (by omega)
    simp (maxSteps := 9999999) -implicitDefEqProofs only [go_sem, mwp_draw, c1]
    refine kE _ _ ?_
    clear kN kE kR
    have t1 : od.take od.length = od := List.take_length
    have t2 : fr.take n.toNat = fr := List.take_of_length_le (by omega)
    simp (maxSteps := 9999999) -implicitDefEqProofs only [go_sem, mwp_draw, fl, t1, t2]
    first | exact ⟨od, fr, rfl, h⟩ | exact ⟨Nat.le_refl _, od, fr, rfl, h⟩ | exact ⟨Nat.le_refl _, Nat.le_refl _, od, fr, rfl, h⟩
end Go.Fw
