/-
  The program's greatest flows: units in 256 truth values.
-/
import Derived.Test.YtjklefjjmfpnoaaCtFb
import Derived.Test.YtjklefjjmfpnoaaCtFc
namespace Go.Fw
set_option linter.unusedSimpArgs false
set_option linter.unusedVariables false
set_option maxRecDepth 100000
set_option maxHeartbeats 4000000
open Go.Proofs.Try (prog)
open Go.Pl

def ul (u : Un) : List MV := (List.range 256).map fun i => .b (u ((i / 16 : Nat) : Int) ((i % 16 : Nat) : Int))
def ud (u : Un) : List D := (List.range 256).map fun i => .b (u ((i / 16 : Nat) : Int) ((i % 16 : Nat) : Int))
theorem ul_length (u : Un) : (ul u).length = 256 := by simp [ul]
theorem ud_length (u : Un) : (ud u).length = 256 := by simp [ud]
theorem zs_length : zs256.length = 256 := by simp [zs256]
theorem zs_ul : zs256 = ul fun _ _ => false := by kernel_rfl
theorem ul_take (u : Un) : (ul u).take 256 = ul u := List.take_of_length_le (by rw [ul_length]; exact Nat.le_refl _)
theorem zs_drop : zs256.drop 256 = [] := List.drop_eq_nil_of_le (by rw [zs_length]; exact Nat.le_refl _)
theorem at16 {a b : Int} (ha : 0 ≤ a ∧ a < 16) (hb : 0 ≤ b ∧ b < 16) : a.toNat * 16 + b.toNat < 256 ∧ (((a.toNat * 16 + b.toNat) / 16 : Nat) : Int) = a ∧ (((a.toNat * 16 + b.toNat) % 16 : Nat) : Int) = b := by omega
theorem ul_get (u : Un) {a b : Int} (ha : 0 ≤ a ∧ a < 16) (hb : 0 ≤ b ∧ b < 16) : (ul u)[a.toNat * 16 + b.toNat]? = some (.b (u a b)) := by
  obtain ⟨h1, h2, h3⟩ := at16 ha hb
  unfold ul
  rw [List.getElem?_map, List.getElem?_range h1, Option.map_some, h2, h3]
theorem ud_get (u : Un) {a b : Int} (ha : 0 ≤ a ∧ a < 16) (hb : 0 ≤ b ∧ b < 16) : (ud u)[a.toNat * 16 + b.toNat]? = some (.b (u a b)) := by
  obtain ⟨h1, h2, h3⟩ := at16 ha hb
  unfold ud
  rw [List.getElem?_map, List.getElem?_range h1, Option.map_some, h2, h3]
theorem mapO_map {α β γ : Type} {f : β → Option γ} {g : α → β} {h : α → γ} : ∀ {l : List α}, (∀ x ∈ l, f (g x) = some (h x)) → mapO f (l.map g) = some (l.map h)
  | [], _ => rfl
  | x :: l, hx => by
    simp only [List.map_cons, mapO]
    rw [hx x (by simp), mapO_map (fun y hy => hx y (by simp [hy]))]
theorem closeC_long {s : MS} {al : Bool} {b : Nat} {cs : List MV} (hb : s.obj b = some (.box cs)) (hl : cs.length = 256) : closeC s al (.pr b 0 0) = (mapO (closeD s) cs).map (fun ds => .pd false ds 0) := by
  match cs, hl with
  | c :: d :: r, _ => simp [closeC, hb]
theorem caps_u {s : MS} {b : Nat} {u : Un} (h : s.obj b = some (.box (ul u))) : mapO (closeM s false) [.pr b 0 0] = some [.pd false (ud u) 0] := by
  have e : mapO (closeD s) (ul u) = some (ud u) := mapO_map fun x _ => rfl
  simp only [mapO, closeM, closeC_long h (ul_length u), e, Option.map_some]
def upd (u : Un) (a b : Int) (v : Bool) : Un := fun p q => if p = a ∧ q = b then v else u p q
theorem inc_t {u : Un} {a b : Int} (h : u b a = true) : inc u a b = upd u b a false := by funext p q; simp [inc, upd, h]
theorem inc_f {u : Un} {a b : Int} (h : u b a = false) : inc u a b = upd u a b true := by funext p q; simp [inc, upd, h]
theorem ul_upd (u : Un) {a b : Int} (ha : 0 ≤ a ∧ a < 16) (hb : 0 ≤ b ∧ b < 16) (v : Bool) : (ul u).set (a.toNat * 16 + b.toNat) (.b v) = ul (upd u a b v) := by
  obtain ⟨h1, h2, h3⟩ := at16 ha hb
  have hl : (ul u).length = 256 := ul_length u
  refine List.ext_getElem? fun k => ?_
  rw [List.getElem?_set, hl]
  by_cases hk : k < 256
  · have hr : (ul (upd u a b v))[k]? = some (.b (upd u a b v ((k / 16 : Nat) : Int) ((k % 16 : Nat) : Int))) := by
      unfold ul; rw [List.getElem?_map, List.getElem?_range hk, Option.map_some]
    have ho : (ul u)[k]? = some (.b (u ((k / 16 : Nat) : Int) ((k % 16 : Nat) : Int))) := by
      unfold ul; rw [List.getElem?_map, List.getElem?_range hk, Option.map_some]
    rw [hr]
    by_cases e : a.toNat * 16 + b.toNat = k
    · rw [if_pos e, if_pos h1]
      unfold upd; rw [if_pos (by omega)]
    · rw [if_neg e, ho]
      unfold upd; rw [if_neg (by omega)]
  · rw [if_neg (by omega), List.getElem?_eq_none (by rw [ul_length]; omega), List.getElem?_eq_none (by rw [ul_length]; omega)]
theorem splice_zs (u : Un) : splice zs256 0 (ul u) = ul u := by
  rw [← splice_eq _ _ _ (by rw [ul_length, zs_length]; exact Nat.le_refl _), ul_length, List.take_zero, List.nil_append, Nat.zero_add, zs_drop, List.append_nil]
theorem exL_bs {α : Type} {s : MS} {f : α → Bool} : ∀ (l : List α) {K : List MV → List Nat → Prop}, exL s (l.map fun i => .b (f i)) K = K (l.map fun i => .b (f i)) []
  | [], K => rfl
  | x :: l, K => by
    rw [List.map_cons]
    show exL s (l.map fun i => .b (f i)) (fun xs js => K (.b (f x) :: xs) ([] ++ js)) = _
    rw [exL_bs l]; rfl
theorem exL_ul {s : MS} {u : Un} {K : List MV → List Nat → Prop} : exL s (ul u) K = K (ul u) [] := exL_bs _
theorem impL_bs {α : Type} {t : Option Bool} {k : Nat} {f : α → Bool} : ∀ (l : List α) (n : Nat), impL (imp t (k + 1)) (l.map fun i => .b (f i)) n = (l.map fun i => .b (f i), [], n)
  | [], n => rfl
  | x :: l, n => by
    have ih := impL_bs (t := t) (k := k) (f := f) l n
    simp only [List.map_cons, impL, imp, ih, List.nil_append]
theorem impL_ul {t : Option Bool} {k n : Nat} {u : Un} : impL (imp t (k + 1)) (ul u) n = (ul u, [], n) := impL_bs _ _
theorem Pth.nxt {fr od : List Int} {x : Int} : ∀ {L : List Int} {k : Nat} {a b : Int}, Pth fr od x L → L[k]? = some a → L[k + 1]? = some b → (lnk L)[k]? = some (a, b) := fun _ h1 h2 => lnk_get h1 h2
attribute [irreducible] ul ud
theorem flow1_is (t : Bool) (u : Un) (a b : Int) (ha : 0 ≤ a ∧ a < 16) (hb : 0 ≤ b ∧ b < 16) : Is prog fid_impl_Graph_flow_1 [.i .i64 a, .i .i64 b, .pd t (ud u) 0] (.b (!u a b)) := by
  refine MCall.run mixed get_impl_Graph_flow_1 ok_impl_Graph_flow_1 (Nat.le_of_ble_eq_true rfl) (by decide) ?_
  unfold mc_impl_Graph_flow_1
  have c1 : (0 ≤ a) = True := eq_true ha.1
  have c3 : (0 ≤ b) = True := eq_true hb.1
  have g : (List.map (ofD t) (ud u))[a.toNat * 16 + b.toNat]? = some (.b (u a b)) := by rw [List.getElem?_map, ud_get u ha hb]; rfl
  have ln := ud_length u
  simp (maxSteps := 9999999) -implicitDefEqProofs only [go_sem, mwp_draw, c1, c3, g, ln, Nat.mul_one]
  refine ⟨by omega, by omega, ?_⟩
  show _ ≤ 255
  omega
theorem flow_is (t : Bool) (n : Int) (es : List E) (x y : Int) (hv : GV n es) (x0 : 0 ≤ x) (x1 : x < n) (y0 : 0 ≤ y) (y1 : y < n) (hne : x ≠ y) :
    MCall prog fid_impl_Graph_flow [Gr t n es, .i .i64 x, .i .i64 y] (fun o r => o = [.u, .u, .u] ∧ ∃ (u : Un) (c : Nat), r = .tup [.agg (ul u), .i .i64 c] ∧ IsMin es x y c) := by
  have n0 := hv.1
  have n16 := hv.2.1
  have el := hv.2.2.1
  have hE := hv.2.2.2.1
  have hs := gv_simp hv
  refine MCall.run mixed get_impl_Graph_flow ok_impl_Graph_flow (Nat.le_of_ble_eq_true rfl) (by decide) ?_
  unfold mc_impl_Graph_flow
  simp (maxSteps := 9999999) -implicitDefEqProofs only [go_sem, mwp_draw, zs_length]
  refine mwp_loopk (X := Un × Nat) (fun z => ⟨[(1, .i .i64 x), (2, .i .i64 y), (3, .pr 0 0 0), (6, .pr 1 0 0), (8, .pr 2 0 0), (9, .i .i64 z.2)], [(0, .box [.i .i64 n, .s t 2 (encE es)]), (1, .box zs256), (2, .box (ul z.1))], 3⟩)
    (fun z => Flow es x y z.1 z.2) (fun z => es.length - z.2) (fun _ _ => false, 0) (by rw [← zs_ul]; kernel_rfl) Flow.zero ?_
  rintro ⟨u, c⟩ hf K kN kE kR
  simp only at hf ⊢
  have cm := hf.most hne
  have lu := ul_length u
  simp (maxSteps := 9999999) -implicitDefEqProofs only [go_sem, mwp_draw, lu]
  refine ⟨td2 n, ts2 fun a b => !u a b, fnOk_ts2 rfl (caps_u rfl) ⟨_, get_impl_Graph_flow_1, by kernel_rfl, by kernel_rfl⟩ (fun a b hab => flow1_is _ u a b (by omega) (by omega)), ?_⟩
  refine callK_any (reach_is _ n es u x hv x0 x1) ?_
  rintro o r ⟨rfl, od, fr, rfl, h⟩
  have fl := h.len
  have tf : fr.take fr.length = fr := List.take_length
  by_cases hy : nth fr y < 0
  · simp (maxSteps := 9999999) -implicitDefEqProofs only [go_sem, mwp_draw, lu, tf]
    repeat (refine ⟨by first | omega | decide | exact fits64 (by omega) (by omega) | kernel_rfl | (intros; omega), ?_⟩)
    refine callK_is (way_no _ fr x y y0 (by omega) hy (by omega)) ?_
    have tu := ul_take u
    simp (maxSteps := 9999999) -implicitDefEqProofs only [go_sem, mwp_draw, lu, tu, zs_length, splice_zs]
    refine kR _ ?_
    clear kN kE kR
    simp (maxSteps := 9999999) -implicitDefEqProofs only [go_sem, mwp_draw, exL_ul, lu, tu]
    exact ⟨u, c, rfl, h.done hE hf y0 y1 hy⟩
  · have hyo : y ∈ od := (h.mem y y0 y1).1 (by omega)
    simp (maxSteps := 9999999) -implicitDefEqProofs only [go_sem, mwp_draw, lu, tf]
    repeat (refine ⟨by first | omega | decide | exact fits64 (by omega) (by omega) | kernel_rfl | (intros; omega), ?_⟩)
    refine callK_any (way_is _ n16 h hyo) ?_
    rintro o r ⟨rfl, L, rfl, w⟩
    have wl := w.le
    have step := (BF.step hs hE h hf w.pth w.hd w.lst).1
    have stl := step.most hne
    have L1 : 1 ≤ L.length := by
      have := w.hd
      cases L with
      | nil => simp at this
      | cons a r => simp
    have hadj : ∀ p ∈ lnk L, Adj es p.1 p.2 := fun p hp => by
      have hp' := w.pth
      have hd := w.hd
      cases L with
      | nil => simp [lnk] at hp
      | cons a r => exact (Pth.lnk h hp' p hp).2.2.1
    simp (maxSteps := 9999999) -implicitDefEqProofs only [go_sem, mwp_draw, lu]
    repeat (refine ⟨by first | omega | decide | exact fits64 (by omega) (by omega) | kernel_rfl | (intros; omega), ?_⟩)
    refine mwp_loopk (X := Nat × Un) (fun z => ⟨[(1, .i .i64 x), (2, .i .i64 y), (3, .pr 0 0 0), (6, .pr 1 0 0), (8, .pr 2 0 0), (9, .i .i64 (c + 1)), (12, .sr 3 0 L.length), (14, .i .i64 z.1)],
        [(0, .box [.i .i64 n, .s t 2 (encE es)]), (1, .box zs256), (2, .box (ul z.2)), (3, .arr true 1 (encI L))], 4⟩)
      (fun z => 1 ≤ z.1 ∧ z.1 ≤ L.length ∧ z.2 = incs u ((lnk L).take (z.1 - 1))) (fun z => L.length - z.1) (1, u) (by kernel_rfl) ⟨Nat.le_refl _, L1, rfl⟩ ?_
    rintro ⟨i, v⟩ ⟨i1, i2, hv'⟩ K' kN' kE' kR'
    simp only at i1 i2 hv' ⊢
    have lv := ul_length v
    by_cases hi : i < L.length
    · obtain ⟨a, ha⟩ : ∃ a, L[i - 1]? = some a := ⟨_, List.getElem?_eq_getElem (by omega)⟩
      obtain ⟨b, hb⟩ : ∃ b, L[i]? = some b := ⟨_, List.getElem?_eq_getElem hi⟩
      have hl := lnk_get (L := L) (k := i - 1) ha (by rw [show i - 1 + 1 = i by omega]; exact hb)
      have hab := hadj _ (List.mem_of_getElem? hl)
      have rab := nbr_rng hE hab
      simp only at rab
      have ti : (lnk L).take i = (lnk L).take (i - 1) ++ [(a, b)] := by
        rw [show i = i - 1 + 1 by omega, List.take_add_one, hl]; rfl
      have hn : inc v a b = incs u ((lnk L).take (i + 1 - 1)) := by
        rw [show i + 1 - 1 = i by omega, ti, incs_snoc, ← hv']
      have ei : (i : Int) - 1 = ((i - 1 : Nat) : Int) := by omega
      have ga := goneR ha
      have gb := goneR hb
      have d1 : ((i : Int) < L.length) = True := eq_true (by omega)
      have d2 : (i < L.length) = True := eq_true hi
      have d3 : (0 ≤ (i : Int)) = True := eq_true (by omega)
      have d4 : (((i - 1 : Nat) : Int) < L.length) = True := eq_true (by omega)
      have d5 : (i - 1 < L.length) = True := eq_true (by omega)
      have d6 : (0 ≤ ((i - 1 : Nat) : Int)) = True := eq_true (by omega)
      have d7 : (0 ≤ a) = True := eq_true (by omega)
      have d8 : (0 ≤ b) = True := eq_true (by omega)
      have g := ul_get v (a := b) (b := a) (by omega) (by omega)
      have s1 := ul_upd v (a := b) (b := a) (by omega) (by omega) false
      have s2 := ul_upd v (a := a) (b := b) (by omega) (by omega) true
      cases hvb : v b a with
      | true =>
        rw [hvb] at g
        simp (maxSteps := 9999999) -implicitDefEqProofs only [go_sem, mwp_draw, lv, ei, d1, d2, d3, d4, d5, d6, d7, d8, g, s1, s2, Nat.mul_one, ↓ga, ↓gb]
        repeat (refine ⟨by first | omega | decide | exact fits64 (by omega) (by omega) | kernel_rfl | (intros; omega), ?_⟩)
        exact kN' _ (i + 1, inc v a b) (by rw [inc_t hvb]; kernel_rfl) ⟨by simp only; omega, by simp only; omega, hn⟩ (by simp only; omega)
      | false =>
        rw [hvb] at g
        simp (maxSteps := 9999999) -implicitDefEqProofs only [go_sem, mwp_draw, lv, ei, d1, d2, d3, d4, d5, d6, d7, d8, g, s1, s2, Nat.mul_one, ↓ga, ↓gb]
        repeat (refine ⟨by first | omega | decide | exact fits64 (by omega) (by omega) | kernel_rfl | (intros; omega), ?_⟩)
        exact kN' _ (i + 1, inc v a b) (by rw [inc_f hvb]; kernel_rfl) ⟨by simp only; omega, by simp only; omega, hn⟩ (by simp only; omega)
    · obtain rfl : i = L.length := by omega
      have d1 : ((L.length : Int) < L.length) = False := eq_false (by omega)
      rw [List.take_of_length_le (by rw [lnk_length]; omega)] at hv'
      subst hv'
      simp (maxSteps := 9999999) -implicitDefEqProofs only [go_sem, mwp_draw, d1]
      refine kE' _ _ ?_
      clear kN' kE' kR'
      simp (maxSteps := 9999999) -implicitDefEqProofs only [go_sem, mwp_draw]
      repeat (refine ⟨by first | omega | decide | exact fits64 (by omega) (by omega) | kernel_rfl | (intros; omega), ?_⟩)
      exact kN _ (incs u (lnk L), c + 1) (by kernel_rfl) step (by simp only; omega)
end Go.Fw
