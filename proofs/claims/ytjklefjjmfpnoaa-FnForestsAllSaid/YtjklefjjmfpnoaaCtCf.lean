/-
  Certificates: the program's and the reference's.
-/
import Derived.Test.YtjklefjjmfpnoaaCtFo
import Derived.Test.YtjklefjjmfpnoaaCtSf
import Derived.Test.YtjklefjjmfpnoaaPlCe
namespace Go.Fw
set_option linter.unusedSimpArgs false
set_option linter.unusedVariables false
set_option maxRecDepth 100000
set_option maxHeartbeats 4000000
open Go.Proofs.Try (prog)
open Go.Pl

def ceV (n : Int) (es : List E) (k : Int) : List E := if fsB n es k then cer n k.toNat es else []
def ceN (n : Int) (es : List E) (k : Int) : Int := if fsB n es k then n else 0
theorem ceV_len {n : Int} {es : List E} {k : Int} : (ceV n es k).length ≤ es.length := by
  unfold ceV
  split
  · exact wo_len
  · simp
theorem goneF {α : Type} {l : List α} {i : Nat} {x : α} (hx : l[i]? = some x) : ∀ P : α → Prop, (∀ z, l[i]? = some z → P z) ↔ P x := fun P => ⟨fun h => h x hx, fun h z hz => by rw [hx] at hz; cases hz; exact h⟩
theorem Grow_is (m : Nat) (hm : m ≤ 1048576) : Is prog fid_slices_Grow_impl_Edge_impl_Edge [.nl 2, .i .i64 m] (.ow true 2 (encE [])) := by
  refine MCall.run mixed get_slices_Grow_impl_Edge_impl_Edge ok_slices_Grow_impl_Edge_impl_Edge (Nat.le_of_ble_eq_true rfl) (by decide) ?_
  unfold mc_slices_Grow_impl_Edge_impl_Edge
  have c1 : ((m : Int) < 0) = False := eq_false (by omega)
  have c2 : ((m : Int) - (0 - 0)) = m := by omega
  have c3 : ((0 : Int) - 0) = 0 := by omega
  have c4 : ((m : Int) - 0) = m := by omega
  have c5 : ((0 : Int) ≤ m) = True := eq_true (by omega)
  rcases Nat.eq_zero_or_pos m with h | h
  · have d1 : (0 < (m : Int)) = False := eq_false (by omega)
    simp (maxSteps := 9999999) -implicitDefEqProofs only [go_sem, mwp_draw, c1, c2, c3, c4, c5, d1, List.length_replicate]
    repeat (refine ⟨by first | omega | decide | exact fits64 (by omega) (by omega) | kernel_rfl | (intros; omega), ?_⟩)
    rfl
  · have d1 : (0 < (m : Int)) = True := eq_true (by omega)
    simp (maxSteps := 9999999) -implicitDefEqProofs only [go_sem, mwp_draw, c1, c2, c3, c4, c5, d1, List.length_replicate]
    repeat (refine ⟨by first | omega | decide | exact fits64 (by omega) (by omega) | kernel_rfl | (intros; omega), ?_⟩)
    rfl
theorem flat_step {l : List (List E)} {i : Nat} {x : List E} (hx : l[i]? = some x) : (l.take (i + 1)).flatten = (l.take i).flatten ++ x := by rw [take_snoc hx]; simp
theorem flat_le {l : List (List E)} (h : ∀ x ∈ l, x.length ≤ 1000) : l.flatten.length ≤ 1000 * l.length := by
  induction l with
  | nil => simp
  | cons x r ih =>
    have := h x (by simp)
    have := ih fun y hy => h y (by simp [hy])
    rw [List.flatten_cons, List.length_append, List.length_cons]; omega
theorem Concat_is (t : Bool) (l : List (List E)) (h1 : l.length ≤ 100) (h2 : ∀ x ∈ l, x.length ≤ 1000) :
    Is prog fid_slices_Concat_impl_Edge_impl_Edge [.s t 1 (encF l)] (.ow true 2 (encE l.flatten)) := by
  refine MCall.run mixed get_slices_Concat_impl_Edge_impl_Edge ok_slices_Concat_impl_Edge_impl_Edge (Nat.le_of_ble_eq_true rfl) (by decide) ?_
  unfold mc_slices_Concat_impl_Edge_impl_Edge
  have part : ∀ i, (l.take i).flatten.length ≤ 100000 := fun i => by
    have := flat_le (l := l.take i) (fun x hx => h2 x (List.mem_of_mem_take hx))
    have : (l.take i).length ≤ l.length := by simp; omega
    omega
  simp (maxSteps := 9999999) -implicitDefEqProofs only [go_sem, mwp_draw]
  refine mwp_loopk (X := Nat) (fun i => ⟨[(0, .s t 1 (encF l)), (3, .i .i64 (l.take i).flatten.length), (9, .s t 1 (encF l)), (10, .i .i64 l.length), (11, .i .i64 i)], [], 0⟩)
    (fun i => i ≤ l.length) (fun i => l.length - i) 0 (by kernel_rfl) (Nat.zero_le _) ?_
  rintro i hi K kN kE kR
  by_cases q : i < l.length
  · obtain ⟨x, hx⟩ : ∃ x, l[i]? = some x := ⟨_, List.getElem?_eq_getElem q⟩
    have gx := goneF hx
    have e := flat_step hx
    have p := part (i + 1)
    have c1 : ((i : Int) < l.length) = True := eq_true (by omega)
    have c2 : (i < l.length) = True := eq_true q
    have c3 : (0 ≤ (i : Int)) = True := eq_true (by omega)
    have c4 : ((((l.take i).flatten.length : Int) + x.length) < 0) = False := eq_false (by omega)
    simp (maxSteps := 9999999) -implicitDefEqProofs only [go_sem, mwp_draw, c1, c2, c3, c4, ↓gx]
    repeat (refine ⟨by first | omega | decide | exact fits64 (by omega) (by omega) | kernel_rfl | (intros; omega), ?_⟩)
    rw [e, List.length_append] at p
    have e2 : (((l.take i).flatten.length : Int) + x.length) = ((l.take (i + 1)).flatten.length : Nat) := by rw [e, List.length_append]; omega
    rw [e2]
    exact ⟨fits64 (by omega) (by omega), fits64 (by omega) (by omega), kN _ (i + 1) (by kernel_rfl) (by omega) (by omega)⟩
  · have c1 : ((i : Int) < l.length) = False := eq_false (by omega)
    simp (maxSteps := 9999999) -implicitDefEqProofs only [go_sem, mwp_draw, c1]
    refine kE _ _ ?_
    clear kN kE kR
    obtain rfl : i = l.length := by omega
    rw [List.take_length]
    simp (maxSteps := 9999999) -implicitDefEqProofs only [go_sem, mwp_draw]
    refine callK_is (Grow_is _ (by have := part l.length; rw [List.take_length] at this; omega)) ?_
    simp (maxSteps := 9999999) -implicitDefEqProofs only [go_sem, mwp_draw]
    refine mwp_loopk (X := Nat) (fun i => match i with
        | 0 => ⟨[(6, .sr 0 0 0), (25, .s t 1 (encF l)), (26, .i .i64 l.length), (27, .i .i64 0)], [(0, .arr true 2 (encE []))], 1⟩
        | i + 1 => ⟨[(6, .sr 0 0 (l.take (i + 1)).flatten.length), (25, .s t 1 (encF l)), (26, .i .i64 l.length), (27, .i .i64 (i + 1 : Nat))], [(0, .arr t 2 (encE (l.take (i + 1)).flatten))], 1⟩)
      (fun i => i ≤ l.length) (fun i => l.length - i) 0 (by kernel_rfl) (Nat.zero_le _) ?_
    rintro i hi K kN kE kR
    by_cases q : i < l.length
    · obtain ⟨x, hx⟩ : ∃ x, l[i]? = some x := ⟨_, List.getElem?_eq_getElem q⟩
      have gx := goneF hx
      have e := flat_step hx
      have p := part (i + 1)
      have c1 : ((i : Int) < l.length) = True := eq_true (by omega)
      have c2 : (i < l.length) = True := eq_true q
      have c3 : (0 ≤ (i : Int)) = True := eq_true (by omega)
      cases i with
      | zero =>
        have xl : x.length ≤ 1000 := h2 x (List.mem_of_getElem? hx)
        have d1 : ((0 : Int) < l.length) = True := eq_true (by omega)
        simp (maxSteps := 9999999) -implicitDefEqProofs only [go_sem, mwp_draw, d1, c2, c3, ↓gx]
        repeat (refine ⟨by first | omega | decide | exact fits64 (by omega) (by omega) | kernel_rfl | (intros; omega), ?_⟩)
        have e' : (l.take (0 + 1)).flatten = x := by rw [e]; simp
        refine kN _ (0 + 1) ?_ (by omega) (by omega)
        dsimp only
        rw [e']
        kernel_rfl
      | succ i =>
        simp (maxSteps := 9999999) -implicitDefEqProofs only [go_sem, mwp_draw, c1, c2, c3, ↓gx]
        rw [← List.length_append, ← e, Bool.and_self]
        repeat (refine ⟨by first | omega | decide | exact fits64 (by omega) (by omega) | kernel_rfl | (intros; omega), ?_⟩)
        exact kN _ (i + 1 + 1) (by kernel_rfl) (by omega) (by omega)
    · have c1 : ((i : Int) < l.length) = False := eq_false (by omega)
      cases i with
      | zero =>
        have d1 : ((0 : Int) < l.length) = False := eq_false (by omega)
        have e : l = [] := List.length_eq_zero_iff.1 (by omega)
        simp (maxSteps := 9999999) -implicitDefEqProofs only [go_sem, mwp_draw, d1]
        refine kE _ _ ?_
        simp (maxSteps := 9999999) -implicitDefEqProofs only [go_sem, mwp_draw]
        rw [e]; rfl
      | succ i =>
        simp (maxSteps := 9999999) -implicitDefEqProofs only [go_sem, mwp_draw, c1]
        refine kE _ _ ?_
        have e : l.take (i + 1) = l := List.take_of_length_le (by omega)
        rw [e]
        simp (maxSteps := 9999999) -implicitDefEqProofs only [go_sem, mwp_draw]
        all_goals first | done | omega | rfl
theorem CertificateOf_is (t : Bool) (n : Int) (es : List E) (k : Int) (hl : es.length ≤ 1048576) :
    Is prog fid_impl_CertificateOf [Gr t n es, .i .i64 k] (.tup [.agg [.i .i64 (ceN n es k), .ow true 2 (encE (ceV n es k))], .b (fsB n es k)]) := by
  refine MCall.run mixed get_impl_CertificateOf ok_impl_CertificateOf (Nat.le_of_ble_eq_true rfl) (by decide) ?_
  unfold mc_impl_CertificateOf
  simp (maxSteps := 9999999) -implicitDefEqProofs only [go_sem, mwp_draw]
  refine callK_is (ForestsOf_is _ n es k hl) ?_
  cases q : fsB n es k
  · simp (maxSteps := 9999999) -implicitDefEqProofs only [go_sem, mwp_draw]
    simp [ceV, ceN, q, encE]
  · have q' := q
    simp only [fsB, Bool.and_eq_true, decide_eq_true_eq] at q'
    have hgv := q'.1.1
    have hv : fsV n es k = frs n k.toNat es := by simp [fsV, q]
    have hc : ceV n es k = cer n k.toNat es := by simp [ceV, q]
    have hn : ceN n es k = n := by simp [ceN, q]
    have hel := (gvB_iff.1 hgv).2.2.1
    rw [hv, hc, hn]
    have fl1 : (frs n k.toNat es).length = k.toNat := frs_length
    have fl2 : ∀ x ∈ frs n k.toNat es, x.length ≤ 1000 := fun x hx => by
      obtain ⟨i, hi⟩ := List.getElem?_of_mem hx
      have hil : i < k.toNat := by have := (List.getElem?_eq_some_iff.1 hi).1; rwa [frs_length] at this
      rw [frs_get hil] at hi
      cases hi
      have a := forest_len (n := n) (es := rsts n i es)
      have b := rsts_len (n := n) (es := es) (k := i)
      omega
    have hp := cer_perm (n := n) hgv (k := k.toNat)
    have hs := cer_sorted (n := n) hgv (k := k.toNat)
    have hl2 : ((frs n k.toNat es).flatten).length ≤ 1048576 := by rw [hp.length_eq]; have := wo_len (es := es) (f := rsts n k.toNat es); unfold cer; omega
    generalize frs n k.toNat es = L at *
    generalize cer n k.toNat es = C at *
    simp (maxSteps := 9999999) -implicitDefEqProofs only [go_sem, mwp_draw]
    refine callK_is (Concat_is _ L (by omega) fl2) ?_
    simp (maxSteps := 9999999) -implicitDefEqProofs only [go_sem, mwp_draw]
    refine callK_det (SortFunc_is _ L.flatten C hp.symm hs hl2) ?_
    have cl := hp.length_eq
    simp (maxSteps := 9999999) -implicitDefEqProofs only [go_sem, mwp_draw, cl]
def pts (l : List E) : List E := l.foldl putS []
theorem pts_snoc (l : List E) (e : E) : pts (l ++ [e]) = putS (pts l) e := by simp [pts]
theorem mem_putS {es : List E} {e x : E} : x ∈ putS es e ↔ x = e ∨ x ∈ es := by
  induction es with
  | nil => simp [putS]
  | cons y r ih =>
    unfold putS
    split
    · simp
    · simp only [List.mem_cons, ih]
      constructor
      · rintro (h | h | h)
        · exact .inr (.inl h)
        · exact .inl h
        · exact .inr (.inr h)
      · rintro (h | h | h)
        · exact .inr (.inl h)
        · exact .inl h
        · exact .inr (.inr h)
theorem fold_length (l : List E) : ∀ acc : List E, (l.foldl putS acc).length = acc.length + l.length := by
  induction l with
  | nil => simp
  | cons e l ih => intro acc; rw [List.foldl_cons, ih, putS_length, List.length_cons]; omega
theorem fold_mem (l : List E) {x : E} : ∀ acc : List E, x ∈ l.foldl putS acc ↔ x ∈ l ∨ x ∈ acc := by
  induction l with
  | nil => simp
  | cons e l ih =>
    intro acc
    rw [List.foldl_cons, ih, mem_putS, List.mem_cons]
    constructor
    · rintro (h | h | h)
      · exact .inl (.inr h)
      · exact .inl (.inl h)
      · exact .inr h
    · rintro ((h | h) | h)
      · exact .inr (.inl h)
      · exact .inl h
      · exact .inr (.inr h)
theorem fold_sorted (l : List E) : ∀ acc : List E, acc.Pairwise eLt → (∀ x ∈ l, x ∉ acc) → l.Nodup → (l.foldl putS acc).Pairwise eLt := by
  induction l with
  | nil => intro acc h _ _; simpa using h
  | cons e l ih =>
    intro acc h1 h2 h3
    rw [List.nodup_cons] at h3
    rw [List.foldl_cons]
    refine ih _ ?_ (fun x hx m => ?_) h3.2
    · rw [putS_eq h1 (h2 e (by simp))]; exact putE_sorted h1 (h2 e (by simp))
    · rcases mem_putS.1 m with rfl | m
      · exact h3.1 hx
      · exact h2 x (by simp [hx]) m
theorem pts_length (l : List E) : (pts l).length = l.length := by rw [pts, fold_length]; simp
theorem mem_pts (l : List E) {x : E} : x ∈ pts l ↔ x ∈ l := by rw [pts, fold_mem]; simp
theorem pts_sorted (l : List E) (h : l.Nodup) : (pts l).Pairwise eLt := fold_sorted l [] List.Pairwise.nil (by simp) h
theorem pts_is {l m : List E} (hp : l.Perm m) (hs : m.Pairwise eLt) : pts l = m := by
  have nd : m.Nodup := List.nodup_iff_pairwise_ne.2 (hs.imp fun {a b} hab (e : a = b) => eLt_irrefl a (by rw [← e] at hab; exact hab))
  exact sorted_ext (pts_sorted l (hp.nodup_iff.2 nd)) hs fun x => by rw [mem_pts]; exact hp.mem_iff
theorem goneC {α : Type} {l : List α} {i : Nat} {x : α} (hx : l[i]? = some x) : ∀ P : α → Prop, (∀ z, l[i]? = some z → P z) ↔ P x := goneF hx
theorem CertificateOfS_is (t : Bool) (n : Int) (es : List E) (k : Int) (hl : es.length ≤ 1048576) :
    Is prog fid_spec_CertificateOf [Gr t n es, .i .i64 k] (.tup [.agg [.i .i64 (ceN n es k), .ow true 2 (encE (ceV n es k))], .b (fsB n es k)]) := by
  refine MCall.run mixed get_spec_CertificateOf ok_spec_CertificateOf (Nat.le_of_ble_eq_true rfl) (by decide) ?_
  unfold mc_spec_CertificateOf
  simp (maxSteps := 9999999) -implicitDefEqProofs only [go_sem, mwp_draw]
  refine callK_is (ForestsOfS_is _ n es k hl) ?_
  cases q : fsB n es k
  · simp (maxSteps := 9999999) -implicitDefEqProofs only [go_sem, mwp_draw]
    simp [ceV, ceN, q, encE]
  · have q' := q
    simp only [fsB, Bool.and_eq_true, decide_eq_true_eq] at q'
    have hgv := q'.1.1
    have hv : fsV n es k = frs n k.toNat es := by simp [fsV, q]
    have hc : ceV n es k = cer n k.toNat es := by simp [ceV, q]
    have hn : ceN n es k = n := by simp [ceN, q]
    have hel := (gvB_iff.1 hgv).2.2.1
    rw [hv, hc, hn]
    have fl1 : (frs n k.toNat es).length = k.toNat := frs_length
    have fl2 : ∀ x ∈ frs n k.toNat es, x.length ≤ 1000 := fun x hx => by
      obtain ⟨i, hi⟩ := List.getElem?_of_mem hx
      have hil : i < k.toNat := by have := (List.getElem?_eq_some_iff.1 hi).1; rwa [frs_length] at this
      rw [frs_get hil] at hi
      cases hi
      have a := forest_len (n := n) (es := rsts n i es)
      have b := rsts_len (n := n) (es := es) (k := i)
      omega
    have hp := cer_perm (n := n) hgv (k := k.toNat)
    have hs := cer_sorted (n := n) hgv (k := k.toNat)
    have hkl : k.toNat ≤ 40 := by omega
    generalize frs n k.toNat es = L at *
    have hend := pts_is hp hs
    generalize cer n k.toNat es = C at *
    have part : ∀ i, (L.take i).flatten.length ≤ 100000 := fun i => by
      have := flat_le (l := L.take i) (fun x hx => fl2 x (List.mem_of_mem_take hx))
      have : (L.take i).length ≤ L.length := by simp; omega
      omega
    simp (maxSteps := 9999999) -implicitDefEqProofs only [go_sem, mwp_draw]
    refine mwp_loopk (X := Nat) (fun i => ⟨[(4, .pr 0 0 0), (6, .sr 1 0 L.length), (8, .pr 2 0 0), (9, .i .i64 i)],
        [(0, .box [.i .i64 0, .nl 2]), (1, .arr false 1 (encF L)), (2, .box [.i .i64 n, .sr 3 0 (pts (L.take i).flatten).length]), (3, .arr true 2 (encE (pts (L.take i).flatten)))], 4⟩)
      (fun i => i ≤ L.length) (fun i => L.length - i) 0 (by kernel_rfl) (Nat.zero_le _) ?_
    rintro i hi K kN kE kR
    by_cases q : i < L.length
    · obtain ⟨x, hx⟩ : ∃ x, L[i]? = some x := ⟨_, List.getElem?_eq_getElem q⟩
      have gx := goneF hx
      have e := flat_step hx
      have p := part (i + 1)
      have xl : x.length ≤ 1000 := fl2 x (List.mem_of_getElem? hx)
      rw [e, List.length_append] at p
      have c1 : ((i : Int) < L.length) = True := eq_true (by omega)
      have c2 : (i < L.length) = True := eq_true q
      have c3 : (0 ≤ (i : Int)) = True := eq_true (by omega)
      simp (maxSteps := 9999999) -implicitDefEqProofs only [go_sem, mwp_draw, c1, c2, c3, ↓gx]
      refine mwp_loopk (X := Nat) (fun j => ⟨[(4, .pr 0 0 0), (6, .sr 1 0 L.length), (8, .pr 2 0 0), (9, .i .i64 i), (10, .i .i64 j)],
          [(0, .box [.i .i64 0, .nl 2]), (1, .arr false 1 (encF L)), (2, .box [.i .i64 n, .sr 3 0 (pts ((L.take i).flatten ++ x.take j)).length]), (3, .arr true 2 (encE (pts ((L.take i).flatten ++ x.take j))))], 4⟩)
        (fun j => j ≤ x.length) (fun j => x.length - j) 0 (by rw [List.take_zero, List.append_nil]; kernel_rfl) (Nat.zero_le _) ?_
      rintro j hj K2 kN2 kE2 kR2
      by_cases q2 : j < x.length
      · obtain ⟨y, hy⟩ : ∃ y, x[j]? = some y := ⟨_, List.getElem?_eq_getElem q2⟩
        have gy := goneF hy
        have d1 : ((j : Int) < x.length) = True := eq_true (by omega)
        have d2 : (j < x.length) = True := eq_true q2
        have d3 : (0 ≤ (j : Int)) = True := eq_true (by omega)
        have pl := pts_length ((L.take i).flatten ++ x.take j)
        have pl2 : ((L.take i).flatten ++ x.take j).length ≤ 200000 := by rw [List.length_append, List.length_take]; omega
        simp (maxSteps := 9999999) -implicitDefEqProofs only [go_sem, mwp_draw, c1, c2, c3, d1, d2, d3, ↓gx, ↓gy]
        refine callK_is (l1Put_is _ _ y (by omega)) ?_
        have e3 : putS (pts ((L.take i).flatten ++ x.take j)) y = pts ((L.take i).flatten ++ x.take (j + 1)) := by rw [← pts_snoc, List.append_assoc, ← take_snoc hy]
        rw [e3]
        simp (maxSteps := 9999999) -implicitDefEqProofs only [go_sem, mwp_draw, c1, c2, c3, d1, d2, d3]
        repeat (refine ⟨by first | omega | decide | exact fits64 (by omega) (by omega) | kernel_rfl | (intros; omega), ?_⟩)
        exact kN2 _ (j + 1) (by kernel_rfl) (by omega) (by omega)
      · have d1 : ((j : Int) < x.length) = False := eq_false (by omega)
        simp (maxSteps := 9999999) -implicitDefEqProofs only [go_sem, mwp_draw, c1, c2, c3, d1, ↓gx]
        refine kE2 _ _ ?_
        have e4 : x.take j = x := List.take_of_length_le (by omega)
        rw [e4, ← e]
        simp (maxSteps := 9999999) -implicitDefEqProofs only [go_sem, mwp_draw]
        repeat (refine ⟨by first | omega | decide | exact fits64 (by omega) (by omega) | kernel_rfl | (intros; omega), ?_⟩)
        exact kN _ (i + 1) (by kernel_rfl) (by omega) (by omega)
    · have c1 : ((i : Int) < L.length) = False := eq_false (by omega)
      have e : L.take i = L := List.take_of_length_le (by omega)
      simp (maxSteps := 9999999) -implicitDefEqProofs only [go_sem, mwp_draw, c1]
      refine kE _ _ ?_
      rw [e, hend]
      simp (maxSteps := 9999999) -implicitDefEqProofs only [go_sem, mwp_draw]
      all_goals trace_state
end Go.Fw
