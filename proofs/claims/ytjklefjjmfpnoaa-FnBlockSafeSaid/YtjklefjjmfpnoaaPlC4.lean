/-
  Chains are counted; in a safe graph they are ears. No program in sight.
-/
import Derived.Test.YtjklefjjmfpnoaaPlC3
namespace Go.Pl
set_option linter.unusedVariables false
set_option linter.unusedSimpArgs false
section
variable {n : Int} {es : List Ed} {s : Sr}

/-! The edges of the forest of the search. -/
def trP (s : Sr) (w : Int) : Bool := decide (0 ≤ nth s.par w)
def trL (n : Int) (s : Sr) (i : Nat) : List Ed := (((ordL n s).take i).filter (trP s)).map (teE s)
theorem trL_next {i : Nat} {u : Int} (hu : (ordL n s)[i]? = some u) : trL n s (i + 1) = trL n s i ++ if trP s u then [teE s u] else [] := by
  unfold trL
  rw [take_snoc hu, List.filter_append, List.map_append]
  cases q : trP s u <;> simp [q]
theorem NF.ord_take (h : NF n es s) {i : Nat} {w : Int} (hw : w ∈ (ordL n s).take i) : 0 ≤ w ∧ w < n ∧ nth s.num w ≤ i := by
  obtain ⟨j, hj⟩ := List.mem_iff_getElem?.1 hw
  have lj := (List.getElem?_eq_some_iff.1 hj).1
  have ol := h.ord_len
  rw [List.length_take] at lj
  rw [List.getElem?_take_of_lt (by omega)] at hj
  obtain ⟨x, hx, x0, x1, xn⟩ := h.ord_at (i := j) (by omega)
  rw [hj] at hx; cases hx
  exact ⟨x0, x1, by omega⟩
theorem NF.mem_trL (h : NF n es s) {i : Nat} {e : Ed} (he : e ∈ trL n s i) : ∃ w, 0 ≤ w ∧ w < n ∧ nth s.num w ≤ i ∧ 0 ≤ nth s.par w ∧ teE s w = e := by
  unfold trL at he
  obtain ⟨w, hw, rfl⟩ := List.mem_map.1 he
  obtain ⟨h1, h2⟩ := List.mem_filter.1 hw
  have := h.ord_take h1
  exact ⟨w, this.1, this.2.1, this.2.2, of_decide_eq_true h2, rfl⟩
theorem NF.trL_all (h : NF n es s) {w : Int} (w0 : 0 ≤ w) (w1 : w < n) (hp : 0 ≤ nth s.par w) : teE s w ∈ trL n s n.toNat := by
  unfold trL
  rw [List.take_of_length_le (by rw [h.ord_len]; exact Nat.le_refl _)]
  exact List.mem_map.2 ⟨w, List.mem_filter.2 ⟨h.mem_ord.2 ⟨w0, w1⟩, decide_eq_true hp⟩, rfl⟩
theorem NF.te_ein (h : NF n es s) (hE : ∀ e ∈ es, EIn n e) {i : Nat} {e : Ed} (he : e ∈ trL n s i) : EIn n e := by
  obtain ⟨w, w0, w1, _, wp, rfl⟩ := h.mem_trL he
  exact hE _ (h.te_mem hE w0 w1 wp)
theorem rch_alone {L : List Ed} {x y : Int} (hx : ∀ z, ¬ Adj L x z) (r : Rch L x y) : y = x := by
  induction r with
  | refl => rfl
  | step r k ih => subst ih; exact absurd k (hx _)
theorem NF.tr_acy (h : NF n es s) (hn : 0 ≤ n) (hE : ∀ e ∈ es, EIn n e) : ∀ i : Nat, i ≤ n.toNat → Acy n (trL n s i)
  | 0, _ => Acy.nil
  | i + 1, hi => by
    have ih := h.tr_acy hn hE i (by omega)
    obtain ⟨u, hu, u0, u1, un⟩ := h.ord_at (i := i) (by omega)
    rw [trL_next hu]
    cases q : trP s u with
    | false => simpa using ih
    | true =>
      have hp : 0 ≤ nth s.par u := of_decide_eq_true q
      have p := h.up_par u0 u1 hp
      have hT : ∀ d ∈ trL n s i, EIn n d := fun d hd => h.te_ein hE hd
      have he : EIn n (teE s u) := hE _ (h.te_mem hE u0 u1 hp)
      have al : ∀ z, ¬ Adj (trL n s i) u z := fun z k => by
        have go : ∀ e ∈ trL n s i, e.1 ≠ u ∧ e.2 ≠ u := fun e he => by
          obtain ⟨w, w0, w1, wn, wp, rfl⟩ := h.mem_trL he
          have pw := h.up_par w0 w1 wp
          have nw : w ≠ u := fun e => by subst e; omega
          have np : nth s.par w ≠ u := fun e => by rw [e] at pw; omega
          unfold teE edn
          simp only
          constructor <;> intro e <;> omega
        rcases k with k | k
        · exact (go _ k).1 rfl
        · exact (go _ k).2 rfl
      have nr : ¬ Rch (trL n s i) (teE s u).1 (teE s u).2 := fun r => by
        have r' := rch_alone al (rch_edn.1 r)
        rw [r'] at p; omega
      have a := acy_cons hT he ih nr
      refine acy_mem hn (es := teE s u :: trL n s i) (fun d hd => ?_) (fun d => by simp [or_comm]) (by simp) a
      rcases List.mem_cons.1 hd with rfl | hd
      · exact he
      · exact hT d hd
theorem NF.tr_rch (h : NF n es s) (hE : ∀ e ∈ es, EIn n e) {x y : Int} : Rch (trL n s n.toNat) x y ↔ Rch es x y := by
  constructor
  · refine Rch.mono fun e he => ?_
    obtain ⟨w, w0, w1, _, wp, rfl⟩ := h.mem_trL he
    exact h.te_mem hE w0 w1 wp
  · refine Rch.of_adj fun e he => ?_
    rcases h.cls hE he with ⟨b, hb, rfl⟩ | ⟨x, x0, x1, xp, rfl⟩
    · obtain ⟨_, b2, ba, bn⟩ := h.back_ok hE hb
      exact rch_edn.2 (h.path ba b2.1 b2.2 fun w w0 w1 r1 n1 r2 => h.trL_all w0 w1 (r1.step n1).1)
    · exact rch_edn.2 (.one (adj_edn (h.trL_all x0 x1 xp)))
theorem NF.tr_len (h : NF n es s) (hn : 0 ≤ n) (hE : ∀ e ∈ es, EIn n e) : (trL n s n.toNat).length = (forest n es).length := by
  have a := h.tr_acy hn hE n.toNat (Nat.le_refl _)
  have b := forest_pc hn hE
  have c := pc_congr (es := trL n s n.toNat) (fs := es) hn (fun d hd => h.te_ein hE hd) hE (fun x y => h.tr_rch hE)
  unfold Acy at a
  omega
theorem sorted_nodup {es : List Ed} (hs : es.Pairwise eLt) : es.Nodup := by
  rw [List.nodup_iff_pairwise_ne]
  refine hs.imp fun {a b} k e => ?_
  subst e; unfold eLt at k; omega
/-- There are as many edges that lead back as edges beyond a forest. -/
theorem NF.count_all (h : NF n es s) (hn : 0 ≤ n) (hE : ∀ e ∈ es, EIn n e) (hs : es.Pairwise eLt) : (backL n es s).length + (forest n es).length = es.length := by
  rw [← h.tr_len hn hE]
  have nb : ((backL n es s).map fun b => edn b.1 b.2).Nodup := by
    rw [List.nodup_iff_pairwise_ne, List.pairwise_map]
    exact (List.nodup_iff_pairwise_ne.1 (h.back_nodup hE hs)).imp_of_mem fun {a b} ha hb ne e => ne (h.be_inj hE ha hb e)
  have nt : (trL n s n.toNat).Nodup := by
    unfold trL
    rw [List.nodup_iff_pairwise_ne, List.pairwise_map]
    refine ((h.ord_sorted.sublist (List.take_sublist _ _)).filter _).imp_of_mem fun {a b} ha hb lt e => ?_
    obtain ⟨a1, a2⟩ := List.mem_filter.1 ha
    obtain ⟨b1, b2⟩ := List.mem_filter.1 hb
    have ra := h.ord_take a1
    have rb := h.ord_take b1
    have := h.te_inj ra.1 ra.2.1 (of_decide_eq_true a2) rb.1 rb.2.1 (of_decide_eq_true b2) e
    subst this; omega
  have nz : (((backL n es s).map fun b => edn b.1 b.2) ++ trL n s n.toNat).Nodup := by
    rw [List.nodup_append]
    refine ⟨nb, nt, fun x hx y hy e => ?_⟩
    subst e
    obtain ⟨b, hb, rfl⟩ := List.mem_map.1 hx
    obtain ⟨w, w0, w1, _, wp, e⟩ := h.mem_trL hy
    exact h.be_te hE hb w0 w1 wp e.symm
  have l1 := nz.length_le_of_subset (l₂ := es) fun x hx => by
    rcases List.mem_append.1 hx with hx | hx
    · obtain ⟨b, hb, rfl⟩ := List.mem_map.1 hx
      exact h.be_mem hE hb
    · obtain ⟨w, w0, w1, _, wp, rfl⟩ := h.mem_trL hx
      exact h.te_mem hE w0 w1 wp
  have l2 := (sorted_nodup hs).length_le_of_subset (l₂ := ((backL n es s).map fun b => edn b.1 b.2) ++ trL n s n.toNat) fun x hx => by
    rw [List.mem_append]
    rcases h.cls hE hx with ⟨b, hb, rfl⟩ | ⟨w, w0, w1, wp, rfl⟩
    · exact .inl (List.mem_map.2 ⟨b, hb, rfl⟩)
    · exact .inr (h.trL_all w0 w1 wp)
  rw [List.length_append, List.length_map] at l1 l2
  omega

/-! Connected graphs: one root. Safe graphs: each other node is below an edge that leads back. -/
theorem NF.root_one (h : NF n es s) (hE : ∀ e ∈ es, EIn n e) (hn : 1 ≤ n) (hc : ∀ x y, 0 ≤ x → x < n → 0 ≤ y → y < n → Rch es x y) {x : Int} (x0 : 0 ≤ x) (x1 : x < n) (hp : nth s.par x < 0) : nth s.num x = 1 := by
  obtain ⟨r, r0, r1, rn⟩ := h.sur 1 (Int.le_refl _) hn
  have cl : ∀ y, Rch es x y → Anc s x y ∧ 0 ≤ y ∧ y < n := fun y k => by
    induction k with
    | refl => exact ⟨.refl, x0, x1⟩
    | @step y z k a ih =>
      obtain ⟨ih, y0, y1⟩ := ih
      have rz := nbr_rng hE a
      refine ⟨?_, rz.2.2.1, rz.2.2.2.1⟩
      rcases h.cmp _ _ a with q | q
      · exact ih.trans q
      · rcases ih.two q with k1 | k1
        · exact k1
        · by_cases e : z = x
          · subst e; exact .refl
          · have := (k1.step e).1; omega
  have a := (cl r (hc x r x0 x1 r0 r1)).1
  have := h.le a r0 r1
  have := h.num x x0 x1
  omega
structure Safe (n : Int) (es : List Ed) (s : Sr) : Prop where
  one : ∀ x, 0 ≤ x → x < n → nth s.par x < 0 → nth s.num x = 1
  cov : ∀ x, 0 ≤ x → x < n → 0 ≤ nth s.par x → Cov s (backL n es s) x
theorem NF.safe (h : NF n es s) (hE : ∀ e ∈ es, EIn n e) (hn : 1 ≤ n) (hc : ∀ x y, 0 ≤ x → x < n → 0 ≤ y → y < n → Rch es x y) (hb : ∀ e ∈ es, Rch (butE es e) e.1 e.2) : Safe n es s := by
  refine ⟨fun x x0 x1 hp => h.root_one hE hn hc x0 x1 hp, fun x x0 x1 hp => (h.tree_bridge hE x0 x1 hp).1 ?_⟩
  exact (rch_edn.1 (hb _ (h.te_mem hE x0 x1 hp))).symm
/-- The first edge that leads back begins at the root. -/
theorem NF.first (h : NF n es s) (hE : ∀ e ∈ es, EIn n e) (hS : Safe n es s) {b : Ed} (hb : (backL n es s)[0]? = some b) : nth s.num b.1 = 1 := by
  have hm := List.mem_of_getElem? hb
  obtain ⟨b1, b2, ba, bn⟩ := h.back_ok hE hm
  -- the root has a child: the highest node but the root above `b.2`
  have n2 := h.lt ba b2.1 b2.2 bn
  have hn2 := h.num b.1 b1.1 b1.2
  have hn3 := h.num b.2 b2.1 b2.2
  obtain ⟨w, w0, w1, wn⟩ := h.sur 2 (by omega) (by omega)
  have wp : 0 ≤ nth s.par w := Classical.byContradiction fun q => by
    have := hS.one w w0 w1 (by omega); omega
  obtain ⟨c, hc, ca, cn, cb⟩ := hS.cov w w0 w1 wp
  have lt := h.lt ca w0 w1 cn
  have c1 := (h.back_ok hE hc).1
  have hnc := h.num c.1 c1.1 c1.2
  obtain ⟨j, hj⟩ := List.mem_iff_getElem?.1 hc
  obtain ⟨lj, ej⟩ := List.getElem?_eq_some_iff.1 hj
  obtain ⟨l0, e0⟩ := List.getElem?_eq_some_iff.1 hb
  by_cases q : j = 0
  · subst q; rw [hb] at hj; cases hj; omega
  · have := List.pairwise_iff_getElem.1 h.back_sorted 0 j l0 lj (by omega)
    rw [e0, ej] at this; omega
/-- In a safe graph the ends of a chain but the first are marked. -/
theorem NF.ears (h : NF n es s) (hE : ∀ e ∈ es, EIn n e) (hS : Safe n es s) {i : Nat} (hi : 0 < i) {b : Ed} (hb : (backL n es s)[i]? = some b) : Mk s ((backL n es s).take i) b.1 := by
  have hm := List.mem_of_getElem? hb
  obtain ⟨b1, b2, ba, bn⟩ := h.back_ok hE hm
  have li := (List.getElem?_eq_some_iff.1 hb).1
  by_cases q : 0 ≤ nth s.par b.1
  · obtain ⟨c, hc, ca, cn, cb⟩ := hS.cov b.1 b1.1 b1.2 q
    exact .inl ⟨c, h.ahead hb hc (h.lt ca b1.1 b1.2 cn), ca, cn, cb⟩
  · have e1 := hS.one b.1 b1.1 b1.2 (by omega)
    obtain ⟨d, hd⟩ : ∃ d, (backL n es s)[0]? = some d := ⟨_, List.getElem?_eq_getElem (by omega)⟩
    have d1 := (h.back_ok hE (List.mem_of_getElem? hd)).1
    have f := h.first hE hS hd
    exact .inr ⟨d, List.mem_of_getElem? (i := 0) (by rw [List.getElem?_take_of_lt hi]; exact hd), h.inj _ _ d1.1 d1.2 b1.1 b1.2 (by omega)⟩
/-- What is marked lies on a chain ahead. -/
theorem NF.mk_seen (h : NF n es s) (hE : ∀ e ∈ es, EIn n e) {i : Nat} (hi : i ≤ (backL n es s).length) {x : Int} (m : Mk s ((backL n es s).take i) x) : x ∈ ((chainsL n es s).take i).flatten := by
  obtain ⟨cl, ch⟩ := h.chains hE
  have go : ∀ j c, j < i → (chainsL n es s)[j]? = some c → x ∈ c → x ∈ ((chainsL n es s).take i).flatten := fun j c hj hc hx =>
    List.mem_flatten.2 ⟨c, List.mem_of_getElem? (i := j) (by rw [List.getElem?_take_of_lt hj]; exact hc), hx⟩
  rcases m with m | ⟨b, hb, rfl⟩
  · obtain ⟨j, b, ws, e, hj, _, hc, _, hx⟩ := h.walked hE i hi m
    exact go j _ hj hc (by simp [hx])
  · obtain ⟨j, hj⟩ := List.mem_iff_getElem?.1 hb
    have lj := (List.getElem?_eq_some_iff.1 hj).1
    rw [List.length_take] at lj
    rw [List.getElem?_take_of_lt (by omega)] at hj
    obtain ⟨ws, e, h1, _⟩ := ch j b hj
    exact go j _ (by omega) h1 (by simp)
theorem NF.ears_ok (h : NF n es s) (hE : ∀ e ∈ es, EIn n e) (hS : Safe n es s) {i : Nat} (hi : 0 < i) {c : List Int} (hc : (chainsL n es s)[i]? = some c) :
    (∀ x, c[0]? = some x → x ∈ ((chainsL n es s).take i).flatten) ∧ ∀ x, c[c.length - 1]? = some x → x ∈ ((chainsL n es s).take i).flatten := by
  obtain ⟨cl, ch⟩ := h.chains hE
  have li := (List.getElem?_eq_some_iff.1 hc).1
  obtain ⟨b, hb⟩ : ∃ b, (backL n es s)[i]? = some b := ⟨_, List.getElem?_eq_getElem (by omega)⟩
  obtain ⟨ws, e, h1, h2⟩ := ch i b hb
  rw [hc] at h1; cases h1
  have m1 := h.mk_seen hE (by omega) (h.ears hE hS hi hb)
  refine ⟨fun x hx => ?_, fun x hx => ?_⟩
  · simp only [List.getElem?_cons_zero, Option.some.injEq] at hx
    subst hx; exact m1
  · have : (b.1 :: (ws ++ [e]))[(b.1 :: (ws ++ [e])).length - 1]? = some e := by simp
    rw [this] at hx; cases hx
    rcases h2.mkd with m | m
    · exact h.mk_seen hE (by omega) m
    · rw [m]; exact m1
theorem NF.ears_all (h : NF n es s) (hE : ∀ e ∈ es, EIn n e) (hS : Safe n es s) (hn : 1 < n) {x : Int} (x0 : 0 ≤ x) (x1 : x < n) : x ∈ (chainsL n es s).flatten := by
  obtain ⟨cl, ch⟩ := h.chains hE
  have go : ∀ y, Mk s (backL n es s) y → y ∈ (chainsL n es s).flatten := fun y m => by
    have := h.mk_seen hE (Nat.le_refl _) (x := y) (by rw [List.take_length]; exact m)
    rw [← cl, List.take_length] at this; exact this
  by_cases q : 0 ≤ nth s.par x
  · exact go x (.inl (hS.cov x x0 x1 q))
  · have e1 := hS.one x x0 x1 (by omega)
    obtain ⟨w, w0, w1, wn⟩ := h.sur 2 (by omega) (by omega)
    have wp : 0 ≤ nth s.par w := Classical.byContradiction fun q => by
      have := hS.one w w0 w1 (by omega); omega
    obtain ⟨c, hc, ca, cn, cb⟩ := hS.cov w w0 w1 wp
    have lt := h.lt ca w0 w1 cn
    have c1 := (h.back_ok hE hc).1
    have hnc := h.num c.1 c1.1 c1.2
    exact go x (.inr ⟨c, hc, h.inj _ _ c1.1 c1.2 x0 x1 (by omega)⟩)
/-- One part: all nodes are joined. -/
theorem pc_one (hE : ∀ e ∈ es, EIn n e) (hp : pc n es = 1) {x y : Int} (x0 : 0 ≤ x) (x1 : x < n) (y0 : 0 ≤ y) (y1 : y < n) : Rch es x y := by
  have key : ∀ x y : Int, 0 ≤ x → x < n → 0 ≤ y → y < n → x < y → Rch es x y := fun x y x0 x1 y0 y1 lt => Classical.byContradiction fun q => by
    have a := pc_new (n := n) (es := es) (fs := (x, y) :: es) (e := (x, y)) hE ⟨by simpa using x0, by simpa using lt, by simpa using y1⟩ (fun d => by simp) q
    have hE' : ∀ d ∈ (x, y) :: es, EIn n d := fun d hd => by
      rcases List.mem_cons.1 hd with rfl | hd
      · exact ⟨by simpa using x0, by simpa using lt, by simpa using y1⟩
      · exact hE d hd
    have p : 0 < pc n ((x, y) :: es) := by
      unfold pc
      rw [List.countP_pos_iff]
      refine ⟨0, List.mem_range.2 (by omega), decide_eq_true ?_⟩
      exact (rep_iff hE' (x := ((0 : Nat) : Int)) ⟨by simp, by simp; omega⟩).2 fun z r => (r.rng hE' ⟨by simp, by simp; omega⟩).1
    omega
  rcases Int.lt_trichotomy x y with q | q | q
  · exact key x y x0 x1 y0 y1 q
  · subst q; exact .refl
  · exact (key y x y0 y1 x0 x1 q).symm
end
end Go.Pl
