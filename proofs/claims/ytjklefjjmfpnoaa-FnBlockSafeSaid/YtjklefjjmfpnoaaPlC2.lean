/-
  Chains of a graph that was searched in depth: each edge that is no bridge lies on one of them, once. No program in sight.
-/
import Derived.Test.YtjklefjjmfpnoaaPlC
import Derived.Test.YtjklefjjmfpnoaaPlF
namespace Go.Pl
set_option linter.unusedVariables false
set_option linter.unusedSimpArgs false

def edn (x y : Int) : Ed := (min x y, max x y)
def stE : List Int → List Ed
  | a :: b :: r => edn a b :: stE (b :: r)
  | _ => []
def teE (s : Sr) (w : Int) : Ed := edn w (nth s.par w)
theorem edn_eq {a b c d : Int} : edn a b = edn c d ↔ (a = c ∧ b = d) ∨ (a = d ∧ b = c) := by
  unfold edn
  rw [Prod.mk.injEq]
  constructor <;> intro h <;> omega
theorem adj_edn {L : List Ed} {x y : Int} (h : edn x y ∈ L) : Adj L x y := by
  unfold edn at h
  by_cases q : x ≤ y
  · rw [show min x y = x by omega, show max x y = y by omega] at h; exact .inl h
  · rw [show min x y = y by omega, show max x y = x by omega] at h; exact .inr h
theorem edn_adj {n : Int} {es : List Ed} (hE : ∀ e ∈ es, EIn n e) {x y : Int} (h : Adj es x y) : edn x y ∈ es := by
  unfold edn
  rcases h with h | h
  · have := hE _ h; unfold EIn at this; simp only at this
    rw [show min x y = x by omega, show max x y = y by omega]; exact h
  · have := hE _ h; unfold EIn at this; simp only at this
    rw [show min x y = y by omega, show max x y = x by omega]; exact h
theorem edn_self {n : Int} {e : Ed} (h : EIn n e) : edn e.1 e.2 = e := by
  unfold EIn at h
  unfold edn
  rw [show min e.1 e.2 = e.1 by omega, show max e.1 e.2 = e.2 by omega]
theorem rch_edn {L : List Ed} {x y : Int} : Rch L (edn x y).1 (edn x y).2 ↔ Rch L x y := by
  unfold edn
  by_cases q : x ≤ y
  · rw [show min x y = x by omega, show max x y = y by omega]
  · rw [show min x y = y by omega, show max x y = x by omega]; exact ⟨Rch.symm, Rch.symm⟩
/-- The edges but one. -/
def butE (es : List Ed) (e : Ed) : List Ed := es.filter fun x => !decide (x = e)
theorem mem_but {es : List Ed} {e d : Ed} : d ∈ butE es e ↔ d ∈ es ∧ d ≠ e := by
  unfold butE; rw [List.mem_filter]; simp

section
variable {n : Int} {es : List Ed} {s : Sr}
theorem stE_up {ws : List Int} {v e : Int} (u : Up s ws v e) : stE (ws ++ [e]) = ws.map (teE s) := by
  induction u with
  | nil => rfl
  | @cons ws v e h0 u ih =>
    cases u with
    | nil => rfl
    | @cons ws' _ _ h0' u' =>
      simp only [List.cons_append, stE, List.map_cons] at ih ⊢
      rw [ih]; rfl
theorem stE_chain {ws : List Int} {u v e : Int} (h : Up s ws v e) : stE (u :: (ws ++ [e])) = edn u v :: ws.map (teE s) := by
  rw [← stE_up h]
  cases h with
  | nil => rfl
  | cons => rfl
theorem NF.te_mem (h : NF n es s) (hE : ∀ e ∈ es, EIn n e) {x : Int} (h0 : 0 ≤ x) (h1 : x < n) (hp : 0 ≤ nth s.par x) : teE s x ∈ es := edn_adj hE (h.up_par h0 h1 hp).2.2.symm
theorem NF.be_mem (h : NF n es s) (hE : ∀ e ∈ es, EIn n e) {b : Ed} (hb : b ∈ backL n es s) : edn b.1 b.2 ∈ es := edn_adj hE ((h.mem_back hE).1 hb).1
theorem NF.te_inj (h : NF n es s) {x y : Int} (x0 : 0 ≤ x) (x1 : x < n) (xp : 0 ≤ nth s.par x) (y0 : 0 ≤ y) (y1 : y < n) (yp : 0 ≤ nth s.par y) (e : teE s x = teE s y) : x = y := by
  unfold teE at e
  rcases edn_eq.1 e with ⟨a, _⟩ | ⟨a, b⟩
  · exact a
  · have h1 := (h.up_par x0 x1 xp).2.1
    have h2 := (h.up_par y0 y1 yp).2.1
    rw [b] at h1; rw [← a] at h2; omega
theorem NF.be_inj (h : NF n es s) (hE : ∀ e ∈ es, EIn n e) {b c : Ed} (hb : b ∈ backL n es s) (hc : c ∈ backL n es s) (e : edn b.1 b.2 = edn c.1 c.2) : b = c := by
  have h1 := ((h.mem_back hE).1 hb).2.1
  have h2 := ((h.mem_back hE).1 hc).2.1
  rcases edn_eq.1 e with ⟨a, b'⟩ | ⟨a, b'⟩
  · exact Prod.ext a b'
  · rw [a, b'] at h1; omega
theorem NF.be_te (h : NF n es s) (hE : ∀ e ∈ es, EIn n e) {b : Ed} (hb : b ∈ backL n es s) {x : Int} (x0 : 0 ≤ x) (x1 : x < n) (xp : 0 ≤ nth s.par x) : edn b.1 b.2 ≠ teE s x := fun e => by
  obtain ⟨_, h1, h2⟩ := (h.mem_back hE).1 hb
  have h3 := (h.up_par x0 x1 xp).2.1
  unfold teE at e
  rcases edn_eq.1 e with ⟨a, b'⟩ | ⟨a, b'⟩
  · rw [a, b'] at h1; omega
  · rw [b'] at h2; exact h2 a.symm
/-- An edge leads back or up. -/
theorem NF.cls (h : NF n es s) (hE : ∀ e ∈ es, EIn n e) {e : Ed} (he : e ∈ es) : (∃ b ∈ backL n es s, edn b.1 b.2 = e) ∨ ∃ x, 0 ≤ x ∧ x < n ∧ 0 ≤ nth s.par x ∧ teE s x = e := by
  have en := hE e he
  have es' := edn_self en
  have en' := en
  unfold EIn at en'
  have a : Adj es e.1 e.2 := .inl he
  by_cases q : nth s.num e.1 < nth s.num e.2
  · by_cases p : nth s.par e.2 = e.1
    · refine .inr ⟨e.2, by omega, by omega, by omega, ?_⟩
      unfold teE; rw [p, ← es']
      exact edn_eq.2 (.inr ⟨by rw [es'], by rw [es']⟩)
    · exact .inl ⟨e, (h.mem_back hE).2 ⟨a, q, p⟩, es'⟩
  · have ne : nth s.num e.1 ≠ nth s.num e.2 := fun w => by have := h.inj e.1 e.2 (by omega) (by omega) (by omega) (by omega) w; omega
    by_cases p : nth s.par e.1 = e.2
    · refine .inr ⟨e.1, by omega, by omega, by omega, ?_⟩
      unfold teE; rw [p, es']
    · refine .inl ⟨(e.2, e.1), (h.mem_back hE).2 ⟨a.symm, by simp only; omega, p⟩, ?_⟩
      simp only
      conv => rhs; rw [← es']
      exact edn_eq.2 (.inr ⟨rfl, rfl⟩)
/-- The way down the forest. -/
theorem NF.path (h : NF n es s) {L : List Ed} {a y : Int} (r : Anc s a y) : 0 ≤ y → y < n → (∀ w, 0 ≤ w → w < n → Anc s a w → a ≠ w → Anc s w y → teE s w ∈ L) → Rch L a y := by
  induction r with
  | refl => intro _ _ _; exact .refl
  | @up y hy h0 hv r ih =>
    intro _ y1 hL
    have p := h.up_par hy y1 h0
    have ne : a ≠ y := fun e => by subst e; have := h.le r h0 p.1; omega
    refine (ih h0 p.1 fun w w0 w1 r1 n1 r2 => hL w w0 w1 r1 n1 (h.mkA hy y1 h0 r2)).step ?_
    exact (adj_edn (hL y hy y1 (.up hy h0 hv r) ne .refl)).symm
theorem NF.back_ok2 (h : NF n es s) (hE : ∀ e ∈ es, EIn n e) {b : Ed} (hb : b ∈ backL n es s) : Rch (butE es (edn b.1 b.2)) b.1 b.2 := by
  obtain ⟨_, b2, ba, bn⟩ := h.back_ok hE hb
  refine h.path ba b2.1 b2.2 fun w w0 w1 r1 n1 r2 => ?_
  have hp := (r1.step n1).1
  exact mem_but.2 ⟨h.te_mem hE w0 w1 hp, fun e => h.be_te hE hb w0 w1 hp e.symm⟩
/-- An edge of the forest is a bridge unless an edge leads back over it. -/
theorem NF.tree_bridge (h : NF n es s) (hE : ∀ e ∈ es, EIn n e) {x : Int} (x0 : 0 ≤ x) (x1 : x < n) (hp : 0 ≤ nth s.par x) : Rch (butE es (teE s x)) (nth s.par x) x ↔ Cov s (backL n es s) x := by
  have px := h.up_par x0 x1 hp
  constructor
  · intro r
    refine Classical.byContradiction fun nc => ?_
    have cl : ∀ y, Rch (butE es (teE s x)) x y → Anc s x y ∧ 0 ≤ y ∧ y < n := fun y r => by
      induction r with
      | refl => exact ⟨.refl, x0, x1⟩
      | @step y z r a ih =>
        obtain ⟨ry, y0, y1⟩ := ih
        have a' : Adj es y z := a.imp (fun q => (mem_but.1 q).1) (fun q => (mem_but.1 q).1)
        have rg := nbr_rng hE a'
        refine ⟨?_, by omega, by omega⟩
        rcases h.cmp _ _ a' with k | k
        · exact ry.trans k
        · rcases ry.two k with w | w
          · exact w
          · by_cases zx : z = x
            · subst zx; exact .refl
            · exfalso
              by_cases pz : nth s.par y = z
              · by_cases xy : x = y
                · subst xy
                  have e1 : edn x z = teE s x := by unfold teE; rw [pz]
                  rcases a with q | q
                  · have q' := mem_but.1 q
                    refine q'.2 ?_
                    rw [← e1, edn_self (hE _ q'.1)]
                  · have q' := mem_but.1 q
                    refine q'.2 ?_
                    rw [← e1]
                    have := edn_self (hE _ q'.1)
                    simp only at this
                    rw [← this]; exact edn_eq.2 (.inr ⟨rfl, rfl⟩)
                · have := (ry.step xy).2
                  rw [pz] at this
                  exact zx (h.anti w this x0 x1)
              · refine nc ⟨(z, y), (h.mem_back hE).2 ⟨a'.symm, h.lt k y0 y1 (fun e => by omega), pz⟩, w, zx, ry⟩
    have := (cl _ r.symm).1
    have := h.le this hp px.1
    omega
  · rintro ⟨b, hb, r1, n1, r2⟩
    obtain ⟨b1, b2, ba, bn⟩ := h.back_ok hE hb
    have nb := h.be_te hE hb x0 x1 hp
    have p1 : Rch (butE es (teE s x)) b.1 (nth s.par x) := h.path (r1.step n1).2 hp px.1 fun w w0 w1 q1 q2 q3 => by
      have wp := (q1.step q2).1
      refine mem_but.2 ⟨h.te_mem hE w0 w1 wp, fun e => ?_⟩
      have := h.te_inj w0 w1 wp x0 x1 hp e
      subst this
      have := h.le q3 hp px.1; omega
    have p2 : Rch (butE es (teE s x)) x b.2 := h.path r2 b2.1 b2.2 fun w w0 w1 q1 q2 q3 => by
      have wp := (q1.step q2).1
      refine mem_but.2 ⟨h.te_mem hE w0 w1 wp, fun e => ?_⟩
      exact q2 (h.te_inj w0 w1 wp x0 x1 hp e).symm
    have p3 : Rch (butE es (teE s x)) b.1 b.2 := .one (adj_edn (mem_but.2 ⟨h.be_mem hE hb, nb⟩))
    exact (p1.symm.trans p3).trans p2.symm

/-! All chains. -/
theorem NF.chains (h : NF n es s) (hE : ∀ e ∈ es, EIn n e) : (chainsL n es s).length = (backL n es s).length ∧
    ∀ (j : Nat) (b : Ed), (backL n es s)[j]? = some b → ∃ ws e, (chainsL n es s)[j]? = some (b.1 :: (ws ++ [e])) ∧ CH s ((backL n es s).take j) b ws e := by
  have st := h.stage (B := backL n es s) (fun b hb => h.back_ok hE hb) h.back_sorted (backL n es s).length (Nat.le_refl _)
  rw [List.take_length] at st
  exact ⟨st.2.2.1, st.2.2.2⟩
theorem NF.before (h : NF n es s) {i : Nat} {b : Ed} (hb : (backL n es s)[i]? = some b) : ∀ c ∈ (backL n es s).take i, nth s.num c.1 ≤ nth s.num b.1 := fun c hc => by
  obtain ⟨j, hj⟩ := List.mem_iff_getElem?.1 hc
  have lj := (List.getElem?_eq_some_iff.1 hj).1
  rw [List.length_take] at lj
  rw [List.getElem?_take_of_lt (by omega)] at hj
  obtain ⟨_, e1⟩ := List.getElem?_eq_some_iff.1 hj
  obtain ⟨_, e2⟩ := List.getElem?_eq_some_iff.1 hb
  have := List.pairwise_iff_getElem.1 h.back_sorted j i (by omega) (by omega) (by omega)
  rw [e1, e2] at this; exact this
/-- A back edge with a lesser upper node stands ahead. -/
theorem NF.ahead (h : NF n es s) {i : Nat} {b c : Ed} (hb : (backL n es s)[i]? = some b) (hc : c ∈ backL n es s) (hlt : nth s.num c.1 < nth s.num b.1) : c ∈ (backL n es s).take i := by
  obtain ⟨j, hj⟩ := List.mem_iff_getElem?.1 hc
  obtain ⟨li, e2⟩ := List.getElem?_eq_some_iff.1 hb
  obtain ⟨lj, e1⟩ := List.getElem?_eq_some_iff.1 hj
  by_cases q : j < i
  · exact List.mem_of_getElem? (i := j) (by rw [List.getElem?_take_of_lt q]; exact hj)
  · exfalso
    by_cases e : j = i
    · subst e; rw [hb] at hj; cases hj; omega
    · have := List.pairwise_iff_getElem.1 h.back_sorted i j (by omega) (by omega) (by omega)
      rw [e1, e2] at this; omega
theorem NF.cov_next (h : NF n es s) (hE : ∀ e ∈ es, EIn n e) {i : Nat} {b : Ed} (hb : (backL n es s)[i]? = some b) {ws : List Int} {e : Int} (ch : CH s ((backL n es s).take i) b ws e) {x : Int} :
    Cov s ((backL n es s).take (i + 1)) x ↔ Cov s ((backL n es s).take i) x ∨ x ∈ ws := by
  obtain ⟨b1, b2, ba, bn⟩ := h.back_ok hE (List.mem_of_getElem? hb)
  have ta : (backL n es s).take (i + 1) = (backL n es s).take i ++ [b] := take_snoc hb
  have mk := h.mk_next (h.before hb) b2.1 b2.2 ch (x := x)
  constructor
  · intro c
    have c0 := c
    rw [ta] at c
    obtain ⟨d, hd, r1, n1, r2⟩ := c
    rcases List.mem_append.1 hd with hd | hd
    · exact .inl ⟨d, hd, r1, n1, r2⟩
    · simp at hd; subst hd
      have xr := h.rng r2 b2.1 b2.2
      have lx := h.lt r1 xr.1 xr.2.1 n1
      rcases mk.1 (.inl ⟨d, by simp, r1, n1, r2⟩) with (m | ⟨c, hc, m⟩) | m | m
      · exact .inl m
      · have := h.before hb c hc; subst m; omega
      · exact absurd m.symm n1
      · exact .inr m
  · rintro (⟨d, hd, r⟩ | m)
    · exact ⟨d, by rw [ta]; exact List.mem_append_left _ hd, r⟩
    · have a := ch.bel x m
      exact ⟨b, by rw [ta]; simp, a.1, fun e => a.2 e.symm, ((h.up ch.up b2.1 b2.2).2.1 x m).2.2.1⟩
/-- A node over which an edge leads back is walked over once. -/
theorem NF.walked (h : NF n es s) (hE : ∀ e ∈ es, EIn n e) {x : Int} : ∀ i : Nat, i ≤ (backL n es s).length → Cov s ((backL n es s).take i) x → ∃ j b ws e, j < i ∧ (backL n es s)[j]? = some b ∧ (chainsL n es s)[j]? = some (b.1 :: (ws ++ [e])) ∧ CH s ((backL n es s).take j) b ws e ∧ x ∈ ws
  | 0, _, ⟨b, hb, _⟩ => by simp at hb
  | i + 1, hi, c => by
    obtain ⟨b, hb⟩ : ∃ b, (backL n es s)[i]? = some b := ⟨_, List.getElem?_eq_getElem (by omega)⟩
    obtain ⟨ws, e, h1, h2⟩ := (h.chains hE).2 i b hb
    rcases (h.cov_next hE hb h2).1 c with q | q
    · obtain ⟨j, b', ws', e', a, r⟩ := h.walked hE i (by omega) q
      exact ⟨j, b', ws', e', by omega, r⟩
    · exact ⟨i, b, ws, e, Nat.lt_succ_self _, hb, h1, h2, q⟩

def chE (n : Int) (es : List Ed) (s : Sr) (i : Nat) : List Ed := ((chainsL n es s).take i).flatMap stE
theorem chE_next {i : Nat} {c : List Int} (hc : (chainsL n es s)[i]? = some c) : chE n es s (i + 1) = chE n es s i ++ stE c := by
  unfold chE; rw [take_snoc hc, List.flatMap_append]; simp
theorem chE_all : chE n es s (chainsL n es s).length = (chainsL n es s).flatMap stE := by unfold chE; rw [List.take_length]
theorem count_te (h : NF n es s) {ws : List Int} (hw : ∀ w ∈ ws, 0 ≤ w ∧ w < n ∧ 0 ≤ nth s.par w) {x : Int} (x0 : 0 ≤ x) (x1 : x < n) (xp : 0 ≤ nth s.par x) : (ws.map (teE s)).count (teE s x) = ws.count x := by
  induction ws with
  | nil => rfl
  | cons w ws ih =>
    have ihh := ih fun z hz => hw z (List.mem_cons_of_mem _ hz)
    have a := hw w (by simp)
    rw [List.map_cons, List.count_cons, List.count_cons, ihh]
    by_cases q : w = x
    · subst q; simp
    · have : teE s w ≠ teE s x := fun e => q (h.te_inj a.1 a.2.1 a.2.2 x0 x1 xp e)
      simp [q, this]
theorem NF.count_tree (h : NF n es s) (hE : ∀ e ∈ es, EIn n e) {x : Int} (x0 : 0 ≤ x) (x1 : x < n) (xp : 0 ≤ nth s.par x) : ∀ i : Nat, i ≤ (backL n es s).length →
    (Cov s ((backL n es s).take i) x → (chE n es s i).count (teE s x) = 1) ∧ (¬ Cov s ((backL n es s).take i) x → (chE n es s i).count (teE s x) = 0)
  | 0, _ => by
    refine ⟨fun ⟨b, hb, _⟩ => by simp at hb, fun _ => by simp [chE]⟩
  | i + 1, hi => by
    obtain ⟨b, hb⟩ : ∃ b, (backL n es s)[i]? = some b := ⟨_, List.getElem?_eq_getElem (by omega)⟩
    obtain ⟨ws, e, h1, h2⟩ := (h.chains hE).2 i b hb
    obtain ⟨b1, b2, ba, bn⟩ := h.back_ok hE (List.mem_of_getElem? hb)
    obtain ⟨i1, i2⟩ := h.count_tree hE x0 x1 xp i (by omega)
    have u := h.up h2.up b2.1 b2.2
    have nd : ws.Nodup := (List.nodup_append.1 u.2.2.1).1
    have cn := h.cov_next hE hb h2 (x := x)
    have ce : (stE (b.1 :: (ws ++ [e]))).count (teE s x) = ws.count x := by
      rw [stE_chain h2.up, List.count_cons, count_te h (fun w hw => ⟨(u.2.1 w hw).1, (u.2.1 w hw).2.1, (u.2.1 w hw).2.2.2.2.2⟩) x0 x1 xp]
      have := h.be_te hE (List.mem_of_getElem? hb) x0 x1 xp
      simp [this]
    rw [chE_next h1, List.count_append, ce]
    constructor
    · intro c
      rcases cn.1 c with q | q
      · have : x ∉ ws := fun m => h2.fre x m (.inl q)
        rw [i1 q, List.count_eq_zero.2 this]
      · have : ¬ Cov s ((backL n es s).take i) x := fun c => h2.fre x q (.inl c)
        rw [i2 this, nd.count, if_pos q]
    · intro c
      have a : ¬ Cov s ((backL n es s).take i) x := fun q => c (cn.2 (.inl q))
      have b' : x ∉ ws := fun q => c (cn.2 (.inr q))
      rw [i2 a, List.count_eq_zero.2 b']
theorem NF.count_back (h : NF n es s) (hE : ∀ e ∈ es, EIn n e) (hs : es.Pairwise eLt) {b0 : Ed} (h0 : b0 ∈ backL n es s) : ∀ i : Nat, i ≤ (backL n es s).length →
    (chE n es s i).count (edn b0.1 b0.2) = ((backL n es s).take i).count b0
  | 0, _ => by simp [chE]
  | i + 1, hi => by
    obtain ⟨b, hb⟩ : ∃ b, (backL n es s)[i]? = some b := ⟨_, List.getElem?_eq_getElem (by omega)⟩
    obtain ⟨ws, e, h1, h2⟩ := (h.chains hE).2 i b hb
    obtain ⟨b1, b2, ba, bn⟩ := h.back_ok hE (List.mem_of_getElem? hb)
    have ih := h.count_back hE hs h0 i (by omega)
    have u := h.up h2.up b2.1 b2.2
    have cz : (ws.map (teE s)).count (edn b0.1 b0.2) = 0 := List.count_eq_zero.2 fun m => by
      obtain ⟨w, hw, e⟩ := List.mem_map.1 m
      have a := u.2.1 w hw
      exact h.be_te hE h0 a.1 a.2.1 a.2.2.2.2.2 e.symm
    rw [chE_next h1, List.count_append, ih, stE_chain h2.up, List.count_cons, cz, take_snoc hb, List.count_append]
    congr 1
    by_cases q : b = b0
    · subst q; simp
    · have : edn b.1 b.2 ≠ edn b0.1 b0.2 := fun e => q (h.be_inj hE (List.mem_of_getElem? hb) h0 e)
      simp [q, this]
/-- An edge lies on the chains once, or never if it is a bridge. -/
theorem NF.count_edge (h : NF n es s) (hE : ∀ e ∈ es, EIn n e) (hs : es.Pairwise eLt) {e : Ed} (he : e ∈ es) :
    (Rch (butE es e) e.1 e.2 → ((chainsL n es s).flatMap stE).count e = 1) ∧ (¬ Rch (butE es e) e.1 e.2 → ((chainsL n es s).flatMap stE).count e = 0) := by
  have cl := (h.chains hE).1
  rw [← chE_all, cl]
  rcases h.cls hE he with ⟨b, hb, rfl⟩ | ⟨x, x0, x1, xp, rfl⟩
  · have c := h.count_back hE hs hb _ (Nat.le_refl _)
    rw [List.take_length, (h.back_nodup hE hs).count, if_pos hb] at c
    exact ⟨fun _ => c, fun q => absurd (rch_edn.2 (h.back_ok2 hE hb)) q⟩
  · obtain ⟨c1, c2⟩ := h.count_tree hE x0 x1 xp _ (Nat.le_refl _)
    rw [List.take_length] at c1 c2
    have t := h.tree_bridge hE x0 x1 xp
    have r : Rch (butE es (teE s x)) (teE s x).1 (teE s x).2 ↔ Rch (butE es (teE s x)) (nth s.par x) x := rch_edn.trans ⟨Rch.symm, Rch.symm⟩
    exact ⟨fun q => c1 (t.1 (r.1 q)), fun q => c2 fun c => q (r.2 (t.2 c))⟩
end
end Go.Pl
