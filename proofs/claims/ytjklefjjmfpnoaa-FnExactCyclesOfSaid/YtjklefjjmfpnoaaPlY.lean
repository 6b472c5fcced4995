/-
  Cycles of a graph that was searched in depth: each edge that leads back makes one. No program in sight.
-/
import Derived.Test.YtjklefjjmfpnoaaPlC3
namespace Go.Pl
set_option linter.unusedVariables false
set_option linter.unusedSimpArgs false

/-- The nodes from `a` up to below `u`. -/
def cyW (s : Sr) (u : Int) : Nat → Int → List Int
  | 0, _ => []
  | f + 1, a => if a = u then [] else a :: cyW s u f (nth s.par a)
def cyc (n : Int) (s : Sr) (b : Ed) : List Int := b.1 :: cyW s b.1 (n.toNat + 1) b.2
def cycL (n : Int) (es : List Ed) (s : Sr) : List (List Int) := (backL n es s).map (cyc n s)
/-- A cycle, closed. -/
def clo (c : List Int) : List Int := c ++ [c[0]?.getD 0]
section
variable {n : Int} {es : List Ed} {s : Sr}
theorem NF.cyW (h : NF n es s) {u : Int} : ∀ (f : Nat) (a : Int), 0 ≤ a → a < n → Anc s u a → nth s.num a - nth s.num u < f → Up s (Pl.cyW s u f a) a u
  | 0, a, a0, a1, r, hf => by
    have := h.le r a0 a1; omega
  | f + 1, a, a0, a1, r, hf => by
    rw [Pl.cyW]
    by_cases q : a = u
    · rw [if_pos q]; subst q; exact .nil
    · rw [if_neg q]
      have st := r.step (fun e => q e.symm)
      have p := h.up_par a0 a1 st.1
      exact .cons st.1 (h.cyW f _ st.1 p.1 st.2 (by omega))
theorem NF.cyc_form (h : NF n es s) (hE : ∀ e ∈ es, EIn n e) {b : Ed} (hb : b ∈ backL n es s) :
    ∃ ws, cyc n s b = b.1 :: ws ∧ Up s ws b.2 b.1 ∧ clo (cyc n s b) = b.1 :: (ws ++ [b.1]) ∧ stE (clo (cyc n s b)) = edn b.1 b.2 :: ws.map (teE s) ∧ ChF n es (clo (cyc n s b)) := by
  obtain ⟨b1, b2, ba, bn⟩ := h.back_ok hE hb
  have n1 := h.num b.1 b1.1 b1.2
  have n2 := h.num b.2 b2.1 b2.2
  have up := h.cyW (u := b.1) (n.toNat + 1) b.2 b2.1 b2.2 ba (by omega)
  have e1 : cyc n s b = b.1 :: Pl.cyW s b.1 (n.toNat + 1) b.2 := rfl
  generalize Pl.cyW s b.1 (n.toNat + 1) b.2 = ws at *
  have e2 : clo (cyc n s b) = b.1 :: (ws ++ [b.1]) := by unfold clo; rw [e1]; simp
  have e3 : stE (clo (cyc n s b)) = edn b.1 b.2 :: ws.map (teE s) := by rw [e2]; exact stE_chain up
  refine ⟨ws, e1, up, e2, e3, ?_⟩
  have u := h.up up b2.1 b2.2
  have nd : ws.Nodup := (List.nodup_append.1 u.2.2.1).1
  have nb : b.1 ∉ ws := fun m => (u.2.1 _ m).2.2.2.2.1 rfl
  have n1 : (b.1 :: ws).Nodup := List.nodup_cons.2 ⟨nb, nd⟩
  have ll := nodup_le (n := n) n1 (fun x hx => by
    rcases List.mem_cons.1 hx with rfl | hx
    · exact b1
    · exact ⟨(u.2.1 x hx).1, (u.2.1 x hx).2.1⟩)
  simp only [List.length_cons] at ll
  refine ⟨?_, ?_, fun x hx => ?_, fun d hd => ?_, ?_, ?_⟩
  · rw [e2]; simp
  · rw [e2]; simp; omega
  · rw [e2] at hx
    simp only [List.mem_cons, List.mem_append, List.not_mem_nil, or_false] at hx
    rcases hx with rfl | hx | rfl
    · exact b1
    · exact ⟨(u.2.1 x hx).1, (u.2.1 x hx).2.1⟩
    · exact b1
  · rw [e3] at hd
    rcases List.mem_cons.1 hd with rfl | hd
    · exact h.be_mem hE hb
    · obtain ⟨w, hw, rfl⟩ := List.mem_map.1 hd
      have a := u.2.1 w hw
      exact h.te_mem hE a.1 a.2.1 a.2.2.2.2.2
  · rw [e2, ← List.cons_append, List.dropLast_concat]; exact n1
  · rw [e2]; exact u.2.2.1
/-- A cycle has an edge that no other one has. -/
theorem NF.cyc_own (h : NF n es s) (hE : ∀ e ∈ es, EIn n e) {b c : Ed} (hb : b ∈ backL n es s) (hc : c ∈ backL n es s) (m : edn b.1 b.2 ∈ stE (clo (cyc n s c))) : b = c := by
  obtain ⟨ws, _, up, _, e3, _⟩ := h.cyc_form hE hc
  obtain ⟨c1, c2, ca, cn⟩ := h.back_ok hE hc
  have u := h.up up c2.1 c2.2
  rw [e3] at m
  rcases List.mem_cons.1 m with m | m
  · exact h.be_inj hE hb hc m
  · obtain ⟨w, hw, e⟩ := List.mem_map.1 m
    have a := u.2.1 w hw
    exact absurd e.symm (h.be_te hE hb a.1 a.2.1 a.2.2.2.2.2)
/-- An edge is in a cycle if and only if it is no bridge. -/
theorem NF.cyc_cov (h : NF n es s) (hE : ∀ e ∈ es, EIn n e) {e : Ed} (he : e ∈ es) : (∃ b ∈ backL n es s, e ∈ stE (clo (cyc n s b))) ↔ Rch (butE es e) e.1 e.2 := by
  rcases h.cls hE he with ⟨b, hb, rfl⟩ | ⟨x, x0, x1, xp, rfl⟩
  · refine ⟨fun _ => rch_edn.2 (h.back_ok2 hE hb), fun _ => ⟨b, hb, ?_⟩⟩
    obtain ⟨ws, _, _, _, e3, _⟩ := h.cyc_form hE hb
    rw [e3]; simp
  · have t := h.tree_bridge hE x0 x1 xp
    have r : Rch (butE es (teE s x)) (teE s x).1 (teE s x).2 ↔ Rch (butE es (teE s x)) (nth s.par x) x := rch_edn.trans ⟨Rch.symm, Rch.symm⟩
    rw [r, t]
    constructor
    · rintro ⟨b, hb, m⟩
      obtain ⟨ws, _, up, _, e3, _⟩ := h.cyc_form hE hb
      obtain ⟨b1, b2, ba, bn⟩ := h.back_ok hE hb
      have u := h.up up b2.1 b2.2
      rw [e3] at m
      rcases List.mem_cons.1 m with m | m
      · exact absurd m.symm (h.be_te hE hb x0 x1 xp)
      · obtain ⟨w, hw, e⟩ := List.mem_map.1 m
        have a := u.2.1 w hw
        have := h.te_inj a.1 a.2.1 a.2.2.2.2.2 x0 x1 xp e
        subst this
        exact ⟨b, hb, a.2.2.2.1, a.2.2.2.2.1, a.2.2.1⟩
    · rintro ⟨b, hb, k1, k2, k3⟩
      obtain ⟨ws, _, up, _, e3, _⟩ := h.cyc_form hE hb
      obtain ⟨b1, b2, ba, bn⟩ := h.back_ok hE hb
      refine ⟨b, hb, ?_⟩
      rw [e3]
      exact List.mem_cons_of_mem _ (List.mem_map.2 ⟨x, h.mem_up up b2.1 b2.2 k3 k1 k2, rfl⟩)
end
end Go.Pl
