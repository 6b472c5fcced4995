/-
  One operation, run in a state that agrees on what it reads, comes to the same.
-/
import Derived.Test.YtdfbdbbjnihmaaaFwV
namespace Go.Fw
set_option linter.unusedVariables false
set_option linter.unusedSimpArgs false

/-- An operation that may stand in a region that draws its order. -/
def MOp.plain : MOp → Bool
  | .nilq _ _ | .cap _ | .clear _ _ _ | .overlaps _ _ _ | .appendMk _ _ _ _ _ => false
  | _ => true

section
variable {P : Program} {s : MS} {n : Nat} {K : MK} {o : MOp}

def Local (P : Program) (s : MS) (o : MOp) (n : Nat) (K : MK) : Prop :=
  ∃ m u rd, K m u rd ∧ ∀ s', SameFr s s' o.slots → SameHp s s' (rd ++ u.map (·.1)) → ∀ K' : MK, K' m u rd → mop true P o n s' K'

theorem mop_local (hp : o.plain = true) (h : mop true P o n s K) : Local P s o n K := by
  cases o <;> simp only [mop] at h
  case mov x => exact ⟨_, _, _, h, fun s' hs ho K' hk => by simp only [mop]; rw [val_local hs]; exact hk⟩
  case pick c a b =>
    split at h
    · rename_i x hx
      cases x
      · simp only [Bool.false_eq_true, if_false] at h
        exact ⟨_, _, _, h, fun s' hs ho K' hk => by
          simp only [mop]; rw [val_local (hs.left.left), hx, val_local hs.right]; exact hk⟩
      · simp only [if_true] at h
        exact ⟨_, _, _, h, fun s' hs ho K' hk => by
          simp only [mop]; rw [val_local (hs.left.left), hx, val_local hs.left.right]; exact hk⟩
    · exact h.elim
  case box k x =>
    split at h
    · rename_i cs hc
      exact ⟨_, _, _, h.2, fun s' hs ho K' hk => by simp only [mop]; rw [val_local hs, hc]; exact ⟨h.1, hk⟩⟩
    · exact h.elim
  case alloc cs => exact ⟨_, _, _, h, fun s' hs ho K' hk => by simp only [mop]; exact hk⟩
  case build z ps =>
    obtain ⟨cs, h1, l1⟩ := buildC_local h
    exact ⟨_, _, _, h1, fun s' hs ho K' hk => by simp only [mop]; exact l1 s' hs _ hk⟩
  case buildSlice k ps =>
    split at h
    · rename_i t es u hr
      refine ⟨_, _, _, h, fun s' hs ho K' hk => ?_⟩
      simp only [mop]; rw [rowsV_local hs ho.left, hr]
      have e : (ps.flatMap fun x => srs (((s'.val x).cells).getD [])) = ps.flatMap fun x => srs (((s.val x).cells).getD []) := by
        clear hr h ho hk
        induction ps with
        | nil => rfl
        | cons p ps ih =>
          have hs' : SameFr s s' (p.slots ++ ps.flatMap Opd.slots) := by simpa only [MOp.slots, List.flatMap_cons] using hs
          rw [List.flatMap_cons, List.flatMap_cons, val_local hs'.left, ih (by rfl) (by simpa only [MOp.slots] using hs'.right)]
      simp only [e]; exact hk
    · exact h.elim
  case load ag k x =>
    split at h
    · rename_i id i off hx
      split at h
      · rename_i t k' es ho'
        refine ⟨_, _, _, h.2.2.get h.1, fun s' hs ho K' hk => ?_⟩
        simp only [mop]; rw [val_local hs, hx]; simp only []; rw [ho.obj (by simp), ho']; exact ⟨h.1, h.2.1, .same h.1 hk⟩
      · rename_i t k' es ho'
        refine ⟨_, _, _, h.2.2.get h.1, fun s' hs ho K' hk => ?_⟩
        simp only [mop]; rw [val_local hs, hx]; simp only []; rw [ho.obj (by simp), ho']; exact ⟨h.1, h.2.1, .same h.1 hk⟩
      · rename_i cs ho'
        refine ⟨_, _, _, h.2.2, fun s' hs ho K' hk => ?_⟩
        simp only [mop]; rw [val_local hs, hx]; simp only []; rw [ho.obj (by simp), ho']; exact ⟨h.1, h.2.1, hk⟩
      · exact h.elim
    · rename_i t cs off hx
      exact ⟨_, _, _, h.2, fun s' hs ho K' hk => by simp only [mop]; rw [val_local hs, hx]; exact ⟨h.1, hk⟩⟩
    · rename_i d φ hx
      exact ⟨_, _, _, h.2, fun s' hs ho K' hk => by simp only [mop]; rw [val_local hs, hx]; exact ⟨h.1, hk⟩⟩
    · exact h.elim
  case store k a x =>
    split at h
    · rename_i id i off xs ha hx
      obtain ⟨h0, h⟩ := h
      split at h
      · rename_i t k' es ho'
        split at h
        · rename_i t' ds u hd
          refine ⟨_, _, _, h.2.2.2.get h.2.1, fun s' hs ho K' hk => ?_⟩
          simp only [mop]; rw [val_local hs.left, val_local hs.right, ha, hx]; simp only []; rw [ho.obj (by simp), ho']; simp only []
          rw [toDs_local (fun t ht => ho t (by simp [ht])), hd]; exact ⟨h0, h.1, h.2.1, h.2.2.1, .same h.2.1 hk⟩
        · exact h.elim
      · rename_i cs ho'
        refine ⟨_, _, _, h.2.2, fun s' hs ho K' hk => ?_⟩
        simp only [mop]; rw [val_local hs.left, val_local hs.right, ha, hx]; simp only []; rw [ho.obj (by simp), ho']; exact ⟨h0, h.1, h.2.1, hk⟩
      · exact h.elim
    · exact h.elim
  case nilCheck x =>
    split at h
    all_goals first
      | exact h.elim
      | (rename_i hx; exact ⟨_, _, _, h, fun s' hs ho K' hk => by simp only [mop]; rw [val_local hs, hx]; exact hk⟩)
  case bin op x y =>
    split at h
    · rename_i k a k' b hx hy
      obtain ⟨m, h1, l1⟩ := intBin_local h.2
      exact ⟨_, _, _, h1, fun s' hs ho K' hk => by simp only [mop]; rw [val_local hs.left, val_local hs.right, hx, hy]; exact ⟨h.1, l1 _ hk⟩⟩
    · exact h.elim
  case binb neg x y =>
    split at h
    · rename_i a b hx hy
      exact ⟨_, _, _, h, fun s' hs ho K' hk => by simp only [mop]; rw [val_local hs.left, val_local hs.right, hx, hy]; exact hk⟩
    · exact h.elim
  case nilq => simp [MOp.plain] at hp
  case cap => simp [MOp.plain] at hp
  case appendMk => simp [MOp.plain] at hp
  case copy k x y =>
    split at h
    · rename_i id off len m hx hl
      have hl' : ∀ s' : MS, lenV s' (s.val y) = some m := fun s' => by rw [← hl]; cases s.val y <;> rfl
      have pl : ∀ (c : Nat) {t k ys rs}, prefOf s c (s.val y) = some (t, k, ys, rs) → ∀ s', SameHp s s' rs → prefOf s' c (s.val y) = some (t, k, ys, rs) := by
        intro c t k ys rs hpf s' hs
        rw [← hpf]
        cases hv : s.val y <;> try rfl
        rename_i id' off' len'
        rw [hv] at hpf
        have : id' ∈ rs := by
          simp only [prefOf] at hpf
          split at hpf
          all_goals first | (split at hpf <;> first | (cases hpf; simp) | cases hpf) | cases hpf
        simp only [prefOf]; rw [hs.obj this]
      split at h
      · rename_i t k' es ho'
        split at h
        · rename_i t' k'' ys rs hpf
          refine ⟨_, _, _, h.2.2.2, fun s' hs ho K' hk => ?_⟩
          simp only [mop]; rw [val_local hs.left, val_local hs.right, hx, hl']; simp only []; rw [ho.obj (by simp), ho']; simp only []
          rw [pl _ hpf s' (fun t ht => ho t (by simp [ht]))]; exact ⟨h.1, h.2.1, h.2.2.1, hk⟩
        · exact h.elim
      · rename_i t k' es C ho'
        split at h
        · rename_i t' k'' ys rs hpf
          refine ⟨_, _, _, h.2.2.2, fun s' hs ho K' hk => ?_⟩
          simp only [mop]; rw [val_local hs.left, val_local hs.right, hx, hl']; simp only []; rw [ho.obj (by simp), ho']; simp only []
          rw [pl _ hpf s' (fun t ht => ho t (by simp [ht]))]; exact ⟨h.1, h.2.1, h.2.2.1, hk⟩
        · exact h.elim
      · exact h.elim
    · exact h.elim
  case clear => simp [MOp.plain] at hp
  case overlaps => simp [MOp.plain] at hp
  case eqAgg neg sig x y =>
    split at h
    · rename_i as bs hx hy
      split at h
      · rename_i b hb
        exact ⟨_, _, _, h.2.2, fun s' hs ho K' hk => by simp only [mop]; rw [val_local hs.left, val_local hs.right, hx, hy]; simp only []; rw [hb]; exact ⟨h.1, h.2.1, hk⟩⟩
      · exact h.elim
    · exact h.elim
  case un op x =>
    split at h
    · rename_i a hx
      exact ⟨_, _, _, h, fun s' hs ho K' hk => by simp only [mop]; rw [val_local hs, hx]; exact hk⟩
    · rename_i k a hx
      exact ⟨_, _, _, h.2, fun s' hs ho K' hk => by simp only [mop]; rw [val_local hs, hx]; exact ⟨h.1, hk⟩⟩
    · exact h.elim
  case conv d x =>
    split at h
    · rename_i k a hx
      exact ⟨_, _, _, h.2, fun s' hs ho K' hk => by simp only [mop]; rw [val_local hs, hx]; exact ⟨h.1, hk⟩⟩
    · exact h.elim
  case makeSlice k bytes z l c =>
    split at h
    · rename_i a b hx hy
      exact ⟨_, _, _, h.2.2.2, fun s' hs ho K' hk => by simp only [mop]; rw [val_local hs.left, val_local hs.right, hx, hy]; exact ⟨h.1, h.2.1, h.2.2.1, hk⟩⟩
    · exact h.elim
  case slice k x lo hi =>
    have sl : ∀ {d : Nat} {Kb : Nat → Nat → Prop}, (bound s 0 lo fun l => bound s d hi fun h => Kb l h) → ∃ l h, Kb l h ∧ ∀ s', SameFr s s' (x.slots ++ ooSlots lo ++ ooSlots hi) → ∀ K' : Nat → Nat → Prop, K' l h → (bound s' 0 lo fun l => bound s' d hi fun h => K' l h) := by
      intro d Kb hb
      obtain ⟨l, h1, l1⟩ := bound_local hb
      obtain ⟨h', h2, l2⟩ := bound_local h1
      exact ⟨l, h', h2, fun s' hs K' hk => l1 s' hs.left.right _ (l2 s' hs.right _ hk)⟩
    split at h
    · rename_i id off len hx
      split at h
      · rename_i t k' es ho'
        obtain ⟨l, h', h1, l1⟩ := sl h.2
        refine ⟨_, _, _, h1.2.2, fun s' hs ho K' hk => ?_⟩
        simp only [mop]; rw [val_local hs.left.left, hx]; simp only []; rw [ho.obj (by simp), ho']; exact ⟨h.1, l1 s' hs _ ⟨h1.1, h1.2.1, hk⟩⟩
      · rename_i t k' es ho'
        obtain ⟨l, h', h1, l1⟩ := sl h.2
        refine ⟨_, _, _, h1.2.2, fun s' hs ho K' hk => ?_⟩
        simp only [mop]; rw [val_local hs.left.left, hx]; simp only []; rw [ho.obj (by simp), ho']; exact ⟨h.1, l1 s' hs _ ⟨h1.1, h1.2.1, hk⟩⟩
      · rename_i t k' es C ho'
        obtain ⟨l, h', h1, l1⟩ := sl h.2.2
        refine ⟨_, _, _, h1.2.2, fun s' hs ho K' hk => ?_⟩
        simp only [mop]; rw [val_local hs.left.left, hx]; simp only []; rw [ho.obj (by simp), ho']; exact ⟨h.1, h.2.1, l1 s' hs _ ⟨h1.1, h1.2.1, hk⟩⟩
      · exact h.elim
    · rename_i t k' es hx
      obtain ⟨l, h', h1, l1⟩ := sl h.2
      refine ⟨_, _, _, h1.2.2, fun s' hs ho K' hk => ?_⟩
      simp only [mop]; rw [val_local hs.left.left, hx]; exact ⟨h.1, l1 s' hs _ ⟨h1.1, h1.2.1, hk⟩⟩
    · rename_i k' hx
      obtain ⟨l, h', h1, l1⟩ := sl h
      refine ⟨_, _, _, h1.2.2, fun s' hs ho K' hk => ?_⟩
      simp only [mop]; rw [val_local hs.left.left, hx]; exact l1 s' hs _ ⟨h1.1, h1.2.1, hk⟩
    · exact h.elim
  case fieldAddr off x =>
    split at h
    · rename_i hx; exact ⟨_, _, _, h, fun s' hs ho K' hk => by simp only [mop]; rw [val_local hs, hx]; exact hk⟩
    · rename_i hx; exact ⟨_, _, _, h, fun s' hs ho K' hk => by simp only [mop]; rw [val_local hs, hx]; exact hk⟩
    · exact h.elim
  case field ag k off x =>
    split at h
    · rename_i hx; exact ⟨_, _, _, h.2, fun s' hs ho K' hk => by simp only [mop]; rw [val_local hs, hx]; exact ⟨h.1, hk⟩⟩
    · exact h.elim
  case indexAddr k x y =>
    split at h
    · rename_i id off len k0 a hx hy
      split at h
      · rename_i t k' es ho'
        refine ⟨_, _, _, h.2.2.2, fun s' hs ho K' hk => ?_⟩
        simp only [mop]; rw [val_local hs.left, val_local hs.right, hx, hy]; simp only []; rw [ho.obj (by simp), ho']; exact ⟨h.1, h.2.1, h.2.2.1, hk⟩
      · rename_i t k' es ho'
        refine ⟨_, _, _, h.2.2.2, fun s' hs ho K' hk => ?_⟩
        simp only [mop]; rw [val_local hs.left, val_local hs.right, hx, hy]; simp only []; rw [ho.obj (by simp), ho']; exact ⟨h.1, h.2.1, h.2.2.1, hk⟩
      · exact h.elim
    · rename_i t k' es k0 a hx hy
      have hlt : a.toNat < es.length := by have := h.2.1; have := h.2.2.1; omega
      refine ⟨_, _, _, h.2.2.2.get hlt, fun s' hs ho K' hk => ?_⟩
      simp only [mop]; rw [val_local hs.left, val_local hs.right, hx, hy]; exact ⟨h.1, h.2.1, h.2.2.1, .same hlt hk⟩
    · exact h.elim
  case arrAddr len k x y =>
    split at h
    · rename_i hx hy
      refine ⟨_, _, _, h.2.2, fun s' hs ho K' hk => ?_⟩
      simp only [mop]; rw [val_local hs.left, val_local hs.right, hx, hy]; exact ⟨h.1, h.2.1, hk⟩
    · rename_i hx hy
      refine ⟨_, _, _, h.2.2, fun s' hs ho K' hk => ?_⟩
      simp only [mop]; rw [val_local hs.left, val_local hs.right, hx, hy]; exact ⟨h.1, h.2.1, hk⟩
    · exact h.elim
  case arrIndex ag len k x y =>
    split at h
    · rename_i hx hy
      refine ⟨_, _, _, h.2.2.2, fun s' hs ho K' hk => ?_⟩
      simp only [mop]; rw [val_local hs.left, val_local hs.right, hx, hy]; exact ⟨h.1, h.2.1, h.2.2.1, hk⟩
    · exact h.elim
  case extract x i =>
    split at h
    · rename_i hx; exact ⟨_, _, _, h.2, fun s' hs ho K' hk => by simp only [mop]; rw [val_local hs, hx]; exact ⟨h.1, hk⟩⟩
    · exact h.elim
  case len x =>
    split at h
    all_goals first
      | exact h.elim
      | (rename_i hx; exact ⟨_, _, _, h, fun s' hs ho K' hk => by simp only [mop]; rw [val_local hs, hx]; exact hk⟩)
  case append k bytes drop x y =>
    split at h
    · rename_i t' k' ys rs hy
      obtain ⟨h0, h⟩ := h
      split at h
      · rename_i k2 hx
        refine ⟨_, _, _, h.2, fun s' hs ho K' hk => ?_⟩
        simp only [mop]; rw [val_local hs.left, val_local hs.right, sliceOf_local hy ho.left]; simp only []; rw [hx]; exact ⟨h0, h.1, hk⟩
      · rename_i id off len hx
        split at h
        · rename_i t k'' es ho'
          refine ⟨_, _, _, h.2.2.2, fun s' hs ho K' hk => ?_⟩
          simp only [mop]; rw [val_local hs.left, val_local hs.right, sliceOf_local hy (fun t ht => ho t (by simp [ht]))]; simp only []; rw [hx]; simp only []
          rw [ho.obj (by simp), ho']; exact ⟨h0, h.1, h.2.1, h.2.2.1, hk⟩
        · rename_i t k'' es C ho'
          refine ⟨_, _, _, h.2.2.2.2, fun s' hs ho K' hk => ?_⟩
          simp only [mop]; rw [val_local hs.left, val_local hs.right, sliceOf_local hy (fun t ht => ho t (by simp [ht]))]; simp only []; rw [hx]; simp only []
          rw [ho.obj (by simp), ho']; exact ⟨h0, h.1, h.2.1, h.2.2.1, h.2.2.2.1, hk⟩
        · exact h.elim
      · exact h.elim
    · exact h.elim
  case minmax mx x y =>
    split at h
    · rename_i hx hy
      exact ⟨_, _, _, h.2, fun s' hs ho K' hk => by simp only [mop]; rw [val_local hs.left, val_local hs.right, hx, hy]; exact ⟨h.1, hk⟩⟩
    · exact h.elim
  case call f al ms args =>
    obtain ⟨xs, is, gs, rs, ⟨h1, h2, h3⟩, i1, l1⟩ := argsK_local h
    simp only [callK, if_true] at h3
    obtain ⟨os, r, hc, h3⟩ := h3
    obtain ⟨u, n', h4, l4⟩ := outK_local h3
    refine ⟨_, _, _, h4.2, fun s' hs ho K' hk => ?_⟩
    simp only [mop]; rw [vals_local hs]
    refine l1 s' ho.left _ ⟨h1, h2, ?_⟩
    simp only [callK, if_true]
    exact ⟨os, r, hc, l4 s' (fun i hi => ho.left.left.obj (i1 i hi)) _ ⟨h4.1, hk⟩⟩
  case callv f args =>
    split at h
    · rename_i dom φ xs hf hx
      refine ⟨_, _, _, h.2, fun s' hs ho K' hk => ?_⟩
      simp only [mop]; rw [val_local hs.left, vals_local hs.right, hf, hx]; exact ⟨h.1, hk⟩
    · rename_i f' first caps xs hf hx
      obtain ⟨dom, φ, h1, h2, h3⟩ := h
      refine ⟨_, _, _, h3, fun s' hs ho K' hk => ?_⟩
      simp only [mop]; rw [val_local hs.left, vals_local hs.right, hf, hx]
      exact ⟨dom, φ, FnOk_local ho.left h1, h2, by rw [readsM_local ho.left]; exact hk⟩
    · exact h.elim
  case mkfn f xs ys =>
    exact ⟨_, _, _, h, fun s' hs ho K' hk => by simp only [mop]; rw [vals_local hs.left, vals_local hs.right]; exact hk⟩

theorem mop_det (hp : o.plain = true) (h : mop true P o n s K) : mop false P o n s K := by
  cases o <;> try exact h
  case call f al ms args =>
    simp only [mop] at h ⊢
    obtain ⟨xs, is, gs, rs, ⟨h1, h2, h3⟩, i1, l1⟩ := argsK_local h
    refine l1 s (fun _ _ => rfl) _ ⟨h1, h2, ?_⟩
    simp only [callK, if_true, Bool.false_eq_true, if_false] at h3 ⊢
    obtain ⟨os, r, hc, h3⟩ := h3
    exact ⟨_, hc, fun o r e => by rw [e.1, e.2]; exact h3⟩

end
end Go.Fw
