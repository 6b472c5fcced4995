/-
  States are brought into a standard form: only the slots that are looked at again, objects numbered in the order in which they are met.
-/
import Derived.Test.YtdfbdbbjnihmaaaFwY
namespace Go.Fw
set_option linter.unusedVariables false
set_option linter.unusedSimpArgs false

mutual
def MV.ren (ρ : Nat → Option Nat) : MV → MV
  | .sr id off len => match ρ id with | some j => .sr j off len | none => .u
  | .pr id i off => match ρ id with | some j => .pr j i off | none => .u
  | .agg cs => .agg (renL ρ cs)
  | .tup vs => .tup (renL ρ vs)
  | .clo f a b => .clo f (renL ρ a) (renL ρ b)
  | .i k n => .i k n
  | .b x => .b x
  | .s t k es => .s t k es
  | .nl k => .nl k
  | .pd t cs off => .pd t cs off
  | .fn d φ => .fn d φ
  | .pf d φ => .pf d φ
  | .ow t k es => .ow t k es
  | .pw cs => .pw cs
  | .un => .un
  | .u => .u
def renL (ρ : Nat → Option Nat) : List MV → List MV
  | [] => []
  | m :: r => m.ren ρ :: renL ρ r
end
mutual
def MV.ids : MV → List Nat
  | .sr id _ _ => [id]
  | .pr id _ _ => [id]
  | .agg cs => idsL cs
  | .tup vs => idsL vs
  | .clo _ a b => idsL a ++ idsL b
  | .i _ _ | .b _ | .s _ _ _ | .nl _ | .pd _ _ _ | .fn _ _ | .pf _ _ | .ow _ _ _ | .pw _ | .un | .u => []
def idsL : List MV → List Nat
  | [] => []
  | m :: r => m.ids ++ idsL r
end
def MO.ren (ρ : Nat → Option Nat) : MO → MO
  | .box cs => .box (renL ρ cs)
  | .arr t k es => .arr t k es
  | .fz t k es => .fz t k es
  | .rm t k es C => .rm t k es C

def addIds : List Nat → List Nat → List Nat
  | acc, [] => acc
  | acc, x :: r => if acc.contains x then addIds acc r else addIds (acc ++ [x]) r
def boxIds (s : MS) : List Nat → List Nat
  | [] => []
  | id :: r => (match s.obj id with | some (.box cs) => idsL cs | _ => []) ++ boxIds s r
def reach (s : MS) : Nat → List Nat → List Nat
  | 0, ids => ids
  | k + 1, ids => reach s k (addIds ids (boxIds s ids))
def idx : List Nat → Nat → Nat → Option Nat
  | [], _, _ => none
  | x :: r, k, id => if x = id then some k else idx r (k + 1) id
def keepFr (fr : List (Nat × MV)) : List Nat → List (Nat × MV)
  | [] => []
  | t :: r => match look fr t with | some m => (t, m) :: keepFr fr r | none => keepFr fr r
def frIds : List (Nat × MV) → List Nat
  | [] => []
  | (_, m) :: r => m.ids ++ frIds r
def renFr (ρ : Nat → Option Nat) : List (Nat × MV) → List (Nat × MV)
  | [] => []
  | (t, m) :: r => (t, m.ren ρ) :: renFr ρ r
def hpOf (s : MS) (ρ : Nat → Option Nat) : Nat → List Nat → List (Nat × MO)
  | _, [] => []
  | k, id :: r => match s.obj id with | some o => (k, o.ren ρ) :: hpOf s ρ (k + 1) r | none => hpOf s ρ (k + 1) r
def normWith (s : MS) (fr : List (Nat × MV)) (ids : List Nat) : MS := ⟨renFr (idx ids 0) fr, hpOf s (idx ids 0) 0 ids, ids.length⟩
def norm (live : List Nat) (s : MS) : MS :=
  normWith s (keepFr s.fr live) (reach s 2 (addIds [] (frIds (keepFr s.fr live))))
def keep (live : List Nat) (nx : Nat) (s : MS) : MS := ⟨keepFr s.fr live, s.hp, nx⟩

theorem addIds_nodup : ∀ (l acc : List Nat), acc.Nodup → (addIds acc l).Nodup
  | [], acc, h => h
  | x :: l, acc, h => by
    simp only [addIds]
    split
    · exact addIds_nodup l acc h
    · rename_i hx
      refine addIds_nodup l _ (List.nodup_append.2 ⟨h, by simp, fun a ha b hb => ?_⟩)
      simp at hb hx
      exact fun e => hx (hb ▸ e ▸ ha)
theorem reach_nodup (s : MS) : ∀ (k : Nat) (ids : List Nat), ids.Nodup → (reach s k ids).Nodup
  | 0, _, h => h
  | k + 1, ids, h => reach_nodup s k _ (addIds_nodup _ _ h)
theorem idx_get : ∀ {l : List Nat} {k id j : Nat}, idx l k id = some j → k ≤ j ∧ l[j - k]? = some id
  | [], _, _, _, h => by simp [idx] at h
  | x :: l, k, id, j, h => by
    simp only [idx] at h
    split at h
    · rename_i e; simp at h; subst h; simp [e]
    · have := idx_get h
      refine ⟨by omega, ?_⟩
      rw [show j - k = (j - (k + 1)) + 1 by omega]; simpa using this.2
theorem look_keepFr {fr : List (Nat × MV)} {t : Nat} {m : MV} : ∀ {l : List Nat}, look (keepFr fr l) t = some m → look fr t = some m
  | [], h => by simp [keepFr, look] at h
  | x :: l, h => by
    simp only [keepFr] at h
    split at h
    · rename_i m' hm
      simp only [look] at h
      split at h
      · rename_i e; subst e; rw [hm]; exact h
      · exact look_keepFr h
    · exact look_keepFr h
theorem look_renFr {ρ : Nat → Option Nat} {t : Nat} {m : MV} : ∀ {fr : List (Nat × MV)}, look (renFr ρ fr) t = some m → ∃ m', look fr t = some m' ∧ m = m'.ren ρ
  | [], h => by simp [renFr, look] at h
  | (x, y) :: fr, h => by
    simp only [renFr, look] at h ⊢
    split at h
    · rename_i e; simp at h; exact ⟨y, by simp [e], h.symm⟩
    · rename_i e; obtain ⟨m', h1, h2⟩ := look_renFr h; exact ⟨m', by simp [e, h1], h2⟩
theorem look_hpOf {s : MS} {ρ : Nat → Option Nat} {j : Nat} {o : MO} : ∀ {ids : List Nat} {k : Nat}, look (hpOf s ρ k ids) j = some o → k ≤ j ∧ ∃ id o', ids[j - k]? = some id ∧ s.obj id = some o' ∧ o = o'.ren ρ
  | [], k, h => by simp [hpOf, look] at h
  | id :: ids, k, h => by
    have shift : ∀ {k}, k + 1 ≤ j → (id :: ids)[j - k]? = ids[j - (k + 1)]? := fun {k} hk => by
      rw [show j - k = (j - (k + 1)) + 1 by omega]; simp
    simp only [hpOf] at h
    split at h
    · rename_i o' ho
      simp only [look] at h
      split at h
      · rename_i e
        simp at h
        subst e
        exact ⟨Nat.le_refl _, id, o', by simp, ho, h.symm⟩
      · obtain ⟨h1, id', o2, h2, h3⟩ := look_hpOf h
        exact ⟨by omega, id', o2, by rw [shift h1]; exact h2, h3⟩
    · obtain ⟨h1, id', o2, h2, h3⟩ := look_hpOf h
      exact ⟨by omega, id', o2, by rw [shift h1]; exact h2, h3⟩

section
variable {P : Program} {N : FrS} {w0 : World} {F0 : List Nat} {J0 : Imm}

structure Ren (ρ : Nat → Option Nat) (g g' : Env) : Prop where
  I : g'.I = g.I
  J : g'.J = g.J
  inj : ∀ id j, ρ id = some j → g'.inj j = g.inj id

theorem Ren.im {ρ : Nat → Option Nat} {g g' : Env} (h : Ren ρ g g') (t : Bool) : g'.im t = g.im t := by
  cases t <;> simp [Env.im, h.I, h.J]

mutual
theorem RV.ren {ρ : Nat → Option Nat} {g g' : Env} (hg : Ren ρ g g') {v : Value} {m : MV} : RV P g v m → RV P g' v (m.ren ρ)
  | .i k n => by simp only [MV.ren]; exact .i k n
  | .b x => by simp only [MV.ren]; exact .b x
  | .s t k es v h => by simp only [MV.ren]; exact .s t k es v (by rw [hg.im]; exact h)
  | .nl p k => by simp only [MV.ren]; exact .nl p k
  | .sr id off len cap l hl h1 h2 => by
    simp only [MV.ren]
    split
    · rename_i j hj; exact .sr j off len cap l (by rw [hg.inj id j hj]; exact hl) h1 h2
    · exact .u _
  | .sr0 p id off => by
    simp only [MV.ren]
    split
    · rename_i j hj; exact .sr0 p j off
    · exact .u _
  | .pr id i off l hl => by
    simp only [MV.ren]
    split
    · rename_i j hj; exact .pr j i off l (by rw [hg.inj id j hj]; exact hl)
    · exact .u _
  | .pd t cs off bb o cells E z vs hI hc hr => by simp only [MV.ren]; exact .pd t cs off bb o cells E z vs (by rw [hg.im]; exact hI) hc (by rw [hg.im]; exact hr)
  | .agg vs cs h h1 => by simp only [MV.ren]; exact .agg vs _ (RVL.ren hg h) h1
  | .tup vs cs h => by simp only [MV.ren]; exact .tup vs _ (RVL.ren hg h)
  | .fn f fv cv dom φ hc h => by simp only [MV.ren]; exact .fn f fv cv dom φ hc (by rw [hg.I]; exact h)
  | .clo f fv cv first caps h1 h2 => by simp only [MV.ren]; exact .clo f fv cv _ _ (RVL.ren hg h1) (RVL.ren hg h2)
  | .pf bb o cells E z v dom φ hI hc h => by
    have h' := RV.ren hg h
    simp only [MV.ren] at h' ⊢; exact .pf bb o cells E z v dom φ (by rw [hg.I]; exact hI) hc h'
  | .un => by simp only [MV.ren]; exact .un
  | .u v => by simp only [MV.ren]; exact .u v
theorem RVL.ren {ρ : Nat → Option Nat} {g g' : Env} (hg : Ren ρ g g') {vs : List Value} {ms : List MV} : RVL P g vs ms → RVL P g' vs (renL ρ ms)
  | .nil => by simp only [renL]; exact .nil
  | .cons v vs m ms h hs => by simp only [renL]; exact .cons _ _ _ _ (RV.ren hg h) (RVL.ren hg hs)
end

theorem renL_length {ρ : Nat → Option Nat} : ∀ l : List MV, (renL ρ l).length = l.length
  | [] => rfl
  | m :: l => by simp [renL, renL_length l]

theorem ORep.ren {ρ : Nat → Option Nat} {g g' : Env} {w : World} {id j : Nat} {o : MO} (hg : Ren ρ g g') (hj : g'.inj j = g.inj id) (h : ORep P g w id o) : ORep P g' w j (o.ren ρ) := by
  cases o with
  | arr t k es => simp only [MO.ren, ORep] at h ⊢; rw [hj, hg.im]; exact h
  | fz t k es => simp only [MO.ren, ORep] at h ⊢; rw [hj, hg.im]; exact h
  | rm t k es C => simp only [MO.ren, ORep] at h ⊢; rw [hj, hg.im]; exact h
  | box cs =>
    obtain ⟨l, cells, E, h1, h2, h3, h4, h5⟩ := h
    refine ⟨l, cells, E, by rw [hj]; exact h1, h2, by rw [renL_length]; exact h3, h4, ?_⟩
    rw [renL_length]; exact RVL.ren hg h5

theorem MO.live_ren {ρ : Nat → Option Nat} (o : MO) : (o.ren ρ).live = o.live := by cases o <;> rfl

theorem Rel.normWith {A : Nat → Prop} {g : Env} {s : MS} {a : Act} {w : World} {fr : List (Nat × MV)} {ids : List Nat} (h : Rel P N A w0 F0 J0 g s a w) (hn : ids.Nodup)
    (hfr : ∀ t m, look fr t = some m → look s.fr t = some m) :
    ∃ g', g'.I = g.I ∧ g'.J = g.J ∧ Rel P N (fun id => ids.length ≤ id) w0 F0 J0 g' (Fw.normWith s fr ids) a w := by
  let g' : Env := ⟨g.I, g.J, fun j => (ids[j]?).bind g.inj⟩
  have hg : Ren (idx ids 0) g g' := ⟨rfl, rfl, fun id j hj => by
    have := (idx_get hj).2
    simp only [Nat.sub_zero] at this
    simp [g', this]⟩
  have hinj : ∀ j id, ids[j]? = some id → g'.inj j = g.inj id := fun j id hj => by simp [g', hj]
  have hlk : ∀ j o, look (hpOf s (idx ids 0) 0 ids) j = some o → ∃ id o', ids[j]? = some id ∧ look s.hp id = some o' ∧ o = o'.ren (idx ids 0) := by
    intro j o hj
    obtain ⟨_, id, o', h1, h2, h3⟩ := look_hpOf hj
    exact ⟨id, o', by simpa using h1, h2, h3⟩
  refine ⟨g', rfl, rfl, h.size, h.fix, h.defers, fun t m ht => ?_, ?_⟩
  · obtain ⟨m', h1, h2⟩ := look_renFr ht
    rw [h2]; exact RV.ren hg (h.slots t m' (hfr t m' h1))
  refine ⟨fun j o hj => ?_, fun j hj => ?_, fun j1 j2 o1 o2 l1 l2 a1 a2 b1 b2 c1 c2 e => ?_, fun j o l a1 b1 c1 => ?_, fun j o l a1 b1 c1 => ?_, h.hp.imm, h.hp.JI, h.hp.Jf, h.hp.ext⟩
  · obtain ⟨id, o', h1, h2, rfl⟩ := hlk j o hj
    exact ORep.ren hg (hinj j id h1) (h.hp.objs id o' h2)
  · refine ⟨?_, ?_⟩
    · simp [g', List.getElem?_eq_none hj]
    · cases hx : look (hpOf s (idx ids 0) 0 ids) j with
      | none => exact hx
      | some o =>
        obtain ⟨id, o', h1, _⟩ := hlk j o hx
        rw [List.getElem?_eq_none hj] at h1; cases h1
  · obtain ⟨id1, p1, d1, q1, rfl⟩ := hlk j1 o1 a1
    obtain ⟨id2, p2, d2, q2, rfl⟩ := hlk j2 o2 a2
    rw [MO.live_ren] at b1 b2
    rw [hinj j1 id1 d1] at c1
    rw [hinj j2 id2 d2] at c2
    have := h.hp.sep id1 id2 p1 p2 l1 l2 q1 q2 b1 b2 c1 c2 e
    subst this
    have hj1 := (List.getElem?_eq_some_iff.1 d1).1
    exact (List.getElem?_inj hj1 hn).1 (d1.trans d2.symm)
  · obtain ⟨id, p, d, q, rfl⟩ := hlk j o a1
    rw [MO.live_ren] at b1
    rw [hinj j id d] at c1
    exact h.hp.disj id p l q b1 c1
  · obtain ⟨id, p, d, q, rfl⟩ := hlk j o a1
    rw [MO.live_ren] at b1
    rw [hinj j id d] at c1
    exact h.hp.fresh id p l q b1 c1

theorem Rel.norm {A : Nat → Prop} {g : Env} {s : MS} {a : Act} {w : World} {live : List Nat} (h : Rel P N A w0 F0 J0 g s a w) :
    ∃ g', g'.I = g.I ∧ g'.J = g.J ∧ Rel P N (fun id => (norm live s).nx ≤ id) w0 F0 J0 g' (norm live s) a w :=
  h.normWith (reach_nodup s 2 _ (addIds_nodup _ _ (by simp))) (fun _ _ => look_keepFr)

theorem Rel.keep {A A' : Nat → Prop} {g : Env} {s : MS} {a : Act} {w : World} {live : List Nat} {nx : Nat} (h : Rel P N A w0 F0 J0 g s a w) (hA : ∀ id, A' id → A id) :
    Rel P N A' w0 F0 J0 g (keep live nx s) a w :=
  ⟨h.size, h.fix, h.defers, fun t m ht => h.slots t m (look_keepFr ht), h.hp.weaken hA⟩

end
end Go.Fw
