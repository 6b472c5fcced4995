/-
  Regions that draw their order: run once in the text's order, with a record of what each operation reads and writes.
-/
import Derived.Test.YtdfbdbbjnihmaaaFwW
namespace Go.Fw
set_option linter.unusedVariables false
set_option linter.unusedSimpArgs false

structure Rec where
  dst : Option Nat
  v : MV
  u : Upd
  rs : List Nat
  ids : List Nat

def mstep (P : Program) (o : MOper) (n : Nat) (s : MS) (K : Rec → Prop) : Prop :=
  match o.guard with
  | none => mop true P o.op n s fun m u rd => K ⟨o.dst, m, u, o.op.slots, rd ++ u.map (·.1)⟩
  | some (g, want) =>
    match s.val (.t g) with
    | .b x => (x = want → mop true P o.op n s fun m u rd => K ⟨o.dst, m, u, g :: o.op.slots, rd ++ u.map (·.1)⟩) ∧ (x = (!want) → K ⟨o.dst, .un, [], [g], []⟩)
    | .un => K ⟨o.dst, .un, [], [g], []⟩
    | _ => False

def MS.did (s : MS) (r : Rec) : MS := s.app r.dst r.v r.u

def mtrace (P : Program) : List MOper → Nat → MS → (List Rec → MS → Prop) → Prop
  | [], _, s, K => K [] s
  | o :: l, n, s, K => mstep P o n s fun r => mtrace P l (n + 64) (s.did r) fun rs s' => K (r :: rs) s'

/-- Two operations that must keep their order. -/
def clash (a b : Rec) : Bool :=
  (match a.dst with | some d => b.rs.contains d || b.dst == some d | none => false) ||
  (match b.dst with | some d => a.rs.contains d | none => false) ||
  a.u.any (fun x => b.ids.contains x.1) || b.u.any (fun x => a.ids.contains x.1)

/-- bs: for each operation the ones that stand ahead of it in any order (as bits). -/
def okRec (bs : List Nat) (r : Rec) (i : Nat) : Nat → List Rec → Bool
  | _, [] => true
  | j, x :: l => (!clash r x || (bs.getD j 0).testBit i) && okRec bs r i (j + 1) l
def okTrace (bs : List Nat) : Nat → List Rec → Bool
  | _, [] => true
  | i, r :: l => okRec bs r i (i + 1) l && okTrace bs (i + 1) l

def mdraw (P : Program) (bs : List Nat) (l : List MOper) (n : Nat) (s : MS) (K : MS → Prop) : Prop :=
  mtrace P l n s fun rs s' => okTrace bs 0 rs = true ∧ K s'

section
variable {P : Program}

def StepAt (P : Program) (o : MOper) (n : Nat) (s : MS) (r : Rec) : Prop :=
  ((∀ g want, o.guard = some (g, want) → s.val (.t g) = .b want) ∧ mop false P o.op n s fun m u _ => m = r.v ∧ u = r.u) ∨
  (∃ g want, o.guard = some (g, want) ∧ (s.val (.t g) = .b (!want) ∨ s.val (.t g) = .un) ∧ r.v = .un ∧ r.u = [])

def StepOK (P : Program) (o : MOper) (n : Nat) (s : MS) (r : Rec) : Prop :=
  r.dst = o.dst ∧ (∀ x ∈ r.u, x.1 ∈ r.ids) ∧ ∀ s', SameFr s s' r.rs → SameHp s s' r.ids → StepAt P o n s' r

theorem mstep_get {o : MOper} {n : Nat} {s : MS} {K : Rec → Prop} (hp : o.op.plain = true) (h : mstep P o n s K) : ∃ r, K r ∧ StepOK P o n s r := by
  have gen : ∀ (gs : List Nat), (∀ s', SameFr s s' (gs ++ o.op.slots) → ∀ g want, o.guard = some (g, want) → s'.val (.t g) = .b want) →
      (mop true P o.op n s fun m u rd => K ⟨o.dst, m, u, gs ++ o.op.slots, rd ++ u.map (·.1)⟩) → ∃ r, K r ∧ StepOK P o n s r := by
    intro gs hg h
    obtain ⟨m, u, rd, hk, hl⟩ := mop_local hp h
    refine ⟨_, hk, rfl, fun x hx => ?_, fun s' h1 h2 => .inl ⟨hg s' h1, mop_det hp (hl s' h1.right h2 _ ⟨rfl, rfl⟩)⟩⟩
    simp only [List.mem_append, List.mem_map]
    exact .inr ⟨x, hx, rfl⟩
  have skp : ∀ g want x, o.guard = some (g, want) → s.val (.t g) = x → (x = .b (!want) ∨ x = .un) → K ⟨o.dst, .un, [], [g], []⟩ → ∃ r, K r ∧ StepOK P o n s r := by
    intro g want x hg hx ho hk
    refine ⟨_, hk, rfl, by simp, fun s' h1 h2 => .inr ⟨g, want, hg, ?_, rfl, rfl⟩⟩
    rw [val_local (x := .t g) (s := s) (by simpa [Opd.slots] using h1), hx]; exact ho
  unfold mstep at h
  split at h
  · rename_i hg
    exact gen [] (fun s' _ g want e => by rw [hg] at e; cases e) h
  · rename_i g want hg
    split at h
    · rename_i x hx
      by_cases e : x = want
      · refine gen [g] (fun s' hs g' want' e' => ?_) (h.1 e)
        rw [hg] at e'; cases e'
        rw [val_local (x := .t g) (s := s) (by simpa [Opd.slots] using hs.left), hx, e]
      · have e' : x = !want := by revert e; cases x <;> cases want <;> decide
        exact skp g want _ hg hx (.inl (by rw [e'])) (h.2 e')
    · rename_i hx
      exact skp g want _ hg hx (.inr rfl) h
    · exact h.elim

def runR (s : MS) : List Rec → MS
  | [] => s
  | r :: l => runR (s.did r) l

theorem mtrace_get : ∀ {l : List MOper} {n : Nat} {s : MS} {K : List Rec → MS → Prop}, (∀ o ∈ l, o.op.plain = true) → mtrace P l n s K →
    ∃ rs, K rs (runR s rs) ∧ rs.length = l.length ∧ ∀ i o r, l[i]? = some o → rs[i]? = some r → StepOK P o (n + 64 * i) (runR s (rs.take i)) r
  | [], n, s, K, _, h => ⟨[], h, rfl, by simp⟩
  | o :: l, n, s, K, hp, h => by
    obtain ⟨r, h1, l1⟩ := mstep_get (hp o (by simp)) h
    obtain ⟨rs, h2, e2, l2⟩ := mtrace_get (fun o ho => hp o (by simp [ho])) h1
    refine ⟨r :: rs, h2, by simp [e2], fun i o' r' hi hr => ?_⟩
    cases i with
    | zero => simp at hi hr; subst hi hr; exact l1
    | succ i =>
      have := l2 i o' r' (by simpa using hi) (by simpa using hr)
      have e : n + 64 + 64 * i = n + 64 * (i + 1) := by omega
      rw [e] at this
      simpa [runR] using this

/-- Places of a state: slots and objects. -/
inductive Key where
  | s (n : Nat)
  | o (n : Nat)
def MS.at (s : MS) : Key → Option (MV ⊕ MO)
  | .s n => (look s.fr n).map .inl
  | .o n => (look s.hp n).map .inr
def effU : Upd → Nat → Option (Option MO)
  | [], _ => none
  | (id, o) :: r, n => match effU r n with | some x => some x | none => if id = n then some o else none
def Rec.eff (r : Rec) : Key → Option (Option (MV ⊕ MO))
  | .s n => match r.dst with | some d => if d = n then some (some (.inl r.v)) else none | none => none
  | .o n => (effU r.u n).map (·.map .inr)

theorem look_upds : ∀ (u : Upd) (hp : List (Nat × MO)) (n : Nat), look (upds hp u) n = (effU u n).getD (look hp n)
  | [], hp, n => rfl
  | (id, some o) :: r, hp, n => by
    rw [upds, look_upds r, effU, look_put]
    cases effU r n with
    | some x => rfl
    | none => by_cases e : id = n <;> simp [e]
  | (id, none) :: r, hp, n => by
    rw [upds, look_upds r, effU, look_del]
    cases effU r n with
    | some x => rfl
    | none => by_cases e : id = n <;> simp [e]

theorem at_did (s : MS) (r : Rec) (κ : Key) : (s.did r).at κ = (r.eff κ).getD (s.at κ) := by
  cases κ with
  | s n =>
    cases hd : r.dst with
    | none => simp [MS.did, MS.app, MS.set, hd, MS.at, Rec.eff]
    | some d =>
      simp only [MS.did, MS.app, MS.set, hd, MS.at, Rec.eff, look_put]
      by_cases e : d = n <;> simp [e]
  | o n =>
    have : (s.did r).hp = upds s.hp r.u := by simp only [MS.did, MS.app, MS.set]; split <;> rfl
    simp only [MS.at, this, look_upds, Rec.eff]
    cases effU r.u n <;> simp

theorem look_of_at_s {s s' : MS} {n : Nat} (h : s'.at (.s n) = s.at (.s n)) : look s'.fr n = look s.fr n := by
  simp only [MS.at] at h
  cases h1 : look s'.fr n <;> cases h2 : look s.fr n <;> simp [h1, h2] at h <;> simp [h]
theorem look_of_at_o {s s' : MS} {n : Nat} (h : s'.at (.o n) = s.at (.o n)) : look s'.hp n = look s.hp n := by
  simp only [MS.at] at h
  cases h1 : look s'.hp n <;> cases h2 : look s.hp n <;> simp [h1, h2] at h <;> simp [h]

/-- The state when the records of S have been done. -/
def stR (S : Nat → Bool) : Nat → MS → List Rec → MS
  | _, s, [] => s
  | k, s, r :: l => stR S (k + 1) (if S k then s.did r else s) l

theorem stR_same {S S' : Nat → Bool} {κ : Key} : ∀ (l : List Rec) (k : Nat) (s s' : MS), s'.at κ = s.at κ → (∀ j r, l[j]? = some r → (r.eff κ).isSome = true → S' (k + j) = S (k + j)) →
    (stR S' k s' l).at κ = (stR S k s l).at κ
  | [], k, s, s', h, _ => h
  | r :: l, k, s, s', h, hS => by
    simp only [stR]
    refine stR_same l (k + 1) _ _ ?_ (fun j r' hr he => by have := hS (j + 1) r' (by simpa using hr) he; rw [show k + (j + 1) = k + 1 + j by omega] at this; exact this)
    cases he : r.eff κ with
    | none =>
      have e1 : ∀ s : MS, (s.did r).at κ = s.at κ := fun s => by rw [at_did, he]; rfl
      cases S k <;> cases S' k <;> simp [e1, h]
    | some x =>
      have hk := hS 0 r (by simp) (by simp [he])
      simp only [Nat.add_zero] at hk
      rw [hk]
      cases S k
      · simpa using h
      · simp [at_did, he]

theorem stR_done {S : Nat → Bool} {κ : Key} {i : Nat} {r : Rec} {x : Option (MV ⊕ MO)} (hx : r.eff κ = some x) : ∀ (l : List Rec) (k : Nat) (s : MS), l[i]? = some r → S (k + i) = true →
    (∀ j r', l[j]? = some r' → i < j → S (k + j) = true → r'.eff κ = none) → (stR S k s l).at κ = x := by
  have keep : ∀ (l : List Rec) (k : Nat) (s : MS), (∀ j r', l[j]? = some r' → S (k + j) = true → r'.eff κ = none) → (stR S k s l).at κ = s.at κ := by
    intro l
    induction l with
    | nil => intros; rfl
    | cons r l ih =>
      intro k s h
      simp only [stR]
      rw [ih (k + 1) _ (fun j r' hr hs => h (j + 1) r' (by simpa using hr) (by rw [show k + (j + 1) = k + 1 + j by omega]; exact hs))]
      cases hS : S k
      · simp
      · simp only [if_true]; rw [at_did, h 0 r (by simp) (by simpa using hS)]; rfl
  induction i with
  | zero =>
    intro l k s hr hS h
    cases l with
    | nil => simp at hr
    | cons r0 l =>
      simp at hr; subst hr
      simp only [Nat.add_zero] at hS
      simp only [stR, hS, if_true]
      rw [keep l (k + 1) _ (fun j r' hr' hs => h (j + 1) r' (by simpa using hr') (by omega) (by rw [show k + (j + 1) = k + 1 + j by omega]; exact hs)), at_did, hx]; rfl
  | succ i ih =>
    intro l k s hr hS h
    cases l with
    | nil => simp at hr
    | cons r0 l =>
      simp only [stR]
      refine ih l (k + 1) _ (by simpa using hr) (by rw [show k + 1 + i = k + (i + 1) by omega]; exact hS) (fun j r' hr' hj hs => h (j + 1) r' (by simpa using hr') (by omega) (by rw [show k + (j + 1) = k + 1 + j by omega]; exact hs))

theorem stR_all {S : Nat → Bool} : ∀ (l : List Rec) (k : Nat) (s : MS), (∀ j, j < l.length → S (k + j) = true) → stR S k s l = runR s l
  | [], _, _, _ => rfl
  | r :: l, k, s, h => by
    have h0 := h 0 (by simp)
    simp only [Nat.add_zero] at h0
    simp only [stR, runR, h0, if_true]
    exact stR_all l (k + 1) _ (fun j hj => by rw [show k + 1 + j = k + (j + 1) by omega]; exact h (j + 1) (by simp; omega))
theorem stR_take {S : Nat → Bool} : ∀ (l : List Rec) (i k : Nat) (s : MS), (∀ j, j < l.length → S (k + j) = decide (j < i)) → stR S k s l = runR s (l.take i)
  | [], i, _, _, _ => by simp [stR, runR]
  | r :: l, 0, k, s, h => by
    have h0 := h 0 (by simp)
    simp only [Nat.add_zero, Nat.lt_irrefl, decide_false] at h0
    simp only [stR, h0, Bool.false_eq_true, if_false, List.take_zero, runR]
    have := stR_take (S := S) l 0 (k + 1) s (fun j hj => by rw [show k + 1 + j = k + (j + 1) by omega, h (j + 1) (by simp; omega)]; simp)
    rw [this]; simp [runR]
  | r :: l, i + 1, k, s, h => by
    have h0 := h 0 (by simp)
    simp only [Nat.add_zero, Nat.zero_lt_succ, decide_true] at h0
    simp only [stR, h0, if_true, List.take_succ_cons, runR]
    exact stR_take l i (k + 1) _ (fun j hj => by rw [show k + 1 + j = k + (j + 1) by omega, h (j + 1) (by simp; omega)]; simp)

theorem okRec_get {bs : List Nat} {r : Rec} {i : Nat} : ∀ {l : List Rec} {k : Nat}, okRec bs r i k l = true → ∀ j x, l[j]? = some x → clash r x = true → (bs.getD (k + j) 0).testBit i = true
  | [], _, _, j, x, hx, _ => by simp at hx
  | y :: l, k, h, j, x, hx, hc => by
    simp only [okRec, Bool.and_eq_true] at h
    cases j with
    | zero => simp at hx; subst hx; simpa [hc] using h.1
    | succ j => rw [show k + (j + 1) = k + 1 + j by omega]; exact okRec_get h.2 j x (by simpa using hx) hc
theorem okTrace_get {bs : List Nat} : ∀ {l : List Rec} {k : Nat}, okTrace bs k l = true → ∀ i j x y, l[i]? = some x → l[j]? = some y → i < j → clash x y = true → (bs.getD (k + j) 0).testBit (k + i) = true
  | [], _, _, i, j, x, y, hx, _, _, _ => by simp at hx
  | r :: l, k, h, i, j, x, y, hx, hy, hij, hc => by
    simp only [okTrace, Bool.and_eq_true] at h
    cases j with
    | zero => omega
    | succ j =>
      cases i with
      | zero =>
        simp at hx; subst hx
        have := okRec_get h.1 j y (by simpa using hy) hc
        rw [show k + (j + 1) = k + 1 + j by omega]; simpa using this
      | succ i =>
        have := okTrace_get h.2 i j x y (by simpa using hx) (by simpa using hy) (by omega) hc
        rw [show k + (j + 1) = k + 1 + j by omega, show k + (i + 1) = k + 1 + i by omega]; exact this

theorem eff_ids {r : Rec} {id : Nat} (h : (r.eff (.o id)).isSome = true) : ∃ x ∈ r.u, x.1 = id := by
  have : ∀ u : Upd, (effU u id).isSome = true → ∃ x ∈ u, x.1 = id := by
    intro u
    induction u with
    | nil => intro h; simp [effU] at h
    | cons p u ih =>
      obtain ⟨i, o⟩ := p
      intro h
      rw [effU] at h
      cases he : effU u id with
      | some x => obtain ⟨y, hy, e⟩ := ih (by simp [he]); exact ⟨y, by simp [hy], e⟩
      | none =>
        rw [he] at h
        by_cases e : i = id
        · exact ⟨(i, o), by simp, e⟩
        · simp [e] at h
  exact this _ (by simpa [Rec.eff] using h)
theorem eff_dst {r : Rec} {t : Nat} (h : (r.eff (.s t)).isSome = true) : r.dst = some t := by
  simp only [Rec.eff] at h
  cases hd : r.dst with
  | none => simp [hd] at h
  | some d => rw [hd] at h; by_cases e : d = t <;> simp [e] at h ⊢

/-- One writes what the other reads or writes. -/
def Touch (a b : Rec) : Prop := ∃ κ, (a.eff κ).isSome = true ∧ ((b.eff κ).isSome = true ∨ (match κ with | .s t => t ∈ b.rs | .o id => id ∈ b.ids))
theorem Touch.clash {a b : Rec} (ha : ∀ x ∈ a.u, x.1 ∈ a.ids) (hb : ∀ x ∈ b.u, x.1 ∈ b.ids) (h : Touch a b) : clash a b = true ∧ Fw.clash b a = true := by
  obtain ⟨κ, h1, h2⟩ := h
  cases κ with
  | s t =>
    have e1 := eff_dst h1
    rcases h2 with h2 | h2
    · have e2 := eff_dst h2
      simp [Fw.clash, e1, e2]
    · simp only [] at h2
      simp [Fw.clash, e1, h2]
  | o id =>
    obtain ⟨x, hx, rfl⟩ := eff_ids h1
    have hm : x.1 ∈ b.ids := by
      rcases h2 with h2 | h2
      · obtain ⟨y, hy, e⟩ := eff_ids h2; rw [← e]; exact hb y hy
      · exact h2
    have : a.u.any (fun x => b.ids.contains x.1) = true := List.any_eq_true.2 ⟨x, hx, by simpa using hm⟩
    simp only [Fw.clash, this, Bool.or_true, Bool.true_or, and_self]

end
end Go.Fw
