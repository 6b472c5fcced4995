/-
  Arithmetic, comparisons, structs compared.
-/
import Derived.Test.YtdfbdbbjnihmaaaFwF
import Derived.Laws.StructEq
import Derived.Laws.Small
namespace Go.Fw
set_option linter.unusedVariables false
set_option linter.unusedSimpArgs false

def flatFs (f : TypeId → Option (List Bool)) : List Field → Nat → Option (List Bool)
  | [], _ => some []
  | x :: fs, q =>
    if x.name != "_" && x.offset == q then
      match f x.type with
      | some k =>
        match flatFs f fs (q + k.length) with
        | some r => some (k ++ r)
        | none => none
      | none => none
    else none
/-- The cells of a type whose cells are all numbers or truth values. -/
def flatTy (P : Program) : Nat → TypeId → Option (List Bool)
  | 0, _ => none
  | d + 1, T =>
    match P.underlying T with
    | some (.int _) => some [true]
    | some .bool => some [false]
    | some (.struct fs) =>
      match flatFs (flatTy P d) fs.toList 0 with
      | some k => if !P.stoodInHeld T && (P.info? T).map (·.size) == some k.length then some k else none
      | none => none
    | _ => none

theorem sigOK_len : ∀ {r : List Bool} {ms : List MV}, sigOK r ms = true → r.length = ms.length
  | [], [], _ => rfl
  | true :: r, .i _ _ :: ms, h => by simp [sigOK] at h; simp [sigOK_len h]
  | false :: r, .b _ :: ms, h => by simp [sigOK] at h; simp [sigOK_len h]
  | [], _ :: _, h => by simp [sigOK] at h
  | true :: r, [], h => by simp [sigOK] at h
  | false :: r, [], h => by simp [sigOK] at h

theorem sigOK_app : ∀ {p r : List Bool} {ms : List MV}, sigOK (p ++ r) ms = true → sigOK p (ms.take p.length) = true ∧ sigOK r (ms.drop p.length) = true
  | [], r, ms, h => by simpa [sigOK] using h
  | true :: p, r, .i _ _ :: ms, h => by simp [sigOK] at h ⊢; exact sigOK_app h
  | false :: p, r, .b _ :: ms, h => by simp [sigOK] at h ⊢; exact sigOK_app h
  | true :: p, r, [], h => by simp [sigOK] at h
  | false :: p, r, [], h => by simp [sigOK] at h

theorem eqCells_split : ∀ (k : Nat) {as bs : List MV} {b : Bool}, eqCells as bs = some b →
    ∃ b1 b2, eqCells (as.take k) (bs.take k) = some b1 ∧ eqCells (as.drop k) (bs.drop k) = some b2 ∧ b = (b1 && b2)
  | 0, as, bs, b, h => ⟨true, b, by simp [eqCells], by simpa using h, by simp⟩
  | k + 1, [], [], b, h => by simp [eqCells] at h; subst h; exact ⟨true, true, by simp [eqCells], by simp [eqCells], rfl⟩
  | k + 1, .i ka x :: r, .i kb y :: r', b, h => by
    by_cases hk : ka = kb
    · subst hk
      cases hr : eqCells r r' with
      | none => simp [eqCells, hr] at h
      | some c =>
        simp only [eqCells, hr, if_true, Option.map_some] at h
        obtain ⟨b1, b2, e1, e2, rfl⟩ := eqCells_split k hr
        refine ⟨decide (x = y) && b1, b2, by simp [eqCells, e1], by simpa using e2, ?_⟩
        rw [Bool.and_assoc]; exact (Option.some.inj h).symm
    · simp [eqCells, hk] at h
  | k + 1, .b x :: r, .b y :: r', b, h => by
    cases hr : eqCells r r' with
    | none => simp [eqCells, hr] at h
    | some c =>
      simp only [eqCells, hr, Option.map_some] at h
      obtain ⟨b1, b2, e1, e2, rfl⟩ := eqCells_split k hr
      refine ⟨(x == y) && b1, b2, by simp [eqCells, e1], by simpa using e2, ?_⟩
      rw [Bool.and_assoc]; exact (Option.some.inj h).symm
  | k + 1, [], _ :: _, b, h => by simp [eqCells] at h
  | k + 1, x :: r, [], b, h => by cases x <;> simp [eqCells] at h
  | k + 1, .i ka x :: r, .b y :: r', b, h => by simp [eqCells] at h
  | k + 1, .b x :: r, .i ka y :: r', b, h => by simp [eqCells] at h

section
variable {P : Program} {g : Env} {w : World}

theorem run_part_cell {T : TypeId} {d : TypeDesc} (ht : P.underlying T = some d) (hd : isAggD d = false) {cs : Array Value} {q : Nat} {v : Value} (hv : cs[q]? = some v) :
    (part T cs q).run P w = .ok v w := by
  cases d <;> simp [isAggD] at hd <;> simp [part, isAgg, run_underlying ht, hv]

theorem drop_take_one {α : Type} (ms : List α) (q : Nat) (d : α) (h : q < ms.length) : (ms.drop q).take 1 = [ms.getD q d] := by
  rw [List.drop_eq_getElem_cons h, List.take_succ_cons, List.take_zero]; simp [List.getD, h]

theorem run_equal_flat : ∀ (d D : Nat) (T : TypeId) (k : List Bool), flatTy P d T = some k → d ≤ D → ∀ (xs ys : Array Value) (q : Nat) (ms ns : List MV) (b : Bool),
    RVL P g xs.toList ms → RVL P g ys.toList ns → sigOK k ((ms.drop q).take k.length) = true → sigOK k ((ns.drop q).take k.length) = true →
    eqCells ((ms.drop q).take k.length) ((ns.drop q).take k.length) = some b →
    ((part T xs q >>= fun x => part T ys q >>= fun y => Op.equalIn D T x y) : Sem Bool).run P w = .ok b w := by
  intro d
  induction d with
  | zero => intro D T k h; simp [flatTy] at h
  | succ d ih =>
    intro D T k h hD xs ys q ms ns b hx hy s1 s2 he
    obtain ⟨D, rfl⟩ : ∃ D', D = D' + 1 := ⟨D - 1, by omega⟩
    have hlx := hx.length
    have hly := hy.length
    have l1 := sigOK_len s1
    have l2 := sigOK_len s2
    simp at hlx hly l1 l2
    have scalar : ∀ desc, P.underlying T = some desc → isAggD desc = false → k.length = 1 →
        ((∃ kk, desc = .int kk) ∧ k = [true] ∨ desc = .bool ∧ k = [false]) →
        ((part T xs q >>= fun x => part T ys q >>= fun y => Op.equalIn (D + 1) T x y) : Sem Bool).run P w = .ok b w := by
      intro desc hu ha hk hdesc
      have h1 : xs[q]? = some (xs.toList.getD q undef) := by simp [List.getD, show q < xs.size by omega]
      have h2 : ys[q]? = some (ys.toList.getD q undef) := by simp [List.getD, show q < ys.size by omega]
      have r1 := hx.getD q undef
      have r2 := hy.getD q undef
      generalize xs.toList.getD q undef = x at h1 r1
      generalize ys.toList.getD q undef = y at h2 r2
      rw [hk, drop_take_one ms q .u (by omega)] at s1
      rw [hk, drop_take_one ns q .u (by omega)] at s2
      rw [hk, drop_take_one ms q .u (by omega), drop_take_one ns q .u (by omega)] at he
      generalize ms.getD q .u = m at he r1 s1
      generalize ns.getD q .u = m' at he r2 s2
      simp only [Sem.run_bind, run_part_cell hu ha h1, Result.andThen_ok, run_part_cell hu ha h2]
      rcases hdesc with ⟨⟨kk, rfl⟩, rfl⟩ | ⟨rfl, rfl⟩
      · cases m <;> simp [sigOK] at s1
        cases m' <;> simp [sigOK] at s2
        simp only [eqCells, Option.map_some, Bool.and_true] at he
        split at he
        · rename_i e; subst e
          cases r1; cases r2
          rw [run_equalIn_int w D T _ _ _ _ hu]
          rw [← Option.some.inj he]; rfl
        · cases he
      · cases m <;> simp [sigOK] at s1
        cases m' <;> simp [sigOK] at s2
        simp only [eqCells, Option.map_some, Bool.and_true] at he
        cases r1; cases r2
        rw [run_equalIn_bool' w D T _ _ hu]
        rw [← Option.some.inj he]
    simp only [flatTy] at h
    split at h
    · rename_i hu; cases h; exact scalar _ hu rfl rfl (.inl ⟨⟨_, rfl⟩, rfl⟩)
    · rename_i hu; cases h; exact scalar _ hu rfl rfl (.inr ⟨rfl, rfl⟩)
    · rename_i fs hu
      split at h
      · rename_i kk hfs
        split at h
        · rename_i hc
          cases h
          simp at hc
          obtain ⟨hst, inf, hi, hsz⟩ := hc
          have hpart : ∀ (cs : Array Value), (part T cs q).run P w = .ok (.agg (cs.extract q (q + k.length))) w := fun cs => by
            simp [part, isAgg, run_underlying hu, sizeOf, typeInfo, hi, hsz]
          simp only [Sem.run_bind, hpart, Result.andThen_ok]
          have hfo : P.fieldsOf T = fs := by simp [Program.fieldsOf, hu]
          rw [run_equalIn_struct w D T _ _ (by rw [hfo]; exact hu) hst, hfo]
          have hx' : RVL P g (xs.extract q (q + k.length)).toList ((ms.drop q).take k.length) := by
            have := (hx.drop q).take k.length
            simpa [Array.toList_extract, List.extract_eq_take_drop] using this
          have hy' : RVL P g (ys.extract q (q + k.length)).toList ((ns.drop q).take k.length) := by
            have := (hy.drop q).take k.length
            simpa [Array.toList_extract, List.extract_eq_take_drop] using this
          generalize xs.extract q (q + k.length) = xs' at hx'
          generalize ys.extract q (q + k.length) = ys' at hy'
          generalize (ms.drop q).take k.length = ms' at *
          generalize (ns.drop q).take k.length = ns' at *
          have fields : ∀ (fl : List Field) (p : Nat) (r : List Bool) (b : Bool), flatFs (flatTy P d) fl p = some r → sigOK r (ms'.drop p) = true → sigOK r (ns'.drop p) = true →
              eqCells (ms'.drop p) (ns'.drop p) = some b → (Op.eqFields D xs' ys' fl).run P w = .ok b w := by
            intro fl
            induction fl with
            | nil =>
              intro p r b h1 h2 h3 h4
              simp [flatFs] at h1; subst h1
              have e1 := sigOK_len h2
              have e2 := sigOK_len h3
              rw [List.length_eq_zero_iff.1 e1.symm, List.length_eq_zero_iff.1 e2.symm] at h4
              simp [eqCells] at h4; subst h4
              simp [Op.eqFields]
            | cons f fl ihf =>
              intro p r b h1 h2 h3 h4
              simp only [flatFs] at h1
              split at h1
              · rename_i hc
                simp at hc
                obtain ⟨hname, hoff⟩ := hc
                split at h1
                · rename_i kf hkf
                  split at h1
                  · rename_i r' hr'
                    cases h1
                    obtain ⟨b1, b2, e1, e2, rfl⟩ := eqCells_split kf.length h4
                    have s1 := sigOK_app h2
                    have s2 := sigOK_app h3
                    have hone := ih D f.type kf hkf (by omega) xs' ys' p ms' ns' b1 hx' hy' s1.1 s2.1 e1
                    simp only [Sem.run_bind] at hone
                    simp only [Op.eqFields, hname, ne_eq, not_false_eq_true, if_true, hoff, Sem.run_bind]
                    revert hone
                    generalize (part f.type xs' p).run P w = q1
                    cases q1 with
                    | halt => intro hone; simp [Result.andThen] at hone
                    | ok a1 w1 =>
                      simp only [Result.andThen_ok]
                      generalize (part f.type ys' p).run P w1 = q2
                      cases q2 with
                      | halt => intro hone; simp [Result.andThen] at hone
                      | ok a2 w2 =>
                        simp only [Result.andThen_ok]
                        intro hone
                        rw [hone]
                        simp only [Result.andThen_ok]
                        cases b1
                        · simp
                        · simp only [Bool.not_true, Bool.false_eq_true, if_false, Bool.true_and]
                          rw [List.drop_drop] at e2 s1 s2
                          rw [List.drop_drop] at e2
                          exact ihf (p + kf.length) r' b2 hr' s1.2 s2.2 e2
                  · cases h1
                · cases h1
              · cases h1
          exact fields fs.toList 0 k b hfs (by simpa using s1) (by simpa using s2) (by simpa using he)
        · cases h
      · cases h
    · cases h
end
end Go.Fw
