/-
  The operations that leave the world alone: arithmetic, comparisons, fields, addresses in arrays, function values.
-/
import Derived.Test.YtdfbdbbjnihmaaaFwG
namespace Go.Fw
set_option linter.unusedVariables false
set_option linter.unusedSimpArgs false
section
variable {P : Program} {N : FrS} {A : Nat → Prop} {w0 : World} {F0 : List Nat} {J0 : Imm} {g : Env} {s : MS} {a : Act} {w : World}
variable {n : Nat} {o : Oper} {K : MK} {next : Act → World → Prop} {Q : Exit → Act → World → Prop}

theorem run_eqGuard_ii (op : BinOp) (t : TypeId) (x y : Operand) (k k' : IntKind) (a b : Int) : (eqGuard op t x y (.int k a) (.int k' b)).run P w = .ok () w := by
  cases op <;> simp [eqGuard]
theorem run_eqGuard_bb (op : BinOp) (t : TypeId) (x y : Operand) (a b : Bool) : (eqGuard op t x y (.bool a) (.bool b)).run P w = .ok () w := by
  cases op <;> simp [eqGuard]
theorem run_eqGuard_ss (op : BinOp) (t : TypeId) (x y : Operand) (p q : Option Addr) (a b c d : Nat) : (eqGuard op t x y (.slice p a b) (.slice q c d)).run P w = .ok () w := by
  cases op <;> simp [eqGuard]

theorem S.bin {T T' : TypeId} {op : BinOp} {x y : Operand} {x' y' : Opd} (ho : o.op = .binOp op T x y T') (hx : okOpd x x' = true) (hy : okOpd y y' = true)
    (h : Rel P N A w0 F0 J0 g s a w) (hm : mop false P (.bin op x' y') n s K) (hn : Goes P A w0 F0 J0 g s.hp n o a K next) : o.wp P a w next Q := by
  have rx := h.val hx
  have ry := h.val hy
  simp only [mop] at hm
  have hrun : ∀ {v : Value}, ((eqGuard op T x y (a.eval x) (a.eval y)).run P w = .ok () w) → (binOp op T (a.eval x) (a.eval y)).run P w = .ok v w → (execOp a.eval o).run P w = .ok (.value v) w := by
    intro v e1 e2
    simp [execOp, ho, e1, e2]
  split at hm
  · rename_i k p k' q hb hz
    rw [hb] at rx; rw [hz] at ry
    generalize hv : a.eval x = v at *
    generalize hv' : a.eval y = v' at *
    cases rx; cases ry
    obtain ⟨hk, hm⟩ := hm
    have fin : ∀ {m : MV} {v : Value}, K m [] [] → RV P g v m → (binOp op T (.int k p) (.int k' q)).run P w = .ok v w → o.wp P a w next Q := by
      intro m v e1 e2 e3
      exact hn.same h e1 e2 (hrun (by rw [run_eqGuard_ii]) e3)
    cases op <;> simp only [intBin] at hm <;> simp only [reduceCtorEq, or_false, or_self, or_true] at hk
    case add => subst hk; exact fin hm.2 (.i _ _) (by simp [binOp, Op.intArith]; exact hm.1)
    case sub => subst hk; exact fin hm.2 (.i _ _) (by simp [binOp, Op.intArith]; exact hm.1)
    case mul => subst hk; exact fin hm.2 (.i _ _) (by simp [binOp, Op.intArith]; exact hm.1)
    case quo => subst hk; exact fin hm.2.2 (.i _ _) (by simp [binOp, Op.intDiv, hm.1]; exact hm.2.1)
    case rem => subst hk; exact fin hm.2 (.i _ _) (by simp [binOp, Op.intDiv, hm.1])
    case and => subst hk; exact fin hm (.i _ _) (by simp [binOp, Op.intBits, ibits])
    case or => subst hk; exact fin hm (.i _ _) (by simp [binOp, Op.intBits, ibits])
    case xor => subst hk; exact fin hm (.i _ _) (by simp [binOp, Op.intBits, ibits])
    case andNot => subst hk; exact fin hm (.i _ _) (by simp [binOp, Op.intBits, ibits])
    case shl => exact fin hm.2 (.i _ _) (by simp [binOp, Op.shift, show ¬ q < 0 by omega])
    case shr => exact fin hm.2 (.i _ _) (by simp [binOp, Op.shift, show ¬ q < 0 by omega])
    case eql => subst hk; exact fin hm (.b _) (by simp [binOp, Op.intCmp]; rfl)
    case neq => subst hk; exact fin hm (.b _) (by simp [binOp, Op.intCmp]; rfl)
    case lss => subst hk; exact fin hm (.b _) (by simp [binOp, Op.intCmp])
    case leq => subst hk; exact fin hm (.b _) (by simp [binOp, Op.intCmp])
    case gtr => subst hk; exact fin hm (.b _) (by simp [binOp, Op.intCmp])
    case geq => subst hk; exact fin hm (.b _) (by simp [binOp, Op.intCmp])
  · exact hm.elim

theorem S.binb {T T' : TypeId} {neg : Bool} {op : BinOp} {x y : Operand} {x' y' : Opd} (ho : o.op = .binOp op T x y T') (hop : op = if neg then .neq else .eql) (hx : okOpd x x' = true) (hy : okOpd y y' = true)
    (hu : P.underlying T = some .bool)
    (h : Rel P N A w0 F0 J0 g s a w) (hm : mop false P (.binb neg x' y') n s K) (hn : Goes P A w0 F0 J0 g s.hp n o a K next) : o.wp P a w next Q := by
  have rx := h.val hx
  have ry := h.val hy
  simp only [mop] at hm
  have hrun : ∀ {v : Value}, ((eqGuard op T x y (a.eval x) (a.eval y)).run P w = .ok () w) → (binOp op T (a.eval x) (a.eval y)).run P w = .ok v w → (execOp a.eval o).run P w = .ok (.value v) w := by
    intro v e1 e2
    simp [execOp, ho, e1, e2]
  split at hm
  · rename_i p q hb hz
    rw [hb] at rx; rw [hz] at ry
    generalize hv : a.eval x = v at *
    generalize hv' : a.eval y = v' at *
    cases rx; cases ry
    cases neg
    · simp at hop; subst hop
      exact hn.same h hm (.b _) (hrun (by rw [run_eqGuard_bb]) (by simp only [binOp]; simp [Op.equal, Op.maxDepth, run_equalIn_bool' w _ _ _ _ hu]))
    · simp at hop; subst hop
      exact hn.same h hm (.b _) (hrun (by rw [run_eqGuard_bb]) (by simp only [binOp]; simp [Op.equal, Op.maxDepth, run_equalIn_bool' w _ _ _ _ hu]))
  · exact hm.elim

theorem S.nilq {T T' e : TypeId} {neg : Bool} {op : BinOp} {x y : Operand} {x' : Opd} (ho : o.op = .binOp op T x y T') (hop : op = if neg then .neq else .eql) (hx : okOpd x x' = true)
    (hu : P.underlying T = some (.slice e)) (hyc : y = .const (.slice none 0 0))
    (h : Rel P N A w0 F0 J0 g s a w) (hm : mop false P (.nilq neg x') n s K) (hn : Goes P A w0 F0 J0 g s.hp n o a K next) : o.wp P a w next Q := by
  have rx := h.val hx
  have hyv : a.eval y = .slice none 0 0 := by rw [hyc]; rfl
  simp only [mop] at hm
  have hrun : ∀ {v : Value}, ((eqGuard op T x y (a.eval x) (a.eval y)).run P w = .ok () w) → (binOp op T (a.eval x) (a.eval y)).run P w = .ok v w → (execOp a.eval o).run P w = .ok (.value v) w := by
    intro v e1 e2
    simp [execOp, ho, e1, e2]
  have key : ∀ {t : Bool} {k : Nat} {es : List (List D)} {rs : List Nat}, sliceOf s (s.val x') = some (t, k, es, rs) → ∃ p len cap, a.eval x = .slice p len cap ∧ (p = none → es = []) := by
    intro t k es rs hs
    generalize hv : a.eval x = v at *
    generalize hmv : s.val x' = m' at *
    cases rx <;> simp [sliceOf] at hs
    case s hd =>
      obtain ⟨rfl, rfl, rfl, rfl⟩ := hs
      cases hd with
      | a0 p c => exact ⟨p, _, _, rfl, fun _ => rfl⟩
      | a b off cap len cs E z _ _ vs hI hlen hk hcap hc hr => exact ⟨_, _, _, rfl, fun e => by cases e⟩
    case nl => obtain ⟨rfl, rfl, rfl, rfl⟩ := hs; exact ⟨_, _, _, rfl, fun _ => rfl⟩
    case sr => exact ⟨_, _, _, rfl, fun e => by cases e⟩
    case sr0 p id off =>
      refine ⟨p, _, _, rfl, fun _ => ?_⟩
      split at hs <;> simp at hs
      · exact hs.2.2.2.1
      · exact hs.2.2.2.1
  have heq' : ∀ (D : Nat) (p : Option Addr) (len cap : Nat), (Op.equalIn (D + 1) T (.slice p len cap) (.slice none 0 0)).run P w = .ok p.isNone w := by
    intro D p len cap
    cases p <;> simp [Op.equalIn, run_underlying hu]
  have heq := heq' 9999
  clear heq'
  split at hm
  · rename_i t k' es rs hs
    obtain ⟨p, len, cap, hxv, hp⟩ := key hs
    rw [hxv, hyv] at hrun
    cases neg
    · simp at hop; subst hop
      have hr2 : (binOp .eql T (.slice p len cap) (.slice none 0 0)).run P w = .ok (.bool p.isNone) w := by
        simp only [binOp]; simp [Op.equal, Op.maxDepth, heq]
      cases p with
      | none => exact hn.same h (hm.1 (hp rfl)) (.b true) (hrun (by rw [run_eqGuard_ss]) hr2)
      | some p => exact hn.same h hm.2 (.b false) (hrun (by rw [run_eqGuard_ss]) hr2)
    · simp at hop; subst hop
      have hr2 : (binOp .neq T (.slice p len cap) (.slice none 0 0)).run P w = .ok (.bool (!p.isNone)) w := by
        simp only [binOp]; simp [Op.equal, Op.maxDepth, heq]
      cases p with
      | none => exact hn.same h (hm.1 (hp rfl)) (.b false) (hrun (by rw [run_eqGuard_ss]) hr2)
      | some p => exact hn.same h hm.2 (.b true) (hrun (by rw [run_eqGuard_ss]) hr2)
  · exact hm.elim

theorem S.eqAgg {T T' : TypeId} {op : BinOp} {neg : Bool} {sig : List Bool} {x y : Operand} {x' y' : Opd} (ho : o.op = .binOp op T x y T') (hop : op = if neg then .neq else .eql) (hx : okOpd x x' = true) (hy : okOpd y y' = true)
    (hs : flatTy P 8 T = some sig) (hst : ∃ fs, P.underlying T = some (.struct fs)) (hg : P.eqGuardType P.depth T = false)
    (h : Rel P N A w0 F0 J0 g s a w) (hm : mop false P (.eqAgg neg sig x' y') n s K) (hn : Goes P A w0 F0 J0 g s.hp n o a K next) : o.wp P a w next Q := by
  have rx := h.val hx
  have ry := h.val hy
  simp only [mop] at hm
  split at hm
  · rename_i as bs hb hz
    rw [hb] at rx; rw [hz] at ry
    generalize hv : a.eval x = v at *
    generalize hv' : a.eval y = v' at *
    cases rx with
    | agg us _ hus _ =>
    cases ry with
    | agg vs _ hvs _ =>
    split at hm
    · rename_i b heq
      obtain ⟨s1, s2, hK⟩ := hm
      obtain ⟨fs, hfs⟩ := hst
      have la := sigOK_len s1
      have lb := sigOK_len s2
      have hsz : ∃ inf, P.info? T = some inf ∧ inf.size = sig.length := by
        simp only [flatTy, hfs] at hs
        split at hs
        · split at hs
          · rename_i hc; cases hs; simp at hc; exact hc.2
          · cases hs
        · cases hs
      obtain ⟨inf, hi, hsz⟩ := hsz
      have hpart : ∀ (cs : Array Value), cs.size = sig.length → (part T cs 0).run P w = .ok (.agg cs) w := fun cs hc => by
        simp [part, isAgg, run_underlying hfs, sizeOf, typeInfo, hi, hsz, ← hc]
      have hlu := hus.length
      have hlv := hvs.length
      simp at hlu hlv
      have e := run_equal_flat (P := P) (g := g) (w := w) 8 10000 T sig hs (by omega) us vs 0 as bs b hus hvs (by simpa [la] using s1) (by rw [List.drop_zero, lb, List.take_length]; exact s2)
        (by rw [List.drop_zero, List.drop_zero, la, List.take_length, ← la, lb, List.take_length]; exact heq)
      simp only [Sem.run_bind, hpart us (by omega), hpart vs (by omega), Result.andThen_ok] at e
      have hgd : (eqGuard op T x y (.agg us) (.agg vs)).run P w = .ok () w := by cases op <;> simp [eqGuard, hg]
      refine hn.same h hK (.b _) ?_
      cases neg
      · simp at hop; subst hop
        simp [execOp, ho, hv, hv', hgd, binOp, Op.equal, Op.maxDepth, e]
      · simp at hop; subst hop
        simp [execOp, ho, hv, hv', hgd, binOp, Op.equal, Op.maxDepth, e]
    · exact hm.elim
  · exact hm.elim

theorem S.un {T : TypeId} {op : UnOp} {x : Operand} {x' : Opd} (ho : o.op = .unOp op T x) (hx : okOpd x x' = true)
    (h : Rel P N A w0 F0 J0 g s a w) (hm : mop false P (.un op x') n s K) (hn : Goes P A w0 F0 J0 g s.hp n o a K next) : o.wp P a w next Q := by
  have rx := h.val hx
  simp only [mop] at hm
  split at hm
  · rename_i b hb
    rw [hb] at rx
    generalize hv : a.eval x = v at rx
    cases rx
    exact hn.same h hm (.b _) (by simp [execOp, ho, hv, Op.unary])
  · rename_i k p hb
    rw [hb] at rx
    generalize hv : a.eval x = v at rx
    cases rx
    refine hn.same h hm.2 (.i _ _) ?_
    have := hm.1
    simp only [Fits] at this
    simp [execOp, ho, hv, Op.unary, Op.intArith, this]
  · exact hm.elim

theorem S.conv {T T' : TypeId} {dst : IntKind} {d : TypeDesc} {x : Operand} {x' : Opd} (ho : o.op = .convert T T' x) (hx : okOpd x x' = true) (ht : P.underlying T = some d) (ht' : P.underlying T' = some (.int dst))
    (h : Rel P N A w0 F0 J0 g s a w) (hm : mop false P (.conv dst x') n s K) (hn : Goes P A w0 F0 J0 g s.hp n o a K next) : o.wp P a w next Q := by
  have rx := h.val hx
  simp only [mop] at hm
  split at hm
  · rename_i k p hb
    rw [hb] at rx
    generalize hv : a.eval x = v at rx
    cases rx
    refine hn.same h hm.2 (.i _ _) ?_
    have := hm.1
    simp only [Fits] at this
    simp [execOp, ho, hv, convert, run_underlying ht, run_underlying ht', Conv.intToInt, this]
  · exact hm.elim

theorem S.minmax {mx : Bool} {x y : Operand} {x' y' : Opd} {ts : Array TypeId} (ho : o.op = .call { callee := .builtin (if mx then .max else .min), args := #[x, y], argTypes := ts }) (hx : okOpd x x' = true) (hy : okOpd y y' = true)
    (h : Rel P N A w0 F0 J0 g s a w) (hm : mop false P (.minmax mx x' y') n s K) (hn : Goes P A w0 F0 J0 g s.hp n o a K next) : o.wp P a w next Q := by
  have rx := h.val hx
  have ry := h.val hy
  simp only [mop] at hm
  split at hm
  · rename_i k p k' q hb hz
    rw [hb] at rx; rw [hz] at ry
    generalize hv : a.eval x = v at *
    generalize hv' : a.eval y = v' at *
    cases rx; cases ry
    obtain ⟨rfl, hK⟩ := hm
    refine hn.same h hK (.i _ _) ?_
    cases mx
    · have : (if q < p then q else p) = min p q := by omega
      simp [execOp, ho, resolve, invoke, builtin, Builtin.min_, Builtin.min2, hv, hv', this]
    · have : (if p < q then q else p) = max p q := by omega
      simp [execOp, ho, resolve, invoke, builtin, Builtin.max_, Builtin.max2, hv, hv', this]
  · exact hm.elim

theorem S.nilCheck {x : Operand} {x' : Opd} (ho : o.op = .nilCheck x) (hx : okOpd x x' = true)
    (h : Rel P N A w0 F0 J0 g s a w) (hm : mop false P (.nilCheck x') n s K) (hn : Goes P A w0 F0 J0 g s.hp n o a K next) : o.wp P a w next Q := by
  have rx := h.val hx
  simp only [mop] at hm
  split at hm
  all_goals first | exact hm.elim | skip
  all_goals
    rename_i hb
    rw [hb] at rx
    refine hn.same h hm rx ?_
    generalize hv : a.eval x = v at rx
    cases rx
    simp [execOp, ho, hv]

theorem S.mkfn {f : FuncId} {first caps : Array Operand} {first' caps' : List Opd} (ho : o.op = .makeFunc (.func f) first caps)
    (h1 : first.toList.length = first'.length ∧ ∀ (i : Nat) (x : Operand) (y : Opd), first.toList[i]? = some x → first'[i]? = some y → okOpd x y = true)
    (h2 : caps.toList.length = caps'.length ∧ ∀ (i : Nat) (x : Operand) (y : Opd), caps.toList[i]? = some x → caps'[i]? = some y → okOpd x y = true)
    (h : Rel P N A w0 F0 J0 g s a w) (hm : mop false P (.mkfn f first' caps') n s K) (hn : Goes P A w0 F0 J0 g s.hp n o a K next) : o.wp P a w next Q := by
  have vals : ∀ (xs : Array Operand) (ys : List Opd), (xs.toList.length = ys.length ∧ ∀ (i : Nat) (x : Operand) (y : Opd), xs.toList[i]? = some x → ys[i]? = some y → okOpd x y = true) →
      RVL P g (xs.map a.eval).toList (ys.map s.val) := by
    intro xs ys hh
    refine RVL.of_get (by simpa using hh.1) (fun i v m e1 e2 => ?_)
    simp only [Array.toList_map, List.getElem?_map, Option.map_eq_some_iff] at e1 e2
    obtain ⟨x, hx1, rfl⟩ := e1
    obtain ⟨y, hy1, rfl⟩ := e2
    exact h.val (hh.2 i x y hx1 hy1)
  refine hn.same h hm (RV.clo f _ _ _ _ (vals first first' h1) (vals caps caps' h2)) ?_
  simp [execOp, ho, Instr.makeFunc]

theorem S.field {T f : Nat} {x : Operand} {x' : Opd} {off k : Nat} {ag : Bool} {fs : Array Field} {fd : Field} {d : TypeDesc} {inf : TypeInfo} (ho : o.op = .field T x f) (hx : okOpd x x' = true)
    (ht : P.underlying T = some (.struct fs)) (hf : fs[f]? = some fd) (hoff : fd.offset = off) (hd : P.underlying fd.type = some d) (hag : isAggD d = ag) (hi : P.info? fd.type = some inf) (hsz : inf.size = k) (hk1 : ag = false → k = 1)
    (h : Rel P N A w0 F0 J0 g s a w) (hm : mop false P (.field ag k off x') n s K) (hn : Goes P A w0 F0 J0 g s.hp n o a K next) : o.wp P a w next Q := by
  have rx := h.val hx
  simp only [mop] at hm
  split at hm
  · rename_i cs hb
    rw [hb] at rx
    generalize hv : a.eval x = v at rx
    cases rx with
    | agg us _ hr h1 =>
      have hlen := hr.length
      simp at hlen
      have hget : ∀ j, j < k → us[off + j]? = some (us.toList.getD (off + j) undef) := fun j hj => by simp [List.getD, show off + j < us.size by omega]
      refine hn.same h hm.2 (rv_chunk (vs := fun j => us.toList.getD (off + j) undef) hk1 (fun j hj => hr.getD (off + j) undef) hm.1 (fun j hj => h1 _ ?_)) ?_
      · exact Array.mem_toList_iff.2 (Array.mem_of_getElem? (hget j hj))
      · cases ag with
        | false =>
          have h0 := hget 0 (by rw [hk1 rfl]; omega)
          simp only [Nat.add_zero] at h0
          have hp := run_part_cell (P := P) (w := w) hd hag h0
          simp [execOp, ho, hv, Instr.field, run_underlying ht, hf, asAgg, hoff, hp]
        | true =>
          have e : us.extract off (off + k) = ((List.range k).map fun j => us.toList.getD (off + j) undef).toArray := by
            apply Array.ext'
            rw [Array.toList_extract, List.extract_eq_take_drop]
            refine List.ext_getElem? (fun i => ?_)
            by_cases hik : i < k
            · rw [List.getElem?_take_of_lt (by omega), List.getElem?_drop]
              have := hget i hik
              simp [hik, List.getD, show off + i < us.size by omega]
            · rw [List.getElem?_eq_none (by simp; omega), List.getElem?_eq_none (by simp; omega)]
          cases d <;> simp [isAggD] at hag <;> simp [execOp, ho, hv, Instr.field, run_underlying ht, hf, asAgg, part, isAgg, run_underlying hd, sizeOf, typeInfo, hi, hsz, hoff, e]
  · exact hm.elim

theorem S.arrAddr {T e : TypeId} {len : Nat} {x i : Operand} {x' i' : Opd} {inf : TypeInfo} {k : Nat} (ho : o.op = .indexAddr T x i) (hx : okOpd x x' = true) (hi' : okOpd i i' = true)
    (ht : P.underlying T = some (.array len e)) (hi : P.info? e = some inf) (hk : inf.size = k)
    (h : Rel P N A w0 F0 J0 g s a w) (hm : mop false P (.arrAddr len k x' i') n s K) (hn : Goes P A w0 F0 J0 g s.hp n o a K next) : o.wp P a w next Q := by
  have rx := h.val hx
  have ri := h.val hi'
  simp only [mop] at hm
  have hadd : ∀ (b q m : Nat), (⟨b, q, none⟩ : Addr).add m = ⟨b, q + m, none⟩ := fun b q m => by
    by_cases e : m = 0
    · subst e; simp [Addr.add]
    · simp [Addr.add, e]
  have hrun : ∀ {b q : Nat} {kk : IntKind} {z : Int}, a.eval x = .pointer (some ⟨b, q, none⟩) → a.eval i = .int kk z → 0 ≤ z → z < len →
      (execOp a.eval o).run P w = .ok (.value (.pointer (some ⟨b, q + z.toNat * k, none⟩))) w := by
    intro b q kk z e1 e2 e3 e4
    simp [execOp, ho, e1, e2, Instr.indexAt, asIntOf, run_underlying ht, Instr.sureAddr, e3, e4, sizeOf, typeInfo, hi, hk, hadd]
  split at hm
  · rename_i id j q kk z hb hz
    rw [hb] at rx; rw [hz] at ri
    generalize hv : a.eval x = v at rx
    generalize hv' : a.eval i = v' at ri
    cases ri
    cases rx with
    | pr _ _ _ l hl => exact hn.same h hm.2.2 (RV.pr id j (q + z.toNat * k) l hl) (by rw [hrun hv hv' hm.1 hm.2.1]; simp [Nat.add_assoc])
  · rename_i t cs q kk z hb hz
    rw [hb] at rx; rw [hz] at ri
    generalize hv : a.eval x = v at rx
    generalize hv' : a.eval i = v' at ri
    cases ri
    cases rx with
    | pd _ _ _ bb p cells E z' vs hI hc hr => exact hn.same h hm.2.2 (RV.pd t cs (q + z.toNat * k) bb p cells E z' vs hI hc hr) (by rw [hrun hv hv' hm.1 hm.2.1]; simp [Nat.add_assoc])
  · exact hm.elim

theorem S.arrIndex {T e : TypeId} {len : Nat} {x i : Operand} {x' i' : Opd} {inf : TypeInfo} {k : Nat} {ag : Bool} {d : TypeDesc} (ho : o.op = .index T x i) (hx : okOpd x x' = true) (hi' : okOpd i i' = true)
    (ht : P.underlying T = some (.array len e)) (hi : P.info? e = some inf) (hk : inf.size = k) (hd : P.underlying e = some d) (hag : isAggD d = ag) (hk1 : ag = false → k = 1)
    (h : Rel P N A w0 F0 J0 g s a w) (hm : mop false P (.arrIndex ag len k x' i') n s K) (hn : Goes P A w0 F0 J0 g s.hp n o a K next) : o.wp P a w next Q := by
  have rx := h.val hx
  have ri := h.val hi'
  simp only [mop] at hm
  split at hm
  · rename_i cs kk z hb hz
    rw [hb] at rx; rw [hz] at ri
    generalize hv : a.eval x = v at rx
    generalize hv' : a.eval i = v' at ri
    cases ri
    obtain ⟨e1, e2, e3, hK⟩ := hm
    cases rx with
    | agg us _ hr h1 =>
      have hlen := hr.length
      simp at hlen
      have hget : ∀ j, j < k → us[z.toNat * k + j]? = some (us.toList.getD (z.toNat * k + j) undef) := fun j hj => by simp [List.getD, show z.toNat * k + j < us.size by omega]
      refine hn.same h hK (rv_chunk (vs := fun j => us.toList.getD (z.toNat * k + j) undef) hk1 (fun j hj => hr.getD (z.toNat * k + j) undef) e3 (fun j hj => h1 _ ?_)) ?_
      · exact Array.mem_toList_iff.2 (Array.mem_of_getElem? (hget j hj))
      · cases ag with
        | false =>
          have h0 := hget 0 (by rw [hk1 rfl]; omega)
          simp only [Nat.add_zero] at h0
          have hp := run_part_cell (P := P) (w := w) hd hag h0
          simp [execOp, ho, hv, hv', Instr.index, asIntOf, run_underlying ht, e1, e2, sizeOf, typeInfo, hi, hk, hp]
        | true =>
          have e : us.extract (z.toNat * k) (z.toNat * k + k) = ((List.range k).map fun j => us.toList.getD (z.toNat * k + j) undef).toArray := by
            apply Array.ext'
            rw [Array.toList_extract, List.extract_eq_take_drop]
            refine List.ext_getElem? (fun i => ?_)
            by_cases hik : i < k
            · rw [List.getElem?_take_of_lt (by omega), List.getElem?_drop]
              have := hget i hik
              simp [hik, List.getD, show z.toNat * k + i < us.size by omega]
            · rw [List.getElem?_eq_none (by simp; omega), List.getElem?_eq_none (by simp; omega)]
          cases d <;> simp [isAggD] at hag <;> simp [execOp, ho, hv, hv', Instr.index, asIntOf, run_underlying ht, e1, e2, part, isAgg, run_underlying hd, sizeOf, typeInfo, hi, hk, e]
  · exact hm.elim
end
end Go.Fw
