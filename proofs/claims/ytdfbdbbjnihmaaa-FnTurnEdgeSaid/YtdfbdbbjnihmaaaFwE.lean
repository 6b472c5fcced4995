/-
  Which loaded operation a model operation stands for, and that it does what the model says: moves, arithmetic, addresses, loads.
-/
import Derived.Test.YtdfbdbbjnihmaaaFwD
namespace Go.Fw
set_option linter.unusedVariables false
set_option linter.unusedSimpArgs false

def cOK1 : Value → MV → Bool
  | .int k n, .i k' n' => k == k' && n == n'
  | .bool x, .b y => x == y
  | .slice none 0 0, .nl _ => true
  | v, .u => v.oneCell'
  | _, _ => false
def cOKs : List Value → List MV → Bool
  | [], [] => true
  | v :: vs, m :: ms => cOK1 v m && v.oneCell' && cOKs vs ms
  | _, _ => false
def cOK : Value → MV → Bool
  | .agg cs, .agg ms => cOKs cs.toList ms
  | v, m => cOK1 v m && v.oneCell'

theorem cOK1_RV {P : Program} {g : Env} {v : Value} {m : MV} (h : cOK1 v m = true) : RV P g v m := by
  unfold cOK1 at h
  split at h
  · simp at h; obtain ⟨rfl, rfl⟩ := h; exact .i _ _
  · simp at h; subst h; exact .b _
  · exact .nl _ _
  · exact .u _
  · cases h

theorem cOKs_RV {P : Program} {g : Env} : ∀ {vs : List Value} {ms : List MV}, cOKs vs ms = true → RVL P g vs ms ∧ ∀ v ∈ vs, v.oneCell' = true
  | [], [], _ => ⟨.nil, by simp⟩
  | v :: vs, m :: ms, h => by
    simp [cOKs] at h
    have ih := cOKs_RV (P := P) (g := g) h.2
    exact ⟨.cons _ _ _ _ (cOK1_RV h.1.1) ih.1, by simp [h.1.2]; exact ih.2⟩
  | [], _ :: _, h => by simp [cOKs] at h
  | _ :: _, [], h => by simp [cOKs] at h

theorem cOK_RV {P : Program} {g : Env} {v : Value} {m : MV} (h : cOK v m = true) : RV P g v m := by
  unfold cOK at h
  split at h
  · have := cOKs_RV (P := P) (g := g) h; exact .agg _ _ this.1 this.2
  · simp at h; exact cOK1_RV h.1

def okOpd : Operand → Opd → Bool
  | .tmp t, .t t' => t == t'
  | .const v, .v m => cOK v m
  | .func f, .v (.clo f' [] []) => f == f'
  | _, _ => false

def okOO : Option Operand → Option Opd → Bool
  | none, none => true
  | some p, some q => okOpd p q
  | _, _ => false

section
variable {P : Program} {N : FrS} {A : Nat → Prop} {w0 : World} {F0 : List Nat} {J0 : Imm} {g : Env} {s : MS} {a : Act} {w : World}

theorem Rel.val (h : Rel P N A w0 F0 J0 g s a w) {x : Operand} {y : Opd} (hx : okOpd x y = true) : RV P g (a.eval x) (s.val y) := by
  unfold okOpd at hx
  split at hx
  · simp at hx; subst hx
    simp only [Act.eval, MS.val]
    rename_i t
    cases hl : look s.fr t with
    | none => exact .u _
    | some m => exact h.slots t m hl
  · exact cOK_RV hx
  · simp at hx; subst hx
    exact .clo _ #[] #[] [] [] .nil .nil
  · cases hx

/-- What is asked of whatever follows an operation. -/
def Goes (P : Program) (A : Nat → Prop) (w0 : World) (F0 : List Nat) (J0 : Imm) (g : Env) (hp : List (Nat × MO)) (n : Nat) (o : Oper) (a : Act) (K : MK) (next : Act → World → Prop) : Prop :=
  ∀ m u rd g' w' v, K m u rd → g.le g' → RV P g' v m → HRel P (fun id => A id ∧ ¬(n ≤ id ∧ id < n + 64)) w0 F0 J0 g' (upds hp u) w' → next (a.put o.dst v) w'

variable {n : Nat} {o : Oper} {K : MK} {next : Act → World → Prop} {Q : Exit → Act → World → Prop}

theorem wp_val {v : Value} {w' : World} (h : (execOp a.eval o).run P w = .ok (.value v) w') (k : next (a.put o.dst v) w') : o.wp P a w next Q := by
  simp [Oper.wp, h, Oper.upon, k]
theorem wp_skp {w' : World} (h : (execOp a.eval o).run P w = .ok .skip w') (k : next (a.put o.dst undef) w') : o.wp P a w next Q := by
  simp [Oper.wp, h, Oper.upon, k]

theorem Goes.same (hn : Goes P A w0 F0 J0 g s.hp n o a K next) (h : Rel P N A w0 F0 J0 g s a w) {m : MV} {rd : List Nat} {v : Value} (hk : K m [] rd) (hv : RV P g v m)
    (he : (execOp a.eval o).run P w = .ok (.value v) w) : o.wp P a w next Q :=
  wp_val he (hn m [] rd g w v hk (Env.le.refl g) hv (h.hp.weaken fun _ x => x.1))

theorem S.mov {x : Operand} {y : Opd} (ho : o.op = .move x ∨ o.op = .assign x) (hx : okOpd x y = true) (h : Rel P N A w0 F0 J0 g s a w)
    (hm : mop false P (.mov y) n s K) (hn : Goes P A w0 F0 J0 g s.hp n o a K next) : o.wp P a w next Q := by
  refine hn.same h hm (h.val hx) ?_
  rcases ho with ho | ho <;> simp [execOp, ho]

theorem S.pick {c x y : Operand} {c' x' y' : Opd} (ho : o.op = .pick c x y) (hc : okOpd c c' = true) (hx : okOpd x x' = true) (hy : okOpd y y' = true) (h : Rel P N A w0 F0 J0 g s a w)
    (hm : mop false P (.pick c' x' y') n s K) (hn : Goes P A w0 F0 J0 g s.hp n o a K next) : o.wp P a w next Q := by
  have rc := h.val hc
  simp only [mop] at hm
  split at hm
  · rename_i b hb
    rw [hb] at rc
    generalize hv : a.eval c = v at rc
    cases rc
    cases b
    · exact hn.same h (by simpa using hm) (h.val hy) (by simp [execOp, ho, hv, asBool])
    · exact hn.same h (by simpa using hm) (h.val hx) (by simp [execOp, ho, hv, asBool])
  · exact hm.elim

theorem getD_toList (vs : Array Value) (i : Nat) : vs.toList.getD i undef = vs.getD i undef := by simp [Array.getD_eq_getD_getElem?]

theorem RVL.getD {vs : List Value} {ms : List MV} (h : RVL P g vs ms) (i : Nat) (d : Value) : RV P g (vs.getD i d) (ms.getD i .u) := by
  by_cases hi : i < vs.length
  · have hj : i < ms.length := by rw [← h.length]; exact hi
    exact h.get i _ _ (by simp [List.getD, List.getElem?_eq_getElem hi]) (by simp [List.getD, List.getElem?_eq_getElem hj])
  · have hj : ¬ i < ms.length := by rw [← h.length]; exact hi
    simp [List.getD, List.getElem?_eq_none (Nat.le_of_not_lt hj)]
    exact .u _

theorem S.extract {x : Operand} {y : Opd} {i : Nat} (ho : o.op = .extract x i) (hx : okOpd x y = true) (h : Rel P N A w0 F0 J0 g s a w)
    (hm : mop false P (.extract y i) n s K) (hn : Goes P A w0 F0 J0 g s.hp n o a K next) : o.wp P a w next Q := by
  have rx := h.val hx
  simp only [mop] at hm
  split at hm
  · rename_i vs hb
    rw [hb] at rx
    generalize hv : a.eval x = v at rx
    cases rx with
    | tup us _ hr =>
      have hlen := hr.length
      have hi : i < us.toList.length := by rw [hlen]; exact hm.1
      have hr' := hr.getD i undef
      have hu : us[i]? = some (us.toList.getD i undef) := by simp [List.getD, show i < us.size by simpa using hi]
      generalize us.toList.getD i undef = u at hr' hu
      refine hn.same h hm.2 hr' ?_
      simp [execOp, ho, hv, Instr.extract, hu]
  · exact hm.elim

theorem S.fieldAddr {T f : Nat} {x : Operand} {y : Opd} {off : Nat} {fs : Array Field} {fd : Field} (ho : o.op = .fieldAddr T x f) (hx : okOpd x y = true)
    (ht : P.underlying T = some (.struct fs)) (hf : fs[f]? = some fd) (hoff : fd.offset = off) {inf : TypeInfo} (hi : P.info? fd.type = some inf) (hsz : inf.size ≠ 0)
    (h : Rel P N A w0 F0 J0 g s a w) (hm : mop false P (.fieldAddr off y) n s K) (hn : Goes P A w0 F0 J0 g s.hp n o a K next) : o.wp P a w next Q := by
  have rx := h.val hx
  have hadd : ∀ (b q : Nat), (⟨b, q, none⟩ : Addr).add off = ⟨b, q + off, none⟩ := fun b q => by
    by_cases e : off = 0
    · subst e; simp [Addr.add]
    · simp [Addr.add, e]
  simp only [mop] at hm
  split at hm
  · rename_i id i q hb
    rw [hb] at rx
    generalize hv : a.eval x = v at rx
    cases rx with
    | pr _ _ _ l hl =>
      refine hn.same h hm (RV.pr id i (q + off) l hl) ?_
      simp [execOp, ho, hv, Instr.fieldAt, run_underlying ht, hf, Instr.sureAddr, fieldPlace, sizeOf, typeInfo, hi, hsz, hoff, hadd, Nat.add_assoc]
  · rename_i t cs q hb
    rw [hb] at rx
    generalize hv : a.eval x = v at rx
    cases rx with
    | pd _ _ _ bb p cells E z vs hI hc hr =>
      refine hn.same h hm (RV.pd t cs (q + off) bb p cells E z vs hI hc hr) ?_
      simp [execOp, ho, hv, Instr.fieldAt, run_underlying ht, hf, Instr.sureAddr, fieldPlace, sizeOf, typeInfo, hi, hsz, hoff, hadd, Nat.add_assoc]
  · exact hm.elim

end
end Go.Fw
