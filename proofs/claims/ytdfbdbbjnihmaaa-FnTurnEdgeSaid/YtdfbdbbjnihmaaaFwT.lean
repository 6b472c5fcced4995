/-
  The check that a model operation stands for a loaded one, and what it gives.
-/
import Derived.Test.YtdfbdbbjnihmaaaFwS
namespace Go.Fw
set_option linter.unusedVariables false
set_option linter.unusedSimpArgs false

def tyAg (P : Program) (T : TypeId) (ag : Bool) : Bool :=
  match P.underlying T with
  | some d => isAggD d == ag
  | none => false
def tySz (P : Program) (T : TypeId) (k : Nat) : Bool :=
  match P.info? T with
  | some i => i.size == k
  | none => false
def elemT (P : Program) (T : TypeId) : Option TypeId :=
  match P.underlying T with
  | some (.slice e) => some e
  | _ => none
def arrT (P : Program) (T : TypeId) : Option (Nat × TypeId) :=
  match P.underlying T with
  | some (.array n e) => some (n, e)
  | _ => none
def fieldT (P : Program) (T : TypeId) (f : Nat) : Option Field :=
  match P.underlying T with
  | some (.struct fs) => fs[f]?
  | _ => none
def okOpds : List Operand → List Opd → Bool
  | [], [] => true
  | x :: xs, y :: ys => okOpd x y && okOpds xs ys
  | _, _ => false
def dOK1 : Value → D → Bool
  | .int k n, .i k' n' => k == k' && n == n'
  | .bool x, .b y => x == y
  | .slice none 0 0, .a _ [] => true
  | _, _ => false
def dOKs : List Value → List D → Bool
  | [], [] => true
  | v :: vs, d :: ds => dOK1 v d && dOKs vs ds
  | _, _ => false
/-- The places of a composite type's parts, its zero cells. -/
def placesT (P : Program) (T : TypeId) : Option ((Nat → Option (Nat × Nat)) × Array Value) :=
  match P.info? T, P.underlying T with
  | some it, some (.array _ e) =>
    match it.zero, P.info? e with
    | some z, some ie => some (fun i => some (i * ie.size, ie.size), z.cells)
    | _, _ => none
  | some it, some (.struct fields) =>
    match it.zero, fields.toList.mapM (fun f => (P.info? f.type).map fun i => (f.offset, i.size)) with
    | some z, some places => some (fun i => places.toArray[i]?, z.cells)
    | _, _ => none
  | _, _ => none

def okOp (P : Program) (o : Op) (m : MOp) : Bool :=
  match m with
  | .mov y => match o with | .move x | .assign x => okOpd x y | _ => false
  | .pick c' a' b' => match o with | .pick c a b => okOpd c c' && okOpd a a' && okOpd b b' | _ => false
  | .box _ y => match o with | .box _ x => okOpd x y | _ => false
  | .alloc cs => match o with
    | .alloc T =>
      match P.info? T with
      | some i => match i.zero with | some z => cOKs z.cells.toList cs | none => false
      | none => false
    | _ => false
  | .build zero parts' => match o with
    | .build T parts =>
      match placesT P T with
      | some (pl, z) => cOKs z.toList zero && okParts pl parts.toList parts'
      | none => false
    | _ => false
  | .buildSlice k ys => match o with
    | .buildSlice T len parts =>
      match elemT P T with
      | some e => match P.info? e with
        | some i => i.size == k && i.zero.isSome && decide (0 < k) && parts.toList.length == len && decide (len * k ≤ 16777216) && okRows 0 parts.toList ys
        | none => false
      | none => false
    | _ => false
  | .load ag k y => match o with | .load T x => okOpd x y && tyAg P T ag && tySz P T k && (ag || k == 1) | _ => false
  | .store k a x => match o with | .store T p v => okOpd p a && okOpd v x && tySz P T k | _ => false
  | .nilCheck y => match o with | .nilCheck x => okOpd x y | _ => false
  | .bin op x' y' => match o with | .binOp op' _ x y _ => op == op' && okOpd x x' && okOpd y y' | _ => false
  | .binb neg x' y' => match o with | .binOp op T x y _ => (op == if neg then .neq else .eql) && okOpd x x' && okOpd y y' && (match P.underlying T with | some .bool => true | _ => false) | _ => false
  | .nilq neg x' => match o with | .binOp op T x y _ => (op == if neg then .neq else .eql) && okOpd x x' && (elemT P T).isSome && (match y with | .const (.slice none 0 0) => true | _ => false) | _ => false
  | .eqAgg neg sig x' y' => match o with
    | .binOp op T x y _ => (op == if neg then .neq else .eql) && okOpd x x' && okOpd y y' && flatTy P 8 T == some sig && (match P.underlying T with | some (.struct _) => true | _ => false) && !P.eqGuardType P.depth T
    | _ => false
  | .un op x' => match o with | .unOp op' _ x => op == op' && okOpd x x' | _ => false
  | .conv dst x' => match o with | .convert T T' x => okOpd x x' && (P.underlying T).isSome && (match P.underlying T' with | some (.int k) => k == dst | _ => false) | _ => false
  | .makeSlice k bytes zero l c => match o with
    | .makeSlice T x y =>
      okOpd x l && okOpd y c &&
      match elemT P T with
      | some e => match P.info? e with
        | some i => i.size == k && i.bytes == bytes && decide (0 < bytes) && zero.length == k && (match i.zero with | some z => z.cells.size == k && dOKs z.cells.toList zero | none => false)
        | none => false
      | none => false
    | _ => false
  | .slice k x' lo' hi' => match o with
    | .slice T x lo hi none => okOpd x x' && okOO lo lo' && okOO hi hi' && (match elemT P T with | some e => tySz P e k | none => false)
    | _ => false
  | .fieldAddr off x' => match o with
    | .fieldAddr T x f => okOpd x x' && (match fieldT P T f with | some fd => fd.offset == off && (match P.info? fd.type with | some i => i.size != 0 | none => false) | none => false)
    | _ => false
  | .field ag k off x' => match o with
    | .field T x f => okOpd x x' && (match fieldT P T f with | some fd => fd.offset == off && tyAg P fd.type ag && tySz P fd.type k && (ag || k == 1) | none => false)
    | _ => false
  | .indexAddr k x' i' => match o with
    | .indexAddr T x i => okOpd x x' && okOpd i i' && (match elemT P T with | some e => tySz P e k | none => false)
    | _ => false
  | .arrAddr n k x' i' => match o with
    | .indexAddr T x i => okOpd x x' && okOpd i i' && (match arrT P T with | some (m, e) => m == n && tySz P e k | none => false)
    | _ => false
  | .arrIndex ag n k x' i' => match o with
    | .index T x i => okOpd x x' && okOpd i i' && (match arrT P T with | some (m, e) => m == n && tySz P e k && tyAg P e ag && (ag || k == 1) | none => false)
    | _ => false
  | .extract x' i' => match o with | .extract x i => okOpd x x' && i == i' | _ => false
  | .len x' => match o with
    | .call { callee := .builtin .len, args := args, argTypes := ts } =>
      match args.toList with
      | [x] => okOpd x x' && (match ts[0]? with | some T => (elemT P T).isSome | none => false)
      | _ => false
    | _ => false
  | .append k bytes _ x' y' => match o with
    | .call { callee := .builtin .append, args := args, argTypes := ts } =>
      match args.toList, ts.toList with
      | [x, y], [T, T'] => okOpd x x' && okOpd y y' && T == T' &&
        (match elemT P T with
        | some e => match P.info? e with
          | some i => i.size == k && decide (0 < k) && i.bytes == bytes && decide (0 < bytes) && (match i.zero with | some z => z.cells.size == k | none => false)
          | none => false
        | none => false)
      | _, _ => false
    | _ => false
  | .minmax mx x' y' => match o with
    | .call { callee := .builtin b, args := args, argTypes := _ } =>
      match args.toList with
      | [x, y] => (b == if mx then .max else .min) && okOpd x x' && okOpd y y'
      | _ => false
    | _ => false
  | .call f _ _ args' => match o with
    | .call { callee := .value (.func f'), args := args, argTypes := _ } => f == f' && okOpds args.toList args' &&
      (match P.funcs[f]? with | some fd => !(fd.name == "runtime.NumGoroutine") && !fd.body.isNone | none => false)
    | _ => false
  | .callv f' args' => match o with
    | .call { callee := .value f, args := args, argTypes := _ } => okOpd f f' && okOpds args.toList args'
    | _ => false
  | .mkfn f' first' caps' => match o with
    | .makeFunc (.func f) first caps => f == f' && okOpds first.toList first' && okOpds caps.toList caps'
    | _ => false
  | .cap x' => match o with
    | .call { callee := .builtin .cap, args := args, argTypes := ts } =>
      match args.toList with
      | [x] => okOpd x x' && (match ts[0]? with | some T => (elemT P T).isSome | none => false)
      | _ => false
    | _ => false
  | .copy k x' y' => match o with
    | .call { callee := .builtin .copy, args := args, argTypes := ts } =>
      match args.toList with
      | [x, y] => okOpd x x' && okOpd y y' &&
        (match ts[0]? with
        | some T => match elemT P T with
          | some e => match P.info? e with
            | some i => i.size == k && decide (0 < k)
            | none => false
          | none => false
        | none => false)
      | _ => false
    | _ => false
  | .clear k zero x' => match o with
    | .call { callee := .builtin .clear, args := args, argTypes := ts } =>
      match args.toList with
      | [x] => okOpd x x' &&
        (match ts[0]? with
        | some T => match elemT P T with
          | some e => match P.info? e with
            | some i => i.size == k && decide (0 < k) && zero.length == k && (match i.zero with | some z => z.cells.size == k && dOKs z.cells.toList zero | none => false)
            | none => false
          | none => false
        | none => false)
      | _ => false
    | _ => false
  | .appendMk k bytes zero x' y' => match o with
    | .call { callee := .builtin .append, args := args, argTypes := ts } =>
      match args.toList, ts.toList with
      | [x, y], [T, TI] => okOpd x x' && okOpd y y' && (match P.underlying TI with | some (.int _) => true | _ => false) &&
        (match elemT P T with
        | some e => match P.info? e with
          | some i => i.size == k && decide (0 < k) && i.bytes == bytes && decide (0 < bytes) && zero.length == k && (match i.zero with | some z => z.cells.size == k && dOKs z.cells.toList zero | none => false)
          | none => false
        | none => false)
      | _, _ => false
    | _ => false
  | .overlaps f x' y' => match o with
    | .call { callee := .value (.func f'), args := args, argTypes := _ } =>
      match args.toList with
      | [x, y] => f == f' && okOpd x x' && okOpd y y'
      | _ => false
    | _ => false

theorem okOpds_get : ∀ {xs : List Operand} {ys : List Opd}, okOpds xs ys = true → xs.length = ys.length ∧ ∀ (i : Nat) (x : Operand) (y : Opd), xs[i]? = some x → ys[i]? = some y → okOpd x y = true
  | [], [], _ => ⟨rfl, by simp⟩
  | x :: xs, y :: ys, h => by
    simp [okOpds] at h
    have ih := okOpds_get h.2
    refine ⟨by simp [ih.1], fun i x' y' h1 h2 => ?_⟩
    cases i with
    | zero => simp at h1 h2; subst h1 h2; exact h.1
    | succ i => exact ih.2 i x' y' (by simpa using h1) (by simpa using h2)
  | [], _ :: _, h => by simp [okOpds] at h
  | _ :: _, [], h => by simp [okOpds] at h

theorem dOKs_get : ∀ {vs : List Value} {ds : List D}, dOKs vs ds = true → vs.length = ds.length ∧ ∀ j, j < ds.length → DR (fun _ => none) (vs.getD j undef) (ds.getD j default)
  | [], [], _ => ⟨rfl, by simp⟩
  | v :: vs, d :: ds, h => by
    simp [dOKs] at h
    have ih := dOKs_get h.2
    refine ⟨by simp [ih.1], fun j hj => ?_⟩
    cases j with
    | zero =>
      have h1 := h.1
      show DR _ v d
      unfold dOK1 at h1
      split at h1
      · simp at h1; obtain ⟨rfl, rfl⟩ := h1; exact .i _ _
      · simp at h1; subst h1; exact .b _
      · exact .a0 _ _ _
      · cases h1
    | succ j => exact ih.2 j (by simpa using hj)
  | [], _ :: _, h => by simp [dOKs] at h
  | _ :: _, [], h => by simp [dOKs] at h

theorem placesT_built {P : Program} {T : TypeId} {pl z} (h : placesT P T = some (pl, z)) : ∀ ps, P.built T ps = Instr.fill pl z ps := by
  intro ps
  unfold placesT at h
  unfold Program.built
  split at h
  · rename_i it n e h1 h2
    split at h
    · rename_i z' ie h3 h4
      cases h
      simp [h1, h2, h3, h4]
    · cases h
  · rename_i it fields h1 h2
    split at h
    · rename_i z' pls h3 h4
      cases h
      simp [h1, h2, h3, h4]
    · cases h
  · cases h

theorem tyAg_get {P : Program} {T : TypeId} {ag : Bool} (h : tyAg P T ag = true) : ∃ d, P.underlying T = some d ∧ isAggD d = ag := by
  unfold tyAg at h
  split at h
  · rename_i d hd; exact ⟨d, hd, by simpa using h⟩
  · cases h
theorem tySz_get {P : Program} {T : TypeId} {k : Nat} (h : tySz P T k = true) : ∃ i, P.info? T = some i ∧ i.size = k := by
  unfold tySz at h
  split at h
  · rename_i d hd; exact ⟨d, hd, by simpa using h⟩
  · cases h
theorem elemT_get {P : Program} {T e : TypeId} (h : elemT P T = some e) : P.underlying T = some (.slice e) := by
  unfold elemT at h
  split at h
  · rename_i e' he; cases h; exact he
  · cases h
theorem arrT_get {P : Program} {T e : TypeId} {n : Nat} (h : arrT P T = some (n, e)) : P.underlying T = some (.array n e) := by
  unfold arrT at h
  split at h
  · rename_i e' he; cases h; exact he
  · cases h
theorem fieldT_get {P : Program} {T : TypeId} {f : Nat} {fd : Field} (h : fieldT P T f = some fd) : ∃ fs, P.underlying T = some (.struct fs) ∧ fs[f]? = some fd := by
  unfold fieldT at h
  split at h
  · rename_i fs hfs; exact ⟨fs, hfs, h⟩
  · cases h

section
variable {P : Program} {N : FrS} {A : Nat → Prop} {w0 : World} {F0 : List Nat} {J0 : Imm} {g : Env} {s : MS} {a : Act} {w : World} {hp : List (Nat × MO)}
variable {n : Nat} {o : Oper} {K : MK} {next : Act → World → Prop} {Q : Exit → Act → World → Prop}

theorem mop_sound {m : MOp} (hok : okOp P o.op m = true) (hA : ∀ id, n ≤ id → id < n + 64 → A id) (h : Rel P N A w0 F0 J0 g s a w) (hm : mop false P m n s K)
    (hn : Goes P A w0 F0 J0 g s.hp n o a K next) : o.wp P a w next Q := by
  generalize hop : o.op = op at hok
  cases m with
  | mov y =>
    simp only [okOp] at hok
    split at hok
    · exact S.mov (.inl hop) hok h hm hn
    · exact S.mov (.inr hop) hok h hm hn
    · cases hok
  | pick c' a' b' =>
    simp only [okOp] at hok
    split at hok
    · simp at hok; exact S.pick hop hok.1.1 hok.1.2 hok.2 h hm hn
    · cases hok
  | box k y =>
    simp only [okOp] at hok
    split at hok
    · exact S.box hop hok hA h hm hn
    · cases hok
  | alloc cs =>
    simp only [okOp] at hok
    split at hok
    · split at hok
      · rename_i i hi
        split at hok
        · rename_i z hz; exact S.alloc hop hi hz hok hA h hm hn
        · cases hok
      · cases hok
    · cases hok
  | build zero parts' =>
    simp only [okOp] at hok
    split at hok
    · split at hok
      · rename_i pl z hpl
        simp at hok
        exact S.build hop (placesT_built hpl) hok.1 hok.2 h hm hn
      · cases hok
    · cases hok
  | buildSlice k ys =>
    simp only [okOp] at hok
    split at hok
    · split at hok
      · rename_i e he
        split at hok
        · rename_i i hi
          simp at hok
          obtain ⟨⟨⟨⟨⟨h1, h2⟩, h3⟩, h4⟩, h5⟩, h6⟩ := hok
          obtain ⟨z, hz⟩ := Option.isSome_iff_exists.1 h2
          exact S.buildSlice hop (elemT_get he) hi h1 hz h3 (by simpa using h4) h5 h6 hA h hm hn
        · cases hok
      · cases hok
    · cases hok
  | load ag k y =>
    simp only [okOp] at hok
    split at hok
    · simp only [Bool.and_eq_true] at hok
      obtain ⟨⟨⟨h1, h2⟩, h3⟩, h4⟩ := hok
      obtain ⟨d, hd, hag⟩ := tyAg_get h2
      obtain ⟨i, hi, hk⟩ := tySz_get h3
      exact S.load hop h1 hd hag hi hk (fun e => by subst e; simpa using h4) h hm hn
    · cases hok
  | store k x y =>
    simp only [okOp] at hok
    split at hok
    · simp only [Bool.and_eq_true] at hok
      obtain ⟨i, hi, hk⟩ := tySz_get hok.2
      exact S.store hop hok.1.1 hok.1.2 hi hk h hm hn
    · cases hok
  | nilCheck y =>
    simp only [okOp] at hok
    split at hok
    · exact S.nilCheck hop hok h hm hn
    · cases hok
  | bin op' x' y' =>
    simp only [okOp] at hok
    split at hok
    · simp only [Bool.and_eq_true, beq_iff_eq] at hok
      obtain ⟨⟨rfl, h1⟩, h2⟩ := hok
      exact S.bin hop h1 h2 h hm hn
    · cases hok
  | binb neg x' y' =>
    simp only [okOp] at hok
    split at hok
    · simp only [Bool.and_eq_true, beq_iff_eq] at hok
      obtain ⟨⟨⟨h0, h1⟩, h2⟩, h3⟩ := hok
      split at h3
      · rename_i hu; exact S.binb hop h0 h1 h2 hu h hm hn
      · cases h3
    · cases hok
  | nilq neg x' =>
    simp only [okOp] at hok
    split at hok
    · simp only [Bool.and_eq_true, beq_iff_eq] at hok
      obtain ⟨⟨⟨h0, h1⟩, h2⟩, h3⟩ := hok
      obtain ⟨e, he⟩ := Option.isSome_iff_exists.1 h2
      split at h3
      · exact S.nilq hop h0 h1 (elemT_get he) rfl h hm hn
      · cases h3
    · cases hok
  | eqAgg neg sig x' y' =>
    simp only [okOp] at hok
    split at hok
    · simp only [Bool.and_eq_true, beq_iff_eq] at hok
      obtain ⟨⟨⟨⟨⟨h0, h1⟩, h2⟩, h3⟩, h4⟩, h5⟩ := hok
      split at h4
      · rename_i fs hfs
        exact S.eqAgg hop h0 h1 h2 h3 ⟨fs, hfs⟩ (by simpa using h5) h hm hn
      · cases h4
    · cases hok
  | un op' x' =>
    simp only [okOp] at hok
    split at hok
    · simp only [Bool.and_eq_true, beq_iff_eq] at hok
      obtain ⟨rfl, h1⟩ := hok
      exact S.un hop h1 h hm hn
    · cases hok
  | conv dst x' =>
    simp only [okOp] at hok
    split at hok
    · simp only [Bool.and_eq_true] at hok
      obtain ⟨⟨h1, h2⟩, h3⟩ := hok
      obtain ⟨d, hd⟩ := Option.isSome_iff_exists.1 h2
      split at h3
      · rename_i k hk
        simp at h3; subst h3
        exact S.conv hop h1 hd hk h hm hn
      · cases h3
    · cases hok
  | makeSlice k bytes zero l c =>
    simp only [okOp] at hok
    split at hok
    · simp only [Bool.and_eq_true] at hok
      obtain ⟨⟨h1, h2⟩, h3⟩ := hok
      split at h3
      · rename_i e he
        split at h3
        · rename_i i hi
          simp only [Bool.and_eq_true, beq_iff_eq, decide_eq_true_eq] at h3
          obtain ⟨⟨⟨⟨c1, c2⟩, c3⟩, c4⟩, c5⟩ := h3
          split at c5
          · rename_i z hz
            simp at c5
            have hd := dOKs_get c5.2
            refine S.makeSlice hop h1 h2 (elemT_get he) hi c1 c2 c3 hz c5.1 ⟨c4, fun j hj => ?_⟩ hA h hm hn
            have := hd.2 j (by omega)
            rw [← getD_toList]; exact this
          · cases c5
        · cases h3
      · cases h3
    · cases hok
  | slice k x' lo' hi' =>
    simp only [okOp] at hok
    split at hok
    · simp only [Bool.and_eq_true] at hok
      obtain ⟨⟨⟨h1, h2⟩, h3⟩, h4⟩ := hok
      split at h4
      · rename_i e he
        obtain ⟨i, hi, hk⟩ := tySz_get h4
        exact S.slice hop h1 h2 h3 (elemT_get he) hi hk h hm hn
      · cases h4
    · cases hok
  | fieldAddr off x' =>
    simp only [okOp] at hok
    split at hok
    · simp only [Bool.and_eq_true] at hok
      obtain ⟨h1, h2⟩ := hok
      split at h2
      · rename_i fd hfd
        obtain ⟨fs, hfs, hf⟩ := fieldT_get hfd
        simp only [Bool.and_eq_true, beq_iff_eq] at h2
        obtain ⟨h2, h3⟩ := h2
        split at h3
        · rename_i i hi
          exact S.fieldAddr hop h1 hfs hf h2 hi (by simpa using h3) h hm hn
        · cases h3
      · cases h2
    · cases hok
  | field ag k off x' =>
    simp only [okOp] at hok
    split at hok
    · simp only [Bool.and_eq_true] at hok
      obtain ⟨h1, h2⟩ := hok
      split at h2
      · rename_i fd hfd
        obtain ⟨fs, hfs, hf⟩ := fieldT_get hfd
        simp only [Bool.and_eq_true] at h2
        obtain ⟨⟨⟨c1, c2⟩, c3⟩, c4⟩ := h2
        obtain ⟨d, hd, hag⟩ := tyAg_get c2
        obtain ⟨i, hi, hk⟩ := tySz_get c3
        exact S.field hop h1 hfs hf (by simpa using c1) hd hag hi hk (fun e => by subst e; simpa using c4) h hm hn
      · cases h2
    · cases hok
  | indexAddr k x' i' =>
    simp only [okOp] at hok
    split at hok
    · simp only [Bool.and_eq_true] at hok
      obtain ⟨⟨h1, h2⟩, h3⟩ := hok
      split at h3
      · rename_i e he
        obtain ⟨i, hi, hk⟩ := tySz_get h3
        exact S.indexAddr hop h1 h2 (elemT_get he) hi hk h hm hn
      · cases h3
    · cases hok
  | arrAddr len k x' i' =>
    simp only [okOp] at hok
    split at hok
    · simp only [Bool.and_eq_true] at hok
      obtain ⟨⟨h1, h2⟩, h3⟩ := hok
      split at h3
      · rename_i m e he
        simp only [Bool.and_eq_true, beq_iff_eq] at h3
        obtain ⟨rfl, h3⟩ := h3
        obtain ⟨i, hi, hk⟩ := tySz_get h3
        exact S.arrAddr hop h1 h2 (arrT_get he) hi hk h hm hn
      · cases h3
    · cases hok
  | arrIndex ag len k x' i' =>
    simp only [okOp] at hok
    split at hok
    · simp only [Bool.and_eq_true] at hok
      obtain ⟨⟨h1, h2⟩, h3⟩ := hok
      split at h3
      · rename_i m e he
        simp only [Bool.and_eq_true, beq_iff_eq] at h3
        obtain ⟨⟨⟨rfl, h3⟩, h4⟩, h5⟩ := h3
        obtain ⟨i, hi, hk⟩ := tySz_get h3
        obtain ⟨d, hd, hag⟩ := tyAg_get h4
        exact S.arrIndex hop h1 h2 (arrT_get he) hi hk hd hag (fun e => by subst e; simpa using h5) h hm hn
      · cases h3
    · cases hok
  | extract x' i' =>
    simp only [okOp] at hok
    split at hok
    · simp only [Bool.and_eq_true, beq_iff_eq] at hok
      obtain ⟨h1, rfl⟩ := hok
      exact S.extract hop h1 h hm hn
    · cases hok
  | len x' =>
    simp only [okOp] at hok
    split at hok
    · rename_i args ts
      split at hok
      · rename_i x hargs
        obtain rfl : args = #[x] := Array.ext' hargs
        simp only [Bool.and_eq_true] at hok
        obtain ⟨h1, h2⟩ := hok
        split at h2
        · rename_i T hT
          obtain ⟨e, he⟩ := Option.isSome_iff_exists.1 h2
          exact S.len hop hT h1 (elemT_get he) h hm hn
        · cases h2
      · cases hok
    · cases hok
  | append k bytes drop x' y' =>
    simp only [okOp] at hok
    split at hok
    · rename_i args ts
      split at hok
      · rename_i x y T T' hargs hts
        obtain rfl : args = #[x, y] := Array.ext' hargs
        obtain rfl : ts = #[T, T'] := Array.ext' hts
        simp only [Bool.and_eq_true, beq_iff_eq] at hok
        obtain ⟨⟨⟨h1, h2⟩, rfl⟩, h3⟩ := hok
        split at h3
        · rename_i e he
          split at h3
          · rename_i i hi
            simp only [Bool.and_eq_true, beq_iff_eq, decide_eq_true_eq] at h3
            obtain ⟨⟨⟨⟨c1, c2⟩, c3⟩, c4⟩, c5⟩ := h3
            split at c5
            · rename_i z hz
              exact S.append hop h1 h2 (elemT_get he) hi c1 c2 c3 c4 hz (by simpa using c5) hA h hm hn
            · cases c5
          · cases h3
        · cases h3
      · cases hok
    · cases hok
  | minmax mx x' y' =>
    simp only [okOp] at hok
    split at hok
    · rename_i b args ts
      split at hok
      · rename_i x y hargs
        obtain rfl : args = #[x, y] := Array.ext' hargs
        simp only [Bool.and_eq_true, beq_iff_eq] at hok
        obtain ⟨⟨rfl, h1⟩, h2⟩ := hok
        exact S.minmax hop h1 h2 h hm hn
      · cases hok
    · cases hok
  | call f al ms args' =>
    simp only [okOp] at hok
    split at hok
    · simp only [Bool.and_eq_true, beq_iff_eq] at hok
      obtain ⟨⟨rfl, h1⟩, h2⟩ := hok
      split at h2
      · rename_i fd hfd
        simp only [Bool.and_eq_true, Bool.not_eq_true'] at h2
        exact S.call hop (okOpds_get h1) hfd h2.1 h2.2 hA h hm hn
      · cases h2
    · cases hok
  | callv f' args' =>
    simp only [okOp] at hok
    split at hok
    · simp only [Bool.and_eq_true] at hok
      exact S.callv hop hok.1 (okOpds_get hok.2) h hm hn
    · cases hok
  | mkfn f' first' caps' =>
    simp only [okOp] at hok
    split at hok
    · simp only [Bool.and_eq_true, beq_iff_eq] at hok
      obtain ⟨⟨rfl, h1⟩, h2⟩ := hok
      exact S.mkfn hop (okOpds_get h1) (okOpds_get h2) h hm hn
    · cases hok
  | cap x' =>
    simp only [okOp] at hok
    split at hok
    · rename_i args ts
      split at hok
      · rename_i x hargs
        obtain rfl : args = #[x] := Array.ext' hargs
        simp only [Bool.and_eq_true] at hok
        obtain ⟨h1, h2⟩ := hok
        split at h2
        · rename_i T hT
          obtain ⟨e, he⟩ := Option.isSome_iff_exists.1 h2
          exact S.cap hop hT h1 (elemT_get he) h hm hn
        · cases h2
      · cases hok
    · cases hok
  | copy k x' y' =>
    simp only [okOp] at hok
    split at hok
    · rename_i args ts
      split at hok
      · rename_i x y hargs
        obtain rfl : args = #[x, y] := Array.ext' hargs
        simp only [Bool.and_eq_true] at hok
        obtain ⟨⟨h1, h2⟩, h3⟩ := hok
        split at h3
        · rename_i T hT
          split at h3
          · rename_i e he
            split at h3
            · rename_i i hi
              simp only [Bool.and_eq_true, beq_iff_eq, decide_eq_true_eq] at h3
              exact S.copy hop hT h1 h2 (elemT_get he) hi h3.1 h3.2 h hm hn
            · cases h3
          · cases h3
        · cases h3
      · cases hok
    · cases hok
  | clear k zero x' =>
    simp only [okOp] at hok
    split at hok
    · rename_i args ts
      split at hok
      · rename_i x hargs
        obtain rfl : args = #[x] := Array.ext' hargs
        simp only [Bool.and_eq_true] at hok
        obtain ⟨h1, h3⟩ := hok
        split at h3
        · rename_i T hT
          split at h3
          · rename_i e he
            split at h3
            · rename_i i hi
              simp only [Bool.and_eq_true, beq_iff_eq, decide_eq_true_eq] at h3
              obtain ⟨⟨⟨c1, c3⟩, c4⟩, c5⟩ := h3
              split at c5
              · rename_i z hz
                simp at c5
                have hd := dOKs_get c5.2
                refine S.clear hop hT h1 (elemT_get he) hi c1 c3 hz c5.1 ⟨c4, fun j hj => ?_⟩ h hm hn
                have := hd.2 j (by omega)
                rw [← getD_toList]; exact this
              · cases c5
            · cases h3
          · cases h3
        · cases h3
      · cases hok
    · cases hok
  | appendMk k bytes zero x' y' =>
    simp only [okOp] at hok
    split at hok
    · rename_i args ts
      split at hok
      · rename_i x y T TI hargs hts
        obtain rfl : args = #[x, y] := Array.ext' hargs
        obtain rfl : ts = #[T, TI] := Array.ext' hts
        simp only [Bool.and_eq_true] at hok
        obtain ⟨⟨⟨h1, h2⟩, hI⟩, h3⟩ := hok
        split at hI
        · rename_i ik hik
          split at h3
          · rename_i e he
            split at h3
            · rename_i i hi
              simp only [Bool.and_eq_true, beq_iff_eq, decide_eq_true_eq] at h3
              obtain ⟨⟨⟨⟨⟨c1, c2⟩, c3⟩, c4⟩, c6⟩, c5⟩ := h3
              split at c5
              · rename_i z hz
                simp at c5
                have hd := dOKs_get c5.2
                refine S.appendMk hop h1 h2 (elemT_get he) hik hi c1 c2 c3 c4 hz c5.1 ⟨c6, fun j hj => ?_⟩ hA h hm hn
                have := hd.2 j (by omega)
                rw [← getD_toList]; exact this
              · cases c5
            · cases h3
          · cases h3
        · cases hI
      · cases hok
    · cases hok
  | overlaps f x' y' =>
    simp only [okOp] at hok
    split at hok
    · rename_i f' args ts
      split at hok
      · rename_i x y hargs
        obtain rfl : args = #[x, y] := Array.ext' hargs
        simp only [Bool.and_eq_true, beq_iff_eq] at hok
        obtain ⟨⟨rfl, h1⟩, h2⟩ := hok
        exact S.overlaps hop h1 h2 h hm hn
      · cases hok
    · cases hok
end
end Go.Fw
