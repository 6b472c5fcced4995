/-
  What a call of a Go function comes to on model values ('MCall'), and what a piece of code comes to ('mwp').
-/
import Derived.Test.YtdfbdbbjnihmaaaFwB
namespace Go.Fw
set_option linter.unusedVariables false
set_option linter.unusedSimpArgs false

def noInj : Nat → Option Loc := fun _ => none

/-- The cells of a place hold these data. -/
def BRep (I : Imm) (w : World) (l : Loc) (k : Nat) (es : List (List D)) : Prop :=
  l.k = k ∧ ∃ (cs : Array Value) (E : TypeId), w.heap[l.b]? = some (.cells cs E (0, 0)) ∧ l.base + l.C * k ≤ cs.size ∧ es.length ≤ l.C ∧
    ∀ i j, i < es.length → j < k → ∃ v, cs[l.base + i * k + j]? = some v ∧ DR I v (cellD es i j)

mutual
/-- v is m in the world w; the blocks in F are its own. -/
inductive Own (P : Program) (I J : Imm) (w : World) : Value → MV → List Nat → Prop
  | imm (v m) (h : RV P ⟨I, J, noInj⟩ v m) : Own P I J w v m []
  | ow0 (p t k) : Own P I J w (.slice p 0 0) (.ow t k []) []
  | ow (l t k es cap len) (hlen : len = es.length) (hcap : len ≤ cap) (hC : cap ≤ l.C) (hk : ∀ e ∈ es, e.length = k) (hb : BRep (if t then J else I) w l k es) :
      Own P I J w (.slice (some ⟨l.b, l.base, none⟩) len cap) (.ow t k es) [l.b]
  | pw (b base : Nat) (cells : Array Value) (E : TypeId) (cs F) (hb : w.heap[b]? = some (.cells cells E (0, 0))) (hsz : base + cs.length ≤ cells.size) (h1 : ∀ v ∈ cells.toList, v.oneCell' = true)
      (h : OwnL P I J w ((cells.toList.drop base).take cs.length) cs F) : Own P I J w (.pointer (some ⟨b, base, none⟩)) (.pw cs) (b :: F)
  | agg (vs cs F) (h : OwnL P I J w vs.toList cs F) (h1 : ∀ v ∈ vs.toList, v.oneCell' = true) : Own P I J w (.agg vs) (.agg cs) F
  | tup (vs cs F) (h : OwnL P I J w vs.toList cs F) : Own P I J w (.tuple vs) (.tup cs) F
inductive OwnL (P : Program) (I J : Imm) (w : World) : List Value → List MV → List Nat → Prop
  | nil : OwnL P I J w [] [] []
  | cons (v vs m ms F G) (h : Own P I J w v m F) (hs : OwnL P I J w vs ms G) : OwnL P I J w (v :: vs) (m :: ms) (F ++ G)
end

/-- The memory of w but for the blocks in F. -/
def heapBut (w : World) (F : List Nat) : Imm := fun b => if b ∈ F then none else w.heap[b]?

/-- Whatever the world: called with values that are 'args' (ow, pw: the callee's to write), the function returns a value that is 'r', and leaves its arguments as 'outs', with Q outs r; all else is as it was. -/
def MCall (P : Program) (f : FuncId) (args : List MV) (Q : List MV → MV → Prop) : Prop :=
  ∀ (w : World) (J : Imm) (vs : Array Value) (F : List Nat), (∀ b o, J b = some o → w.heap[b]? = some o ∧ b ∉ F) → F.Nodup →
    OwnL P (heapBut w F) J w vs.toList args F →
    Calls P f vs w (fun e w' => ∃ v outs r J' G, e = .returned v ∧ Q outs r ∧ WExt w F w' ∧ (∀ b o, J b = some o → J' b = some o) ∧
      (∀ b o, J' b = some o → w'.heap[b]? = some o ∧ b ∉ G ∧ (J b = some o ∨ w.heap.size ≤ b ∨ b ∈ F)) ∧ G.Nodup ∧ (∀ b ∈ G, w.heap.size ≤ b ∨ b ∈ F) ∧
      OwnL P J' J' w' (v :: vs.toList) (r :: outs) G)

theorem MCall.mono {P : Program} {f : FuncId} {args : List MV} {Q Q' : List MV → MV → Prop} (h : MCall P f args Q) (hq : ∀ o r, Q o r → Q' o r) : MCall P f args Q' := by
  intro w J vs F h1 h2 h3
  refine (h w J vs F h1 h2 h3).mono ?_
  rintro e w' ⟨v, outs, r, J', G, a1, a2, a3⟩
  exact ⟨v, outs, r, J', G, a1, hq _ _ a2, a3⟩

def Fits (k : IntKind) (n : Int) : Prop := k.wrap n = n
theorem fits64 {n : Int} (h1 : -9223372036854775808 ≤ n) (h2 : n ≤ 9223372036854775807) : Fits .i64 n := by
  have e1 : (2 : Int) ^ (64 : Nat) = 18446744073709551616 := by decide
  have e2 : (2 : Int) ^ (63 : Nat) = 9223372036854775808 := by decide
  simp only [Fits, IntKind.wrap, IntKind.bits, IntKind.signed, e1, e2, Bool.true_and, ge_iff_le, decide_eq_true_eq, show (64 : Nat) - 1 = 63 from rfl]
  split <;> omega

def ibits (op : BinOp) (k : IntKind) (x y : Int) : Int :=
  let a := BitVec.ofInt k.bits x
  let b := BitVec.ofInt k.bits y
  match op with
  | .and => k.wrap (a &&& b).toNat
  | .or => k.wrap (a ||| b).toNat
  | .xor => k.wrap (a ^^^ b).toNat
  | _ => k.wrap (a &&& ~~~b).toNat

/-- The cells of two structs are alike (numbers and truth values alone). -/
def eqCells : List MV → List MV → Option Bool
  | [], [] => some true
  | .i k a :: r, .i k' b :: r' => if k = k' then (eqCells r r').map (fun x => decide (a = b) && x) else none
  | .b a :: r, .b b :: r' => (eqCells r r').map (fun x => (a == b) && x)
  | _, _ => none

/-- These cells are numbers ('true') and truth values. -/
def sigOK : List Bool → List MV → Bool
  | [], [] => true
  | true :: r, .i _ _ :: ms => sigOK r ms
  | false :: r, .b _ :: ms => sigOK r ms
  | _, _ => false

inductive MOp where
  | mov (x : Opd)
  | pick (c a b : Opd)
  | box (k : Nat) (x : Opd)
  | alloc (cells : List MV)
  | build (zero : List MV) (parts : List (Nat × Nat × Opd))
  | buildSlice (k : Nat) (parts : List Opd)
  | load (agg : Bool) (k : Nat) (x : Opd)
  | store (k : Nat) (a x : Opd)
  | nilCheck (x : Opd)
  | bin (op : BinOp) (x y : Opd)
  | binb (neg : Bool) (x y : Opd)
  | nilq (neg : Bool) (x : Opd)
  | eqAgg (neg : Bool) (sig : List Bool) (x y : Opd)
  | un (op : UnOp) (x : Opd)
  | conv (dst : IntKind) (x : Opd)
  | makeSlice (k bytes : Nat) (zero : List D) (len cap : Opd)
  | slice (k : Nat) (x : Opd) (lo hi : Option Opd)
  | fieldAddr (off : Nat) (x : Opd)
  | field (agg : Bool) (k off : Nat) (x : Opd)
  | indexAddr (k : Nat) (x i : Opd)
  | arrAddr (n k : Nat) (x i : Opd)
  | arrIndex (agg : Bool) (n k : Nat) (x i : Opd)
  | extract (x : Opd) (i : Nat)
  | len (x : Opd)
  | append (k bytes : Nat) (drop : Bool) (x y : Opd)
  | minmax (mx : Bool) (x y : Opd)
  | call (f : FuncId) (al : Bool) (ms : List Mode) (args : List Opd)
  | callv (f : Opd) (args : List Opd)
  | mkfn (f : FuncId) (first caps : List Opd)
  | cap (x : Opd)
  | copy (k : Nat) (x y : Opd)
  | clear (k : Nat) (zero : List D) (x : Opd)
  | overlaps (f : FuncId) (x y : Opd)
  | appendMk (k bytes : Nat) (zero : List D) (x y : Opd)

/-- The objects that a handed-over value reads. -/
def readsC (s : MS) : MV → List Nat
  | .sr id _ _ => [id]
  | .pr id _ _ =>
    match s.obj id with
    | some (.box cs) => id :: cs.flatMap fun | .sr i _ _ => [i] | _ => []
    | _ => [id]
  | _ => []
def readsA (s : MS) : MV → List Nat
  | .agg cs => cs.flatMap (readsC s)
  | m => readsC s m
def readsM (s : MS) : MV → List Nat
  | .clo _ a b => a.flatMap (readsA s) ++ b.flatMap (readsA s)
  | m => readsA s m

def FV.mv : FV → MV
  | .c x => ofD true x
  | .g xs => .agg (xs.map (ofD true))
def flatD : MV → Option D
  | .i k n => some (.i k n)
  | .b x => some (.b x)
  | _ => none
def flatM : MV → Option FV
  | .agg cs => (mapO flatD cs).map .g
  | m => (flatD m).map .c

/-- What a closure does, called with flat arguments. -/
def FnOk (P : Program) (s : MS) (f : FuncId) (first caps : List MV) (dom : List FV → Prop) (φ : List FV → FV) : Prop :=
  match mapO (closeM s false) first, mapO (closeM s false) caps with
  | some fs, some cs => Callable P f ∧ ∀ xs : List FV, (∀ x ∈ xs, x.isFlat = true) → dom xs → MCall P f (fs ++ xs.map FV.mv ++ cs) (fun _ r => r = (φ xs).mv ∧ (φ xs).isFlat = true)
  | _, _ => False

/-- All arguments: what is handed over; for each, the object that comes back; the objects that are handed over; the objects that are read. -/
def argsK (P : Program) (s : MS) (al : Bool) : List Mode → List MV → (List MV → List Bk → List Nat → List Nat → Prop) → Prop
  | [], [], K => K [] [] [] []
  | .fn :: ms, .clo f a b :: vs, K => ∃ dom φ, FnOk P s f a b dom φ ∧ argsK P s al ms vs fun xs is gs rs => K (.fn dom φ :: xs) (.one none :: is) gs (readsM s (.clo f a b) ++ rs)
  | .fn :: ms, .fn dom φ :: vs, K => argsK P s al ms vs fun xs is gs rs => K (.fn dom φ :: xs) (.one none :: is) gs rs
  | o :: ms, m :: vs, K => argK s al o m fun x i g => argsK P s al ms vs fun xs is gs rs => K (x :: xs) (i :: is) (g ++ gs) ((if o = .im then readsA s m else []) ++ rs)
  | _, _, _ => False

/-- The lent objects come back. -/
def outK (t : Bool) (s : MS) : List (Option Nat) → List MV → Nat → (Upd → Nat → Prop) → Prop
  | [], [], n, K => K [] n
  | none :: is, _ :: ms, n, K => outK t s is ms n K
  | some id :: is, m :: ms, n, K =>
    match s.obj id, m with
    | some (.arr _ k es), .ow _ k' es' => k' = k ∧ es'.length = es.length ∧ outK t s is ms n fun u n' => K ((id, some (.arr t k es')) :: u) n'
    | some (.box _), .pw cs =>
      let r := impL (imp (some t) 2) cs n
      outK t s is ms r.2.2 fun u n' => K (r.2.1.map (fun x => (x.1, some x.2)) ++ [(id, some (.box r.1))] ++ u) n'
    | _, _ => outK t s is ms n K
  | _, _, _, _ => False

def sliceOf (s : MS) : MV → Option (Bool × Nat × List (List D) × List Nat)
  | .s t k es => some (t, k, es, [])
  | .nl k => some (true, k, [], [])
  | .sr id off len =>
    match s.obj id with
    | some (.arr t k es) | some (.fz t k es) => if off + len ≤ es.length then some (t, k, (es.drop off).take len, [id]) else none
    | _ => none
  | _ => none

def intBin (op : BinOp) (k : IntKind) (a b : Int) (K : MV → Prop) : Prop :=
  match op with
  | .add => Fits k (a + b) ∧ K (.i k (a + b))
  | .sub => Fits k (a - b) ∧ K (.i k (a - b))
  | .mul => Fits k (a * b) ∧ K (.i k (a * b))
  | .quo => b ≠ 0 ∧ Fits k (a.tdiv b) ∧ K (.i k (a.tdiv b))
  | .rem => b ≠ 0 ∧ K (.i k (a.tmod b))
  | .eql => K (.b (decide (a = b)))
  | .neq => K (.b (!decide (a = b)))
  | .lss => K (.b (decide (a < b)))
  | .leq => K (.b (decide (a ≤ b)))
  | .gtr => K (.b (decide (b < a)))
  | .geq => K (.b (decide (b ≤ a)))
  | .and | .or | .xor | .andNot => K (.i k (ibits op k a b))
  | .shr => 0 ≤ b ∧ K (.i k (a.fdiv (2 ^ min b.toNat k.bits)))
  | .shl => 0 ≤ b ∧ K (.i k (k.wrap (a * 2 ^ min b.toNat k.bits)))

/-- The element at a place that is known to be there. -/
def getK (es : List (List D)) (i : Nat) (K : List D → Prop) : Prop := ∀ e, es[i]? = some e → K e
theorem getK.get {es : List (List D)} {i : Nat} {K : List D → Prop} (h : getK es i K) (hi : i < es.length) : K (es.getD i []) := h _ (by simp [List.getD, List.getElem?_eq_getElem hi])
theorem getK.same {es : List (List D)} {i : Nat} {K' : List D → Prop} (hi : i < es.length) (k : K' (es.getD i [])) : getK es i K' := fun e he => by
  have : es.getD i [] = e := by simp [List.getD, he]
  exact this ▸ k

/-- Bounds of a slice expression. -/
def bound (s : MS) (d : Nat) : Option Opd → (Nat → Prop) → Prop
  | none, K => K d
  | some o, K =>
    match s.val o with
    | .i _ n => 0 ≤ n ∧ K n.toNat
    | _ => False

def buildC (s : MS) : List (Nat × Nat × Opd) → List MV → (List MV → Prop) → Prop
  | [], cs, K => K cs
  | (off, k, x) :: r, cs, K =>
    match (s.val x).cells with
    | some xs => xs.length = k ∧ off + k ≤ cs.length ∧ buildC s r (splice cs off xs) K
    | none => False

def rowsV (s : MS) (k : Nat) : List Opd → Option (Bool × List (List D) × Upd)
  | [] => some (true, [], [])
  | x :: r =>
    match (s.val x).cells with
    | some xs =>
      match toDs s xs with
      | some (t, ds, u) =>
        match rowsV s k r with
        | some (t', es, u') => if ds.length = k then some (t && t', ds :: es, u ++ u') else none
        | none => none
      | none => none
    | none => none

/-- A call's outcome: one (det), or any that fulfils something. -/
def callK (det : Bool) (P : Program) (f : FuncId) (xs : List MV) (K : List MV → MV → Prop) : Prop :=
  if det then ∃ o r, MCall P f xs (fun o' r' => o' = o ∧ r' = r) ∧ K o r
  else ∃ Q, MCall P f xs Q ∧ ∀ o r, Q o r → K o r

/-- The objects that slices lead to. -/
def srs (ms : List MV) : List Nat := ms.flatMap fun | .sr id _ _ => [id] | _ => []

/-- How long a slice is; its first c elements. -/
def lenV (s : MS) : MV → Option Nat
  | .s _ _ es => some es.length
  | .nl _ => some 0
  | .sr _ _ len => some len
  | _ => none
def prefOf (s : MS) (c : Nat) : MV → Option (Bool × Nat × List (List D) × List Nat)
  | .s t k es => if c ≤ es.length then some (t, k, es.take c, []) else none
  | .nl k => if c = 0 then some (true, k, [], []) else none
  | .sr id off len =>
    match s.obj id with
    | some (.arr t k es) | some (.fz t k es) | some (.rm t k es _) => if c ≤ len ∧ off + c ≤ es.length then some (t, k, (es.drop off).take c, [id]) else none
    | _ => none
  | _ => none
/-- An array of the call's own that has an element. -/
def hasRow : MO → Bool
  | .arr _ k es | .rm _ k es _ => decide (0 < k) && decide (0 < es.length)
  | _ => false
/-- Rows, put over others from a place on. -/
def overR (es : List (List D)) (off : Nat) (ys : List (List D)) : List (List D) := es.take off ++ ys ++ es.drop (off + ys.length)

/-- A library function that the model itself tells: whether two slices have memory in common. -/
def OvOK (P : Program) (f : FuncId) : Prop := ∃ (fd : Func) (T R e : TypeId) (inf : TypeInfo), P.funcs[f]? = some fd ∧ (fd.name == "runtime.NumGoroutine") = false ∧ fd.body.isNone = true ∧ Extern.findNext fd = none ∧
  Extern.find fd = some (Extern.SlicesOverlaps.overlaps #[T, T] #[R]) ∧ P.underlying T = some (.slice e) ∧ P.info? e = some inf

/-- One operation; the new objects' numbers begin at n. -/
def mop (det : Bool) (P : Program) (o : MOp) (n : Nat) (s : MS) (K : MK) : Prop :=
  match o with
  | .mov x => K (s.val x) [] []
  | .pick c a b =>
    match s.val c with
    | .b x => if x then K (s.val a) [] [] else K (s.val b) [] []
    | _ => False
  | .box k x =>
    match (s.val x).cells with
    | some cs => cs.length = k ∧ K (.pr n 0 0) [(n, some (.box cs))] []
    | none => False
  | .alloc cs => K (.pr n 0 0) [(n, some (.box cs))] []
  | .build zero parts => buildC s parts zero fun cs => K (.agg cs) [] []
  | .buildSlice k parts =>
    match rowsV s k parts with
    | some (t, es, u) => K (.sr n 0 parts.length) (u ++ [(n, some (.arr t k es))]) (parts.flatMap fun x => srs (((s.val x).cells).getD []))
    | none => False
  | .load ag k x =>
    match s.val x with
    | .pr id i off =>
      match s.obj id with
      | some (.arr t k' es) | some (.fz t k' es) => i < es.length ∧ off + k ≤ k' ∧ getK es i fun e => K (chunkVal ag k off (e.map (ofD t))) [] [id]
      | some (.box cs) => i = 0 ∧ off + k ≤ cs.length ∧ K (chunkVal ag k off cs) [] [id]
      | _ => False
    | .pd t cs off => off + k ≤ cs.length ∧ K (chunkVal ag k off (cs.map (ofD t))) [] []
    | .pf d φ => ag = false ∧ K (.fn d φ) [] []
    | _ => False
  | .store k a x =>
    match s.val a, (s.val x).cells with
    | .pr id i off, some xs =>
      xs.length = k ∧
      match s.obj id with
      | some (.arr t k' es) =>
        match toDs s xs with
        | some (t', ds, u) => (∀ x ∈ u, x.1 ≠ id) ∧ i < es.length ∧ off + k ≤ k' ∧ getK es i fun e => K .un (u ++ [(id, some (.arr (t && t') k' (es.set i (splice e off ds))))]) (id :: srs xs)
        | none => False
      | some (.box cs) => i = 0 ∧ off + k ≤ cs.length ∧ K .un [(id, some (.box (splice cs off xs)))] [id]
      | _ => False
    | _, _ => False
  | .nilCheck x =>
    match s.val x with
    | .pr id i off => K (.pr id i off) [] []
    | .pd t cs off => K (.pd t cs off) [] []
    | .clo f a b => K (.clo f a b) [] []
    | .fn d φ => K (.fn d φ) [] []
    | _ => False
  | .bin op x y =>
    match s.val x, s.val y with
    | .i k a, .i k' b => (k' = k ∨ op = .shl ∨ op = .shr) ∧ intBin op k a b fun m => K m [] []
    | _, _ => False
  | .binb neg x y =>
    match s.val x, s.val y with
    | .b a, .b b => K (.b (if neg then !(a == b) else (a == b))) [] []
    | _, _ => False
  | .nilq neg x =>
    match sliceOf s (s.val x) with
    | some (_, _, es, rs) => (es = [] → K (.b (!neg)) [] rs) ∧ K (.b neg) [] rs
    | none => False
  | .eqAgg neg sig x y =>
    match s.val x, s.val y with
    | .agg as, .agg bs =>
      match eqCells as bs with
      | some b => sigOK sig as = true ∧ sigOK sig bs = true ∧ K (.b (if neg then !b else b)) [] []
      | _ => False
    | _, _ => False
  | .un op x =>
    match op, s.val x with
    | .not, .b a => K (.b (!a)) [] []
    | .neg, .i k a => Fits k (-a) ∧ K (.i k (-a)) [] []
    | _, _ => False
  | .conv dst x =>
    match s.val x with
    | .i _ a => Fits dst a ∧ K (.i dst a) [] []
    | _ => False
  | .makeSlice k bytes zero l c =>
    match s.val l, s.val c with
    | .i _ a, .i _ b => a = b ∧ 0 ≤ a ∧ a * bytes ≤ 140737488355328 ∧ K (.sr n 0 a.toNat) [(n, some (.arr true k (List.replicate a.toNat zero)))] []
    | _, _ => False
  | .slice k x lo hi =>
    match s.val x with
    | .sr id off len =>
      match s.obj id with
      | some (.arr _ k' _) | some (.fz _ k' _) => k' = k ∧ bound s 0 lo fun l => bound s len hi fun h => l ≤ h ∧ h ≤ len ∧ K (.sr id (off + l) (h - l)) [] [id]
      | some (.rm _ k' _ C) => k' = k ∧ 0 < len ∧ bound s 0 lo fun l => bound s len hi fun h => l ≤ h ∧ off + h ≤ C ∧ K (.sr id (off + l) (h - l)) [] [id]
      | _ => False
    | .s t k' es => k' = k ∧ bound s 0 lo fun l => bound s es.length hi fun h => l ≤ h ∧ h ≤ es.length ∧ K (.s t k ((es.drop l).take (h - l))) [] []
    | .nl k' => bound s 0 lo fun l => bound s 0 hi fun h => l = 0 ∧ h = 0 ∧ K (.nl k') [] []
    | _ => False
  | .fieldAddr off x =>
    match s.val x with
    | .pr id i o => K (.pr id i (o + off)) [] []
    | .pd t cs o => K (.pd t cs (o + off)) [] []
    | _ => False
  | .field ag k off x =>
    match s.val x with
    | .agg cs => off + k ≤ cs.length ∧ K (chunkVal ag k off cs) [] []
    | _ => False
  | .indexAddr k x y =>
    match s.val x, s.val y with
    | .sr id off len, .i _ a =>
      match s.obj id with
      | some (.arr _ k' _) | some (.fz _ k' _) => k' = k ∧ 0 ≤ a ∧ a < len ∧ K (.pr id (off + a.toNat) 0) [] [id]
      | _ => False
    | .s t k' es, .i _ a => k' = k ∧ 0 ≤ a ∧ a < es.length ∧ getK es a.toNat fun e => K (.pd t e 0) [] []
    | _, _ => False
  | .arrAddr len k x y =>
    match s.val x, s.val y with
    | .pr id i o, .i _ a => 0 ≤ a ∧ a < len ∧ K (.pr id i (o + a.toNat * k)) [] []
    | .pd t cs o, .i _ a => 0 ≤ a ∧ a < len ∧ K (.pd t cs (o + a.toNat * k)) [] []
    | _, _ => False
  | .arrIndex ag len k x y =>
    match s.val x, s.val y with
    | .agg cs, .i _ a => 0 ≤ a ∧ a < len ∧ a.toNat * k + k ≤ cs.length ∧ K (chunkVal ag k (a.toNat * k) cs) [] []
    | _, _ => False
  | .extract x i =>
    match s.val x with
    | .tup vs => i < vs.length ∧ K (vs.getD i .u) [] []
    | _ => False
  | .len x =>
    match s.val x with
    | .sr _ _ len => K (.i .i64 len) [] []
    | .s _ _ es => K (.i .i64 es.length) [] []
    | .nl _ => K (.i .i64 0) [] []
    | _ => False
  | .append k bytes drop x y =>
    match sliceOf s (s.val y) with
    | some (t', k', ys, rs) =>
      k' = k ∧
      match s.val x with
      | .nl _ => (ys.length : Int) * bytes ≤ 140737488355328 ∧ K (.sr n 0 ys.length) ((if drop then rs.map (·, none) else []) ++ [(n, some (.arr t' k ys))]) rs
      | .sr id off len =>
        match s.obj id with
        | some (.arr t k'' es) => k'' = k ∧ ((((es.drop off).take len).length + ys.length : Nat) : Int) * bytes ≤ 140737488355328 ∧ off + len ≤ es.length ∧
            K (.sr n 0 (((es.drop off).take len).length + ys.length)) ((id, none) :: (if drop then rs.map (·, none) else []) ++ [(n, some (.arr (t && t') k ((es.drop off).take len ++ ys)))]) (id :: rs)
        | some (.rm t k'' es C) => k'' = k ∧ ((((es.drop off).take len).length + ys.length : Nat) : Int) * bytes ≤ 140737488355328 ∧ off + len ≤ es.length ∧ C < off + len + ys.length ∧
            K (.sr n 0 (((es.drop off).take len).length + ys.length)) ((if drop then rs.map (·, none) else []) ++ [(n, some (.arr (t && t') k ((es.drop off).take len ++ ys)))]) (id :: rs)
        | _ => False
      | _ => False
    | none => False
  | .minmax mx x y =>
    match s.val x, s.val y with
    | .i k a, .i k' b => k' = k ∧ K (.i k (if mx then max a b else min a b)) [] []
    | _, _ => False
  | .call f al ms args =>
    argsK P s al ms (args.map s.val) fun xs is gs rs =>
      gs.Nodup ∧ (∀ i ∈ rs, i ∉ gs) ∧
      callK det P f xs fun outs r => outK (!al) s (flatI is) (flatO is outs) n fun u n1 =>
        let x := imp (some (!al)) 4 r n1
        x.2.2 ≤ n + 64 ∧ K x.1 (gs.map (·, none) ++ u ++ x.2.1.map (fun y => (y.1, some y.2))) (gs ++ rs)
  | .callv f args =>
    match s.val f, mapO flatM (args.map s.val) with
    | .fn dom φ, some xs => dom xs ∧ K (φ xs).mv [] []
    | .clo f first caps, some xs =>
      ∃ dom φ, FnOk P s f first caps dom φ ∧ dom xs ∧ K (φ xs).mv [] (readsM s (.clo f first caps))
    | _, _ => False
  | .mkfn f first caps => K (.clo f (first.map s.val) (caps.map s.val)) [] []
  | .cap x =>
    match s.val x with
    | .sr id off len =>
      match s.obj id with
      | some (.arr t k es) => 0 < len ∧ ∀ c : Nat, len ≤ c → es.length ≤ off + c → K (.i .i64 c) [(id, some (.rm t k es (off + c)))] [id]
      | _ => False
    | _ => False
  | .copy k x y =>
    match s.val x, lenV s (s.val y) with
    | .sr id off len, some m =>
      match s.obj id with
      | some (.arr t k' es) | some (.rm t k' es _) =>
        match prefOf s (min m len) (s.val y) with
        | some (t', k'', ys, rs) => k' = k ∧ k'' = k ∧ off ≤ es.length ∧ K (.i .i64 (min m len : Nat)) [(id, some (.arr (t && t') k (overR es off ys)))] (id :: rs)
        | none => False
      | _ => False
    | _, _ => False
  | .clear k zero x =>
    match s.val x with
    | .sr id off len =>
      match s.obj id with
      | some (.arr t k' es) => k' = k ∧ off + len ≤ es.length ∧ K (.tup []) [(id, some (.arr t k (overR es off (List.replicate len zero))))] [id]
      | _ => False
    | _ => False
  | .appendMk k bytes zero x y =>
    match s.val x, s.val y with
    | .sr id off len, .i _ m =>
      match s.obj id with
      | some (.rm t k' es C) => k' = k ∧ 0 < m ∧ off + len ≤ es.length ∧ C < off + len + m.toNat ∧ ((len + m.toNat : Nat) : Int) * bytes ≤ 140737488355328 ∧
          K (.sr n 0 (len + m.toNat)) [(n, some (.arr t k ((es.drop off).take len ++ List.replicate m.toNat zero)))] [id]
      | _ => False
    | _, _ => False
  | .overlaps f x y =>
    match s.val x, s.val y with
    | .sr id _ len, .sr id' _ len' =>
      match s.obj id, s.obj id' with
      | some o, some o' => OvOK P f ∧ 0 < len ∧ 0 < len' ∧ hasRow o = true ∧ hasRow o' = true ∧ id ≠ id' ∧ K (.b false) [] [id, id']
      | _, _ => False
    | _, _ => False

structure MOper where
  dst : Option Nat
  guard : Option (Nat × Bool)
  op : MOp

def MS.app (s : MS) (d : Option Nat) (m : MV) (u : Upd) : MS := MS.set { s with hp := upds s.hp u } d m

def mops (P : Program) : List MOper → Nat → MS → (MS → Prop) → Prop
  | [], _, s, K => K s
  | o :: r, n, s, K =>
    match o.guard with
    | none => mop false P o.op n s fun m u _ => mops P r (n + 64) (s.app o.dst m u) K
    | some (g, want) =>
      match s.val (.t g) with
      | .b x => (x = want → mop false P o.op n (s.set (some g) (.b want)) fun m u _ => mops P r (n + 64) ((s.set (some g) (.b want)).app o.dst m u) K) ∧
          (x = (!want) → mops P r (n + 64) ((s.set (some g) (.b (!want))).set o.dst .un) K)
      | .un => mops P r (n + 64) (s.set o.dst .un) K
      | _ => False

end Go.Fw
