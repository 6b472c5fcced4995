/-
  Slices, memory and operations: the value model, and what each operation of the loaded code does to it.
-/
import Derived.Orders
import Derived.KernelRfl
import Derived.WalkKit
import Derived.Laws.Rows
import Derived.Laws.Cells
import Derived.Laws.CopyRow
import Derived.Laws.StructEq
import Derived.Laws.Small
import Derived.Laws.MakeOwn
import Derived.Great.BuildSlice
import Derived.Laws.AppendOwn
import Derived.Lib.Overlaps
namespace Go.Fw
set_option linter.unusedVariables false
set_option linter.unusedSimpArgs false

/-- Data in one cell: a number, a truth value, or a slice (its elements, each a list of 'k' cells). -/
inductive D where
  | i (k : IntKind) (n : Int)
  | b (x : Bool)
  | a (k : Nat) (es : List (List D))
instance : Inhabited D := ⟨.b false⟩

/-- A flat argument of a function value: one cell, or the cells of a struct. -/
inductive FV where
  | c (x : D)
  | g (xs : List D)
instance : Inhabited FV := ⟨.c default⟩

def D.val : D → Value
  | .i k n => .int k n
  | .b x => .bool x
  | .a _ _ => .bool false
def D.isFlat : D → Bool
  | .a _ _ => false
  | _ => true
def FV.val : FV → Value
  | .c x => x.val
  | .g xs => .agg (xs.map D.val).toArray
def FV.isFlat : FV → Bool
  | .c x => x.isFlat
  | .g xs => xs.all D.isFlat

/-- Model values. s: a slice that is only read. sr: a slice of an object of the call's own (sn: one that is known to lie somewhere). pr, pd: pointers into an object, into memory that is only read. ow, pw: (in contracts) an owned slice, an owned variable. u: anything. un: the value of an operation that was passed over. on: (in contracts) an owned slice of owned slices (hs: the slices themselves). nr: one of these. -/
inductive MV where
  | i (k : IntKind) (n : Int)
  | b (x : Bool)
  | s (t : Bool) (k : Nat) (es : List (List D))
  | nl (k : Nat)
  | sr (id off len : Nat)
  | sn (id off len : Nat)
  | pr (id i off : Nat)
  | pd (t : Bool) (cs : List D) (off : Nat)
  | agg (cs : List MV)
  | tup (vs : List MV)
  | fn (dom : List FV → Prop) (φ : List FV → FV)
  | pf (dom : List FV → Prop) (φ : List FV → FV)
  | clo (f : FuncId) (first caps : List MV)
  | ow (t : Bool) (k : Nat) (es : List (List D))
  | pw (cs : List MV)
  | un
  | u
  | on (hs : List Value) (k : Nat) (ess : List (List (List D)))
  | nr (h : Value) (id i : Nat)
instance : Inhabited MV := ⟨.u⟩

/-- Objects of the call's own: an array (fz: it is written no more; rm: its room is known), a variable, a row of slices, a name for row i of such a row. -/
inductive MO where
  | arr (t : Bool) (k : Nat) (es : List (List D))
  | fz (t : Bool) (k : Nat) (es : List (List D))
  | rm (t : Bool) (k : Nat) (es : List (List D)) (C : Nat)
  | box (cs : List MV)
  | nst (hs : List Value) (k : Nat) (ess : List (List (List D)))
  | al (nid : Option Nat) (i : Nat)
instance : Inhabited MO := ⟨.box []⟩

abbrev Imm := Nat → Option Obj

def cellD (es : List (List D)) (i j : Nat) : D := (es.getD i []).getD j default

inductive DR (I : Imm) : Value → D → Prop
  | i (k n) : DR I (.int k n) (.i k n)
  | b (x) : DR I (.bool x) (.b x)
  | a0 (p c k) : DR I (.slice p 0 c) (.a k [])
  | a (b off cap len : Nat) (cs : Array Value) (E z) (k) (es) (vs : Nat → Nat → Value) (hI : I b = some (.cells cs E z)) (hlen : len = es.length)
      (hk : ∀ e ∈ es, e.length = k) (hcap : len ≤ cap)
      (hc : ∀ i j, i < es.length → j < k → cs[off + i * k + j]? = some (vs i j))
      (hr : ∀ i j, i < es.length → j < k → DR I (vs i j) (cellD es i j)) : DR I (.slice (some ⟨b, off, none⟩) len cap) (.a k es)

theorem DR.mono {I I' : Imm} (h : ∀ b o, I b = some o → I' b = some o) {v : Value} {d : D} (r : DR I v d) : DR I' v d := by
  induction r with
  | i k n => exact .i k n
  | b x => exact .b x
  | a0 p c k => exact .a0 p c k
  | a b off cap len cs E z k es vs hI hlen hk hcap hc _ ih => exact .a b off cap len cs E z k es vs (h _ _ hI) hlen hk hcap hc ih

/-- A place of an object: block, first cell, cells of an element, room (in elements), the slices that lie in blocks of its own besides. -/
structure Loc where
  b : Nat
  base : Nat
  k : Nat
  C : Nat
  rows : List Value

/-- The block that a slice leads to. -/
def hb : Value → List Nat
  | .slice (some a) _ c => if c = 0 then [] else [a.block]
  | _ => []
/-- All blocks of an object at a place. -/
def MO.blks : MO → Loc → List Nat
  | .nst hs _ _, l => l.b :: hs.flatMap hb
  | _, l => [l.b]
theorem MO.mem (o : MO) (l : Loc) : l.b ∈ o.blks l := by cases o <;> simp [MO.blks]

/-- I, J: memory that is not written (J: made by the call itself). inj: where the objects lie. -/
structure Env where
  I : Imm
  J : Imm
  inj : Nat → Option Loc

def Env.im (g : Env) (t : Bool) : Imm := if t then g.J else g.I

/-- w' is w, but for new blocks and the blocks in F. -/
structure WExt (w : World) (F : List Nat) (w' : World) : Prop where
  os : w'.os = w.os
  tape : w'.tape = w.tape
  output : w'.output = w.output
  size : w.heap.size ≤ w'.heap.size
  block : ∀ b, b < w.heap.size → b ∉ F → w'.heap[b]? = w.heap[b]?
  shape : ∀ (b : Nat) (cs : Array Value) (E : TypeId) (z : Nat × Nat), w.heap[b]? = some (Obj.cells cs E z) → ∃ cs' : Array Value, w'.heap[b]? = some (Obj.cells cs' E z) ∧ cs'.size = cs.size
  drawn : w.drawn ≤ w'.drawn

theorem WExt.refl (w : World) (F : List Nat) : WExt w F w := ⟨rfl, rfl, rfl, Nat.le_refl _, fun _ _ _ => rfl, fun _ cs _ _ h => ⟨cs, h, rfl⟩, Nat.le_refl _⟩

theorem WExt.trans {w w1 w2 : World} {F G : List Nat} (h : WExt w F w1) (k : WExt w1 G w2) (hG : ∀ b ∈ G, b < w.heap.size → b ∈ F) : WExt w F w2 := by
  refine ⟨k.os.trans h.os, k.tape.trans h.tape, k.output.trans h.output, Nat.le_trans h.size k.size, fun b hb hn => ?_, fun b cs E z hc => ?_, Nat.le_trans h.drawn k.drawn⟩
  · rw [k.block b (Nat.lt_of_lt_of_le hb h.size) (fun hm => hn (hG b hm hb)), h.block b hb hn]
  · obtain ⟨c1, h1, e1⟩ := h.shape b cs E z hc
    obtain ⟨c2, h2, e2⟩ := k.shape b c1 E z h1
    exact ⟨c2, h2, e2.trans e1⟩

/-- A Go function with a body. -/
def Callable (P : Program) (f : FuncId) : Prop := ∃ fd, P.funcs[f]? = some fd ∧ (fd.name == "runtime.NumGoroutine") = false ∧ fd.body.isNone = false

mutual
inductive RV (P : Program) (g : Env) : Value → MV → Prop
  | i (k n) : RV P g (.int k n) (.i k n)
  | b (x) : RV P g (.bool x) (.b x)
  | s (t k es v) (h : DR (g.im t) v (.a k es)) : RV P g v (.s t k es)
  | nl (p k) : RV P g (.slice p 0 0) (.nl k)
  | sr (id off len cap l) (hl : g.inj id = some l) (h1 : off + cap = l.C) (h2 : len ≤ cap) :
      RV P g (.slice (some ⟨l.b, l.base + off * l.k, none⟩) len cap) (.sr id off len)
  | sr0 (p id off) : RV P g (.slice p 0 0) (.sr id off 0)
  | sn (id off len cap l) (hl : g.inj id = some l) (h1 : off + cap = l.C) (h2 : len ≤ cap) :
      RV P g (.slice (some ⟨l.b, l.base + off * l.k, none⟩) len cap) (.sn id off len)
  | pr (id i off l) (hl : g.inj id = some l) : RV P g (.pointer (some ⟨l.b, l.base + i * l.k + off, none⟩)) (.pr id i off)
  | pd (t cs off bb o cells E z) (vs : Nat → Value) (hI : g.im t bb = some (.cells cells E z)) (hc : ∀ j, j < cs.length → cells[o + j]? = some (vs j))
      (hr : ∀ j, j < cs.length → DR (g.im t) (vs j) (cs.getD j default)) : RV P g (.pointer (some ⟨bb, o + off, none⟩)) (.pd t cs off)
  | agg (vs cs) (h : RVL P g vs.toList cs) (h1 : ∀ v ∈ vs.toList, v.oneCell' = true) : RV P g (.agg vs) (.agg cs)
  | tup (vs cs) (h : RVL P g vs.toList cs) : RV P g (.tuple vs) (.tup cs)
  | fn (f fv cv dom φ) (hc : Callable P f) (h : ∀ w' xs, (∀ b o, g.I b = some o → w'.heap[b]? = some o) → (∀ x ∈ xs, x.isFlat = true) → dom xs →
        Calls P f (fv ++ (xs.map FV.val).toArray ++ cv) w' (fun e w'' => e = .returned (φ xs).val ∧ (φ xs).isFlat = true ∧ WExt w' [] w'')) :
      RV P g (.func (.func f) fv cv) (.fn dom φ)
  | clo (f fv cv first caps) (h1 : RVL P g fv.toList first) (h2 : RVL P g cv.toList caps) : RV P g (.func (.func f) fv cv) (.clo f first caps)
  | pf (bb o cells E z v dom φ) (hI : g.I bb = some (.cells cells E z)) (hc : cells[o]? = some v) (h : RV P g v (.fn dom φ)) : RV P g (.pointer (some ⟨bb, o, none⟩)) (.pf dom φ)
  | un : RV P g undef .un
  | u (v) : RV P g v .u
  | nr (h id i l) (hl : g.inj id = some l) (hr : l.rows[i]? = some h) : RV P g h (.nr h id i)
inductive RVL (P : Program) (g : Env) : List Value → List MV → Prop
  | nil : RVL P g [] []
  | cons (v vs m ms) (h : RV P g v m) (hs : RVL P g vs ms) : RVL P g (v :: vs) (m :: ms)
end

/-- g' knows all that g knows. -/
structure Env.le (g g' : Env) : Prop where
  I : ∀ b o, g.I b = some o → g'.I b = some o
  J : ∀ b o, g.J b = some o → g'.J b = some o
  inj : ∀ id l, g.inj id = some l → g'.inj id = some l

theorem Env.le.refl (g : Env) : g.le g := ⟨fun _ _ h => h, fun _ _ h => h, fun _ _ h => h⟩
theorem Env.le.trans {g g1 g2 : Env} (h : g.le g1) (k : g1.le g2) : g.le g2 :=
  ⟨fun b o x => k.I b o (h.I b o x), fun b o x => k.J b o (h.J b o x), fun b o x => k.inj b o (h.inj b o x)⟩
theorem Env.le.im {g g' : Env} (h : g.le g') (t : Bool) : ∀ b o, g.im t b = some o → g'.im t b = some o := by
  cases t
  · exact h.I
  · exact h.J

mutual
theorem RV.mono {P : Program} {g g' : Env} (hg : g.le g') {v : Value} {m : MV} : RV P g v m → RV P g' v m
  | .i k n => .i k n
  | .b x => .b x
  | .s t k es v h => .s t k es v (h.mono (hg.im t))
  | .nl p k => .nl p k
  | .sr id off len cap l hl h1 h2 => .sr id off len cap l (hg.inj _ _ hl) h1 h2
  | .sr0 p id off => .sr0 p id off
  | .sn id off len cap l hl h1 h2 => .sn id off len cap l (hg.inj _ _ hl) h1 h2
  | .pr id i off l hl => .pr id i off l (hg.inj _ _ hl)
  | .pd t cs off bb o cells E z vs hI hc hr => .pd t cs off bb o cells E z vs (hg.im t _ _ hI) hc (fun j hj => (hr j hj).mono (hg.im t))
  | .agg vs cs h h1 => .agg vs cs (RVL.mono hg h) h1
  | .tup vs cs h => .tup vs cs (RVL.mono hg h)
  | .fn f fv cv dom φ hc h => .fn f fv cv dom φ hc (fun w' xs hI => h w' xs (fun b o hb => hI b o (hg.I b o hb)))
  | .clo f fv cv first caps h1 h2 => .clo f fv cv first caps (RVL.mono hg h1) (RVL.mono hg h2)
  | .pf bb o cells E z v dom φ hI hc h => .pf bb o cells E z v dom φ (hg.I _ _ hI) hc (RV.mono hg h)
  | .un => .un
  | .u v => .u v
  | .nr h id i l hl hr => .nr h id i l (hg.inj _ _ hl) hr
theorem RVL.mono {P : Program} {g g' : Env} (hg : g.le g') {vs : List Value} {ms : List MV} : RVL P g vs ms → RVL P g' vs ms
  | .nil => .nil
  | .cons v vs m ms h hs => .cons v vs m ms (RV.mono hg h) (RVL.mono hg hs)
end

theorem RVL.length {P : Program} {g : Env} : ∀ {vs : List Value} {ms : List MV}, RVL P g vs ms → vs.length = ms.length
  | _, _, .nil => rfl
  | _, _, .cons _ _ _ _ _ hs => by simp [hs.length]

theorem RVL.get {P : Program} {g : Env} : ∀ {vs : List Value} {ms : List MV}, RVL P g vs ms → ∀ (i : Nat) (v : Value) (m : MV), vs[i]? = some v → ms[i]? = some m → RV P g v m
  | _, _, .nil, i, v, m, h, _ => by simp at h
  | _, _, .cons _ _ _ _ h hs, 0, v, m, h1, h2 => by simp at h1 h2; subst h1 h2; exact h
  | _, _, .cons _ _ _ _ h hs, i + 1, v, m, h1, h2 => hs.get i v m (by simpa using h1) (by simpa using h2)

theorem RVL.append {P : Program} {g : Env} : ∀ {vs us : List Value} {ms ns : List MV}, RVL P g vs ms → RVL P g us ns → RVL P g (vs ++ us) (ms ++ ns)
  | _, _, _, _, .nil, k => k
  | _, _, _, _, .cons _ _ _ _ h hs, k => .cons _ _ _ _ h (hs.append k)

theorem RVL.take {P : Program} {g : Env} : ∀ {vs : List Value} {ms : List MV} (n : Nat), RVL P g vs ms → RVL P g (vs.take n) (ms.take n)
  | _, _, 0, _ => by simpa using RVL.nil
  | _, _, n + 1, .nil => by simpa using RVL.nil
  | _, _, n + 1, .cons _ _ _ _ h hs => by simpa using RVL.cons _ _ _ _ h (hs.take n)

theorem RVL.drop {P : Program} {g : Env} : ∀ {vs : List Value} {ms : List MV} (n : Nat), RVL P g vs ms → RVL P g (vs.drop n) (ms.drop n)
  | _, _, 0, h => by simpa using h
  | _, _, n + 1, .nil => by simpa using RVL.nil
  | _, _, n + 1, .cons _ _ _ _ h hs => by simpa using hs.drop n

theorem RVL.set {P : Program} {g : Env} : ∀ {vs : List Value} {ms : List MV} (n : Nat) {v m}, RVL P g vs ms → RV P g v m → RVL P g (vs.set n v) (ms.set n m)
  | _, _, _, _, _, .nil, _ => by simpa using RVL.nil
  | _, _, 0, _, _, .cons _ _ _ _ h hs, k => by simpa using RVL.cons _ _ _ _ k hs
  | _, _, n + 1, _, _, .cons _ _ _ _ h hs, k => by simpa using RVL.cons _ _ _ _ h (hs.set n k)

theorem RVL.of_get {P : Program} {g : Env} : ∀ {vs : List Value} {ms : List MV}, vs.length = ms.length → (∀ (i : Nat) (v : Value) (m : MV), vs[i]? = some v → ms[i]? = some m → RV P g v m) → RVL P g vs ms
  | [], [], _, _ => .nil
  | v :: vs, m :: ms, h, k => .cons _ _ _ _ (k 0 v m (by simp) (by simp)) (RVL.of_get (by simpa using h) (fun i v m h1 h2 => k (i + 1) v m (by simpa using h1) (by simpa using h2)))
  | [], _ :: _, h, _ => by simp at h
  | _ :: _, [], h, _ => by simp at h

end Go.Fw
namespace Go.Fw
set_option linter.unusedVariables false
set_option linter.unusedSimpArgs false

def look {α : Type} : List (Nat × α) → Nat → Option α
  | [], _ => none
  | (k, v) :: r, n => if k = n then some v else look r n
def del {α : Type} : List (Nat × α) → Nat → List (Nat × α)
  | [], _ => []
  | (k, v) :: r, n => if k = n then del r n else (k, v) :: del r n
def put {α : Type} (l : List (Nat × α)) (n : Nat) (v : α) : List (Nat × α) := (n, v) :: del l n

theorem look_del {α : Type} : ∀ (l : List (Nat × α)) (n m : Nat), look (del l n) m = if n = m then none else look l m
  | [], n, m => by simp [look, del]
  | (k, v) :: r, n, m => by
    have ih := look_del r n m
    by_cases h : k = n
    · subst h
      rw [del, if_pos rfl, ih, look]
      by_cases hm : k = m <;> simp [hm]
    · rw [del, if_neg h, look, look, ih]
      by_cases hm : k = m
      · subst hm; simp [Ne.symm h]
      · simp [hm]
theorem look_put {α : Type} (l : List (Nat × α)) (n m : Nat) (v : α) : look (put l n v) m = if n = m then some v else look l m := by
  rw [put, look, look_del]; by_cases h : n = m <;> simp [h]

structure MS where
  fr : List (Nat × MV)
  hp : List (Nat × MO)
  nx : Nat

inductive Opd where
  | t (n : Nat)
  | v (m : MV)
instance : Inhabited Opd := ⟨.t 0⟩

def MS.val (s : MS) : Opd → MV
  | .t n => (look s.fr n).getD .u
  | .v m => m
def MS.obj (s : MS) (id : Nat) : Option MO := look s.hp id
def MS.set (s : MS) (d : Option Nat) (m : MV) : MS :=
  match d with
  | some t => { s with fr := put s.fr t m }
  | none => s

/-- Changes of objects: a new content, or gone. -/
abbrev Upd := List (Nat × Option MO)
def upds (hp : List (Nat × MO)) : Upd → List (Nat × MO)
  | [] => hp
  | (id, some o) :: r => upds (put hp id o) r
  | (id, none) :: r => upds (del hp id) r

abbrev MK := MV → Upd → List Nat → Prop

def MV.cells : MV → Option (List MV)
  | .agg cs => some cs
  | .tup _ | .u | .un | .nr _ _ _ => none
  | m => some [m]

def ofD (t : Bool) : D → MV
  | .i k n => .i k n
  | .b x => .b x
  | .a k es => .s t k es

/-- The data of a cell that is put into an array: its flag, the data, the objects that are written no more from then on. -/
def toD (s : MS) : MV → Option (Bool × D × Upd)
  | .i k n => some (true, .i k n, [])
  | .b x => some (true, .b x, [])
  | .s t k es => some (t, .a k es, [])
  | .nl k => some (true, .a k [], [])
  | .sr id off len =>
    match s.obj id with
    | some (.arr t k es) => if off + len ≤ es.length then some (t, .a k ((es.drop off).take len), [(id, some (.fz t k es))]) else none
    | some (.fz t k es) => if off + len ≤ es.length then some (t, .a k ((es.drop off).take len), []) else none
    | _ => none
  | _ => none
def toDs (s : MS) : List MV → Option (Bool × List D × Upd)
  | [] => some (true, [], [])
  | m :: r =>
    match toD s m with
    | some (t, d, u) =>
      match toDs s r with
      | some (t', ds, u') => some (t && t', d :: ds, u ++ u')
      | none => none
    | none => none

def splice {α : Type} (cs : List α) (off : Nat) : List α → List α
  | [] => cs
  | x :: r => splice (cs.set off x) (off + 1) r

def chunkVal (agg : Bool) (k off : Nat) (cs : List MV) : MV :=
  if agg then .agg ((cs.drop off).take k) else cs.getD off .u

def mapO {α β : Type} (f : α → Option β) : List α → Option (List β)
  | [] => some []
  | x :: r =>
    match f x with
    | some y =>
      match mapO f r with
      | some ys => some (y :: ys)
      | none => none
    | none => none

/-- What a cell reads as, to be handed to a callee that only reads it. -/
def closeD (s : MS) : MV → Option D
  | .i k n => some (.i k n)
  | .b x => some (.b x)
  | .s _ k es => some (.a k es)
  | .nl k => some (.a k [])
  | .sr id off len =>
    match s.obj id with
    | some (.arr _ k es) | some (.fz _ k es) => if off + len ≤ es.length then some (.a k ((es.drop off).take len)) else none
    | some (.al (some nid) i) =>
      match s.obj nid with
      | some (.nst _ k ess) =>
        match ess[i]? with
        | some es => if off = 0 ∧ len = es.length then some (.a k es) else none
        | none => none
      | _ => none
    | _ => none
  | _ => none
def closeC (s : MS) (al : Bool) : MV → Option MV
  | .i k n => some (.i k n)
  | .b x => some (.b x)
  | .s t k es => some (.s (t || al) k es)
  | .nl k => some (.s true k [])
  | .sr id off len =>
    match s.obj id with
    | some (.arr _ k es) | some (.fz _ k es) => if off + len ≤ es.length then some (.s false k ((es.drop off).take len)) else none
    | some (.nst _ k ess) => if off = 0 ∧ len = ess.length then some (.s false 1 (ess.map fun es => [D.a k es])) else none
    | _ => none
  | .pd t cs off => some (.pd (t || al) cs off)
  | .pr id i off =>
    match s.obj id with
    | some (.box [.fn d φ]) => if i = 0 ∧ off = 0 then some (.pf d φ) else none
    | some (.box cs) => if i = 0 then (mapO (closeD s) cs).map (fun ds => .pd false ds off) else none
    | _ => none
  | .pf d φ => some (.pf d φ)
  | .fn d φ => some (.fn d φ)
  | .clo f [] [] => some (.clo f [] [])
  | _ => none
def closeM (s : MS) (al : Bool) : MV → Option MV
  | .agg cs => (mapO (closeC s al) cs).map .agg
  | m => closeC s al m

inductive Mode where
  | im | io | co | fn
  deriving DecidableEq

/-- An owned cell: what it is handed over as, and the objects that go. -/
def takeC (s : MS) (al : Bool) : MV → (MV → List Nat → Prop) → Prop
  | .i k n, K => K (.i k n) []
  | .b x, K => K (.b x) []
  | .s t k es, K => K (.s (t || al) k es) []
  | .nl k, K => K (.ow false k []) []
  | .sr id off len, K =>
    match s.obj id with
    | some (.arr _ k es) => off = 0 ∧ len = es.length ∧ K (.ow false k es) [id]
    | _ => False
  | _, _ => False
def takeL (s : MS) (al : Bool) : List MV → (List MV → List Nat → Prop) → Prop
  | [], K => K [] []
  | m :: r, K => takeC s al m fun x is => takeL s al r fun xs js => K (x :: xs) (is ++ js)

/-- What comes back of an argument: one object at most; for a struct, one at most for each cell. -/
inductive Bk where
  | one (i : Option Nat)
  | many (is : List (Option Nat))

/-- A cell that is lent. -/
def lendC (s : MS) : MV → (MV → Option Nat → List Nat → Prop) → Prop
  | .i k n, K => K (.i k n) none []
  | .b x, K => K (.b x) none []
  | .nl k, K => K (.ow false k []) none []
  | .sr id off len, K =>
    match s.obj id with
    | some (.arr _ k es) => off = 0 ∧ len = es.length ∧ K (.ow false k es) (some id) [id]
    | some (.nst hs k ess) => off = 0 ∧ len = ess.length ∧ K (.on hs k ess) (some id) [id]
    | _ => False
  | _, _ => False
def lendL (s : MS) : List MV → (List MV → List (Option Nat) → List Nat → Prop) → Prop
  | [], K => K [] [] []
  | m :: r, K => lendC s m fun x i g => lendL s r fun xs is gs => K (x :: xs) (i :: is) (g ++ gs)

/-- One argument. The continuation gets: what is handed over; the objects that come back ('io'); the objects that are handed over. -/
def argK (s : MS) (al : Bool) : Mode → MV → (MV → Bk → List Nat → Prop) → Prop
  | .im, m, K =>
    match closeM s al m with
    | some x => K x (.one none) []
    | none => False
  | .io, .agg cs, K => lendL s cs fun xs is g => K (.agg xs) (.many is) g
  | .io, .pr id i off, K =>
    match s.obj id with
    | some (.box cs) => i = 0 ∧ off = 0 ∧ takeL s al cs fun xs is => K (.pw xs) (.one (some id)) (id :: is)
    | _ => False
  | .io, m, K => lendC s m fun x i g => K x (.one i) g
  | .co, .agg cs, K => takeL s al cs fun xs is => K (.agg xs) (.one none) is
  | .co, m, K => takeC s al m fun x is => K x (.one none) is
  | _, _, _ => False

/-- The same, cell by cell. -/
def flatI : List Bk → List (Option Nat)
  | [] => []
  | .one i :: r => i :: flatI r
  | .many is :: r => is ++ flatI r
def cellsO (n : Nat) : MV → List MV
  | .agg cs => if cs.length = n then cs else List.replicate n .u
  | _ => List.replicate n .u
def flatO : List Bk → List MV → List MV
  | .one _ :: r, m :: ms => m :: flatO r ms
  | .many is :: r, m :: ms => cellsO is.length m ++ flatO r ms
  | _, _ => []

def impL (f : MV → Nat → MV × List (Nat × MO) × Nat) : List MV → Nat → List MV × List (Nat × MO) × Nat
  | [], n => ([], [], n)
  | m :: r, n =>
    let x := f m n
    let y := impL f r x.2.2
    (x.1 :: y.1, x.2.1 ++ y.2.1, y.2.2)
/-- A result is taken over: each owned slice becomes an object. -/
def imp (t : Option Bool) : Nat → MV → Nat → MV × List (Nat × MO) × Nat
  | 0, _, n => (.u, [], n)
  | _ + 1, .ow t' k es, n => (.sr n 0 es.length, [(n, .arr (t.getD t') k es)], n + 1)
  | f + 1, .pw cs, n =>
    let r := impL (imp t f) cs (n + 1)
    (.pr n 0 0, r.2.1 ++ [(n, .box r.1)], r.2.2)
  | f + 1, .agg cs, n =>
    let r := impL (imp t f) cs n
    (.agg r.1, r.2.1, r.2.2)
  | f + 1, .tup cs, n =>
    let r := impL (imp t f) cs n
    (.tup r.1, r.2.1, r.2.2)
  | _ + 1, .s t' k es, n => (.s (t.getD t') k es, [], n)
  | _ + 1, .pd t' cs off, n => (.pd (t.getD t') cs off, [], n)
  | _ + 1, .i k x, n => (.i k x, [], n)
  | _ + 1, .b x, n => (.b x, [], n)
  | _ + 1, .nl k, n => (.nl k, [], n)
  | _ + 1, .on hs k ess, n => (.sr n 0 ess.length, [(n, .nst hs k ess)], n + 1)
  | _ + 1, .fn d φ, n => (.fn d φ, [], n)
  | _ + 1, .pf d φ, n => (.pf d φ, [], n)
  | _ + 1, _, n => (.u, [], n)

end Go.Fw
namespace Go.Fw
set_option linter.unusedVariables false
set_option linter.unusedSimpArgs false

def noInj : Nat → Option Loc := fun _ => none

/-- The cells of a place hold these data. -/
def BRep (I : Imm) (w : World) (l : Loc) (k : Nat) (es : List (List D)) : Prop :=
  l.k = k ∧ ∃ (cs : Array Value) (E : TypeId), w.heap[l.b]? = some (.cells cs E (0, 0)) ∧ l.base + l.C * k ≤ cs.size ∧ es.length ≤ l.C ∧
    ∀ i j, i < es.length → j < k → ∃ v, cs[l.base + i * k + j]? = some v ∧ DR I v (cellD es i j)

def Flat (es : List (List D)) : Prop := ∀ e ∈ es, ∀ d ∈ e, d.isFlat = true
/-- A slice h that lies in a block of its own, or nowhere, and holds flat data. -/
def RowRep (w : World) (h : Value) (k : Nat) (es : List (List D)) : Prop :=
  (∀ e ∈ es, e.length = k) ∧ Flat es ∧ ((es = [] ∧ ∃ p, h = .slice p 0 0) ∨ ∃ (b q cap : Nat) (cs : Array Value) (E : TypeId), h = .slice (some ⟨b, q, none⟩) es.length cap ∧ es.length ≤ cap ∧ 0 < cap ∧
    w.heap[b]? = some (.cells cs E (0, 0)) ∧ q + cap * k ≤ cs.size ∧ ∀ i j, i < es.length → j < k → cs[q + i * k + j]? = some (cellD es i j).val)
/-- A row of slices, each with a block of its own. -/
def NRep (w : World) (l : Loc) (hs : List Value) (k : Nat) (ess : List (List (List D))) : Prop :=
  l.k = 1 ∧ l.rows = hs ∧ hs.length = ess.length ∧ (l.b :: hs.flatMap hb).Nodup ∧
    (∃ (cs : Array Value) (E : TypeId), w.heap[l.b]? = some (.cells cs E (0, 0)) ∧ l.base + l.C ≤ cs.size ∧ hs.length ≤ l.C ∧ ∀ (i : Nat) (h : Value), hs[i]? = some h → cs[l.base + i]? = some h) ∧
    ∀ (i : Nat) (h : Value) (es : List (List D)), hs[i]? = some h → ess[i]? = some es → RowRep w h k es

mutual
/-- v is m in the world w; the blocks in F are its own. -/
inductive Own (P : Program) (I J : Imm) (w : World) : Value → MV → List Nat → Prop
  | imm (v m) (h : RV P ⟨I, J, noInj⟩ v m) : Own P I J w v m []
  | ow0 (p t k) : Own P I J w (.slice p 0 0) (.ow t k []) []
  | ow (l t k es cap len) (hlen : len = es.length) (hcap : len ≤ cap) (hC : cap ≤ l.C) (hk : ∀ e ∈ es, e.length = k) (hb : BRep (if t then J else I) w l k es) :
      Own P I J w (.slice (some ⟨l.b, l.base, none⟩) len cap) (.ow t k es) [l.b]
  | pw (b base : Nat) (cells : Array Value) (E : TypeId) (cs F) (hb : w.heap[b]? = some (.cells cells E (0, 0))) (hsz : base + cs.length ≤ cells.size) (h1 : ∀ v ∈ cells.toList, v.oneCell' = true)
      (h : OwnL P I J w ((cells.toList.drop base).take cs.length) cs F) : Own P I J w (.pointer (some ⟨b, base, none⟩)) (.pw cs) (b :: F)
  | on0 (p k) : Own P I J w (.slice p 0 0) (.on [] k []) []
  | on (l hs k ess cap) (hcap : hs.length ≤ cap) (hC : cap ≤ l.C) (h : NRep w l hs k ess) : Own P I J w (.slice (some ⟨l.b, l.base, none⟩) hs.length cap) (.on hs k ess) (l.b :: hs.flatMap hb)
  | agg (vs cs F) (h : OwnL P I J w vs.toList cs F) (h1 : ∀ v ∈ vs.toList, v.oneCell' = true) : Own P I J w (.agg vs) (.agg cs) F
  | tup (vs cs F) (h : OwnL P I J w vs.toList cs F) : Own P I J w (.tuple vs) (.tup cs) F
inductive OwnL (P : Program) (I J : Imm) (w : World) : List Value → List MV → List Nat → Prop
  | nil : OwnL P I J w [] [] []
  | cons (v vs m ms F G) (h : Own P I J w v m F) (hs : OwnL P I J w vs ms G) : OwnL P I J w (v :: vs) (m :: ms) (F ++ G)
end

/-- The memory of w but for the blocks in F. -/
def heapBut (w : World) (F : List Nat) : Imm := fun b => if b ∈ F then none else w.heap[b]?

/-- Whatever the world: called with values that are 'args' (ow, pw: the callee's to write), the function returns a value that is 'r', and leaves its arguments as 'outs', with Q outs r; all else is as it was. -/
def MCall (P : Program) (f : FuncId) (args : List MV) (Q : List MV → MV → Prop) : Prop :=
  ∀ (w : World) (J : Imm) (vs : Array Value) (F : List Nat), (∀ b o, J b = some o → w.heap[b]? = some o ∧ b ∉ F) → F.Nodup →
    OwnL P (heapBut w F) J w vs.toList args F →
    Calls P f vs w (fun e w' => ∃ v outs r J' G, e = .returned v ∧ Q outs r ∧ WExt w F w' ∧ (∀ b o, J b = some o → J' b = some o) ∧
      (∀ b o, J' b = some o → w'.heap[b]? = some o ∧ b ∉ G ∧ (J b = some o ∨ w.heap.size ≤ b ∨ b ∈ F)) ∧ G.Nodup ∧ (∀ b ∈ G, w.heap.size ≤ b ∨ b ∈ F) ∧
      OwnL P J' J' w' (v :: vs.toList) (r :: outs) G)

theorem MCall.mono {P : Program} {f : FuncId} {args : List MV} {Q Q' : List MV → MV → Prop} (h : MCall P f args Q) (hq : ∀ o r, Q o r → Q' o r) : MCall P f args Q' := by
  intro w J vs F h1 h2 h3
  refine (h w J vs F h1 h2 h3).mono ?_
  rintro e w' ⟨v, outs, r, J', G, a1, a2, a3⟩
  exact ⟨v, outs, r, J', G, a1, hq _ _ a2, a3⟩

def Fits (k : IntKind) (n : Int) : Prop := k.wrap n = n
theorem fits64 {n : Int} (h1 : -9223372036854775808 ≤ n) (h2 : n ≤ 9223372036854775807) : Fits .i64 n := by
  have e1 : (2 : Int) ^ (64 : Nat) = 18446744073709551616 := by decide
  have e2 : (2 : Int) ^ (63 : Nat) = 9223372036854775808 := by decide
  simp only [Fits, IntKind.wrap, IntKind.bits, IntKind.signed, e1, e2, Bool.true_and, ge_iff_le, decide_eq_true_eq, show (64 : Nat) - 1 = 63 from rfl]
  split <;> omega

def ibits (op : BinOp) (k : IntKind) (x y : Int) : Int :=
  let a := BitVec.ofInt k.bits x
  let b := BitVec.ofInt k.bits y
  match op with
  | .and => k.wrap (a &&& b).toNat
  | .or => k.wrap (a ||| b).toNat
  | .xor => k.wrap (a ^^^ b).toNat
  | _ => k.wrap (a &&& ~~~b).toNat

/-- The cells of two structs are alike (numbers and truth values alone). -/
def eqCells : List MV → List MV → Option Bool
  | [], [] => some true
  | .i k a :: r, .i k' b :: r' => if k = k' then (eqCells r r').map (fun x => decide (a = b) && x) else none
  | .b a :: r, .b b :: r' => (eqCells r r').map (fun x => (a == b) && x)
  | _, _ => none

/-- These cells are numbers ('true') and truth values. -/
def sigOK : List Bool → List MV → Bool
  | [], [] => true
  | true :: r, .i _ _ :: ms => sigOK r ms
  | false :: r, .b _ :: ms => sigOK r ms
  | _, _ => false

inductive MOp where
  | mov (x : Opd)
  | pick (c a b : Opd)
  | box (k : Nat) (x : Opd)
  | alloc (cells : List MV)
  | build (zero : List MV) (parts : List (Nat × Nat × Opd))
  | buildSlice (k : Nat) (parts : List Opd)
  | load (agg : Bool) (k : Nat) (x : Opd)
  | store (k : Nat) (a x : Opd)
  | nilCheck (x : Opd)
  | bin (op : BinOp) (x y : Opd)
  | binb (neg : Bool) (x y : Opd)
  | nilq (neg : Bool) (x : Opd)
  | eqAgg (neg : Bool) (sig : List Bool) (x y : Opd)
  | un (op : UnOp) (x : Opd)
  | conv (dst : IntKind) (x : Opd)
  | makeSlice (k bytes : Nat) (zero : List D) (len cap : Opd)
  | slice (k : Nat) (x : Opd) (lo hi : Option Opd)
  | fieldAddr (off : Nat) (x : Opd)
  | field (agg : Bool) (k off : Nat) (x : Opd)
  | indexAddr (k : Nat) (x i : Opd)
  | arrAddr (n k : Nat) (x i : Opd)
  | arrIndex (agg : Bool) (n k : Nat) (x i : Opd)
  | extract (x : Opd) (i : Nat)
  | len (x : Opd)
  | append (k bytes : Nat) (drop : Bool) (x y : Opd)
  | minmax (mx : Bool) (x y : Opd)
  | call (f : FuncId) (al : Bool) (ms : List Mode) (args : List Opd)
  | callv (f : Opd) (args : List Opd)
  | mkfn (f : FuncId) (first caps : List Opd)
  | cap (x : Opd)
  | copy (k : Nat) (x y : Opd)
  | clear (k : Nat) (zero : List D) (x : Opd)
  | overlaps (f : FuncId) (x y : Opd)
  | appendMk (k bytes : Nat) (zero : List D) (x y : Opd)
  | sliceHd (k : Nat) (x : Opd) (hi : Option Opd)
  | sliceUp (k : Nat) (x : Opd) (lo hi : Option Opd)
  | slice3 (x : Opd) (lo hi mx : Option Opd)
  | strIdx (bs : List Nat) (y : Opd)
  | appendIn (k : Nat) (x y : Opd)
  | sliceTr (k : Nat) (x : Opd) (hi : Option Opd)
  | dead
  | nestNil (k : Nat)
  | boxRow (x : Opd)
  | appendRow (bytes : Nat) (x y : Opd)
  | rowAddr (x y : Opd)
  | rowLoad (x : Opd)
  | callRow (f : FuncId) (x y : Opd)

/-- The objects that a cell reads. -/
def readsD (s : MS) : MV → List Nat
  | .sr id _ _ =>
    match s.obj id with
    | some (.al (some nid) _) => [id, nid]
    | _ => [id]
  | _ => []
/-- The objects that a handed-over value reads. -/
def readsC (s : MS) : MV → List Nat
  | .sr id _ _ => [id]
  | .pr id _ _ =>
    match s.obj id with
    | some (.box cs) => id :: cs.flatMap (readsD s)
    | _ => [id]
  | _ => []
def readsA (s : MS) : MV → List Nat
  | .agg cs => cs.flatMap (readsC s)
  | m => readsC s m
def readsM (s : MS) : MV → List Nat
  | .clo _ a b => a.flatMap (readsA s) ++ b.flatMap (readsA s)
  | m => readsA s m

def FV.mv : FV → MV
  | .c x => ofD true x
  | .g xs => .agg (xs.map (ofD true))
def flatD : MV → Option D
  | .i k n => some (.i k n)
  | .b x => some (.b x)
  | _ => none
def flatM : MV → Option FV
  | .agg cs => (mapO flatD cs).map .g
  | m => (flatD m).map .c

/-- What a closure does, called with flat arguments. -/
def FnOk (P : Program) (s : MS) (f : FuncId) (first caps : List MV) (dom : List FV → Prop) (φ : List FV → FV) : Prop :=
  match mapO (closeM s false) first, mapO (closeM s false) caps with
  | some fs, some cs => Callable P f ∧ ∀ xs : List FV, (∀ x ∈ xs, x.isFlat = true) → dom xs → MCall P f (fs ++ xs.map FV.mv ++ cs) (fun _ r => r = (φ xs).mv ∧ (φ xs).isFlat = true)
  | _, _ => False

/-- All arguments: what is handed over; for each, the object that comes back; the objects that are handed over; the objects that are read. -/
def argsK (P : Program) (s : MS) (al : Bool) : List Mode → List MV → (List MV → List Bk → List Nat → List Nat → Prop) → Prop
  | [], [], K => K [] [] [] []
  | .fn :: ms, .clo f a b :: vs, K => ∃ dom φ, FnOk P s f a b dom φ ∧ argsK P s al ms vs fun xs is gs rs => K (.fn dom φ :: xs) (.one none :: is) gs (readsM s (.clo f a b) ++ rs)
  | .fn :: ms, .fn dom φ :: vs, K => argsK P s al ms vs fun xs is gs rs => K (.fn dom φ :: xs) (.one none :: is) gs rs
  | .fn :: ms, .nl k :: vs, K => argsK P s al ms vs fun xs is gs rs => K (.nl k :: xs) (.one none :: is) gs rs
  | o :: ms, m :: vs, K => argK s al o m fun x i g => argsK P s al ms vs fun xs is gs rs => K (x :: xs) (i :: is) (g ++ gs) ((if o = .im then readsA s m else []) ++ rs)
  | _, _, _ => False

/-- The lent objects come back. -/
def outK (t : Bool) (s : MS) : List (Option Nat) → List MV → Nat → (Upd → Nat → Prop) → Prop
  | [], [], n, K => K [] n
  | none :: is, _ :: ms, n, K => outK t s is ms n K
  | some id :: is, m :: ms, n, K =>
    match s.obj id, m with
    | some (.arr _ k es), .ow _ k' es' => k' = k ∧ es'.length = es.length ∧ outK t s is ms n fun u n' => K ((id, some (.arr t k es')) :: u) n'
    | some (.nst hs k _), .on hs' k' ess' => hs' = hs ∧ k' = k ∧ outK t s is ms n fun u n' => K ((id, some (.nst hs k ess')) :: u) n'
    | some (.box _), .pw cs =>
      let r := impL (imp (some t) 2) cs n
      outK t s is ms r.2.2 fun u n' => K (r.2.1.map (fun x => (x.1, some x.2)) ++ [(id, some (.box r.1))] ++ u) n'
    | _, _ => outK t s is ms n K
  | _, _, _, _ => False

def sliceOf (s : MS) : MV → Option (Bool × Nat × List (List D) × List Nat)
  | .s t k es => some (t, k, es, [])
  | .nl k => some (true, k, [], [])
  | .sr id off len =>
    match s.obj id with
    | some (.arr t k es) | some (.fz t k es) => if off + len ≤ es.length then some (t, k, (es.drop off).take len, [id]) else none
    | _ => none
  | _ => none

def intBin (op : BinOp) (k : IntKind) (a b : Int) (K : MV → Prop) : Prop :=
  match op with
  | .add => Fits k (a + b) ∧ K (.i k (a + b))
  | .sub => Fits k (a - b) ∧ K (.i k (a - b))
  | .mul => Fits k (a * b) ∧ K (.i k (a * b))
  | .quo => b ≠ 0 ∧ Fits k (a.tdiv b) ∧ K (.i k (a.tdiv b))
  | .rem => b ≠ 0 ∧ K (.i k (a.tmod b))
  | .eql => K (.b (decide (a = b)))
  | .neq => K (.b (!decide (a = b)))
  | .lss => K (.b (decide (a < b)))
  | .leq => K (.b (decide (a ≤ b)))
  | .gtr => K (.b (decide (b < a)))
  | .geq => K (.b (decide (b ≤ a)))
  | .and | .or | .xor | .andNot => K (.i k (ibits op k a b))
  | .shr => 0 ≤ b ∧ K (.i k (a.fdiv (2 ^ min b.toNat k.bits)))
  | .shl => 0 ≤ b ∧ K (.i k (k.wrap (a * 2 ^ min b.toNat k.bits)))

/-- The element at a place that is known to be there. -/
def getK (es : List (List D)) (i : Nat) (K : List D → Prop) : Prop := ∀ e, es[i]? = some e → K e
theorem getK.get {es : List (List D)} {i : Nat} {K : List D → Prop} (h : getK es i K) (hi : i < es.length) : K (es.getD i []) := h _ (by simp [List.getD, List.getElem?_eq_getElem hi])
theorem getK.same {es : List (List D)} {i : Nat} {K' : List D → Prop} (hi : i < es.length) (k : K' (es.getD i [])) : getK es i K' := fun e he => by
  have : es.getD i [] = e := by simp [List.getD, he]
  exact this ▸ k

/-- Bounds of a slice expression. -/
def bound (s : MS) (d : Nat) : Option Opd → (Nat → Prop) → Prop
  | none, K => K d
  | some o, K =>
    match s.val o with
    | .i _ n => 0 ≤ n ∧ K n.toNat
    | _ => False

def buildC (s : MS) : List (Nat × Nat × Opd) → List MV → (List MV → Prop) → Prop
  | [], cs, K => K cs
  | (off, k, x) :: r, cs, K =>
    match (s.val x).cells with
    | some xs => xs.length = k ∧ off + k ≤ cs.length ∧ buildC s r (splice cs off xs) K
    | none => False

def rowsV (s : MS) (k : Nat) : List Opd → Option (Bool × List (List D) × Upd)
  | [] => some (true, [], [])
  | x :: r =>
    match (s.val x).cells with
    | some xs =>
      match toDs s xs with
      | some (t, ds, u) =>
        match rowsV s k r with
        | some (t', es, u') => if ds.length = k then some (t && t', ds :: es, u ++ u') else none
        | none => none
      | none => none
    | none => none

/-- A call's outcome: one (det), or any that fulfils something. -/
def callK (det : Bool) (P : Program) (f : FuncId) (xs : List MV) (K : List MV → MV → Prop) : Prop :=
  if det then ∃ o r, MCall P f xs (fun o' r' => o' = o ∧ r' = r) ∧ K o r
  else ∃ Q, MCall P f xs Q ∧ ∀ o r, Q o r → K o r

/-- The objects that slices lead to. -/
def srs (ms : List MV) : List Nat := ms.flatMap fun | .sr id _ _ => [id] | _ => []

/-- How long a slice is; its first c elements. -/
def lenV (s : MS) : MV → Option Nat
  | .s _ _ es => some es.length
  | .nl _ => some 0
  | .sr _ _ len => some len
  | _ => none
def prefOf (s : MS) (c : Nat) : MV → Option (Bool × Nat × List (List D) × List Nat)
  | .s t k es => if c ≤ es.length then some (t, k, es.take c, []) else none
  | .nl k => if c = 0 then some (true, k, [], []) else none
  | .sr id off len =>
    match s.obj id with
    | some (.arr t k es) | some (.fz t k es) | some (.rm t k es _) => if c ≤ len ∧ off + c ≤ es.length then some (t, k, (es.drop off).take c, [id]) else none
    | _ => none
  | _ => none
/-- An array of the call's own that has an element. -/
def hasRow : MO → Bool
  | .arr _ k es | .rm _ k es _ => decide (0 < k) && decide (0 < es.length)
  | _ => false
/-- Rows, put over others from a place on. -/
def overR (es : List (List D)) (off : Nat) (ys : List (List D)) : List (List D) := es.take off ++ ys ++ es.drop (off + ys.length)

/-- A library function that the model itself tells: whether two slices have memory in common. -/
def OvOK (P : Program) (f : FuncId) : Prop := ∃ (fd : Func) (T R e : TypeId) (inf : TypeInfo), P.funcs[f]? = some fd ∧ (fd.name == "runtime.NumGoroutine") = false ∧ fd.body.isNone = true ∧ Extern.findNext fd = none ∧
  Extern.find fd = some (Extern.SlicesOverlaps.overlaps #[T, T] #[R]) ∧ P.underlying T = some (.slice e) ∧ P.info? e = some inf

/-- One operation; the new objects' numbers begin at n. -/
def mop (det : Bool) (P : Program) (o : MOp) (n : Nat) (s : MS) (K : MK) : Prop :=
  match o with
  | .mov x => K (s.val x) [] []
  | .pick c a b =>
    match s.val c with
    | .b x => if x then K (s.val a) [] [] else K (s.val b) [] []
    | _ => False
  | .box k x =>
    match (s.val x).cells with
    | some cs => cs.length = k ∧ K (.pr n 0 0) [(n, some (.box cs))] []
    | none => False
  | .alloc cs => K (.pr n 0 0) [(n, some (.box cs))] []
  | .build zero parts => buildC s parts zero fun cs => K (.agg cs) [] []
  | .buildSlice k parts =>
    match rowsV s k parts with
    | some (t, es, u) => K (.sr n 0 parts.length) (u ++ [(n, some (.arr t k es))]) (parts.flatMap fun x => srs (((s.val x).cells).getD []))
    | none => False
  | .load ag k x =>
    match s.val x with
    | .pr id i off =>
      match s.obj id with
      | some (.arr t k' es) | some (.fz t k' es) => i < es.length ∧ off + k ≤ k' ∧ getK es i fun e => K (chunkVal ag k off (e.map (ofD t))) [] [id]
      | some (.box cs) => i = 0 ∧ off + k ≤ cs.length ∧ K (chunkVal ag k off cs) [] [id]
      | _ => False
    | .pd t cs off => off + k ≤ cs.length ∧ K (chunkVal ag k off (cs.map (ofD t))) [] []
    | .pf d φ => ag = false ∧ K (.fn d φ) [] []
    | _ => False
  | .store k a x =>
    match s.val a, (s.val x).cells with
    | .pr id i off, some xs =>
      xs.length = k ∧
      match s.obj id with
      | some (.arr t k' es) =>
        match toDs s xs with
        | some (t', ds, u) => (∀ x ∈ u, x.1 ≠ id) ∧ i < es.length ∧ off + k ≤ k' ∧ getK es i fun e => K .un (u ++ [(id, some (.arr (t && t') k' (es.set i (splice e off ds))))]) (id :: srs xs)
        | none => False
      | some (.box cs) => i = 0 ∧ off + k ≤ cs.length ∧ K .un [(id, some (.box (splice cs off xs)))] [id]
      | _ => False
    | _, _ => False
  | .nilCheck x =>
    match s.val x with
    | .pr id i off => K (.pr id i off) [] []
    | .pd t cs off => K (.pd t cs off) [] []
    | .clo f a b => K (.clo f a b) [] []
    | .fn d φ => K (.fn d φ) [] []
    | _ => False
  | .bin op x y =>
    match s.val x, s.val y with
    | .i k a, .i k' b => (k' = k ∨ op = .shl ∨ op = .shr) ∧ intBin op k a b fun m => K m [] []
    | _, _ => False
  | .binb neg x y =>
    match s.val x, s.val y with
    | .b a, .b b => K (.b (if neg then !(a == b) else (a == b))) [] []
    | _, _ => False
  | .nilq neg x =>
    match sliceOf s (s.val x) with
    | some (_, _, es, rs) => (es = [] → K (.b (!neg)) [] rs) ∧ K (.b neg) [] rs
    | none => False
  | .eqAgg neg sig x y =>
    match s.val x, s.val y with
    | .agg as, .agg bs =>
      match eqCells as bs with
      | some b => sigOK sig as = true ∧ sigOK sig bs = true ∧ K (.b (if neg then !b else b)) [] []
      | _ => False
    | _, _ => False
  | .un op x =>
    match op, s.val x with
    | .not, .b a => K (.b (!a)) [] []
    | .neg, .i k a => Fits k (-a) ∧ K (.i k (-a)) [] []
    | _, _ => False
  | .conv dst x =>
    match s.val x with
    | .i _ a => Fits dst a ∧ K (.i dst a) [] []
    | _ => False
  | .makeSlice k bytes zero l c =>
    match s.val l, s.val c with
    | .i _ a, .i _ b => a = b ∧ 0 ≤ a ∧ a * bytes ≤ 140737488355328 ∧ K (.sr n 0 a.toNat) [(n, some (.arr true k (List.replicate a.toNat zero)))] []
    | _, _ => False
  | .slice k x lo hi =>
    match s.val x with
    | .sr id off len =>
      match s.obj id with
      | some (.arr _ k' _) | some (.fz _ k' _) => k' = k ∧ bound s 0 lo fun l => bound s len hi fun h => l ≤ h ∧ h ≤ len ∧ K (.sr id (off + l) (h - l)) [] [id]
      | some (.rm _ k' _ C) => k' = k ∧ 0 < len ∧ bound s 0 lo fun l => bound s len hi fun h => l ≤ h ∧ off + h ≤ C ∧ K (.sr id (off + l) (h - l)) [] [id]
      | _ => False
    | .s t k' es => k' = k ∧ bound s 0 lo fun l => bound s es.length hi fun h => l ≤ h ∧ h ≤ es.length ∧ K (.s t k ((es.drop l).take (h - l))) [] []
    | .nl k' => bound s 0 lo fun l => bound s 0 hi fun h => l = 0 ∧ h = 0 ∧ K (.nl k') [] []
    | _ => False
  | .fieldAddr off x =>
    match s.val x with
    | .pr id i o => K (.pr id i (o + off)) [] []
    | .pd t cs o => K (.pd t cs (o + off)) [] []
    | _ => False
  | .field ag k off x =>
    match s.val x with
    | .agg cs => off + k ≤ cs.length ∧ K (chunkVal ag k off cs) [] []
    | _ => False
  | .indexAddr k x y =>
    match s.val x, s.val y with
    | .sr id off len, .i _ a =>
      match s.obj id with
      | some (.arr _ k' _) | some (.fz _ k' _) => k' = k ∧ 0 ≤ a ∧ a < len ∧ K (.pr id (off + a.toNat) 0) [] [id]
      | _ => False
    | .s t k' es, .i _ a => k' = k ∧ 0 ≤ a ∧ a < es.length ∧ getK es a.toNat fun e => K (.pd t e 0) [] []
    | _, _ => False
  | .arrAddr len k x y =>
    match s.val x, s.val y with
    | .pr id i o, .i _ a => 0 ≤ a ∧ a < len ∧ K (.pr id i (o + a.toNat * k)) [] []
    | .pd t cs o, .i _ a => 0 ≤ a ∧ a < len ∧ K (.pd t cs (o + a.toNat * k)) [] []
    | _, _ => False
  | .arrIndex ag len k x y =>
    match s.val x, s.val y with
    | .agg cs, .i _ a => 0 ≤ a ∧ a < len ∧ a.toNat * k + k ≤ cs.length ∧ K (chunkVal ag k (a.toNat * k) cs) [] []
    | _, _ => False
  | .extract x i =>
    match s.val x with
    | .tup vs => i < vs.length ∧ K (vs.getD i .u) [] []
    | _ => False
  | .len x =>
    match s.val x with
    | .sr _ _ len => K (.i .i64 len) [] []
    | .s _ _ es => K (.i .i64 es.length) [] []
    | .nl _ => K (.i .i64 0) [] []
    | .sn _ _ len => K (.i .i64 len) [] []
    | _ => False
  | .append k bytes drop x y =>
    match sliceOf s (s.val y) with
    | some (t', k', ys, rs) =>
      k' = k ∧
      match s.val x with
      | .nl _ => (ys.length : Int) * bytes ≤ 140737488355328 ∧ K (.sr n 0 ys.length) ((if drop then rs.map (·, none) else []) ++ [(n, some (.arr t' k ys))]) rs
      | .sr id off len =>
        match s.obj id with
        | some (.arr t k'' es) => k'' = k ∧ ((((es.drop off).take len).length + ys.length : Nat) : Int) * bytes ≤ 140737488355328 ∧ off + len ≤ es.length ∧
            K (.sr n 0 (((es.drop off).take len).length + ys.length)) ((id, none) :: (if drop then rs.map (·, none) else []) ++ [(n, some (.arr (t && t') k ((es.drop off).take len ++ ys)))]) (id :: rs)
        | some (.rm t k'' es C) => k'' = k ∧ ((((es.drop off).take len).length + ys.length : Nat) : Int) * bytes ≤ 140737488355328 ∧ off + len ≤ es.length ∧ C < off + len + ys.length ∧
            K (.sr n 0 (((es.drop off).take len).length + ys.length)) ((if drop then rs.map (·, none) else []) ++ [(n, some (.arr (t && t') k ((es.drop off).take len ++ ys)))]) (id :: rs)
        | _ => False
      | _ => False
    | none => False
  | .minmax mx x y =>
    match s.val x, s.val y with
    | .i k a, .i k' b => k' = k ∧ K (.i k (if mx then max a b else min a b)) [] []
    | _, _ => False
  | .call f al ms args =>
    argsK P s al ms (args.map s.val) fun xs is gs rs =>
      gs.Nodup ∧ (∀ i ∈ rs, i ∉ gs) ∧
      callK det P f xs fun outs r => outK (!al) s (flatI is) (flatO is outs) n fun u n1 =>
        let x := imp (some (!al)) 4 r n1
        x.2.2 ≤ n + 64 ∧ K x.1 (gs.map (·, none) ++ u ++ x.2.1.map (fun y => (y.1, some y.2))) (gs ++ rs)
  | .callv f args =>
    match s.val f, mapO flatM (args.map s.val) with
    | .fn dom φ, some xs => dom xs ∧ K (φ xs).mv [] []
    | .clo f first caps, some xs =>
      ∃ dom φ, FnOk P s f first caps dom φ ∧ dom xs ∧ K (φ xs).mv [] (readsM s (.clo f first caps))
    | _, _ => False
  | .mkfn f first caps => K (.clo f (first.map s.val) (caps.map s.val)) [] []
  | .cap x =>
    match s.val x with
    | .sr id off len =>
      match s.obj id with
      | some (.arr t k es) => 0 < len ∧ ∀ c : Nat, len ≤ c → es.length ≤ off + c → K (.i .i64 c) [(id, some (.rm t k es (off + c)))] [id]
      | _ => False
    | .nl _ => K (.i .i64 0) [] []
    | _ => False
  | .copy k x y =>
    match s.val x, lenV s (s.val y) with
    | .sr id off len, some m =>
      match s.obj id with
      | some (.arr t k' es) | some (.rm t k' es _) =>
        match prefOf s (min m len) (s.val y) with
        | some (t', k'', ys, rs) => k' = k ∧ k'' = k ∧ off ≤ es.length ∧ K (.i .i64 (min m len : Nat)) [(id, some (.arr (t && t') k (overR es off ys)))] (id :: rs)
        | none => False
      | _ => False
    | _, _ => False
  | .clear k zero x =>
    match s.val x with
    | .sr id off len =>
      match s.obj id with
      | some (.arr t k' es) => k' = k ∧ off + len ≤ es.length ∧ K (.tup []) [(id, some (.arr t k (overR es off (List.replicate len zero))))] [id]
      | _ => False
    | _ => False
  | .appendMk k bytes zero x y =>
    match s.val x, s.val y with
    | .sr id off len, .i _ m =>
      match s.obj id with
      | some (.rm t k' es C) => k' = k ∧ 0 < m ∧ off + len ≤ es.length ∧ C < off + len + m.toNat ∧ ((len + m.toNat : Nat) : Int) * bytes ≤ 140737488355328 ∧
          K (.sr n 0 (len + m.toNat)) [(n, some (.arr t k ((es.drop off).take len ++ List.replicate m.toNat zero)))] [id]
      | _ => False
    | .nl _, .i _ m => 0 < m ∧ (m.toNat : Int) * bytes ≤ 140737488355328 ∧ K (.sr n 0 m.toNat) [(n, some (.arr true k (List.replicate m.toNat zero)))] []
    | _, _ => False
  | .overlaps f x y =>
    match s.val x, s.val y with
    | .sr id _ len, .sr id' _ len' =>
      match s.obj id, s.obj id' with
      | some o, some o' => OvOK P f ∧ 0 < len ∧ 0 < len' ∧ hasRow o = true ∧ hasRow o' = true ∧ id ≠ id' ∧ K (.b false) [] [id, id']
      | _, _ => False
    | _, _ => False
  | .sliceHd k x hi =>
    match s.val x with
    | .sr id off len =>
      match s.obj id with
      | some (.arr _ k' _) => k' = k ∧ 0 < len ∧ bound s len hi fun h => h ≤ len ∧ K (.sn id off h) [] [id]
      | _ => False
    | _ => False
  | .sliceUp k x lo hi =>
    match s.val x with
    | .sn id off len =>
      match s.obj id with
      | some (.arr _ k' es) => k' = k ∧ bound s 0 lo fun l => bound s len hi fun h => l ≤ h ∧ off + h ≤ es.length ∧ K (.sr id (off + l) (h - l)) [] [id]
      | _ => False
    | _ => False
  | .sliceTr k x hi =>
    match s.val x with
    | .sr id off len =>
      match s.obj id with
      | some (.arr t k' es) => k' = k ∧ off = 0 ∧ 0 < len ∧ len = es.length ∧ bound s len hi fun h => h ≤ len ∧ K (.sr id 0 h) [(id, some (.arr t k' (es.take h)))] [id]
      | _ => False
    | _ => False
  | .dead => False
  | .nestNil k => K (.sr n 0 0) [(n, some (.nst [] k []))] []
  | .boxRow x =>
    match s.val x with
    | .sr id off len => K (.sr n 0 1) [(n, some (.box [.sr id off len]))] []
    | _ => False
  | .appendRow bytes x y =>
    match s.val x, s.val y with
    | .sr id off len, .sr bid boff 1 =>
      match s.obj id, s.obj bid with
      | some (.nst hs k ess), some (.box [.sr cid coff m]) =>
        match s.obj cid with
        | some (.arr _ k' es) => k' = k ∧ off = 0 ∧ len = ess.length ∧ boff = 0 ∧ coff = 0 ∧ m = es.length ∧ Flat es ∧ ((len + 1 : Nat) : Int) * bytes ≤ 140737488355328 ∧
            ∀ h, K (.sr n 0 (len + 1)) [(id, none), (bid, none), (cid, none), (n, some (.nst (hs ++ [h]) k (ess ++ [es]))), (cid, some (.al (some n) ess.length))] [id, bid, cid]
        | _ => False
      | _, _ => False
    | _, _ => False
  | .rowAddr x y =>
    match s.val x, s.val y with
    | .sr id off len, .i _ a =>
      match s.obj id with
      | some (.nst _ _ ess) => off = 0 ∧ len = ess.length ∧ 0 ≤ a ∧ a < len ∧ K (.pr id a.toNat 0) [] [id]
      | _ => False
    | _, _ => False
  | .rowLoad x =>
    match s.val x with
    | .pr id i off =>
      match s.obj id with
      | some (.nst _ _ ess) => off = 0 ∧ i < ess.length ∧ ∀ h, K (.nr h id i) [] [id]
      | _ => False
    | _ => False
  | .callRow f x y =>
    match s.val x, s.val y with
    | .nr _ id i, .i .i64 a =>
      match s.obj id with
      | some (.nst hs k ess) => i < ess.length ∧ ∀ es, ess[i]? = some es → ∃ (es' : List (List D)) (r : Int), MCall P f [.ow true k es, .i .i64 a] (fun o r' => o = [.ow true k es', .u] ∧ r' = .i .i64 r) ∧ Flat es' ∧
          K (.i .i64 r) [(id, some (.nst hs k (ess.set i es')))] [id]
      | _ => False
    | _, _ => False
  | .strIdx bs y =>
    match s.val y with
    | .i _ a => 0 ≤ a ∧ a < bs.length ∧ K (.i .u8 (bs.getD a.toNat 0 : Nat)) [] []
    | _ => False
  | .slice3 x lo hi mx =>
    match s.val x with
    | .sr _ _ len => bound s 0 lo fun l => bound s len hi fun h => bound s len mx fun m => l ≤ h ∧ h ≤ m ∧ m ≤ len ∧ K .u [] []
    | _ => False
  | .appendIn k x y =>
    match sliceOf s (s.val y) with
    | some (t', k', ys, rs) =>
      match s.val x with
      | .sn id off len =>
        match s.obj id with
        | some (.arr t k'' es) => k' = k ∧ k'' = k ∧ off + len + ys.length ≤ es.length ∧ K (.sn id off (len + ys.length)) [(id, some (.arr (t && t') k (overR es (off + len) ys)))] (id :: rs)
        | _ => False
      | _ => False
    | none => False

structure MOper where
  dst : Option Nat
  guard : Option (Nat × Bool)
  op : MOp

def MS.app (s : MS) (d : Option Nat) (m : MV) (u : Upd) : MS := MS.set { s with hp := upds s.hp u } d m

def mops (P : Program) : List MOper → Nat → MS → (MS → Prop) → Prop
  | [], _, s, K => K s
  | o :: r, n, s, K =>
    match o.guard with
    | none => mop false P o.op n s fun m u _ => mops P r (n + 64) (s.app o.dst m u) K
    | some (g, want) =>
      match s.val (.t g) with
      | .b x => (x = want → mop false P o.op n (s.set (some g) (.b want)) fun m u _ => mops P r (n + 64) ((s.set (some g) (.b want)).app o.dst m u) K) ∧
          (x = (!want) → mops P r (n + 64) ((s.set (some g) (.b (!want))).set o.dst .un) K)
      | .un => mops P r (n + 64) (s.set o.dst .un) K
      | _ => False

end Go.Fw
namespace Go.Fw
set_option linter.unusedVariables false
set_option linter.unusedSimpArgs false

def MO.live : MO → Bool
  | .fz .. => false
  | .al .. => false
  | _ => true

def ORep (P : Program) (g : Env) (w : World) (id : Nat) : MO → Prop
  | .arr t k es => (∀ e ∈ es, e.length = k) ∧ ((es = [] ∧ g.inj id = none) ∨ ∃ l, g.inj id = some l ∧ BRep (g.im t) w l k es)
  | .fz t k es => (∀ e ∈ es, e.length = k) ∧ ((es = [] ∧ g.inj id = none) ∨ ∃ l, g.inj id = some l ∧ l.k = k ∧ ∃ (cs : Array Value) (E : TypeId) (z : Nat × Nat),
      g.im t l.b = some (.cells cs E z) ∧ l.base + l.C * k ≤ cs.size ∧ es.length ≤ l.C ∧
      ∀ i j, i < es.length → j < k → ∃ v, cs[l.base + i * k + j]? = some v ∧ DR (g.im t) v (cellD es i j))
  | .rm t k es C => (∀ e ∈ es, e.length = k) ∧ ∃ l, g.inj id = some l ∧ l.C = C ∧ BRep (g.im t) w l k es
  | .nst hs k ess => (hs = [] ∧ ess = [] ∧ g.inj id = none) ∨ ∃ l, g.inj id = some l ∧ NRep w l hs k ess
  | .al none _ => True
  | .al (some nid) i => ∃ (ln : Loc) (v : Value), g.inj nid = some ln ∧ ln.rows[i]? = some v ∧ ((∃ p, v = .slice p 0 0) ∨ ∃ (l : Loc) (len cap : Nat), g.inj id = some l ∧ v = .slice (some ⟨l.b, l.base, none⟩) len cap)
  | .box cs => ∃ (l : Loc) (cells : Array Value) (E : TypeId), g.inj id = some l ∧ w.heap[l.b]? = some (.cells cells E (0, 0)) ∧ l.base + cs.length ≤ cells.size ∧
      (∀ v ∈ cells.toList, v.oneCell' = true) ∧ RVL P g ((cells.toList.drop l.base).take cs.length) cs

structure HRel (P : Program) (A : Nat → Prop) (w0 : World) (F0 : List Nat) (J0 : Imm) (g : Env) (hp : List (Nat × MO)) (w : World) : Prop where
  objs : ∀ id o, look hp id = some o → ORep P g w id o
  avail : ∀ id, A id → g.inj id = none ∧ look hp id = none
  sepB : ∀ id1 id2 o1 o2 l1 l2, look hp id1 = some o1 → look hp id2 = some o2 → o1.live = true → o2.live = true → g.inj id1 = some l1 → g.inj id2 = some l2 → ∀ b ∈ o1.blks l1, b ∈ o2.blks l2 → id1 = id2
  disjB : ∀ id o l, look hp id = some o → o.live = true → g.inj id = some l → ∀ b ∈ o.blks l, g.I b = none
  freshB : ∀ id o l, look hp id = some o → o.live = true → g.inj id = some l → ∀ b ∈ o.blks l, w0.heap.size ≤ b ∨ b ∈ F0
  ltB : ∀ id o l, look hp id = some o → o.live = true → g.inj id = some l → ∀ b ∈ o.blks l, b < w.heap.size
  imm : ∀ b o, g.I b = some o → w.heap[b]? = some o
  JI : ∀ b o, g.J b = some o → g.I b = some o
  Jf : ∀ b o, g.J b = some o → J0 b = some o ∨ w0.heap.size ≤ b ∨ b ∈ F0
  ext : WExt w0 F0 w

/-- A frame: its size, the slots that are not written, what they hold. -/
structure FrS where
  n : Nat
  fx : List Nat
  vals : Nat → Value

structure Rel (P : Program) (N : FrS) (A : Nat → Prop) (w0 : World) (F0 : List Nat) (J0 : Imm) (g : Env) (s : MS) (a : Act) (w : World) : Prop where
  size : a.tmps.size = N.n
  fix : ∀ t ∈ N.fx, a.tmps.getD t undef = N.vals t
  defers : a.defers = []
  slots : ∀ t m, look s.fr t = some m → RV P g (a.tmps.getD t undef) m
  hp : HRel P A w0 F0 J0 g s.hp w

section
variable {P : Program} {N : FrS} {A : Nat → Prop} {w0 : World} {F0 : List Nat} {J0 : Imm} {g : Env} {hp : List (Nat × MO)} {w : World}

theorem HRel.sep (h : HRel P A w0 F0 J0 g hp w) : ∀ id1 id2 o1 o2 l1 l2, look hp id1 = some o1 → look hp id2 = some o2 → o1.live = true → o2.live = true → g.inj id1 = some l1 → g.inj id2 = some l2 → l1.b = l2.b → id1 = id2 :=
  fun id1 id2 o1 o2 l1 l2 a1 a2 b1 b2 c1 c2 e => h.sepB id1 id2 o1 o2 l1 l2 a1 a2 b1 b2 c1 c2 l1.b (o1.mem l1) (by rw [e]; exact o2.mem l2)
theorem HRel.disj (h : HRel P A w0 F0 J0 g hp w) : ∀ id o l, look hp id = some o → o.live = true → g.inj id = some l → g.I l.b = none :=
  fun id o l a1 b1 c1 => h.disjB id o l a1 b1 c1 l.b (o.mem l)
theorem HRel.fresh (h : HRel P A w0 F0 J0 g hp w) : ∀ id o l, look hp id = some o → o.live = true → g.inj id = some l → w0.heap.size ≤ l.b ∨ l.b ∈ F0 :=
  fun id o l a1 b1 c1 => h.freshB id o l a1 b1 c1 l.b (o.mem l)
theorem HRel.lt_live (h : HRel P A w0 F0 J0 g hp w) {id o l} (h1 : look hp id = some o) (hl : o.live = true) (hi : g.inj id = some l) : l.b < w.heap.size :=
  h.ltB id o l h1 hl hi l.b (o.mem l)

theorem HRel.weaken {A' : Nat → Prop} (h : HRel P A w0 F0 J0 g hp w) (hA : ∀ id, A' id → A id) : HRel P A' w0 F0 J0 g hp w :=
  ⟨h.objs, fun id x => h.avail id (hA id x), h.sepB, h.disjB, h.freshB, h.ltB, h.imm, h.JI, h.Jf, h.ext⟩

/-- A new number for a place. -/
def Env.at (g : Env) (n : Nat) (l : Loc) : Env := { g with inj := fun i => if i = n then some l else g.inj i }

theorem Env.le_at {g : Env} {n : Nat} {l : Loc} (h : g.inj n = none) : g.le (g.at n l) :=
  ⟨fun _ _ x => x, fun _ _ x => x, fun id l' x => by
    by_cases e : id = n
    · subst e; rw [h] at x; cases x
    · simp [Env.at, e, x]⟩

theorem RowRep.move {w w' : World} {v : Value} {k : Nat} {es : List (List D)} (h : RowRep w v k es) (hv : ∀ b ∈ hb v, w'.heap[b]? = w.heap[b]?) : RowRep w' v k es := by
  obtain ⟨h1, h2, h3 | ⟨b, q, cap, cs, E, e1, e2, e3, e4, e5, e6⟩⟩ := h
  · exact ⟨h1, h2, .inl h3⟩
  · refine ⟨h1, h2, .inr ⟨b, q, cap, cs, E, e1, e2, e3, ?_, e5, e6⟩⟩
    rw [hv b (by subst e1; simp [hb]; omega)]; exact e4
theorem rows_blks {l : Loc} {hs : List Value} {i : Nat} {h : Value} (hi : hs[i]? = some h) {b : Nat} (hb' : b ∈ hb h) : b ∈ l.b :: hs.flatMap hb := by
  simp only [List.mem_cons, List.mem_flatMap]
  exact .inr ⟨h, List.mem_of_getElem? hi, hb'⟩
theorem NRep.move {w w' : World} {l : Loc} {hs : List Value} {k : Nat} {ess : List (List (List D))} (h : NRep w l hs k ess) (hv : ∀ b ∈ l.b :: hs.flatMap hb, w'.heap[b]? = w.heap[b]?) : NRep w' l hs k ess := by
  obtain ⟨h1, h2, h3, h4, ⟨cs, E, e1, e2, e3, e4⟩, h5⟩ := h
  exact ⟨h1, h2, h3, h4, ⟨cs, E, by rw [hv l.b (by simp)]; exact e1, e2, e3, e4⟩, fun i v es hi he => (h5 i v es hi he).move fun b hb' => hv b (rows_blks hi hb')⟩

theorem NRep.lt {w : World} {l : Loc} {hs : List Value} {k : Nat} {ess : List (List (List D))} (h : NRep w l hs k ess) : ∀ b ∈ l.b :: hs.flatMap hb, b < w.heap.size := by
  obtain ⟨h1, h2, h3, h4, ⟨cs, E, e1, _⟩, h5⟩ := h
  intro b hb'
  simp only [List.mem_cons, List.mem_flatMap] at hb'
  rcases hb' with rfl | ⟨v, hv, hb'⟩
  · exact (Array.getElem?_eq_some_iff.1 e1).1
  · obtain ⟨i, hi⟩ := List.getElem?_of_mem hv
    have hil := (List.getElem?_eq_some_iff.1 hi).1
    obtain ⟨_, _, ⟨_, p, rfl⟩ | ⟨b', q, cap, cs', E', rfl, _, e3, e4, _⟩⟩ := h5 i v _ hi (List.getElem?_eq_getElem (by omega))
    · cases p <;> simp [hb] at hb'
    · simp only [hb] at hb'
      split at hb'
      · cases hb'
      · simp at hb'; subst hb'; exact (Array.getElem?_eq_some_iff.1 e4).1

theorem ORep.move {g g' : Env} {w w' : World} {id : Nat} {o : MO} (h : ORep P g w id o) (hg : g.le g') (hn : g.inj id = none → g'.inj id = none)
    (hb : ∀ l, o.live = true → g.inj id = some l → ∀ b ∈ o.blks l, w'.heap[b]? = w.heap[b]?) : ORep P g' w' id o := by
  cases o with
  | arr t k es =>
    obtain ⟨h0, ⟨h1, h2⟩ | ⟨l, h2, hk, cs, E, h3, h4, h5, h6⟩⟩ := h
    · exact ⟨h0, .inl ⟨h1, hn h2⟩⟩
    · refine ⟨h0, .inr ⟨l, hg.inj _ _ h2, hk, cs, E, by rw [hb l rfl h2 _ (MO.mem _ l)]; exact h3, h4, h5, fun i j hi hj => ?_⟩⟩
      obtain ⟨v, hv, hr⟩ := h6 i j hi hj
      exact ⟨v, hv, hr.mono (hg.im t)⟩
  | fz t k es =>
    obtain ⟨h0, ⟨h1, h2⟩ | ⟨l, h2, hk, cs, E, z, h3, h4, h5, h6⟩⟩ := h
    · exact ⟨h0, .inl ⟨h1, hn h2⟩⟩
    · refine ⟨h0, .inr ⟨l, hg.inj _ _ h2, hk, cs, E, z, hg.im t _ _ h3, h4, h5, fun i j hi hj => ?_⟩⟩
      obtain ⟨v, hv, hr⟩ := h6 i j hi hj
      exact ⟨v, hv, hr.mono (hg.im t)⟩
  | rm t k es C =>
    obtain ⟨h0, l, h2, hC, hk, cs, E, h3, h4, h5, h6⟩ := h
    refine ⟨h0, l, hg.inj _ _ h2, hC, hk, cs, E, by rw [hb l rfl h2 _ (MO.mem _ l)]; exact h3, h4, h5, fun i j hi hj => ?_⟩
    obtain ⟨v, hv, hr⟩ := h6 i j hi hj
    exact ⟨v, hv, hr.mono (hg.im t)⟩
  | box cs =>
    obtain ⟨l, cells, E, h2, h3, h4, h5, h6⟩ := h
    exact ⟨l, cells, E, hg.inj _ _ h2, by rw [hb l rfl h2 _ (MO.mem _ l)]; exact h3, h4, h5, RVL.mono hg h6⟩
  | nst hs k ess =>
    rcases h with ⟨h1, h2, h3⟩ | ⟨l, h1, h2⟩
    · exact .inl ⟨h1, h2, hn h3⟩
    · exact .inr ⟨l, hg.inj _ _ h1, h2.move (hb l rfl h1)⟩
  | al nid i =>
    cases nid with
    | none => exact trivial
    | some nid =>
      obtain ⟨ln, v, h1, h2, h3⟩ := h
      refine ⟨ln, v, hg.inj _ _ h1, h2, ?_⟩
      rcases h3 with h3 | ⟨l, len, cap, h3, h4⟩
      · exact .inl h3
      · exact .inr ⟨l, len, cap, hg.inj _ _ h3, h4⟩

theorem WExt.alloc (w : World) (o : Obj) (F : List Nat) : WExt w F (w.alloc o) := by
  refine ⟨rfl, rfl, rfl, by simp, fun b hb _ => heap_alloc_old w o hb, fun b cs E z h => ⟨cs, ?_, rfl⟩, Nat.le_refl _⟩
  rw [heap_alloc_old w o (Array.getElem?_eq_some_iff.1 h).1]; exact h

/-- An object is laid at a place that no other one holds; nothing but its own blocks has turned. -/
theorem HRel.adopt (h : HRel P A w0 F0 J0 g hp w) {n : Nat} (hA : A n) {l : Loc} {mo : MO} {w' : World} {Fw : List Nat} (hfree : ∀ id o l1, look hp id = some o → o.live = true → g.inj id = some l1 → ∀ b ∈ mo.blks l, b ∉ o.blks l1)
    (hI : ∀ b ∈ mo.blks l, g.I b = none) (hfr : ∀ b ∈ mo.blks l, w0.heap.size ≤ b ∨ b ∈ F0) (hlt : ∀ b ∈ mo.blks l, b < w'.heap.size) (hFw : ∀ b ∈ Fw, b ∈ mo.blks l) (hw : WExt w Fw w')
    (ho : ORep P (g.at n l) w' n mo) : HRel P (fun id => A id ∧ id ≠ n) w0 F0 J0 (g.at n l) (put hp n mo) w' := by
  obtain ⟨hinj, hlook⟩ := h.avail n hA
  have hle := Env.le_at (l := l) hinj
  have hat : ∀ id, id ≠ n → (g.at n l).inj id = g.inj id := fun id hne => by simp [Env.at, hne]
  have hatn : (g.at n l).inj n = some l := by simp [Env.at]
  have hold : ∀ id o l', look hp id = some o → o.live = true → g.inj id = some l' → ∀ b ∈ o.blks l', w'.heap[b]? = w.heap[b]? := fun id o l' a b c d hd =>
    hw.block _ (h.ltB id o l' a b c d hd) (fun hm => hfree id o l' a b c d (hFw d hm) hd)
  refine ⟨fun id o1 h1 => ?_, fun id hid => ?_, fun id1 id2 o1 o2 l1 l2 a1 a2 b1 b2 c1 c2 d e1' e2' => ?_, fun id o1 l1 a1 b1 c1 d hd => ?_, fun id o1 l1 a1 b1 c1 d hd => ?_, fun id o1 l1 a1 b1 c1 d hd => ?_, fun b o1 h1 => ?_, h.JI, h.Jf, ?_⟩
  · rw [look_put] at h1
    by_cases e : n = id
    · subst e; simp at h1; subst h1; exact ho
    · rw [if_neg e] at h1
      exact (h.objs id o1 h1).move hle (fun hn => by rw [hat id (Ne.symm e)]; exact hn) (fun l' hlv hi => hold id o1 l' h1 hlv hi)
  · have := h.avail id hid.1
    rw [hat id hid.2, look_put, if_neg (Ne.symm hid.2)]; exact this
  · rw [look_put] at a1 a2
    by_cases e1 : n = id1
    · by_cases e2 : n = id2
      · exact e1.symm.trans e2
      · rw [if_neg e2] at a2
        subst e1
        rw [hatn] at c1; cases c1
        rw [if_pos rfl] at a1; cases a1
        rw [hat id2 (Ne.symm e2)] at c2
        exact absurd e2' (hfree id2 o2 l2 a2 b2 c2 d e1')
    · rw [if_neg e1] at a1
      rw [hat id1 (Ne.symm e1)] at c1
      by_cases e2 : n = id2
      · subst e2
        rw [hatn] at c2; cases c2
        rw [if_pos rfl] at a2; cases a2
        exact absurd e1' (hfree id1 o1 l1 a1 b1 c1 d e2')
      · rw [if_neg e2] at a2
        rw [hat id2 (Ne.symm e2)] at c2
        exact h.sepB id1 id2 o1 o2 l1 l2 a1 a2 b1 b2 c1 c2 d e1' e2'
  · rw [look_put] at a1
    show g.I d = none
    by_cases e1 : n = id
    · subst e1; rw [hatn] at c1; cases c1; rw [if_pos rfl] at a1; cases a1; exact hI d hd
    · rw [if_neg e1] at a1
      rw [hat id (Ne.symm e1)] at c1
      exact h.disjB id o1 l1 a1 b1 c1 d hd
  · rw [look_put] at a1
    by_cases e1 : n = id
    · subst e1; rw [hatn] at c1; cases c1; rw [if_pos rfl] at a1; cases a1; exact hfr d hd
    · rw [if_neg e1] at a1
      rw [hat id (Ne.symm e1)] at c1
      exact h.freshB id o1 l1 a1 b1 c1 d hd
  · rw [look_put] at a1
    by_cases e1 : n = id
    · subst e1; rw [hatn] at c1; cases c1; rw [if_pos rfl] at a1; cases a1; exact hlt d hd
    · rw [if_neg e1] at a1
      rw [hat id (Ne.symm e1)] at c1
      exact Nat.lt_of_lt_of_le (h.ltB id o1 l1 a1 b1 c1 d hd) hw.size
  · have h2 := h.imm b o1 h1
    rw [hw.block b (Array.getElem?_eq_some_iff.1 h2).1 (fun hm => ?_)]
    · exact h2
    · have h1' : g.I b = some o1 := h1
      rw [hI b (hFw b hm)] at h1'; cases h1'
  · refine h.ext.trans hw (fun b hb hlt => ?_)
    rcases hfr b (hFw b hb) with f | f
    · omega
    · exact f

theorem HRel.adopt1 (h : HRel P A w0 F0 J0 g hp w) {n : Nat} (hA : A n) {l : Loc} {mo : MO} {w' : World} (hfree : ∀ id o l1, look hp id = some o → o.live = true → g.inj id = some l1 → l.b ∉ o.blks l1)
    (hI : g.I l.b = none) (hfr : w0.heap.size ≤ l.b ∨ l.b ∈ F0) (hlt : l.b < w.heap.size) (hw : WExt w [l.b] w')
    (ho : ORep P (g.at n l) w' n mo) (hr : mo.blks l = [l.b] := by rfl) : HRel P (fun id => A id ∧ id ≠ n) w0 F0 J0 (g.at n l) (put hp n mo) w' := by
  have hbl : ∀ b ∈ mo.blks l, b = l.b := fun b hb => by simpa [hr] using hb
  exact h.adopt hA (Fw := [l.b]) (fun id o l1 a1 b1 c1 b hb => by rw [hbl b hb]; exact hfree id o l1 a1 b1 c1) (fun b hb => by rw [hbl b hb]; exact hI) (fun b hb => by rw [hbl b hb]; exact hfr)
    (fun b hb => by rw [hbl b hb]; exact Nat.lt_of_lt_of_le hlt hw.size) (fun b hb => by rw [List.mem_singleton.1 hb]; exact mo.mem l) hw ho

/-- A new block. -/
theorem HRel.alloc (h : HRel P A w0 F0 J0 g hp w) {n : Nat} (hA : A n) {l : Loc} (hl : l.b = w.heap.size) {o : Obj} {mo : MO}
    (ho : ORep P (g.at n l) (w.alloc o) n mo) (hr : mo.blks l = [l.b] := by rfl) : HRel P (fun id => A id ∧ id ≠ n) w0 F0 J0 (g.at n l) (put hp n mo) (w.alloc o) := by
  have hbl : mo.blks l = [w.heap.size] := by rw [hr, hl]
  refine h.adopt hA (Fw := []) (fun id o l1 a1 b1 c1 b hb hb' => ?_) (fun b hb => ?_) (fun b hb => ?_) (fun b hb => ?_) (by simp) (WExt.alloc w o []) ho
  · have := h.ltB id o l1 a1 b1 c1 b hb'
    rw [hbl] at hb; simp at hb; omega
  · rw [hbl] at hb; simp at hb; subst hb
    cases hI : g.I w.heap.size with
    | none => rfl
    | some ob =>
      have := h.imm _ _ hI
      have := (Array.getElem?_eq_some_iff.1 this).1
      omega
  · rw [hbl] at hb; simp at hb; subst hb
    exact .inl h.ext.size
  · rw [hbl] at hb; simp at hb; subst hb; simp

/-- An object is dropped. -/
theorem HRel.kill (h : HRel P A w0 F0 J0 g hp w) (n : Nat) : HRel P A w0 F0 J0 g (del hp n) w := by
  have hd : ∀ id o, look (del hp n) id = some o → look hp id = some o := fun id o x => by
    rw [look_del] at x; by_cases e : n = id
    · simp [e] at x
    · simpa [e] using x
  exact ⟨fun id o x => h.objs id o (hd id o x), fun id x => ⟨(h.avail id x).1, by rw [look_del, (h.avail id x).2]; simp⟩,
    fun id1 id2 o1 o2 l1 l2 a1 a2 => h.sepB id1 id2 o1 o2 l1 l2 (hd _ _ a1) (hd _ _ a2), fun id o l a1 => h.disjB id o l (hd _ _ a1), fun id o l a1 => h.freshB id o l (hd _ _ a1), fun id o l a1 => h.ltB id o l (hd _ _ a1), h.imm, h.JI, h.Jf, h.ext⟩

/-- A name for a part of another object. -/
theorem HRel.alias (h : HRel P A w0 F0 J0 g hp w) {n : Nat} {mo : MO} (hA : ¬ A n) (hl : mo.live = false) (ho : ORep P g w n mo) : HRel P A w0 F0 J0 g (put hp n mo) w := by
  have hput : ∀ id o, look (put hp n mo) id = some o → o.live = true → look hp id = some o := by
    intro id o x hlv
    rw [look_put] at x
    by_cases e : n = id
    · rw [if_pos e] at x; cases x; rw [hl] at hlv; cases hlv
    · rw [if_neg e] at x; exact x
  refine ⟨fun id o x => ?_, fun id x => ⟨(h.avail id x).1, ?_⟩, fun id1 id2 o1 o2 l1 l2 a1 a2 b1 b2 => h.sepB id1 id2 o1 o2 l1 l2 (hput _ _ a1 b1) (hput _ _ a2 b2) b1 b2,
      fun id o l a1 b1 => h.disjB id o l (hput _ _ a1 b1) b1, fun id o l a1 b1 => h.freshB id o l (hput _ _ a1 b1) b1, fun id o l a1 b1 => h.ltB id o l (hput _ _ a1 b1) b1, h.imm, h.JI, h.Jf, h.ext⟩
  · rw [look_put] at x
    by_cases e : n = id
    · subst e; rw [if_pos rfl] at x; cases x; exact ho
    · rw [if_neg e] at x; exact h.objs id o x
  · rw [look_put]
    by_cases e : n = id
    · subst e; exact absurd x hA
    · rw [if_neg e]; exact (h.avail id x).2

/-- An object of the call's own is written. -/
theorem HRel.writeF (h : HRel P A w0 F0 J0 g hp w) {n : Nat} {mo mo' : MO} {l : Loc} {w' : World} {Fw : List Nat} (h1 : look hp n = some mo) (hl : mo.live = true) (hi : g.inj n = some l)
    (hl' : mo'.live = true) (hFw : ∀ b ∈ Fw, b ∈ mo.blks l) (hw : WExt w Fw w') (ho : ORep P g w' n mo') (hbk : mo'.blks l = mo.blks l := by rfl) : HRel P A w0 F0 J0 g (put hp n mo') w' := by
  have hoth : ∀ id o l', id ≠ n → look hp id = some o → o.live = true → g.inj id = some l' → ∀ b ∈ o.blks l', w'.heap[b]? = w.heap[b]? := by
    intro id o l' hne a b c d hd
    refine hw.block _ (h.ltB id o l' a b c d hd) (fun hm => hne ?_)
    exact h.sepB id n o mo l' l a h1 b hl c hi d hd (hFw d hm)
  have hlk : ∀ id o, look (put hp n mo') id = some o → o.live = true → ∃ o', look hp id = some o' ∧ o'.live = true ∧ ∀ l1, g.inj id = some l1 → o.blks l1 = o'.blks l1 := by
    intro id o x hlv
    rw [look_put] at x
    by_cases e : n = id
    · subst e; rw [if_pos rfl] at x; cases x; exact ⟨mo, h1, hl, fun l1 hl1 => by rw [hi] at hl1; cases hl1; exact hbk⟩
    · rw [if_neg e] at x; exact ⟨o, x, hlv, fun _ _ => rfl⟩
  refine ⟨fun id o x => ?_, fun id x => ?_, fun id1 id2 o1 o2 l1 l2 a1 a2 b1 b2 c1 c2 => ?_, fun id o l1 a1 b1 c1 => ?_, fun id o l1 a1 b1 c1 => ?_, fun id o l1 a1 b1 c1 => ?_, fun b o x => ?_, h.JI, h.Jf, ?_⟩
  · rw [look_put] at x
    by_cases e : n = id
    · subst e; simp at x; subst x; exact ho
    · rw [if_neg e] at x
      exact (h.objs id o x).move (Env.le.refl g) (fun y => y) (fun l' hlv c => hoth id o l' (Ne.symm e) x hlv c)
  · have ha := h.avail id x
    refine ⟨ha.1, ?_⟩
    rw [look_put]
    by_cases e : n = id
    · subst e; rw [ha.2] at h1; cases h1
    · rw [if_neg e]; exact ha.2
  · obtain ⟨p1, q1, r1, t1⟩ := hlk _ _ a1 b1
    obtain ⟨p2, q2, r2, t2⟩ := hlk _ _ a2 b2
    rw [t1 l1 c1, t2 l2 c2]
    exact h.sepB id1 id2 p1 p2 l1 l2 q1 q2 r1 r2 c1 c2
  · obtain ⟨p1, q1, r1, t1⟩ := hlk _ _ a1 b1
    rw [t1 l1 c1]
    exact h.disjB id p1 l1 q1 r1 c1
  · obtain ⟨p1, q1, r1, t1⟩ := hlk _ _ a1 b1
    rw [t1 l1 c1]
    exact h.freshB id p1 l1 q1 r1 c1
  · obtain ⟨p1, q1, r1, t1⟩ := hlk _ _ a1 b1
    rw [t1 l1 c1]
    exact fun d hd => Nat.lt_of_lt_of_le (h.ltB id p1 l1 q1 r1 c1 d hd) hw.size
  · have h2 := h.imm b o x
    rw [hw.block b (Array.getElem?_eq_some_iff.1 h2).1 (fun hm => ?_)]
    · exact h2
    · have := h.disjB n mo l h1 hl hi b (hFw b hm)
      rw [this] at x; cases x
  · refine h.ext.trans hw (fun b hb hlt => ?_)
    rcases h.freshB n mo l h1 hl hi b (hFw b hb) with f | f
    · omega
    · exact f
theorem HRel.write (h : HRel P A w0 F0 J0 g hp w) {n : Nat} {mo mo' : MO} {l : Loc} {w' : World} (h1 : look hp n = some mo) (hl : mo.live = true) (hi : g.inj n = some l)
    (hl' : mo'.live = true) (hw : WExt w [l.b] w') (ho : ORep P g w' n mo') (hbk : mo'.blks l = mo.blks l := by rfl) : HRel P A w0 F0 J0 g (put hp n mo') w' :=
  h.writeF h1 hl hi hl' (fun b hb => by rw [List.mem_singleton.1 hb]; exact mo.mem l) hw ho hbk

/-- More memory is taken as not written. -/
def Env.freeze (g : Env) (t : Bool) (b : Nat) (o : Obj) : Env :=
  { g with I := fun c => if c = b then some o else g.I c, J := fun c => if t = true ∧ c = b then some o else g.J c }

theorem HRel.freeze (h : HRel P A w0 F0 J0 g hp w) {n : Nat} {t : Bool} {k : Nat} {es : List (List D)} (h1 : look hp n = some (.arr t k es)) :
    ∃ g', g.le g' ∧ g'.inj = g.inj ∧ HRel P A w0 F0 J0 g' (put hp n (.fz t k es)) w := by
  have hob := h.objs n _ h1
  have hput : ∀ id o, look (put hp n (.fz t k es)) id = some o → o.live = true → id ≠ n ∧ look hp id = some o := by
    intro id o x hlv
    rw [look_put] at x
    by_cases e : n = id
    · subst e; simp at x; subst x; simp [MO.live] at hlv
    · rw [if_neg e] at x; exact ⟨Ne.symm e, x⟩
  have hav : ∀ id, A id → look (put hp n (.fz t k es)) id = none := fun id x => by
    rw [look_put]
    by_cases e : n = id
    · subst e; rw [(h.avail _ x).2] at h1; cases h1
    · rw [if_neg e]; exact (h.avail id x).2
  obtain ⟨h0, ⟨he, h2⟩ | ⟨l, h2, hk, cs, E, h3, h4, h5, h6⟩⟩ := hob
  · refine ⟨g, Env.le.refl g, rfl, fun id o x => ?_, fun id x => ⟨(h.avail id x).1, hav id x⟩, fun id1 id2 o1 o2 l1 l2 a1 a2 b1 b2 => h.sepB id1 id2 o1 o2 l1 l2 (hput _ _ a1 b1).2 (hput _ _ a2 b2).2 b1 b2,
      fun id o l a1 b1 => h.disjB id o l (hput _ _ a1 b1).2 b1, fun id o l a1 b1 => h.freshB id o l (hput _ _ a1 b1).2 b1, fun id o l a1 b1 => h.ltB id o l (hput _ _ a1 b1).2 b1, h.imm, h.JI, h.Jf, h.ext⟩
    rw [look_put] at x
    by_cases e : n = id
    · subst e; simp at x; subst x; exact ⟨h0, .inl ⟨he, h2⟩⟩
    · rw [if_neg e] at x; exact h.objs id o x
  · have hIn : g.I l.b = none := h.disj n _ l h1 rfl h2
    have hJn : g.J l.b = none := by
      cases hJ : g.J l.b with
      | none => rfl
      | some o => have := h.JI _ _ hJ; rw [hIn] at this; cases this
    have hle : g.le (g.freeze t l.b (.cells cs E (0, 0))) := by
      refine ⟨fun b o x => ?_, fun b o x => ?_, fun _ _ x => x⟩
      · by_cases e : b = l.b
        · subst e; rw [hIn] at x; cases x
        · simp [Env.freeze, e, x]
      · by_cases e : b = l.b
        · subst e; rw [hJn] at x; cases x
        · simp [Env.freeze, e, x]
    refine ⟨g.freeze t l.b (.cells cs E (0, 0)), hle, rfl, fun id o x => ?_, fun id x => ⟨(h.avail id x).1, hav id x⟩,
      fun id1 id2 o1 o2 l1 l2 a1 a2 b1 b2 => h.sepB id1 id2 o1 o2 l1 l2 (hput _ _ a1 b1).2 (hput _ _ a2 b2).2 b1 b2, fun id o l1 a1 b1 c1 d hd => ?_,
      fun id o l1 a1 b1 => h.freshB id o l1 (hput _ _ a1 b1).2 b1, fun id o l1 a1 b1 => h.ltB id o l1 (hput _ _ a1 b1).2 b1, fun b o x => ?_, fun b o x => ?_, fun b o x => ?_, h.ext⟩
    · rw [look_put] at x
      by_cases e : n = id
      · subst e; simp at x; subst x
        refine ⟨h0, .inr ⟨l, h2, hk, cs, E, (0, 0), ?_, h4, h5, fun i j hi hj => ?_⟩⟩
        · cases t <;> simp [Env.im, Env.freeze]
        · obtain ⟨v, hv, hr⟩ := h6 i j hi hj
          exact ⟨v, hv, hr.mono (hle.im t)⟩
      · rw [if_neg e] at x
        exact (h.objs id o x).move hle (fun y => y) (fun _ _ _ _ _ => rfl)
    · have hp' := hput _ _ a1 b1
      have hne : d ≠ l.b := fun e => hp'.1 (h.sepB id n o _ l1 l hp'.2 h1 b1 rfl c1 h2 d hd (by rw [e]; exact MO.mem _ l))
      simp [Env.freeze, hne]; exact h.disjB id o l1 hp'.2 b1 c1 d hd
    · by_cases e : b = l.b
      · subst e; simp [Env.freeze] at x; subst x; exact h3
      · simp [Env.freeze, e] at x; exact h.imm b o x
    · by_cases e : b = l.b
      · subst e
        cases t
        · simp [Env.freeze] at x; rw [hJn] at x; cases x
        · simpa [Env.freeze] using x
      · simp [Env.freeze, e] at x ⊢; exact h.JI b o x
    · by_cases e : b = l.b
      · subst e
        rcases h.fresh n _ l h1 rfl h2 with f | f
        · exact .inr (.inl f)
        · exact .inr (.inr f)
      · simp [Env.freeze, e] at x; exact h.Jf b o x
end
end Go.Fw
namespace Go.Fw
set_option linter.unusedVariables false
set_option linter.unusedSimpArgs false

def cOK1 : Value → MV → Bool
  | .int k n, .i k' n' => k == k' && n == n'
  | .bool x, .b y => x == y
  | .slice none 0 0, .nl _ => true
  | v, .u => v.oneCell'
  | _, _ => false
def cOKs : List Value → List MV → Bool
  | [], [] => true
  | v :: vs, m :: ms => cOK1 v m && v.oneCell' && cOKs vs ms
  | _, _ => false
def cOK : Value → MV → Bool
  | .agg cs, .agg ms => cOKs cs.toList ms
  | v, m => cOK1 v m && v.oneCell'

theorem cOK1_RV {P : Program} {g : Env} {v : Value} {m : MV} (h : cOK1 v m = true) : RV P g v m := by
  unfold cOK1 at h
  split at h
  · simp at h; obtain ⟨rfl, rfl⟩ := h; exact .i _ _
  · simp at h; subst h; exact .b _
  · exact .nl _ _
  · exact .u _
  · cases h

theorem cOKs_RV {P : Program} {g : Env} : ∀ {vs : List Value} {ms : List MV}, cOKs vs ms = true → RVL P g vs ms ∧ ∀ v ∈ vs, v.oneCell' = true
  | [], [], _ => ⟨.nil, by simp⟩
  | v :: vs, m :: ms, h => by
    simp [cOKs] at h
    have ih := cOKs_RV (P := P) (g := g) h.2
    exact ⟨.cons _ _ _ _ (cOK1_RV h.1.1) ih.1, by simp [h.1.2]; exact ih.2⟩
  | [], _ :: _, h => by simp [cOKs] at h
  | _ :: _, [], h => by simp [cOKs] at h

theorem cOK_RV {P : Program} {g : Env} {v : Value} {m : MV} (h : cOK v m = true) : RV P g v m := by
  unfold cOK at h
  split at h
  · have := cOKs_RV (P := P) (g := g) h; exact .agg _ _ this.1 this.2
  · simp at h; exact cOK1_RV h.1

def okOpd : Operand → Opd → Bool
  | .tmp t, .t t' => t == t'
  | .const v, .v m => cOK v m
  | .func f, .v (.clo f' [] []) => f == f'
  | _, _ => false

def okOO : Option Operand → Option Opd → Bool
  | none, none => true
  | some p, some q => okOpd p q
  | _, _ => false

section
variable {P : Program} {N : FrS} {A : Nat → Prop} {w0 : World} {F0 : List Nat} {J0 : Imm} {g : Env} {s : MS} {a : Act} {w : World}

theorem Rel.val (h : Rel P N A w0 F0 J0 g s a w) {x : Operand} {y : Opd} (hx : okOpd x y = true) : RV P g (a.eval x) (s.val y) := by
  unfold okOpd at hx
  split at hx
  · simp at hx; subst hx
    simp only [Act.eval, MS.val]
    rename_i t
    cases hl : look s.fr t with
    | none => exact .u _
    | some m => exact h.slots t m hl
  · exact cOK_RV hx
  · simp at hx; subst hx
    exact .clo _ #[] #[] [] [] .nil .nil
  · cases hx

/-- What is asked of whatever follows an operation. -/
def Goes (P : Program) (A : Nat → Prop) (w0 : World) (F0 : List Nat) (J0 : Imm) (g : Env) (hp : List (Nat × MO)) (n : Nat) (o : Oper) (a : Act) (K : MK) (next : Act → World → Prop) : Prop :=
  ∀ m u rd g' w' v, K m u rd → g.le g' → RV P g' v m → HRel P (fun id => A id ∧ ¬(n ≤ id ∧ id < n + 64)) w0 F0 J0 g' (upds hp u) w' → next (a.put o.dst v) w'

variable {n : Nat} {o : Oper} {K : MK} {next : Act → World → Prop} {Q : Exit → Act → World → Prop}

theorem wp_val {v : Value} {w' : World} (h : (execOp a.eval o).run P w = .ok (.value v) w') (k : next (a.put o.dst v) w') : o.wp P a w next Q := by
  simp [Oper.wp, h, Oper.upon, k]
theorem wp_skp {w' : World} (h : (execOp a.eval o).run P w = .ok .skip w') (k : next (a.put o.dst undef) w') : o.wp P a w next Q := by
  simp [Oper.wp, h, Oper.upon, k]

theorem Goes.same (hn : Goes P A w0 F0 J0 g s.hp n o a K next) (h : Rel P N A w0 F0 J0 g s a w) {m : MV} {rd : List Nat} {v : Value} (hk : K m [] rd) (hv : RV P g v m)
    (he : (execOp a.eval o).run P w = .ok (.value v) w) : o.wp P a w next Q :=
  wp_val he (hn m [] rd g w v hk (Env.le.refl g) hv (h.hp.weaken fun _ x => x.1))

theorem S.mov {x : Operand} {y : Opd} (ho : o.op = .move x ∨ o.op = .assign x) (hx : okOpd x y = true) (h : Rel P N A w0 F0 J0 g s a w)
    (hm : mop false P (.mov y) n s K) (hn : Goes P A w0 F0 J0 g s.hp n o a K next) : o.wp P a w next Q := by
  refine hn.same h hm (h.val hx) ?_
  rcases ho with ho | ho <;> simp [execOp, ho]

theorem S.pick {c x y : Operand} {c' x' y' : Opd} (ho : o.op = .pick c x y) (hc : okOpd c c' = true) (hx : okOpd x x' = true) (hy : okOpd y y' = true) (h : Rel P N A w0 F0 J0 g s a w)
    (hm : mop false P (.pick c' x' y') n s K) (hn : Goes P A w0 F0 J0 g s.hp n o a K next) : o.wp P a w next Q := by
  have rc := h.val hc
  simp only [mop] at hm
  split at hm
  · rename_i b hb
    rw [hb] at rc
    generalize hv : a.eval c = v at rc
    cases rc
    cases b
    · exact hn.same h (by simpa using hm) (h.val hy) (by simp [execOp, ho, hv, asBool])
    · exact hn.same h (by simpa using hm) (h.val hx) (by simp [execOp, ho, hv, asBool])
  · exact hm.elim

theorem getD_toList (vs : Array Value) (i : Nat) : vs.toList.getD i undef = vs.getD i undef := by simp [Array.getD_eq_getD_getElem?]

theorem RVL.getD {vs : List Value} {ms : List MV} (h : RVL P g vs ms) (i : Nat) (d : Value) : RV P g (vs.getD i d) (ms.getD i .u) := by
  by_cases hi : i < vs.length
  · have hj : i < ms.length := by rw [← h.length]; exact hi
    exact h.get i _ _ (by simp [List.getD, List.getElem?_eq_getElem hi]) (by simp [List.getD, List.getElem?_eq_getElem hj])
  · have hj : ¬ i < ms.length := by rw [← h.length]; exact hi
    simp [List.getD, List.getElem?_eq_none (Nat.le_of_not_lt hj)]
    exact .u _

theorem S.extract {x : Operand} {y : Opd} {i : Nat} (ho : o.op = .extract x i) (hx : okOpd x y = true) (h : Rel P N A w0 F0 J0 g s a w)
    (hm : mop false P (.extract y i) n s K) (hn : Goes P A w0 F0 J0 g s.hp n o a K next) : o.wp P a w next Q := by
  have rx := h.val hx
  simp only [mop] at hm
  split at hm
  · rename_i vs hb
    rw [hb] at rx
    generalize hv : a.eval x = v at rx
    cases rx with
    | tup us _ hr =>
      have hlen := hr.length
      have hi : i < us.toList.length := by rw [hlen]; exact hm.1
      have hr' := hr.getD i undef
      have hu : us[i]? = some (us.toList.getD i undef) := by simp [List.getD, show i < us.size by simpa using hi]
      generalize us.toList.getD i undef = u at hr' hu
      refine hn.same h hm.2 hr' ?_
      simp [execOp, ho, hv, Instr.extract, hu]
  · exact hm.elim

theorem S.fieldAddr {T f : Nat} {x : Operand} {y : Opd} {off : Nat} {fs : Array Field} {fd : Field} (ho : o.op = .fieldAddr T x f) (hx : okOpd x y = true)
    (ht : P.underlying T = some (.struct fs)) (hf : fs[f]? = some fd) (hoff : fd.offset = off) {inf : TypeInfo} (hi : P.info? fd.type = some inf) (hsz : inf.size ≠ 0)
    (h : Rel P N A w0 F0 J0 g s a w) (hm : mop false P (.fieldAddr off y) n s K) (hn : Goes P A w0 F0 J0 g s.hp n o a K next) : o.wp P a w next Q := by
  have rx := h.val hx
  have hadd : ∀ (b q : Nat), (⟨b, q, none⟩ : Addr).add off = ⟨b, q + off, none⟩ := fun b q => by
    by_cases e : off = 0
    · subst e; simp [Addr.add]
    · simp [Addr.add, e]
  simp only [mop] at hm
  split at hm
  · rename_i id i q hb
    rw [hb] at rx
    generalize hv : a.eval x = v at rx
    cases rx with
    | pr _ _ _ l hl =>
      refine hn.same h hm (RV.pr id i (q + off) l hl) ?_
      simp [execOp, ho, hv, Instr.fieldAt, run_underlying ht, hf, Instr.sureAddr, fieldPlace, sizeOf, typeInfo, hi, hsz, hoff, hadd, Nat.add_assoc]
  · rename_i t cs q hb
    rw [hb] at rx
    generalize hv : a.eval x = v at rx
    cases rx with
    | pd _ _ _ bb p cells E z vs hI hc hr =>
      refine hn.same h hm (RV.pd t cs (q + off) bb p cells E z vs hI hc hr) ?_
      simp [execOp, ho, hv, Instr.fieldAt, run_underlying ht, hf, Instr.sureAddr, fieldPlace, sizeOf, typeInfo, hi, hsz, hoff, hadd, Nat.add_assoc]
  · exact hm.elim

end
end Go.Fw
namespace Go.Fw
set_option linter.unusedVariables false
set_option linter.unusedSimpArgs false
section
variable {P : Program} {N : FrS} {A : Nat → Prop} {w0 : World} {F0 : List Nat} {J0 : Imm} {g : Env} {s : MS} {a : Act} {w : World}
variable {n : Nat} {o : Oper} {K : MK} {next : Act → World → Prop} {Q : Exit → Act → World → Prop}

def isAggD : TypeDesc → Bool
  | .struct _ | .array _ _ => true
  | _ => false

theorem DR.one {I : Imm} {v : Value} {d : D} (h : DR I v d) : v.oneCell' = true := by cases h <;> rfl
theorem DR.rv {v : Value} {d : D} {t : Bool} (h : DR (g.im t) v d) : RV P g v (ofD t d) := by
  cases d with
  | i k n => cases h; exact .i _ _
  | b x => cases h; exact .b _
  | a k es => exact .s _ _ _ _ h

theorem run_loadAt {T : TypeId} {d : TypeDesc} {inf : TypeInfo} {k b q : Nat} {cs : Array Value} {E : TypeId} {z : Nat × Nat} {vs : Nat → Value} {ag : Bool}
    (ht : P.underlying T = some d) (hd : isAggD d = ag) (hi : P.info? T = some inf) (hk : inf.size = k) (hk1 : ag = false → k = 1)
    (hb : w.heap[b]? = some (.cells cs E z)) (hc : ∀ j, j < k → cs[q + j]? = some (vs j)) :
    (Instr.loadAt T (.pointer (some ⟨b, q, none⟩))).run P w = .ok (if ag then .agg ((List.range k).map vs).toArray else vs 0) w := by
  have hcell : ∀ j, j < k → w.cell? ((⟨b, q, none⟩ : Addr).add j) = some (vs j) := fun j hj => by
    have : ((⟨b, q, none⟩ : Addr).add j) = ⟨b, q + j, none⟩ := by
      by_cases e : j = 0
      · subst e; simp [Addr.add]
      · simp [Addr.add, e]
    rw [this, cell_of_row w b (q + j) cs E z hb, hc j hj]
  cases ag with
  | true =>
    have hl := run_loadCells (P := P) w ⟨b, q, none⟩ k vs hcell
    have : isAggD d = true := hd
    cases d <;> simp [isAggD] at this <;> simp [Instr.loadAt, Instr.sureAddr, loadVar, isAgg, run_underlying ht, sizeOf, typeInfo, hi, hk, hl]
  | false =>
    have h0 := hcell 0 (by rw [hk1 rfl]; omega)
    simp [Addr.add] at h0
    have : isAggD d = false := hd
    cases d <;> simp [isAggD] at this <;> simp [Instr.loadAt, Instr.sureAddr, loadVar, isAgg, run_underlying ht, h0]

theorem rvl_range {vs : Nat → Value} {cs : List MV} {off : Nat} : ∀ (k : Nat), (∀ j, j < k → RV P g (vs j) (cs.getD (off + j) .u)) → off + k ≤ cs.length →
    RVL P g ((List.range k).map vs) ((cs.drop off).take k) := by
  intro k h hl
  refine RVL.of_get (by simp; omega) (fun i v m h1 h2 => ?_)
  by_cases hi : i < k
  · rw [List.getElem?_map, List.getElem?_range hi] at h1
    simp at h1; subst h1
    rw [List.getElem?_take_of_lt hi, List.getElem?_drop] at h2
    have := h i hi
    rw [List.getD, h2] at this; exact this
  · rw [List.getElem?_eq_none (by simp; omega)] at h1; cases h1

theorem rv_chunk {vs : Nat → Value} {cs : List MV} {off k : Nat} {ag : Bool} (hk1 : ag = false → k = 1) (h : ∀ j, j < k → RV P g (vs j) (cs.getD (off + j) .u)) (hl : off + k ≤ cs.length)
    (h1 : ∀ j, j < k → (vs j).oneCell' = true) : RV P g (if ag then .agg ((List.range k).map vs).toArray else vs 0) (chunkVal ag k off cs) := by
  cases ag with
  | true =>
    simp only [chunkVal, if_true]
    refine .agg _ _ (rvl_range k h hl) (fun v hv => ?_)
    simp at hv
    obtain ⟨j, hj, rfl⟩ := hv
    exact h1 j hj
  | false =>
    simp only [chunkVal, Bool.false_eq_true, if_false]
    have := h 0 (by rw [hk1 rfl]; omega)
    simpa using this

theorem getD_map_ofD (t : Bool) (ds : List D) (j : Nat) (hj : j < ds.length) : (ds.map (ofD t)).getD j .u = ofD t (ds.getD j default) := by
  simp [List.getD, List.getElem?_eq_getElem hj]

theorem HRel.chunk (h : HRel P A w0 F0 J0 g s.hp w) {id : Nat} {mo : MO} {l : Loc} (h1 : s.obj id = some mo) (hl : g.inj id = some l) {i off k : Nat} :
    (∀ t k' es, (mo = .arr t k' es ∨ mo = .fz t k' es) → i < es.length → off + k ≤ k' →
      ∃ (cs : Array Value) (E : TypeId) (z : Nat × Nat) (vs : Nat → Value), w.heap[l.b]? = some (.cells cs E z) ∧ (∀ j, j < k → cs[l.base + i * l.k + off + j]? = some (vs j)) ∧
        (∀ j, j < k → RV P g (vs j) (((es.getD i []).map (ofD t)).getD (off + j) .u)) ∧ off + k ≤ ((es.getD i []).map (ofD t)).length ∧ ∀ j, j < k → (vs j).oneCell' = true) ∧
    (∀ cs, mo = .box cs → off + k ≤ cs.length →
      ∃ (cells : Array Value) (E : TypeId) (z : Nat × Nat) (vs : Nat → Value), w.heap[l.b]? = some (.cells cells E z) ∧ (∀ j, j < k → cells[l.base + off + j]? = some (vs j)) ∧
        (∀ j, j < k → RV P g (vs j) (cs.getD (off + j) .u)) ∧ ∀ j, j < k → (vs j).oneCell' = true) := by
  have hob := h.objs id mo h1
  constructor
  · intro t k' es hmo hi hk
    have key : ∃ (cs : Array Value) (E : TypeId) (z : Nat × Nat), w.heap[l.b]? = some (.cells cs E z) ∧ l.k = k' ∧ (∀ e ∈ es, e.length = k') ∧
        ∀ i j, i < es.length → j < k' → ∃ v, cs[l.base + i * k' + j]? = some v ∧ DR (g.im t) v (cellD es i j) := by
      rcases hmo with rfl | rfl
      · obtain ⟨h0, ⟨he, h2⟩ | ⟨l', h2, hk', cs, E, h3, _, _, h6⟩⟩ := hob
        · rw [hl] at h2; cases h2
        · rw [hl] at h2; cases h2; exact ⟨cs, E, _, h3, hk', h0, h6⟩
      · obtain ⟨h0, ⟨he, h2⟩ | ⟨l', h2, hk', cs, E, z, h3, _, _, h6⟩⟩ := hob
        · rw [hl] at h2; cases h2
        · rw [hl] at h2; cases h2
          refine ⟨cs, E, z, ?_, hk', h0, h6⟩
          cases t
          · exact h.imm _ _ h3
          · exact h.imm _ _ (h.JI _ _ h3)
    obtain ⟨cs, E, z, h3, hk', h0, h6⟩ := key
    subst hk'
    have hlen : (es.getD i []).length = l.k := h0 _ (by simp [List.getD, List.getElem?_eq_getElem hi])
    refine ⟨cs, E, z, fun j => cs.getD (l.base + i * l.k + off + j) undef, h3, fun j hj => ?_, fun j hj => ?_, by rw [List.length_map, hlen]; exact hk, fun j hj => ?_⟩ <;>
      obtain ⟨v, hv, hr⟩ := h6 i (off + j) hi (by omega) <;> rw [← Nat.add_assoc] at hv
    · show _ = some (cs.getD _ undef)
      rw [hv, Array.getD_eq_getD_getElem?, hv]; rfl
    · rw [getD_map_ofD t _ _ (by rw [hlen]; omega)]
      show RV P g (cs.getD _ undef) _
      rw [Array.getD_eq_getD_getElem?, hv]; exact hr.rv
    · show (cs.getD _ undef).oneCell' = true
      rw [Array.getD_eq_getD_getElem?, hv]; exact hr.one
  · intro cs hmo hk
    subst hmo
    obtain ⟨l', cells, E, h2, h3, h4, h5, h6⟩ := hob
    rw [hl] at h2; cases h2
    have hget : ∀ j, j < k → cells[l.base + off + j]? = some (cells.getD (l.base + off + j) undef) := fun j hj => by
      simp [Array.getD_eq_getD_getElem?, show l.base + off + j < cells.size by omega]
    refine ⟨cells, E, (0, 0), fun j => cells.getD (l.base + off + j) undef, h3, hget, fun j hj => ?_, fun j hj => h5 _ ?_⟩
    · have := h6.getD (off + j) undef
      rw [show ((cells.toList.drop l.base).take cs.length).getD (off + j) undef = cells.getD (l.base + off + j) undef from ?_] at this
      · exact this
      · simp [List.getD, List.getElem?_take_of_lt (show off + j < cs.length by omega), Nat.add_assoc]
    · exact Array.mem_toList_iff.2 (Array.mem_of_getElem? (hget j hj))

theorem S.load {T : TypeId} {x : Operand} {y : Opd} {d : TypeDesc} {inf : TypeInfo} {k : Nat} {ag : Bool} (ho : o.op = .load T x) (hx : okOpd x y = true)
    (ht : P.underlying T = some d) (hd : isAggD d = ag) (hi : P.info? T = some inf) (hk : inf.size = k) (hk1 : ag = false → k = 1)
    (h : Rel P N A w0 F0 J0 g s a w) (hm : mop false P (.load ag k y) n s K) (hn : Goes P A w0 F0 J0 g s.hp n o a K next) : o.wp P a w next Q := by
  have rx := h.val hx
  simp only [mop] at hm
  have hrun : ∀ {b q : Nat} {v : Value}, (Instr.loadAt T (.pointer (some ⟨b, q, none⟩))).run P w = .ok v w → a.eval x = .pointer (some ⟨b, q, none⟩) → (execOp a.eval o).run P w = .ok (.value v) w := by
    intro b q v e1 e2
    simp [execOp, ho, e2, e1]
  split at hm
  · rename_i id i off hb
    rw [hb] at rx
    generalize hv : a.eval x = v at rx
    cases rx with
    | pr _ _ _ l hl =>
      split at hm
      · rename_i t k' es hob
        obtain ⟨cs, E, z, vs, h3, h4, h5, h6, h7⟩ := (h.hp.chunk hob hl).1 t k' es (.inl rfl) hm.1 hm.2.1
        exact hn.same h (hm.2.2.get hm.1) (rv_chunk hk1 h5 h6 h7) (hrun (run_loadAt ht hd hi hk hk1 h3 h4) hv)
      · rename_i t k' es hob
        obtain ⟨cs, E, z, vs, h3, h4, h5, h6, h7⟩ := (h.hp.chunk hob hl).1 t k' es (.inr rfl) hm.1 hm.2.1
        exact hn.same h (hm.2.2.get hm.1) (rv_chunk hk1 h5 h6 h7) (hrun (run_loadAt ht hd hi hk hk1 h3 h4) hv)
      · rename_i cs hob
        obtain ⟨rfl, hm2, hm3⟩ := hm
        obtain ⟨cells, E, z, vs, h3, h4, h5, h7⟩ := (h.hp.chunk (i := 0) hob hl).2 cs rfl hm2
        refine hn.same h hm3 (rv_chunk hk1 h5 hm2 h7) (hrun (run_loadAt ht hd hi hk hk1 h3 (by simpa using h4)) hv)
      · exact hm.elim
  · rename_i t cs off hb
    rw [hb] at rx
    generalize hv : a.eval x = v at rx
    cases rx with
    | pd _ _ _ bb p cells E z vs hI hc hr =>
      have h3 : w.heap[bb]? = some (.cells cells E z) := by
        cases t
        · exact h.hp.imm _ _ hI
        · exact h.hp.imm _ _ (h.hp.JI _ _ hI)
      refine hn.same h hm.2 (rv_chunk (vs := fun j => vs (off + j)) hk1 (fun j hj => ?_) (by simpa using hm.1) (fun j hj => (hr (off + j) (by omega)).one)) (hrun (run_loadAt ht hd hi hk hk1 h3 (fun j hj => ?_)) hv)
      · rw [getD_map_ofD t _ _ (by omega)]; exact (hr (off + j) (by omega)).rv
      · rw [Nat.add_assoc]; exact hc (off + j) (by omega)
  · rename_i dm φ hb
    rw [hb] at rx
    generalize hv : a.eval x = v at rx
    cases rx with
    | pf bb p cells E z v _ _ hI hc hf =>
      obtain ⟨hag, hK⟩ := hm
      have := run_loadAt (P := P) (w := w) (q := p) (vs := fun _ => v) ht hd hi hk hk1 (h.hp.imm _ _ hI) (fun j hj => by
        have h1 := hk1 hag
        have h2 : j = 0 := by omega
        rw [h2, Nat.add_zero]; exact hc)
      rw [hag] at this
      exact hn.same h hK hf (hrun (by simpa using this) hv)
  · exact hm.elim

theorem S.indexAddr {T e : TypeId} {x i : Operand} {x' i' : Opd} {inf : TypeInfo} {k : Nat} (ho : o.op = .indexAddr T x i) (hx : okOpd x x' = true) (hi' : okOpd i i' = true)
    (ht : P.underlying T = some (.slice e)) (hi : P.info? e = some inf) (hk : inf.size = k)
    (h : Rel P N A w0 F0 J0 g s a w) (hm : mop false P (.indexAddr k x' i') n s K) (hn : Goes P A w0 F0 J0 g s.hp n o a K next) : o.wp P a w next Q := by
  have rx := h.val hx
  have ri := h.val hi'
  simp only [mop] at hm
  have hadd : ∀ (b q m : Nat), (⟨b, q, none⟩ : Addr).add m = ⟨b, q + m, none⟩ := fun b q m => by
    by_cases e : m = 0
    · subst e; simp [Addr.add]
    · simp [Addr.add, e]
  have hrun : ∀ {b q len cap : Nat} {kk : IntKind} {z : Int}, a.eval x = .slice (some ⟨b, q, none⟩) len cap → a.eval i = .int kk z → 0 ≤ z → z < len →
      (execOp a.eval o).run P w = .ok (.value (.pointer (some ⟨b, q + z.toNat * k, none⟩))) w := by
    intro b q len cap kk z e1 e2 e3 e4
    simp [execOp, ho, e1, e2, Instr.indexAt, asIntOf, run_underlying ht, e3, e4, sizeOf, typeInfo, hi, hk, hadd]
  split at hm
  · rename_i id off len kk z hb hz
    rw [hb] at rx; rw [hz] at ri
    generalize hv : a.eval x = v at rx
    generalize hv' : a.eval i = v' at ri
    cases ri
    have key : ∀ k', (∀ l, g.inj id = some l → l.k = k') → k' = k → 0 ≤ z → z < len → K (.pr id (off + z.toNat) 0) [] [id] → o.wp P a w next Q := by
      intro k' hlk e1 e2 e3 hK
      cases rx with
      | sr _ _ _ cap l hl h1 h2 =>
        have := hlk l hl
        refine hn.same h hK (RV.pr id (off + z.toNat) 0 l hl) ?_
        rw [hrun hv hv' e2 e3, ← e1, ← this]
        simp [Nat.add_mul, Nat.add_assoc]
      | sr0 => simp at e3; omega
    split at hm
    · rename_i t k' es hob
      refine key k' (fun l hl => ?_) hm.1 hm.2.1 hm.2.2.1 hm.2.2.2
      obtain ⟨_, ⟨_, h2⟩ | ⟨l', h2, hk', _⟩⟩ := h.hp.objs id _ hob
      · rw [hl] at h2; cases h2
      · rw [hl] at h2; cases h2; exact hk'
    · rename_i t k' es hob
      refine key k' (fun l hl => ?_) hm.1 hm.2.1 hm.2.2.1 hm.2.2.2
      obtain ⟨_, ⟨_, h2⟩ | ⟨l', h2, hk', _⟩⟩ := h.hp.objs id _ hob
      · rw [hl] at h2; cases h2
      · rw [hl] at h2; cases h2; exact hk'
    · exact hm.elim
  · rename_i t k' es kk z hb hz
    rw [hb] at rx; rw [hz] at ri
    generalize hv : a.eval x = v at rx
    generalize hv' : a.eval i = v' at ri
    cases ri
    obtain ⟨rfl, e2, e3, hK⟩ := hm
    cases rx with
    | s _ _ _ _ hd =>
      cases hd with
      | a0 => simp at e3; omega
      | a b off cap len cs E z' _ _ vs hI hlen hkk hcap hc hr =>
        subst hlen
        have hlt : z.toNat < es.length := by omega
        have hel : (es.getD z.toNat []).length = k' := hkk _ (by simp [List.getD, List.getElem?_eq_getElem hlt])
        refine hn.same h (hK.get hlt) (RV.pd t (es.getD z.toNat []) 0 b (off + z.toNat * k') cs E z' (vs z.toNat) hI (fun j hj => ?_) (fun j hj => ?_)) (hrun hv hv' e2 e3)
        · exact hc z.toNat j hlt (by omega)
        · exact hr z.toNat j hlt (by omega)
  · exact hm.elim

theorem S.len {T : TypeId} {e : TypeId} {x : Operand} {y : Opd} {ts : Array TypeId} (ho : o.op = .call { callee := .builtin .len, args := #[x], argTypes := ts }) (hT : ts[0]? = some T) (hx : okOpd x y = true)
    (ht : P.underlying T = some (.slice e))
    (h : Rel P N A w0 F0 J0 g s a w) (hm : mop false P (.len y) n s K) (hn : Goes P A w0 F0 J0 g s.hp n o a K next) : o.wp P a w next Q := by
  have rx := h.val hx
  simp only [mop] at hm
  have hrun : ∀ {p : Option Addr} {len cap : Nat}, a.eval x = .slice p len cap → (execOp a.eval o).run P w = .ok (.value (.int .i64 len)) w := by
    intro p len cap e1
    simp [execOp, ho, resolve, invoke, builtin, Builtin.len_, hT, e1, run_underlying ht, goInt]
  split at hm
  · rename_i id off len hb
    rw [hb] at rx
    generalize hv : a.eval x = v at rx
    cases rx with
    | sr _ _ _ cap l hl h1 h2 => exact hn.same h hm (.i _ _) (hrun hv)
    | sr0 => exact hn.same h hm (.i _ _) (hrun hv)
  · rename_i t k' es hb
    rw [hb] at rx
    generalize hv : a.eval x = v at rx
    cases rx with
    | s _ _ _ _ hd =>
      cases hd with
      | a0 => exact hn.same h hm (.i _ _) (hrun hv)
      | a b off cap len cs E z' _ _ vs hI hlen hkk hcap hc hr => subst hlen; exact hn.same h hm (.i _ _) (hrun hv)
  · rename_i k' hb
    rw [hb] at rx
    generalize hv : a.eval x = v at rx
    cases rx
    exact hn.same h hm (.i _ _) (hrun hv)
  · rename_i id off len hb
    rw [hb] at rx
    generalize hv : a.eval x = v at rx
    cases rx
    exact hn.same h hm (.i _ _) (hrun hv)
  · exact hm.elim

end
end Go.Fw
namespace Go.Fw
set_option linter.unusedVariables false
set_option linter.unusedSimpArgs false

def flatFs (f : TypeId → Option (List Bool)) : List Field → Nat → Option (List Bool)
  | [], _ => some []
  | x :: fs, q =>
    if x.name != "_" && x.offset == q then
      match f x.type with
      | some k =>
        match flatFs f fs (q + k.length) with
        | some r => some (k ++ r)
        | none => none
      | none => none
    else none
/-- The cells of a type whose cells are all numbers or truth values. -/
def flatTy (P : Program) : Nat → TypeId → Option (List Bool)
  | 0, _ => none
  | d + 1, T =>
    match P.underlying T with
    | some (.int _) => some [true]
    | some .bool => some [false]
    | some (.struct fs) =>
      match flatFs (flatTy P d) fs.toList 0 with
      | some k => if !P.stoodInHeld T && (P.info? T).map (·.size) == some k.length then some k else none
      | none => none
    | _ => none

theorem sigOK_len : ∀ {r : List Bool} {ms : List MV}, sigOK r ms = true → r.length = ms.length
  | [], [], _ => rfl
  | true :: r, .i _ _ :: ms, h => by simp [sigOK] at h; simp [sigOK_len h]
  | false :: r, .b _ :: ms, h => by simp [sigOK] at h; simp [sigOK_len h]
  | [], _ :: _, h => by simp [sigOK] at h
  | true :: r, [], h => by simp [sigOK] at h
  | false :: r, [], h => by simp [sigOK] at h

theorem sigOK_app : ∀ {p r : List Bool} {ms : List MV}, sigOK (p ++ r) ms = true → sigOK p (ms.take p.length) = true ∧ sigOK r (ms.drop p.length) = true
  | [], r, ms, h => by simpa [sigOK] using h
  | true :: p, r, .i _ _ :: ms, h => by simp [sigOK] at h ⊢; exact sigOK_app h
  | false :: p, r, .b _ :: ms, h => by simp [sigOK] at h ⊢; exact sigOK_app h
  | true :: p, r, [], h => by simp [sigOK] at h
  | false :: p, r, [], h => by simp [sigOK] at h

theorem eqCells_split : ∀ (k : Nat) {as bs : List MV} {b : Bool}, eqCells as bs = some b →
    ∃ b1 b2, eqCells (as.take k) (bs.take k) = some b1 ∧ eqCells (as.drop k) (bs.drop k) = some b2 ∧ b = (b1 && b2)
  | 0, as, bs, b, h => ⟨true, b, by simp [eqCells], by simpa using h, by simp⟩
  | k + 1, [], [], b, h => by simp [eqCells] at h; subst h; exact ⟨true, true, by simp [eqCells], by simp [eqCells], rfl⟩
  | k + 1, .i ka x :: r, .i kb y :: r', b, h => by
    by_cases hk : ka = kb
    · subst hk
      cases hr : eqCells r r' with
      | none => simp [eqCells, hr] at h
      | some c =>
        simp only [eqCells, hr, if_true, Option.map_some] at h
        obtain ⟨b1, b2, e1, e2, rfl⟩ := eqCells_split k hr
        refine ⟨decide (x = y) && b1, b2, by simp [eqCells, e1], by simpa using e2, ?_⟩
        rw [Bool.and_assoc]; exact (Option.some.inj h).symm
    · simp [eqCells, hk] at h
  | k + 1, .b x :: r, .b y :: r', b, h => by
    cases hr : eqCells r r' with
    | none => simp [eqCells, hr] at h
    | some c =>
      simp only [eqCells, hr, Option.map_some] at h
      obtain ⟨b1, b2, e1, e2, rfl⟩ := eqCells_split k hr
      refine ⟨(x == y) && b1, b2, by simp [eqCells, e1], by simpa using e2, ?_⟩
      rw [Bool.and_assoc]; exact (Option.some.inj h).symm
  | k + 1, [], _ :: _, b, h => by simp [eqCells] at h
  | k + 1, x :: r, [], b, h => by cases x <;> simp [eqCells] at h
  | k + 1, .i ka x :: r, .b y :: r', b, h => by simp [eqCells] at h
  | k + 1, .b x :: r, .i ka y :: r', b, h => by simp [eqCells] at h

section
variable {P : Program} {g : Env} {w : World}

theorem run_part_cell {T : TypeId} {d : TypeDesc} (ht : P.underlying T = some d) (hd : isAggD d = false) {cs : Array Value} {q : Nat} {v : Value} (hv : cs[q]? = some v) :
    (part T cs q).run P w = .ok v w := by
  cases d <;> simp [isAggD] at hd <;> simp [part, isAgg, run_underlying ht, hv]

theorem drop_take_one {α : Type} (ms : List α) (q : Nat) (d : α) (h : q < ms.length) : (ms.drop q).take 1 = [ms.getD q d] := by
  rw [List.drop_eq_getElem_cons h, List.take_succ_cons, List.take_zero]; simp [List.getD, h]

theorem run_equal_flat : ∀ (d D : Nat) (T : TypeId) (k : List Bool), flatTy P d T = some k → d ≤ D → ∀ (xs ys : Array Value) (q : Nat) (ms ns : List MV) (b : Bool),
    RVL P g xs.toList ms → RVL P g ys.toList ns → sigOK k ((ms.drop q).take k.length) = true → sigOK k ((ns.drop q).take k.length) = true →
    eqCells ((ms.drop q).take k.length) ((ns.drop q).take k.length) = some b →
    ((part T xs q >>= fun x => part T ys q >>= fun y => Op.equalIn D T x y) : Sem Bool).run P w = .ok b w := by
  intro d
  induction d with
  | zero => intro D T k h; simp [flatTy] at h
  | succ d ih =>
    intro D T k h hD xs ys q ms ns b hx hy s1 s2 he
    obtain ⟨D, rfl⟩ : ∃ D', D = D' + 1 := ⟨D - 1, by omega⟩
    have hlx := hx.length
    have hly := hy.length
    have l1 := sigOK_len s1
    have l2 := sigOK_len s2
    simp at hlx hly l1 l2
    have scalar : ∀ desc, P.underlying T = some desc → isAggD desc = false → k.length = 1 →
        ((∃ kk, desc = .int kk) ∧ k = [true] ∨ desc = .bool ∧ k = [false]) →
        ((part T xs q >>= fun x => part T ys q >>= fun y => Op.equalIn (D + 1) T x y) : Sem Bool).run P w = .ok b w := by
      intro desc hu ha hk hdesc
      have h1 : xs[q]? = some (xs.toList.getD q undef) := by simp [List.getD, show q < xs.size by omega]
      have h2 : ys[q]? = some (ys.toList.getD q undef) := by simp [List.getD, show q < ys.size by omega]
      have r1 := hx.getD q undef
      have r2 := hy.getD q undef
      generalize xs.toList.getD q undef = x at h1 r1
      generalize ys.toList.getD q undef = y at h2 r2
      rw [hk, drop_take_one ms q .u (by omega)] at s1
      rw [hk, drop_take_one ns q .u (by omega)] at s2
      rw [hk, drop_take_one ms q .u (by omega), drop_take_one ns q .u (by omega)] at he
      generalize ms.getD q .u = m at he r1 s1
      generalize ns.getD q .u = m' at he r2 s2
      simp only [Sem.run_bind, run_part_cell hu ha h1, Result.andThen_ok, run_part_cell hu ha h2]
      rcases hdesc with ⟨⟨kk, rfl⟩, rfl⟩ | ⟨rfl, rfl⟩
      · cases m <;> simp [sigOK] at s1
        cases m' <;> simp [sigOK] at s2
        simp only [eqCells, Option.map_some, Bool.and_true] at he
        split at he
        · rename_i e; subst e
          cases r1; cases r2
          rw [run_equalIn_int w D T _ _ _ _ hu]
          rw [← Option.some.inj he]; rfl
        · cases he
      · cases m <;> simp [sigOK] at s1
        cases m' <;> simp [sigOK] at s2
        simp only [eqCells, Option.map_some, Bool.and_true] at he
        cases r1; cases r2
        rw [run_equalIn_bool' w D T _ _ hu]
        rw [← Option.some.inj he]
    simp only [flatTy] at h
    split at h
    · rename_i hu; cases h; exact scalar _ hu rfl rfl (.inl ⟨⟨_, rfl⟩, rfl⟩)
    · rename_i hu; cases h; exact scalar _ hu rfl rfl (.inr ⟨rfl, rfl⟩)
    · rename_i fs hu
      split at h
      · rename_i kk hfs
        split at h
        · rename_i hc
          cases h
          simp at hc
          obtain ⟨hst, inf, hi, hsz⟩ := hc
          have hpart : ∀ (cs : Array Value), (part T cs q).run P w = .ok (.agg (cs.extract q (q + k.length))) w := fun cs => by
            simp [part, isAgg, run_underlying hu, sizeOf, typeInfo, hi, hsz]
          simp only [Sem.run_bind, hpart, Result.andThen_ok]
          have hfo : P.fieldsOf T = fs := by simp [Program.fieldsOf, hu]
          rw [run_equalIn_struct w D T _ _ (by rw [hfo]; exact hu) hst, hfo]
          have hx' : RVL P g (xs.extract q (q + k.length)).toList ((ms.drop q).take k.length) := by
            have := (hx.drop q).take k.length
            simpa [Array.toList_extract, List.extract_eq_take_drop] using this
          have hy' : RVL P g (ys.extract q (q + k.length)).toList ((ns.drop q).take k.length) := by
            have := (hy.drop q).take k.length
            simpa [Array.toList_extract, List.extract_eq_take_drop] using this
          generalize xs.extract q (q + k.length) = xs' at hx'
          generalize ys.extract q (q + k.length) = ys' at hy'
          generalize (ms.drop q).take k.length = ms' at *
          generalize (ns.drop q).take k.length = ns' at *
          have fields : ∀ (fl : List Field) (p : Nat) (r : List Bool) (b : Bool), flatFs (flatTy P d) fl p = some r → sigOK r (ms'.drop p) = true → sigOK r (ns'.drop p) = true →
              eqCells (ms'.drop p) (ns'.drop p) = some b → (Op.eqFields D xs' ys' fl).run P w = .ok b w := by
            intro fl
            induction fl with
            | nil =>
              intro p r b h1 h2 h3 h4
              simp [flatFs] at h1; subst h1
              have e1 := sigOK_len h2
              have e2 := sigOK_len h3
              rw [List.length_eq_zero_iff.1 e1.symm, List.length_eq_zero_iff.1 e2.symm] at h4
              simp [eqCells] at h4; subst h4
              simp [Op.eqFields]
            | cons f fl ihf =>
              intro p r b h1 h2 h3 h4
              simp only [flatFs] at h1
              split at h1
              · rename_i hc
                simp at hc
                obtain ⟨hname, hoff⟩ := hc
                split at h1
                · rename_i kf hkf
                  split at h1
                  · rename_i r' hr'
                    cases h1
                    obtain ⟨b1, b2, e1, e2, rfl⟩ := eqCells_split kf.length h4
                    have s1 := sigOK_app h2
                    have s2 := sigOK_app h3
                    have hone := ih D f.type kf hkf (by omega) xs' ys' p ms' ns' b1 hx' hy' s1.1 s2.1 e1
                    simp only [Sem.run_bind] at hone
                    simp only [Op.eqFields, hname, ne_eq, not_false_eq_true, if_true, hoff, Sem.run_bind]
                    revert hone
                    generalize (part f.type xs' p).run P w = q1
                    cases q1 with
                    | halt => intro hone; simp [Result.andThen] at hone
                    | ok a1 w1 =>
                      simp only [Result.andThen_ok]
                      generalize (part f.type ys' p).run P w1 = q2
                      cases q2 with
                      | halt => intro hone; simp [Result.andThen] at hone
                      | ok a2 w2 =>
                        simp only [Result.andThen_ok]
                        intro hone
                        rw [hone]
                        simp only [Result.andThen_ok]
                        cases b1
                        · simp
                        · simp only [Bool.not_true, Bool.false_eq_true, if_false, Bool.true_and]
                          rw [List.drop_drop] at e2 s1 s2
                          rw [List.drop_drop] at e2
                          exact ihf (p + kf.length) r' b2 hr' s1.2 s2.2 e2
                  · cases h1
                · cases h1
              · cases h1
          exact fields fs.toList 0 k b hfs (by simpa using s1) (by simpa using s2) (by simpa using he)
        · cases h
      · cases h
    · cases h
end
end Go.Fw
namespace Go.Fw
set_option linter.unusedVariables false
set_option linter.unusedSimpArgs false
section
variable {P : Program} {N : FrS} {A : Nat → Prop} {w0 : World} {F0 : List Nat} {J0 : Imm} {g : Env} {s : MS} {a : Act} {w : World}
variable {n : Nat} {o : Oper} {K : MK} {next : Act → World → Prop} {Q : Exit → Act → World → Prop}

theorem run_eqGuard_ii (op : BinOp) (t : TypeId) (x y : Operand) (k k' : IntKind) (a b : Int) : (eqGuard op t x y (.int k a) (.int k' b)).run P w = .ok () w := by
  cases op <;> simp [eqGuard]
theorem run_eqGuard_bb (op : BinOp) (t : TypeId) (x y : Operand) (a b : Bool) : (eqGuard op t x y (.bool a) (.bool b)).run P w = .ok () w := by
  cases op <;> simp [eqGuard]
theorem run_eqGuard_ss (op : BinOp) (t : TypeId) (x y : Operand) (p q : Option Addr) (a b c d : Nat) : (eqGuard op t x y (.slice p a b) (.slice q c d)).run P w = .ok () w := by
  cases op <;> simp [eqGuard]

theorem S.bin {T T' : TypeId} {op : BinOp} {x y : Operand} {x' y' : Opd} (ho : o.op = .binOp op T x y T') (hx : okOpd x x' = true) (hy : okOpd y y' = true)
    (h : Rel P N A w0 F0 J0 g s a w) (hm : mop false P (.bin op x' y') n s K) (hn : Goes P A w0 F0 J0 g s.hp n o a K next) : o.wp P a w next Q := by
  have rx := h.val hx
  have ry := h.val hy
  simp only [mop] at hm
  have hrun : ∀ {v : Value}, ((eqGuard op T x y (a.eval x) (a.eval y)).run P w = .ok () w) → (binOp op T (a.eval x) (a.eval y)).run P w = .ok v w → (execOp a.eval o).run P w = .ok (.value v) w := by
    intro v e1 e2
    simp [execOp, ho, e1, e2]
  split at hm
  · rename_i k p k' q hb hz
    rw [hb] at rx; rw [hz] at ry
    generalize hv : a.eval x = v at *
    generalize hv' : a.eval y = v' at *
    cases rx; cases ry
    obtain ⟨hk, hm⟩ := hm
    have fin : ∀ {m : MV} {v : Value}, K m [] [] → RV P g v m → (binOp op T (.int k p) (.int k' q)).run P w = .ok v w → o.wp P a w next Q := by
      intro m v e1 e2 e3
      exact hn.same h e1 e2 (hrun (by rw [run_eqGuard_ii]) e3)
    cases op <;> simp only [intBin] at hm <;> simp only [reduceCtorEq, or_false, or_self, or_true] at hk
    case add => subst hk; exact fin hm.2 (.i _ _) (by simp [binOp, Op.intArith]; exact hm.1)
    case sub => subst hk; exact fin hm.2 (.i _ _) (by simp [binOp, Op.intArith]; exact hm.1)
    case mul => subst hk; exact fin hm.2 (.i _ _) (by simp [binOp, Op.intArith]; exact hm.1)
    case quo => subst hk; exact fin hm.2.2 (.i _ _) (by simp [binOp, Op.intDiv, hm.1]; exact hm.2.1)
    case rem => subst hk; exact fin hm.2 (.i _ _) (by simp [binOp, Op.intDiv, hm.1])
    case and => subst hk; exact fin hm (.i _ _) (by simp [binOp, Op.intBits, ibits])
    case or => subst hk; exact fin hm (.i _ _) (by simp [binOp, Op.intBits, ibits])
    case xor => subst hk; exact fin hm (.i _ _) (by simp [binOp, Op.intBits, ibits])
    case andNot => subst hk; exact fin hm (.i _ _) (by simp [binOp, Op.intBits, ibits])
    case shl => exact fin hm.2 (.i _ _) (by simp [binOp, Op.shift, show ¬ q < 0 by omega])
    case shr => exact fin hm.2 (.i _ _) (by simp [binOp, Op.shift, show ¬ q < 0 by omega])
    case eql => subst hk; exact fin hm (.b _) (by simp [binOp, Op.intCmp]; rfl)
    case neq => subst hk; exact fin hm (.b _) (by simp [binOp, Op.intCmp]; rfl)
    case lss => subst hk; exact fin hm (.b _) (by simp [binOp, Op.intCmp])
    case leq => subst hk; exact fin hm (.b _) (by simp [binOp, Op.intCmp])
    case gtr => subst hk; exact fin hm (.b _) (by simp [binOp, Op.intCmp])
    case geq => subst hk; exact fin hm (.b _) (by simp [binOp, Op.intCmp])
  · exact hm.elim

theorem S.binb {T T' : TypeId} {neg : Bool} {op : BinOp} {x y : Operand} {x' y' : Opd} (ho : o.op = .binOp op T x y T') (hop : op = if neg then .neq else .eql) (hx : okOpd x x' = true) (hy : okOpd y y' = true)
    (hu : P.underlying T = some .bool)
    (h : Rel P N A w0 F0 J0 g s a w) (hm : mop false P (.binb neg x' y') n s K) (hn : Goes P A w0 F0 J0 g s.hp n o a K next) : o.wp P a w next Q := by
  have rx := h.val hx
  have ry := h.val hy
  simp only [mop] at hm
  have hrun : ∀ {v : Value}, ((eqGuard op T x y (a.eval x) (a.eval y)).run P w = .ok () w) → (binOp op T (a.eval x) (a.eval y)).run P w = .ok v w → (execOp a.eval o).run P w = .ok (.value v) w := by
    intro v e1 e2
    simp [execOp, ho, e1, e2]
  split at hm
  · rename_i p q hb hz
    rw [hb] at rx; rw [hz] at ry
    generalize hv : a.eval x = v at *
    generalize hv' : a.eval y = v' at *
    cases rx; cases ry
    cases neg
    · simp at hop; subst hop
      exact hn.same h hm (.b _) (hrun (by rw [run_eqGuard_bb]) (by simp only [binOp]; simp [Op.equal, Op.maxDepth, run_equalIn_bool' w _ _ _ _ hu]))
    · simp at hop; subst hop
      exact hn.same h hm (.b _) (hrun (by rw [run_eqGuard_bb]) (by simp only [binOp]; simp [Op.equal, Op.maxDepth, run_equalIn_bool' w _ _ _ _ hu]))
  · exact hm.elim

theorem S.nilq {T T' e : TypeId} {neg : Bool} {op : BinOp} {x y : Operand} {x' : Opd} (ho : o.op = .binOp op T x y T') (hop : op = if neg then .neq else .eql) (hx : okOpd x x' = true)
    (hu : P.underlying T = some (.slice e)) (hyc : y = .const (.slice none 0 0))
    (h : Rel P N A w0 F0 J0 g s a w) (hm : mop false P (.nilq neg x') n s K) (hn : Goes P A w0 F0 J0 g s.hp n o a K next) : o.wp P a w next Q := by
  have rx := h.val hx
  have hyv : a.eval y = .slice none 0 0 := by rw [hyc]; rfl
  simp only [mop] at hm
  have hrun : ∀ {v : Value}, ((eqGuard op T x y (a.eval x) (a.eval y)).run P w = .ok () w) → (binOp op T (a.eval x) (a.eval y)).run P w = .ok v w → (execOp a.eval o).run P w = .ok (.value v) w := by
    intro v e1 e2
    simp [execOp, ho, e1, e2]
  have key : ∀ {t : Bool} {k : Nat} {es : List (List D)} {rs : List Nat}, sliceOf s (s.val x') = some (t, k, es, rs) → ∃ p len cap, a.eval x = .slice p len cap ∧ (p = none → es = []) := by
    intro t k es rs hs
    generalize hv : a.eval x = v at *
    generalize hmv : s.val x' = m' at *
    cases rx <;> simp [sliceOf] at hs
    case s hd =>
      obtain ⟨rfl, rfl, rfl, rfl⟩ := hs
      cases hd with
      | a0 p c => exact ⟨p, _, _, rfl, fun _ => rfl⟩
      | a b off cap len cs E z _ _ vs hI hlen hk hcap hc hr => exact ⟨_, _, _, rfl, fun e => by cases e⟩
    case nl => obtain ⟨rfl, rfl, rfl, rfl⟩ := hs; exact ⟨_, _, _, rfl, fun _ => rfl⟩
    case sr => exact ⟨_, _, _, rfl, fun e => by cases e⟩
    case sr0 p id off =>
      refine ⟨p, _, _, rfl, fun _ => ?_⟩
      split at hs <;> simp at hs
      · exact hs.2.2.2.1
      · exact hs.2.2.2.1
  have heq' : ∀ (D : Nat) (p : Option Addr) (len cap : Nat), (Op.equalIn (D + 1) T (.slice p len cap) (.slice none 0 0)).run P w = .ok p.isNone w := by
    intro D p len cap
    cases p <;> simp [Op.equalIn, run_underlying hu]
  have heq := heq' 9999
  clear heq'
  split at hm
  · rename_i t k' es rs hs
    obtain ⟨p, len, cap, hxv, hp⟩ := key hs
    rw [hxv, hyv] at hrun
    cases neg
    · simp at hop; subst hop
      have hr2 : (binOp .eql T (.slice p len cap) (.slice none 0 0)).run P w = .ok (.bool p.isNone) w := by
        simp only [binOp]; simp [Op.equal, Op.maxDepth, heq]
      cases p with
      | none => exact hn.same h (hm.1 (hp rfl)) (.b true) (hrun (by rw [run_eqGuard_ss]) hr2)
      | some p => exact hn.same h hm.2 (.b false) (hrun (by rw [run_eqGuard_ss]) hr2)
    · simp at hop; subst hop
      have hr2 : (binOp .neq T (.slice p len cap) (.slice none 0 0)).run P w = .ok (.bool (!p.isNone)) w := by
        simp only [binOp]; simp [Op.equal, Op.maxDepth, heq]
      cases p with
      | none => exact hn.same h (hm.1 (hp rfl)) (.b false) (hrun (by rw [run_eqGuard_ss]) hr2)
      | some p => exact hn.same h hm.2 (.b true) (hrun (by rw [run_eqGuard_ss]) hr2)
  · exact hm.elim

theorem S.eqAgg {T T' : TypeId} {op : BinOp} {neg : Bool} {sig : List Bool} {x y : Operand} {x' y' : Opd} (ho : o.op = .binOp op T x y T') (hop : op = if neg then .neq else .eql) (hx : okOpd x x' = true) (hy : okOpd y y' = true)
    (hs : flatTy P 8 T = some sig) (hst : ∃ fs, P.underlying T = some (.struct fs)) (hg : P.eqGuardType P.depth T = false)
    (h : Rel P N A w0 F0 J0 g s a w) (hm : mop false P (.eqAgg neg sig x' y') n s K) (hn : Goes P A w0 F0 J0 g s.hp n o a K next) : o.wp P a w next Q := by
  have rx := h.val hx
  have ry := h.val hy
  simp only [mop] at hm
  split at hm
  · rename_i as bs hb hz
    rw [hb] at rx; rw [hz] at ry
    generalize hv : a.eval x = v at *
    generalize hv' : a.eval y = v' at *
    cases rx with
    | agg us _ hus _ =>
    cases ry with
    | agg vs _ hvs _ =>
    split at hm
    · rename_i b heq
      obtain ⟨s1, s2, hK⟩ := hm
      obtain ⟨fs, hfs⟩ := hst
      have la := sigOK_len s1
      have lb := sigOK_len s2
      have hsz : ∃ inf, P.info? T = some inf ∧ inf.size = sig.length := by
        simp only [flatTy, hfs] at hs
        split at hs
        · split at hs
          · rename_i hc; cases hs; simp at hc; exact hc.2
          · cases hs
        · cases hs
      obtain ⟨inf, hi, hsz⟩ := hsz
      have hpart : ∀ (cs : Array Value), cs.size = sig.length → (part T cs 0).run P w = .ok (.agg cs) w := fun cs hc => by
        simp [part, isAgg, run_underlying hfs, sizeOf, typeInfo, hi, hsz, ← hc]
      have hlu := hus.length
      have hlv := hvs.length
      simp at hlu hlv
      have e := run_equal_flat (P := P) (g := g) (w := w) 8 10000 T sig hs (by omega) us vs 0 as bs b hus hvs (by simpa [la] using s1) (by rw [List.drop_zero, lb, List.take_length]; exact s2)
        (by rw [List.drop_zero, List.drop_zero, la, List.take_length, ← la, lb, List.take_length]; exact heq)
      simp only [Sem.run_bind, hpart us (by omega), hpart vs (by omega), Result.andThen_ok] at e
      have hgd : (eqGuard op T x y (.agg us) (.agg vs)).run P w = .ok () w := by cases op <;> simp [eqGuard, hg]
      refine hn.same h hK (.b _) ?_
      cases neg
      · simp at hop; subst hop
        simp [execOp, ho, hv, hv', hgd, binOp, Op.equal, Op.maxDepth, e]
      · simp at hop; subst hop
        simp [execOp, ho, hv, hv', hgd, binOp, Op.equal, Op.maxDepth, e]
    · exact hm.elim
  · exact hm.elim

theorem S.un {T : TypeId} {op : UnOp} {x : Operand} {x' : Opd} (ho : o.op = .unOp op T x) (hx : okOpd x x' = true)
    (h : Rel P N A w0 F0 J0 g s a w) (hm : mop false P (.un op x') n s K) (hn : Goes P A w0 F0 J0 g s.hp n o a K next) : o.wp P a w next Q := by
  have rx := h.val hx
  simp only [mop] at hm
  split at hm
  · rename_i b hb
    rw [hb] at rx
    generalize hv : a.eval x = v at rx
    cases rx
    exact hn.same h hm (.b _) (by simp [execOp, ho, hv, Op.unary])
  · rename_i k p hb
    rw [hb] at rx
    generalize hv : a.eval x = v at rx
    cases rx
    refine hn.same h hm.2 (.i _ _) ?_
    have := hm.1
    simp only [Fits] at this
    simp [execOp, ho, hv, Op.unary, Op.intArith, this]
  · exact hm.elim

theorem S.conv {T T' : TypeId} {dst : IntKind} {d : TypeDesc} {x : Operand} {x' : Opd} (ho : o.op = .convert T T' x) (hx : okOpd x x' = true) (ht : P.underlying T = some d) (ht' : P.underlying T' = some (.int dst))
    (h : Rel P N A w0 F0 J0 g s a w) (hm : mop false P (.conv dst x') n s K) (hn : Goes P A w0 F0 J0 g s.hp n o a K next) : o.wp P a w next Q := by
  have rx := h.val hx
  simp only [mop] at hm
  split at hm
  · rename_i k p hb
    rw [hb] at rx
    generalize hv : a.eval x = v at rx
    cases rx
    refine hn.same h hm.2 (.i _ _) ?_
    have := hm.1
    simp only [Fits] at this
    simp [execOp, ho, hv, convert, run_underlying ht, run_underlying ht', Conv.intToInt, this]
  · exact hm.elim

theorem S.minmax {mx : Bool} {x y : Operand} {x' y' : Opd} {ts : Array TypeId} (ho : o.op = .call { callee := .builtin (if mx then .max else .min), args := #[x, y], argTypes := ts }) (hx : okOpd x x' = true) (hy : okOpd y y' = true)
    (h : Rel P N A w0 F0 J0 g s a w) (hm : mop false P (.minmax mx x' y') n s K) (hn : Goes P A w0 F0 J0 g s.hp n o a K next) : o.wp P a w next Q := by
  have rx := h.val hx
  have ry := h.val hy
  simp only [mop] at hm
  split at hm
  · rename_i k p k' q hb hz
    rw [hb] at rx; rw [hz] at ry
    generalize hv : a.eval x = v at *
    generalize hv' : a.eval y = v' at *
    cases rx; cases ry
    obtain ⟨rfl, hK⟩ := hm
    refine hn.same h hK (.i _ _) ?_
    cases mx
    · have : (if q < p then q else p) = min p q := by omega
      simp [execOp, ho, resolve, invoke, builtin, Builtin.min_, Builtin.min2, hv, hv', this]
    · have : (if p < q then q else p) = max p q := by omega
      simp [execOp, ho, resolve, invoke, builtin, Builtin.max_, Builtin.max2, hv, hv', this]
  · exact hm.elim

theorem S.nilCheck {x : Operand} {x' : Opd} (ho : o.op = .nilCheck x) (hx : okOpd x x' = true)
    (h : Rel P N A w0 F0 J0 g s a w) (hm : mop false P (.nilCheck x') n s K) (hn : Goes P A w0 F0 J0 g s.hp n o a K next) : o.wp P a w next Q := by
  have rx := h.val hx
  simp only [mop] at hm
  split at hm
  all_goals first | exact hm.elim | skip
  all_goals
    rename_i hb
    rw [hb] at rx
    refine hn.same h hm rx ?_
    generalize hv : a.eval x = v at rx
    cases rx
    simp [execOp, ho, hv]

theorem S.mkfn {f : FuncId} {first caps : Array Operand} {first' caps' : List Opd} (ho : o.op = .makeFunc (.func f) first caps)
    (h1 : first.toList.length = first'.length ∧ ∀ (i : Nat) (x : Operand) (y : Opd), first.toList[i]? = some x → first'[i]? = some y → okOpd x y = true)
    (h2 : caps.toList.length = caps'.length ∧ ∀ (i : Nat) (x : Operand) (y : Opd), caps.toList[i]? = some x → caps'[i]? = some y → okOpd x y = true)
    (h : Rel P N A w0 F0 J0 g s a w) (hm : mop false P (.mkfn f first' caps') n s K) (hn : Goes P A w0 F0 J0 g s.hp n o a K next) : o.wp P a w next Q := by
  have vals : ∀ (xs : Array Operand) (ys : List Opd), (xs.toList.length = ys.length ∧ ∀ (i : Nat) (x : Operand) (y : Opd), xs.toList[i]? = some x → ys[i]? = some y → okOpd x y = true) →
      RVL P g (xs.map a.eval).toList (ys.map s.val) := by
    intro xs ys hh
    refine RVL.of_get (by simpa using hh.1) (fun i v m e1 e2 => ?_)
    simp only [Array.toList_map, List.getElem?_map, Option.map_eq_some_iff] at e1 e2
    obtain ⟨x, hx1, rfl⟩ := e1
    obtain ⟨y, hy1, rfl⟩ := e2
    exact h.val (hh.2 i x y hx1 hy1)
  refine hn.same h hm (RV.clo f _ _ _ _ (vals first first' h1) (vals caps caps' h2)) ?_
  simp [execOp, ho, Instr.makeFunc]

theorem S.field {T f : Nat} {x : Operand} {x' : Opd} {off k : Nat} {ag : Bool} {fs : Array Field} {fd : Field} {d : TypeDesc} {inf : TypeInfo} (ho : o.op = .field T x f) (hx : okOpd x x' = true)
    (ht : P.underlying T = some (.struct fs)) (hf : fs[f]? = some fd) (hoff : fd.offset = off) (hd : P.underlying fd.type = some d) (hag : isAggD d = ag) (hi : P.info? fd.type = some inf) (hsz : inf.size = k) (hk1 : ag = false → k = 1)
    (h : Rel P N A w0 F0 J0 g s a w) (hm : mop false P (.field ag k off x') n s K) (hn : Goes P A w0 F0 J0 g s.hp n o a K next) : o.wp P a w next Q := by
  have rx := h.val hx
  simp only [mop] at hm
  split at hm
  · rename_i cs hb
    rw [hb] at rx
    generalize hv : a.eval x = v at rx
    cases rx with
    | agg us _ hr h1 =>
      have hlen := hr.length
      simp at hlen
      have hget : ∀ j, j < k → us[off + j]? = some (us.toList.getD (off + j) undef) := fun j hj => by simp [List.getD, show off + j < us.size by omega]
      refine hn.same h hm.2 (rv_chunk (vs := fun j => us.toList.getD (off + j) undef) hk1 (fun j hj => hr.getD (off + j) undef) hm.1 (fun j hj => h1 _ ?_)) ?_
      · exact Array.mem_toList_iff.2 (Array.mem_of_getElem? (hget j hj))
      · cases ag with
        | false =>
          have h0 := hget 0 (by rw [hk1 rfl]; omega)
          simp only [Nat.add_zero] at h0
          have hp := run_part_cell (P := P) (w := w) hd hag h0
          simp [execOp, ho, hv, Instr.field, run_underlying ht, hf, asAgg, hoff, hp]
        | true =>
          have e : us.extract off (off + k) = ((List.range k).map fun j => us.toList.getD (off + j) undef).toArray := by
            apply Array.ext'
            rw [Array.toList_extract, List.extract_eq_take_drop]
            refine List.ext_getElem? (fun i => ?_)
            by_cases hik : i < k
            · rw [List.getElem?_take_of_lt (by omega), List.getElem?_drop]
              have := hget i hik
              simp [hik, List.getD, show off + i < us.size by omega]
            · rw [List.getElem?_eq_none (by simp; omega), List.getElem?_eq_none (by simp; omega)]
          cases d <;> simp [isAggD] at hag <;> simp [execOp, ho, hv, Instr.field, run_underlying ht, hf, asAgg, part, isAgg, run_underlying hd, sizeOf, typeInfo, hi, hsz, hoff, e]
  · exact hm.elim

theorem S.arrAddr {T e : TypeId} {len : Nat} {x i : Operand} {x' i' : Opd} {inf : TypeInfo} {k : Nat} (ho : o.op = .indexAddr T x i) (hx : okOpd x x' = true) (hi' : okOpd i i' = true)
    (ht : P.underlying T = some (.array len e)) (hi : P.info? e = some inf) (hk : inf.size = k)
    (h : Rel P N A w0 F0 J0 g s a w) (hm : mop false P (.arrAddr len k x' i') n s K) (hn : Goes P A w0 F0 J0 g s.hp n o a K next) : o.wp P a w next Q := by
  have rx := h.val hx
  have ri := h.val hi'
  simp only [mop] at hm
  have hadd : ∀ (b q m : Nat), (⟨b, q, none⟩ : Addr).add m = ⟨b, q + m, none⟩ := fun b q m => by
    by_cases e : m = 0
    · subst e; simp [Addr.add]
    · simp [Addr.add, e]
  have hrun : ∀ {b q : Nat} {kk : IntKind} {z : Int}, a.eval x = .pointer (some ⟨b, q, none⟩) → a.eval i = .int kk z → 0 ≤ z → z < len →
      (execOp a.eval o).run P w = .ok (.value (.pointer (some ⟨b, q + z.toNat * k, none⟩))) w := by
    intro b q kk z e1 e2 e3 e4
    simp [execOp, ho, e1, e2, Instr.indexAt, asIntOf, run_underlying ht, Instr.sureAddr, e3, e4, sizeOf, typeInfo, hi, hk, hadd]
  split at hm
  · rename_i id j q kk z hb hz
    rw [hb] at rx; rw [hz] at ri
    generalize hv : a.eval x = v at rx
    generalize hv' : a.eval i = v' at ri
    cases ri
    cases rx with
    | pr _ _ _ l hl => exact hn.same h hm.2.2 (RV.pr id j (q + z.toNat * k) l hl) (by rw [hrun hv hv' hm.1 hm.2.1]; simp [Nat.add_assoc])
  · rename_i t cs q kk z hb hz
    rw [hb] at rx; rw [hz] at ri
    generalize hv : a.eval x = v at rx
    generalize hv' : a.eval i = v' at ri
    cases ri
    cases rx with
    | pd _ _ _ bb p cells E z' vs hI hc hr => exact hn.same h hm.2.2 (RV.pd t cs (q + z.toNat * k) bb p cells E z' vs hI hc hr) (by rw [hrun hv hv' hm.1 hm.2.1]; simp [Nat.add_assoc])
  · exact hm.elim

theorem S.arrIndex {T e : TypeId} {len : Nat} {x i : Operand} {x' i' : Opd} {inf : TypeInfo} {k : Nat} {ag : Bool} {d : TypeDesc} (ho : o.op = .index T x i) (hx : okOpd x x' = true) (hi' : okOpd i i' = true)
    (ht : P.underlying T = some (.array len e)) (hi : P.info? e = some inf) (hk : inf.size = k) (hd : P.underlying e = some d) (hag : isAggD d = ag) (hk1 : ag = false → k = 1)
    (h : Rel P N A w0 F0 J0 g s a w) (hm : mop false P (.arrIndex ag len k x' i') n s K) (hn : Goes P A w0 F0 J0 g s.hp n o a K next) : o.wp P a w next Q := by
  have rx := h.val hx
  have ri := h.val hi'
  simp only [mop] at hm
  split at hm
  · rename_i cs kk z hb hz
    rw [hb] at rx; rw [hz] at ri
    generalize hv : a.eval x = v at rx
    generalize hv' : a.eval i = v' at ri
    cases ri
    obtain ⟨e1, e2, e3, hK⟩ := hm
    cases rx with
    | agg us _ hr h1 =>
      have hlen := hr.length
      simp at hlen
      have hget : ∀ j, j < k → us[z.toNat * k + j]? = some (us.toList.getD (z.toNat * k + j) undef) := fun j hj => by simp [List.getD, show z.toNat * k + j < us.size by omega]
      refine hn.same h hK (rv_chunk (vs := fun j => us.toList.getD (z.toNat * k + j) undef) hk1 (fun j hj => hr.getD (z.toNat * k + j) undef) e3 (fun j hj => h1 _ ?_)) ?_
      · exact Array.mem_toList_iff.2 (Array.mem_of_getElem? (hget j hj))
      · cases ag with
        | false =>
          have h0 := hget 0 (by rw [hk1 rfl]; omega)
          simp only [Nat.add_zero] at h0
          have hp := run_part_cell (P := P) (w := w) hd hag h0
          simp [execOp, ho, hv, hv', Instr.index, asIntOf, run_underlying ht, e1, e2, sizeOf, typeInfo, hi, hk, hp]
        | true =>
          have e : us.extract (z.toNat * k) (z.toNat * k + k) = ((List.range k).map fun j => us.toList.getD (z.toNat * k + j) undef).toArray := by
            apply Array.ext'
            rw [Array.toList_extract, List.extract_eq_take_drop]
            refine List.ext_getElem? (fun i => ?_)
            by_cases hik : i < k
            · rw [List.getElem?_take_of_lt (by omega), List.getElem?_drop]
              have := hget i hik
              simp [hik, List.getD, show z.toNat * k + i < us.size by omega]
            · rw [List.getElem?_eq_none (by simp; omega), List.getElem?_eq_none (by simp; omega)]
          cases d <;> simp [isAggD] at hag <;> simp [execOp, ho, hv, hv', Instr.index, asIntOf, run_underlying ht, e1, e2, part, isAgg, run_underlying hd, sizeOf, typeInfo, hi, hk, e]
  · exact hm.elim

theorem S.strIdx {T : TypeId} {bs : ByteArray} {i : Operand} {i' : Opd} {l : List Nat} (ho : o.op = .index T (.const (.string bs)) i) (hi' : okOpd i i' = true)
    (ht : P.underlying T = some .string) (hl : bs.data.toList.map (·.toNat) = l)
    (h : Rel P N A w0 F0 J0 g s a w) (hm : mop false P (.strIdx l i') n s K) (hn : Goes P A w0 F0 J0 g s.hp n o a K next) : o.wp P a w next Q := by
  have ri := h.val hi'
  simp only [mop] at hm
  split at hm
  · rename_i kk z hz
    rw [hz] at ri
    generalize hv' : a.eval i = v' at ri
    cases ri
    obtain ⟨e1, e2, hK⟩ := hm
    have hlen : l.length = bs.size := by rw [← hl, List.length_map]; rfl
    have hlt : z.toNat < bs.size := by omega
    have hlt' : z.toNat < bs.data.toList.length := hlt
    have hget : l.getD z.toNat 0 = (bs[z.toNat]).toNat := by
      rw [← hl, List.getD_eq_getElem?_getD, List.getElem?_map, List.getElem?_eq_getElem hlt']; rfl
    rw [hget] at hK
    have hs : bs[z.toNat]? = some bs[z.toNat] := by rw [getElem?_pos bs z.toNat hlt]
    have hr : (execOp a.eval o).run P w = .ok (.value (.int .u8 (bs[z.toNat]).toNat)) w := by
      have hc : a.eval (.const (.string bs)) = .string bs := rfl
      simp [execOp, ho, hv', hc, Instr.index, asIntOf, run_underlying ht, e1, hs]
    exact hn.same h hK (.i _ _) hr
  · exact hm.elim
end
end Go.Fw
namespace Go.Fw
set_option linter.unusedVariables false
set_option linter.unusedSimpArgs false

theorem splice_length {α : Type} : ∀ (xs cs : List α) (off : Nat), (splice cs off xs).length = cs.length
  | [], cs, off => rfl
  | x :: r, cs, off => by simp [splice, splice_length r]

theorem splice_get {α : Type} : ∀ (xs cs : List α) (off p : Nat), (splice cs off xs)[p]? = if off ≤ p ∧ p < off + xs.length ∧ p < cs.length then xs[p - off]? else cs[p]?
  | [], cs, off, p => by simp [splice]; intro h1 h2; omega
  | x :: r, cs, off, p => by
    rw [splice, splice_get r, List.length_set]
    by_cases h1 : off + 1 ≤ p ∧ p < off + 1 + r.length ∧ p < cs.length
    · rw [if_pos h1, if_pos (by simp; omega)]
      obtain ⟨q, rfl⟩ : ∃ q, p = off + 1 + q := ⟨p - (off + 1), by omega⟩
      rw [show off + 1 + q - (off + 1) = q by omega, show off + 1 + q - off = q + 1 by omega]; rfl
    · rw [if_neg h1, List.getElem?_set]
      by_cases h2 : off = p
      · subst h2
        by_cases h3 : off < cs.length
        · simp [h3]
        · simp [h3]
      · rw [if_neg h2]
        by_cases h3 : off ≤ p ∧ p < off + (x :: r).length ∧ p < cs.length
        · simp at h3; omega
        · rw [if_neg h3]

theorem RVL.splice {P : Program} {g : Env} : ∀ {us : List Value} {xs : List MV} {vs : List Value} {cs : List MV} (off : Nat), RVL P g us xs → RVL P g vs cs → RVL P g (splice vs off us) (Fw.splice cs off xs)
  | [], [], _, _, off, .nil, h => h
  | _ :: _, _ :: _, _, _, off, .cons _ _ _ _ h hs, k => RVL.splice (off + 1) hs (k.set off h)

theorem splice_one {α : Type} (p : α → Prop) : ∀ (xs cs : List α) (off : Nat), (∀ x ∈ xs, p x) → (∀ x ∈ cs, p x) → ∀ x ∈ splice cs off xs, p x
  | [], cs, off, _, h => h
  | x :: r, cs, off, h1, h2 => splice_one p r _ _ (fun y hy => h1 y (List.mem_cons_of_mem _ hy)) (fun y hy => by
      rcases List.mem_or_eq_of_mem_set hy with h | h
      · exact h2 y h
      · subst h; exact h1 _ (by simp))

theorem fold_splice (us : List Value) : ∀ (i : Nat) (off : Nat) (cs : Array Value),
    ((us.zipIdx i).foldl (fun cs (x : Value × Nat) => cs.setIfInBounds (off + x.2) x.1) cs).toList = splice cs.toList (off + i) us := by
  induction us with
  | nil => intro i off cs; rfl
  | cons u r ih =>
    intro i off cs
    rw [List.zipIdx_cons, List.foldl_cons, ih, Array.toList_setIfInBounds, splice]; rfl

section
variable {P : Program} {N : FrS} {A : Nat → Prop} {w0 : World} {F0 : List Nat} {J0 : Imm} {g : Env} {s : MS} {a : Act} {w : World} {hp : List (Nat × MO)}
variable {n : Nat} {o : Oper} {K : MK} {next : Act → World → Prop} {Q : Exit → Act → World → Prop}

theorem RV.cells {v : Value} {m : MV} {cs : List MV} (h : RV P g v m) (hc : m.cells = some cs) : RVL P g v.cells.toList cs ∧ ∀ x ∈ v.cells.toList, x.oneCell' = true := by
  have one : ∀ {v : Value} {m : MV}, RV P g v m → v.cells = #[v] → v.oneCell' = true → RVL P g v.cells.toList [m] ∧ ∀ x ∈ v.cells.toList, x.oneCell' = true := fun r e1 e2 => by
    rw [e1]; exact ⟨.cons _ _ _ _ r .nil, by simpa using e2⟩
  cases h with
  | agg vs _ hr h1 => simp [MV.cells] at hc; subst hc; exact ⟨hr, h1⟩
  | tup => simp [MV.cells] at hc
  | un => simp [MV.cells] at hc
  | u => simp [MV.cells] at hc
  | s t k es v hd =>
    simp [MV.cells] at hc; subst hc
    exact one (.s t k es v hd) (by cases hd <;> rfl) (by cases hd <;> rfl)
  | i => simp [MV.cells] at hc; subst hc; exact one (.i _ _) rfl rfl
  | b => simp [MV.cells] at hc; subst hc; exact one (.b _) rfl rfl
  | nl => simp [MV.cells] at hc; subst hc; exact one (.nl _ _) rfl rfl
  | sr id off len cap l hl h1 h2 => simp [MV.cells] at hc; subst hc; exact one (.sr _ _ _ _ l hl h1 h2) rfl rfl
  | sr0 => simp [MV.cells] at hc; subst hc; exact one (.sr0 _ _ _) rfl rfl
  | sn id off len cap l hl h1 h2 => simp [MV.cells] at hc; subst hc; exact one (.sn _ _ _ _ l hl h1 h2) rfl rfl
  | pr id i off l hl => simp [MV.cells] at hc; subst hc; exact one (.pr _ _ _ l hl) rfl rfl
  | pd t cs' off bb o cells E z vs hI hcc hr => simp [MV.cells] at hc; subst hc; exact one (.pd t cs' off bb o cells E z vs hI hcc hr) rfl rfl
  | fn f fv cv dom φ h0 hh => simp [MV.cells] at hc; subst hc; exact one (.fn f fv cv dom φ h0 hh) rfl rfl
  | pf bb o cells E z v dom φ hI hcc hh => simp [MV.cells] at hc; subst hc; exact one (.pf bb o cells E z v dom φ hI hcc hh) rfl rfl
  | clo f fv cv first caps h1 h2 => simp [MV.cells] at hc; subst hc; exact one (.clo f fv cv first caps h1 h2) rfl rfl
  | nr => simp [MV.cells] at hc

theorem WExt.drew (w : World) (F : List Nat) : WExt w F { w with drawn := w.drawn + 1 } := ⟨rfl, rfl, rfl, Nat.le_refl _, fun _ _ _ => rfl, fun _ cs _ _ h => ⟨cs, h, rfl⟩, Nat.le_succ _⟩

theorem HRel.drew (h : HRel P A w0 F0 J0 g hp w) : HRel P A w0 F0 J0 g hp { w with drawn := w.drawn + 1 } :=
  ⟨fun id o x => (h.objs id o x).move (Env.le.refl g) (fun y => y) (fun _ _ _ _ _ => rfl), h.avail, h.sepB, h.disjB, h.freshB, h.ltB, h.imm, h.JI, h.Jf, h.ext.trans (WExt.drew w F0) (fun _ hb _ => hb)⟩

/-- A slice, read. -/
theorem HRel.slice (h : HRel P A w0 F0 J0 g s.hp w) {v : Value} {m : MV} (hv : RV P g v m) {t : Bool} {k : Nat} {ys : List (List D)} {rs : List Nat} (hs : sliceOf s m = some (t, k, ys, rs)) :
    (∀ e ∈ ys, e.length = k) ∧ ∃ p len cap, v = .slice p len cap ∧ len = ys.length ∧ len ≤ cap ∧
      (ys = [] ∨ ∃ (b q : Nat) (cs : Array Value) (E : TypeId) (z : Nat × Nat), p = some ⟨b, q, none⟩ ∧ w.heap[b]? = some (.cells cs E z) ∧
        (∀ i j, i < ys.length → j < k → ∃ u, cs[q + i * k + j]? = some u ∧ DR (g.im t) u (cellD ys i j)) ∧
        (g.I b ≠ none ∨ ∃ id o l, id ∈ rs ∧ look s.hp id = some o ∧ o.live = true ∧ g.inj id = some l ∧ l.b = b)) := by
  cases m <;> simp [sliceOf] at hs
  case s t' k' es =>
    obtain ⟨rfl, rfl, rfl, rfl⟩ := hs
    cases hv with
    | s _ _ _ _ hd =>
      cases hd with
      | a0 p c => exact ⟨by simp, p, _, _, rfl, rfl, Nat.zero_le _, .inl rfl⟩
      | a b off cap len cs E z _ _ vs hI hlen hk hcap hc hr =>
        have hI' : g.I b = some (.cells cs E z) := by
          cases t'
          · exact hI
          · exact h.JI _ _ hI
        exact ⟨hk, _, len, cap, rfl, hlen, hcap, .inr ⟨b, off, cs, E, z, rfl, h.imm _ _ hI', fun i j hi hj => ⟨vs i j, hc i j hi hj, hr i j hi hj⟩, .inl (by rw [hI']; simp)⟩⟩
  case nl k' =>
    obtain ⟨rfl, rfl, rfl, rfl⟩ := hs
    cases hv with
    | nl p => exact ⟨by simp, p, _, _, rfl, rfl, Nat.le_refl _, .inl rfl⟩
  case sr id off len =>
    have key : ∀ (t' : Bool) (k' : Nat) (es : List (List D)), (s.obj id = some (.arr t' k' es) ∨ s.obj id = some (.fz t' k' es)) → off + len ≤ es.length →
        (∀ e ∈ (es.drop off).take len, e.length = k') ∧ ∃ p len' cap, v = .slice p len' cap ∧ len' = ((es.drop off).take len).length ∧ len' ≤ cap ∧
        ((es.drop off).take len = [] ∨ ∃ (b q : Nat) (cs : Array Value) (E : TypeId) (z : Nat × Nat), p = some ⟨b, q, none⟩ ∧ w.heap[b]? = some (.cells cs E z) ∧
        (∀ i j, i < ((es.drop off).take len).length → j < k' → ∃ u, cs[q + i * k' + j]? = some u ∧ DR (g.im t') u (cellD ((es.drop off).take len) i j)) ∧
        (g.I b ≠ none ∨ ∃ i o l, i ∈ [id] ∧ look s.hp i = some o ∧ o.live = true ∧ g.inj i = some l ∧ l.b = b)) := by
      intro t' k' es hob hle
      have hl : ((es.drop off).take len).length = len := by simp; omega
      have hkk : ∀ e ∈ es, e.length = k' := by
        rcases hob with hob | hob
        · exact (h.objs id _ hob).1
        · exact (h.objs id _ hob).1
      refine ⟨fun e he => hkk e (List.mem_of_mem_drop (List.mem_of_mem_take he)), ?_⟩
      cases hv with
      | sr0 p => exact ⟨p, _, _, rfl, hl.symm, Nat.le_refl _, .inl (by simp)⟩
      | sr _ _ _ cap l hl' h1 h2 =>
        refine ⟨_, _, cap, rfl, hl.symm, h2, ?_⟩
        by_cases he : es = []
        · left; subst he; simp
        · right
          have get : ∃ (cs : Array Value) (E : TypeId) (z : Nat × Nat), w.heap[l.b]? = some (.cells cs E z) ∧ l.k = k' ∧ (∀ i j, i < es.length → j < k' → ∃ u, cs[l.base + i * k' + j]? = some u ∧ DR (g.im t') u (cellD es i j)) ∧
              (g.I l.b ≠ none ∨ ∃ i o l1, i ∈ [id] ∧ look s.hp i = some o ∧ o.live = true ∧ g.inj i = some l1 ∧ l1.b = l.b) := by
            rcases hob with hob | hob
            · obtain ⟨_, ⟨h3, _⟩ | ⟨l', h3, hk, cs, E, h4, _, _, h6⟩⟩ := h.objs id _ hob
              · exact absurd h3 he
              · rw [hl'] at h3; cases h3; exact ⟨cs, E, _, h4, hk, h6, .inr ⟨id, _, l, by simp, hob, rfl, hl', rfl⟩⟩
            · obtain ⟨_, ⟨h3, _⟩ | ⟨l', h3, hk, cs, E, z, h4, _, _, h6⟩⟩ := h.objs id _ hob
              · exact absurd h3 he
              · rw [hl'] at h3; cases h3
                have hI' : g.I l.b = some (.cells cs E z) := by
                  cases t'
                  · exact h4
                  · exact h.JI _ _ h4
                exact ⟨cs, E, z, h.imm _ _ hI', hk, h6, .inl (by rw [hI']; simp)⟩
          obtain ⟨cs, E, z, h4, hk, h6, hwh⟩ := get
          refine ⟨l.b, l.base + off * l.k, cs, E, z, rfl, h4, fun i j hi hj => ?_, hwh⟩
          rw [hl] at hi
          obtain ⟨u, hu, hr⟩ := h6 (off + i) j (by omega) hj
          refine ⟨u, ?_, ?_⟩
          · rw [← hu, hk, Nat.add_mul]; congr 1; omega
          · have : cellD ((es.drop off).take len) i j = cellD es (off + i) j := by
              simp [cellD, List.getD, List.getElem?_take_of_lt hi]
            rw [this]; exact hr
    split at hs
    · rename_i t' k' es hob
      simp at hs
      obtain ⟨hle, rfl, rfl, rfl, rfl⟩ := hs
      exact key _ _ _ (.inl hob) hle
    · rename_i t' k' es hob
      simp at hs
      obtain ⟨hle, rfl, rfl, rfl, rfl⟩ := hs
      exact key _ _ _ (.inr hob) hle
    · simp at hs

/-- A bound's value. -/
def bdV (a : Act) (op : Option Operand) (d l : Nat) : Prop :=
  match op with
  | none => l = d
  | some p => ∃ kk, a.eval p = .int kk l

theorem notin_weak (h : HRel P (fun id => A id ∧ id ≠ n) w0 F0 J0 g hp w) : HRel P (fun id => A id ∧ ¬(n ≤ id ∧ id < n + 64)) w0 F0 J0 g hp w :=
  h.weaken (fun id x => ⟨x.1, fun e => x.2 ⟨by omega, by omega⟩⟩)

/-- A new variable. -/
theorem HRel.newBox (h : HRel P A w0 F0 J0 g hp w) (hA : A n) (T : TypeId) {vs : Array Value} {cs : List MV} (hr : RVL P g vs.toList cs) (h1 : ∀ x ∈ vs.toList, x.oneCell' = true) :
    ∃ g', g.le g' ∧ RV P g' (.pointer (some ⟨w.heap.size, 0, none⟩)) (.pr n 0 0) ∧ HRel P (fun id => A id ∧ id ≠ n) w0 F0 J0 g' (put hp n (.box cs)) (w.alloc (.cells vs T (0, 0))) := by
  have hinj := (h.avail n hA).1
  have hle := Env.le_at (l := ⟨w.heap.size, 0, 1, 1, []⟩) hinj
  refine ⟨g.at n ⟨w.heap.size, 0, 1, 1, []⟩, hle, ?_, h.alloc hA rfl (o := .cells vs T (0, 0)) ⟨⟨w.heap.size, 0, 1, 1, []⟩, vs, T, by simp [Env.at], heap_alloc_new w _, ?_, h1, ?_⟩⟩
  · have := RV.pr (P := P) (g := g.at n ⟨w.heap.size, 0, 1, 1, []⟩) n 0 0 ⟨w.heap.size, 0, 1, 1, []⟩ (by simp [Env.at])
    simpa using this
  · have := hr.length; simp at this; simp; omega
  · have hl := hr.length
    have := RVL.mono hle hr
    simp only [List.drop_zero]
    rw [← hl, List.take_length]; exact this

theorem S.box {T : TypeId} {x : Operand} {x' : Opd} {k : Nat} (ho : o.op = .box T x) (hx : okOpd x x' = true) (hA : ∀ id, n ≤ id → id < n + 64 → A id)
    (h : Rel P N A w0 F0 J0 g s a w) (hm : mop false P (.box k x') n s K) (hn : Goes P A w0 F0 J0 g s.hp n o a K next) : o.wp P a w next Q := by
  have rx := h.val hx
  simp only [mop] at hm
  split at hm
  · rename_i cs hb
    obtain ⟨hc, h1⟩ := rx.cells hb
    obtain ⟨g', hg, hv, hh⟩ := h.hp.newBox (hA n (Nat.le_refl _) (by omega)) T hc h1
    refine wp_val (v := .pointer (some ⟨w.heap.size, 0, none⟩)) (w' := w.alloc (.cells (a.eval x).cells T (0, 0))) ?_ (hn _ _ _ g' _ _ hm.2 hg hv (notin_weak hh))
    simp [execOp, ho, Instr.box, newVar, newRow]
  · exact hm.elim

theorem S.alloc {T : TypeId} {cs : List MV} {inf : TypeInfo} {z : Value} (ho : o.op = .alloc T) (hi : P.info? T = some inf) (hz : inf.zero = some z) (hc : cOKs z.cells.toList cs = true)
    (hA : ∀ id, n ≤ id → id < n + 64 → A id)
    (h : Rel P N A w0 F0 J0 g s a w) (hm : mop false P (.alloc cs) n s K) (hn : Goes P A w0 F0 J0 g s.hp n o a K next) : o.wp P a w next Q := by
  simp only [mop] at hm
  obtain ⟨hr, h1⟩ := cOKs_RV (P := P) (g := g) hc
  obtain ⟨g', hg, hv, hh⟩ := h.hp.newBox (hA n (Nat.le_refl _) (by omega)) T hr h1
  refine wp_val (v := .pointer (some ⟨w.heap.size, 0, none⟩)) (w' := w.alloc (.cells z.cells T (0, 0))) ?_ (hn _ _ _ g' _ _ hm hg hv (notin_weak hh))
  simp [execOp, ho, Instr.alloc, zeroValue, typeInfo, hi, hz, newVar, newRow]

theorem S.slice {T e : TypeId} {x : Operand} {x' : Opd} {lo hi : Option Operand} {lo' hi' : Option Opd} {inf : TypeInfo} {k : Nat} (ho : o.op = .slice T x lo hi none) (hx : okOpd x x' = true)
    (hlo : okOO lo lo' = true) (hhi : okOO hi hi' = true)
    (ht : P.underlying T = some (.slice e)) (hi0 : P.info? e = some inf) (hk : inf.size = k)
    (h : Rel P N A w0 F0 J0 g s a w) (hm : mop false P (.slice k x' lo' hi') n s K) (hn : Goes P A w0 F0 J0 g s.hp n o a K next) : o.wp P a w next Q := by
  have rx := h.val hx
  simp only [mop] at hm
  have hadd : ∀ (p : Option Addr) (c d : Nat), p.map (·.add (c + d)) = (p.map (·.add c)).map (·.add d) := by
    intro p c d
    cases p with
    | none => rfl
    | some p =>
      obtain ⟨b, q, sp⟩ := p
      by_cases hc : c = 0
      · subst hc; simp [Addr.add]
      · by_cases hd : d = 0
        · subst hd; simp [Addr.add]
        · simp [Addr.add, hc, hd, Nat.add_assoc]
  have bnd : ∀ (d : Nat) (op : Option Operand) (op' : Option Opd) (Kb : Nat → Prop), okOO op op' = true → bound s d op' Kb →
      ∃ l, Kb l ∧ bdV a op d l := by
    intro d op op' Kb hop hb
    cases op with
    | none =>
      cases op' with
      | none => exact ⟨d, hb, rfl⟩
      | some => cases hop
    | some p =>
      cases op' with
      | none => cases hop
      | some q =>
        simp only [bound] at hb
        have rp := h.val hop
        split at hb
        · rename_i kk z hz
          rw [hz] at rp
          generalize hv : a.eval p = v at rp
          cases rp
          exact ⟨z.toNat, hb.2, kk, by rw [show ((z.toNat : Nat) : Int) = z by omega]; exact hv⟩
        · exact hb.elim
  have hrun : ∀ {p : Option Addr} {len cap l hh : Nat}, a.eval x = .slice p len cap → len ≤ cap → l ≤ hh → hh ≤ cap →
      bdV a lo 0 l → bdV a hi len hh →
      (execOp a.eval o).run P w = .ok (.value (.slice (if cap = l then p else p.map (·.add (l * k))) (hh - l) (cap - l))) w := by
    intro p len cap l hh e1 e2 e3 e4 e5 e6
    have hlc : hh ≤ cap := e4
    have hlc' : l ≤ cap := by omega
    cases lo with
    | none =>
      simp only [bdV] at e5; subst e5
      cases hi with
      | none =>
        simp only [bdV] at e6; subst e6
        simp [execOp, ho, e1, Instr.sliceAt, run_underlying ht, Instr.slice, Instr.sliceBounds, sizeOf, typeInfo, hi0, hk]
      | some q =>
        obtain ⟨kk, e6⟩ := e6
        simp [execOp, ho, e1, Instr.sliceAt, run_underlying ht, Instr.slice, Instr.sliceBounds, Instr.sliceBound, asIntOf, e6, hlc, sizeOf, typeInfo, hi0, hk]
    | some q =>
      obtain ⟨kk, e5⟩ := e5
      cases hi with
      | none =>
        simp only [bdV] at e6; subst e6
        simp [execOp, ho, e1, Instr.sliceAt, run_underlying ht, Instr.slice, Instr.sliceBounds, Instr.sliceBound, asIntOf, e5, e3, sizeOf, typeInfo, hi0, hk]
      | some r =>
        obtain ⟨kk', e6⟩ := e6
        simp [execOp, ho, e1, Instr.sliceAt, run_underlying ht, Instr.slice, Instr.sliceBounds, Instr.sliceBound, asIntOf, e5, e6, hlc, e3, sizeOf, typeInfo, hi0, hk]
  split at hm
  · rename_i id off len hb
    rw [hb] at rx
    generalize hv : a.eval x = v at rx
    have key : ∀ k', (∀ l, g.inj id = some l → l.k = k') → k' = k → (bound s 0 lo' fun l => bound s len hi' fun hh => l ≤ hh ∧ hh ≤ len ∧ K (.sr id (off + l) (hh - l)) [] [id]) → o.wp P a w next Q := by
      intro k' hlk e1 hbb
      obtain ⟨l, hbb, el⟩ := bnd _ _ _ _ hlo hbb
      obtain ⟨hh, ⟨e3, e4, hK⟩, eh⟩ := bnd _ _ _ _ hhi hbb
      cases rx with
      | sr _ _ _ cap lc hl h1 h2 =>
        have hkk := hlk lc hl
        by_cases ec : cap = l
        · refine hn.same h hK ?_ (hrun hv h2 e3 (by omega) el eh)
          have : hh - l = 0 := by omega
          rw [this, show cap - l = 0 by omega]; exact .sr0 _ _ _
        · refine hn.same h hK (v := .slice (some ⟨lc.b, lc.base + (off + l) * lc.k, none⟩) (hh - l) (cap - l)) (.sr _ _ _ (cap - l) lc hl (by omega) (by omega)) ?_
          rw [hrun hv h2 e3 (by omega) el eh, if_neg ec]
          have : (⟨lc.b, lc.base + off * lc.k, none⟩ : Addr).add (l * k) = ⟨lc.b, lc.base + (off + l) * lc.k, none⟩ := by
            rw [hkk, e1, Nat.add_mul]
            by_cases e0 : l * k = 0
            · simp [Addr.add, e0]
            · simp [Addr.add, e0]; omega
          simp [this]
      | sr0 p =>
        refine hn.same h hK ?_ (hrun hv (Nat.le_refl _) e3 e4 el eh)
        have : hh - l = 0 := by omega
        rw [this, show 0 - l = 0 by omega]; exact .sr0 _ _ _
    split at hm
    · rename_i t k' es hob
      refine key k' (fun l hl => ?_) hm.1 hm.2
      obtain ⟨_, ⟨_, h2⟩ | ⟨l', h2, hk', _⟩⟩ := h.hp.objs id _ hob
      · rw [hl] at h2; cases h2
      · rw [hl] at h2; cases h2; exact hk'
    · rename_i t k' es hob
      refine key k' (fun l hl => ?_) hm.1 hm.2
      obtain ⟨_, ⟨_, h2⟩ | ⟨l', h2, hk', _⟩⟩ := h.hp.objs id _ hob
      · rw [hl] at h2; cases h2
      · rw [hl] at h2; cases h2; exact hk'
    · rename_i t k' es C hob
      obtain ⟨_, l', h2, hC, hk', _⟩ := h.hp.objs id _ hob
      obtain ⟨e1, hlen0, hbb⟩ := hm
      obtain ⟨l, hbb, el⟩ := bnd _ _ _ _ hlo hbb
      obtain ⟨hh, ⟨e3, e4, hK⟩, eh⟩ := bnd _ _ _ _ hhi hbb
      cases rx with
      | sr _ _ _ cap lc hl h1 h2' =>
        rw [hl] at h2; cases h2
        have hle2 := h2'
        have e4' : hh ≤ cap := by omega
        by_cases ec : cap = l
        · refine hn.same h hK ?_ (hrun hv h2' e3 e4' el eh)
          have : hh - l = 0 := by omega
          rw [this, show cap - l = 0 by omega]; exact .sr0 _ _ _
        · refine hn.same h hK (v := .slice (some ⟨l'.b, l'.base + (off + l) * l'.k, none⟩) (hh - l) (cap - l)) (.sr _ _ _ (cap - l) l' hl (by omega) (by omega)) ?_
          rw [hrun hv h2' e3 e4' el eh, if_neg ec]
          have : (⟨l'.b, l'.base + off * l'.k, none⟩ : Addr).add (l * k) = ⟨l'.b, l'.base + (off + l) * l'.k, none⟩ := by
            rw [hk', e1, Nat.add_mul]
            by_cases e0 : l * k = 0
            · simp [Addr.add, e0]
            · simp [Addr.add, e0]; omega
          simp [this]
      | sr0 p => omega
    · exact hm.elim
  · rename_i t k' es hb
    rw [hb] at rx
    generalize hv : a.eval x = v at rx
    obtain ⟨rfl, hbb⟩ := hm
    obtain ⟨l, hbb, el⟩ := bnd _ _ _ _ hlo hbb
    obtain ⟨hh, ⟨e3, e4, hK⟩, eh⟩ := bnd _ _ _ _ hhi hbb
    have hl2 : ((es.drop l).take (hh - l)).length = hh - l := by simp; omega
    cases rx with
    | s _ _ _ _ hd =>
      cases hd with
      | a0 p c =>
        refine hn.same h hK ?_ (hrun hv (Nat.zero_le _) e3 (by simp at e4; omega) el eh)
        have : hh - l = 0 := by simp at e4; omega
        rw [this]; refine .s _ _ _ _ ?_
        rw [List.take_zero]; exact .a0 _ _ _
      | a b off cap len cs E z _ _ vs hI hlen hkk hcap hc hr =>
        subst hlen
        by_cases ec : cap = l
        · refine hn.same h hK ?_ (hrun hv hcap e3 (by omega) el eh)
          have : hh - l = 0 := by omega
          rw [this]; refine .s _ _ _ _ ?_
          rw [List.take_zero]; exact .a0 _ _ _
        · refine hn.same h hK (v := .slice (some ⟨b, off + l * k', none⟩) (hh - l) (cap - l)) ?_ ?_
          · refine .s _ _ _ _ (.a b (off + l * k') (cap - l) (hh - l) cs E z _ _ (fun i j => vs (l + i) j) hI hl2.symm (fun e he => hkk e (List.mem_of_mem_drop (List.mem_of_mem_take he))) (by omega) (fun i j hi hj => ?_) (fun i j hi hj => ?_))
            · rw [hl2] at hi
              rw [← hc (l + i) j (by omega) hj, Nat.add_mul]; congr 1; omega
            · rw [hl2] at hi
              have : cellD ((es.drop l).take (hh - l)) i j = cellD es (l + i) j := by
                simp [cellD, List.getD, List.getElem?_take_of_lt hi]
              rw [this]; exact hr (l + i) j (by omega) hj
          · rw [hrun hv hcap e3 (by omega) el eh, if_neg ec]
            have : (⟨b, off, none⟩ : Addr).add (l * k') = ⟨b, off + l * k', none⟩ := by
              by_cases e0 : l * k' = 0
              · simp [Addr.add, e0]
              · simp [Addr.add, e0]
            simp [this]
  · rename_i k' hb
    rw [hb] at rx
    generalize hv : a.eval x = v at rx
    obtain ⟨l, hbb, el⟩ := bnd _ _ _ _ hlo hm
    obtain ⟨hh, ⟨rfl, rfl, hK⟩, eh⟩ := bnd _ _ _ _ hhi hbb
    cases rx with
    | nl p => exact hn.same h hK (.nl _ _) (by rw [hrun hv (Nat.le_refl _) (Nat.le_refl _) (Nat.le_refl _) el eh])
  · exact hm.elim
end
end Go.Fw
namespace Go.Fw
set_option linter.unusedVariables false
set_option linter.unusedSimpArgs false
section
variable {P : Program} {N : FrS} {A : Nat → Prop} {w0 : World} {F0 : List Nat} {J0 : Imm} {g : Env} {s : MS} {a : Act} {w : World} {hp : List (Nat × MO)}
variable {n : Nat} {o : Oper} {K : MK} {next : Act → World → Prop} {Q : Exit → Act → World → Prop}

theorem upds_append (hp : List (Nat × MO)) : ∀ (u v : Upd), upds hp (u ++ v) = upds (upds hp u) v := by
  intro u
  induction u generalizing hp with
  | nil => intro v; rfl
  | cons x r ih =>
    intro v
    obtain ⟨id, o⟩ := x
    cases o <;> simp only [List.cons_append, upds, ih]

/-- Every entry freezes an array of hp. -/
def Frz (hp : List (Nat × MO)) (u : Upd) : Prop := ∀ x ∈ u, ∃ t k es, x.2 = some (.fz t k es) ∧ look hp x.1 = some (.arr t k es)

theorem HRel.freezes (hp0 : List (Nat × MO)) : ∀ (u : Upd) {hp : List (Nat × MO)} {g : Env}, HRel P A w0 F0 J0 g hp w → Frz hp0 u →
    (∀ id o, look hp0 id = some o → look hp id = some o ∨ ∃ t k es, o = .arr t k es ∧ look hp id = some (.fz t k es)) →
    ∃ g', g.le g' ∧ g'.inj = g.inj ∧ HRel P A w0 F0 J0 g' (upds hp u) w ∧
      (∀ id o, look hp0 id = some o → look (upds hp u) id = some o ∨ ∃ t k es, o = .arr t k es ∧ look (upds hp u) id = some (.fz t k es)) ∧
      (∀ id, (∀ x ∈ u, x.1 ≠ id) → look (upds hp u) id = look hp id) ∧
      (∀ x ∈ u, ∃ t k es, look hp0 x.1 = some (.arr t k es) ∧ look (upds hp u) x.1 = some (.fz t k es)) := by
  intro u
  induction u with
  | nil => intro hp g h _ hinv; exact ⟨g, Env.le.refl g, rfl, h, hinv, fun _ _ => rfl, by simp⟩
  | cons x r ih =>
    intro hp g h hf hinv
    obtain ⟨t, k, es, e1, e2⟩ := hf x (by simp)
    obtain ⟨id, ox⟩ := x
    simp at e1 e2; subst e1
    have hr : Frz hp0 r := fun y hy => hf y (List.mem_cons_of_mem _ hy)
    have step : ∃ g1, g.le g1 ∧ g1.inj = g.inj ∧ HRel P A w0 F0 J0 g1 (put hp id (.fz t k es)) w := by
      rcases hinv id _ e2 with hl | ⟨t', k', es', e3, hl⟩
      · exact h.freeze hl
      · cases e3
        refine ⟨g, Env.le.refl g, rfl, ?_⟩
        have same : ∀ i, look (put hp id (.fz t k es)) i = look hp i := fun i => by
          rw [look_put]; by_cases e : id = i
          · subst e; simp [hl]
          · simp [e]
        exact ⟨fun i o x => h.objs i o (by rwa [same] at x), fun i x => ⟨(h.avail i x).1, by rw [same]; exact (h.avail i x).2⟩,
          fun i1 i2 o1 o2 l1 l2 a1 a2 => h.sepB i1 i2 o1 o2 l1 l2 (by rwa [same] at a1) (by rwa [same] at a2), fun i o l a1 => h.disjB i o l (by rwa [same] at a1),
          fun i o l a1 => h.freshB i o l (by rwa [same] at a1), fun i o l a1 => h.ltB i o l (by rwa [same] at a1), h.imm, h.JI, h.Jf, h.ext⟩
    obtain ⟨g1, hg1, hi1, h1⟩ := step
    have hinv1 : ∀ i o, look hp0 i = some o → look (put hp id (.fz t k es)) i = some o ∨ ∃ t2 k2 es2, o = .arr t2 k2 es2 ∧ look (put hp id (.fz t k es)) i = some (.fz t2 k2 es2) := fun i o hio => by
      by_cases e : id = i
      · subst e
        rw [e2] at hio; cases hio
        exact .inr ⟨t, k, es, rfl, by rw [look_put]; simp⟩
      · simp only [look_put, if_neg e]; exact hinv i o hio
    obtain ⟨g2, hg2, hi2, h2, hinv2, hoth, hall⟩ := ih h1 hr hinv1
    refine ⟨g2, hg1.trans hg2, hi2.trans hi1, by simpa [upds] using h2, by simpa [upds] using hinv2, fun i hi => ?_, fun x hx => ?_⟩
    · simp only [upds]
      rw [hoth i (fun y hy => hi y (List.mem_cons_of_mem _ hy)), look_put, if_neg (hi (id, some (.fz t k es)) (by simp))]
    · simp only [upds]
      rcases List.mem_cons.1 hx with e | hx
      · subst e
        refine ⟨t, k, es, e2, ?_⟩
        rcases hinv2 id _ e2 with hl | ⟨t', k', es', e3, hl⟩
        · by_cases hin : ∃ y ∈ r, y.1 = id
          · obtain ⟨y, hy, e⟩ := hin
            obtain ⟨t', k', es', f1, f2⟩ := hall y hy
            rw [e, e2] at f1; cases f1
            rw [e] at f2; exact f2
          · rw [hoth id (fun y hy e => hin ⟨y, hy, e⟩), look_put]; simp
        · cases e3; exact hl
      · exact hall x hx

theorem toD_frz {m : MV} {t d u} (hd : toD s m = some (t, d, u)) : Frz s.hp u := by
  intro x hx
  cases m <;> simp [toD] at hd
  case i => obtain ⟨_, _, rfl⟩ := hd; cases hx
  case b => obtain ⟨_, _, rfl⟩ := hd; cases hx
  case s => obtain ⟨_, _, rfl⟩ := hd; cases hx
  case nl => obtain ⟨_, _, rfl⟩ := hd; cases hx
  case sr id off len =>
    split at hd
    · rename_i t' k' es hob
      simp at hd
      obtain ⟨_, rfl, rfl, rfl⟩ := hd
      simp at hx; subst hx
      exact ⟨_, _, _, rfl, hob⟩
    · simp at hd
      obtain ⟨_, rfl, rfl, rfl⟩ := hd
      cases hx
    · simp at hd

theorem toDs_frz : ∀ {ms : List MV} {t ds u}, toDs s ms = some (t, ds, u) → Frz s.hp u := by
  intro ms
  induction ms with
  | nil => intro t ds u h; simp [toDs] at h; obtain ⟨_, _, rfl⟩ := h; intro x hx; cases hx
  | cons m r ih =>
    intro t ds u h
    simp only [toDs] at h
    split at h
    · rename_i t1 d1 u1 h1
      split at h
      · rename_i t2 d2 u2 h2
        cases h
        intro x hx
        rcases List.mem_append.1 hx with hx | hx
        · exact toD_frz h1 x hx
        · exact ih h2 x hx
      · cases h
    · cases h

/-- The data of a cell, once the objects are frozen. -/
theorem toD_DR {g' : Env} {hp' : List (Nat × MO)} (h' : HRel P A w0 F0 J0 g' hp' w) (hle : g.le g') {v : Value} {m : MV} (hv : RV P g v m) {t d u} (hd : toD s m = some (t, d, u))
    (hfz : ∀ x ∈ u, ∃ t k es, s.obj x.1 = some (.arr t k es) ∧ look hp' x.1 = some (.fz t k es))
    (hfz2 : ∀ id t k es, s.obj id = some (.fz t k es) → look hp' id = some (.fz t k es)) : DR (g'.im t) v d := by
  cases m <;> simp [toD] at hd
  case i => obtain ⟨rfl, rfl, rfl⟩ := hd; cases hv; exact .i _ _
  case b => obtain ⟨rfl, rfl, rfl⟩ := hd; cases hv; exact .b _
  case s => obtain ⟨rfl, rfl, rfl⟩ := hd; cases hv with | s _ _ _ _ hh => exact hh.mono (hle.im _)
  case nl => obtain ⟨rfl, rfl, rfl⟩ := hd; cases hv; exact .a0 _ _ _
  case sr id off len =>
    have key : ∀ (t' : Bool) (k' : Nat) (es : List (List D)), look hp' id = some (.fz t' k' es) → off + len ≤ es.length → DR (g'.im t') v (.a k' ((es.drop off).take len)) := by
      intro t' k' es hl hle'
      have hlen : ((es.drop off).take len).length = len := by simp; omega
      obtain ⟨hkk, hrep⟩ := h'.objs id _ hl
      cases hv with
      | sr0 p => rw [List.take_zero]; exact .a0 _ _ _
      | sr _ _ _ cap l hlj h1 h2 =>
        have hlj' := hle.inj _ _ hlj
        rcases hrep with ⟨_, h3⟩ | ⟨l', h3, hk, cs, E, z, hI, hsz, hC, hc⟩
        · rw [hlj'] at h3; cases h3
        · rw [hlj'] at h3; cases h3
          refine .a l.b (l.base + off * l.k) cap len cs E z k' _ (fun i j => cs.getD (l.base + (off + i) * k' + j) undef) hI hlen.symm (fun e he => hkk e (List.mem_of_mem_drop (List.mem_of_mem_take he))) h2 (fun i j hi hj => ?_) (fun i j hi hj => ?_)
          · rw [hlen] at hi
            obtain ⟨u', hu, _⟩ := hc (off + i) j (by omega) hj
            show _ = some (cs.getD _ undef)
            rw [Array.getD_eq_getD_getElem?, hu, ← hu, hk, Nat.add_mul]
            rw [show l.base + off * k' + i * k' + j = l.base + (off * k' + i * k') + j by omega, ← Nat.add_mul, hu]; rfl
          · rw [hlen] at hi
            obtain ⟨u', hu, hr⟩ := hc (off + i) j (by omega) hj
            have e1 : cellD ((es.drop off).take len) i j = cellD es (off + i) j := by simp [cellD, List.getD, List.getElem?_take_of_lt hi]
            rw [e1]
            show DR _ (cs.getD _ undef) _
            rw [Array.getD_eq_getD_getElem?, hu]; exact hr
    split at hd
    · rename_i t' k' es hob
      simp at hd
      obtain ⟨hle', rfl, rfl, rfl⟩ := hd
      obtain ⟨t2, k2, es2, f1, f2⟩ := hfz (id, some (.fz t' k' es)) (by simp)
      rw [show s.obj id = _ from hob] at f1; cases f1
      exact key _ _ _ f2 hle'
    · rename_i t' k' es hob
      simp at hd
      obtain ⟨hle', rfl, rfl, rfl⟩ := hd
      exact key _ _ _ (hfz2 id _ _ _ hob) hle'
    · simp at hd

theorem toDs_DR {g' : Env} {hp' : List (Nat × MO)} (h' : HRel P A w0 F0 J0 g' hp' w) (hle : g.le g')
    (hfz2 : ∀ id t k es, s.obj id = some (.fz t k es) → look hp' id = some (.fz t k es)) : ∀ {vs : List Value} {ms : List MV} {t ds u}, RVL P g vs ms → toDs s ms = some (t, ds, u) →
    (∀ x ∈ u, ∃ t k es, s.obj x.1 = some (.arr t k es) ∧ look hp' x.1 = some (.fz t k es)) →
    ds.length = vs.length ∧ ∀ j v, vs[j]? = some v → DR (g'.im t) v (ds.getD j default) := by
  intro vs
  induction vs with
  | nil => intro ms t ds u hr h _; cases hr; simp [toDs] at h; obtain ⟨_, rfl, _⟩ := h; exact ⟨rfl, by simp⟩
  | cons v vs ih =>
    intro ms t ds u hr h hf
    cases hr with
    | cons _ _ m ms hv hvs =>
      simp only [toDs] at h
      split at h
      · rename_i t1 d1 u1 h1
        split at h
        · rename_i t2 d2 u2 h2
          cases h
          have hd1 := toD_DR h' hle hv h1 (fun x hx => hf x (List.mem_append_left _ hx)) hfz2
          have hd2 := ih hvs h2 (fun x hx => hf x (List.mem_append_right _ hx))
          have mono1 : ∀ b o, g'.im t1 b = some o → g'.im false b = some o := fun b o x => by cases t1; exact x; exact h'.JI b o x
          refine ⟨by simp [hd2.1], fun j v' hj => ?_⟩
          have weak : ∀ (ta tb : Bool) {v : Value} {d : D}, DR (g'.im ta) v d → (ta && tb) = true ∨ (ta && tb) = false → DR (g'.im (ta && tb)) v d := fun ta tb v d hh hc => by
            cases ta <;> cases tb <;> first | exact hh | exact hh.mono (fun b o x => h'.JI b o x)
          cases j with
          | zero => simp at hj; subst hj; exact weak t1 t2 hd1 (by cases (t1 && t2) <;> simp)
          | succ j =>
            simp at hj
            have := hd2.2 j v' hj
            rw [Bool.and_comm]
            exact weak t2 t1 this (by cases (t2 && t1) <;> simp)
        · cases h
      · cases h
end
end Go.Fw
namespace Go.Fw
set_option linter.unusedVariables false
set_option linter.unusedSimpArgs false
section
variable {P : Program} {N : FrS} {A : Nat → Prop} {w0 : World} {F0 : List Nat} {J0 : Imm} {g : Env} {s : MS} {a : Act} {w : World} {hp : List (Nat × MO)}
variable {n : Nat} {o : Oper} {K : MK} {next : Act → World → Prop} {Q : Exit → Act → World → Prop}

theorem splice_eq {α : Type} (cs : List α) (off : Nat) (xs : List α) (h : off + xs.length ≤ cs.length) : cs.take off ++ xs ++ cs.drop (off + xs.length) = splice cs off xs := by
  refine List.ext_getElem? (fun p => ?_)
  rw [splice_get]
  by_cases h1 : p < off
  · rw [if_neg (by omega), List.append_assoc, List.getElem?_append_left (by simp; omega), List.getElem?_take_of_lt h1]
  · by_cases h2 : p < off + xs.length
    · rw [if_pos ⟨by omega, h2, by omega⟩, List.append_assoc, List.getElem?_append_right (by simp; omega), List.getElem?_append_left (by simp; omega)]
      congr 1; simp; omega
    · rw [if_neg (by omega), List.getElem?_append_right (by simp; omega), List.getElem?_drop]
      congr 1; simp; omega

/-- The world behind a store. -/
theorem WExt.setRow {b : Nat} {cs cs' : Array Value} {E : TypeId} {z : Nat × Nat} (hb : w.heap[b]? = some (.cells cs E z)) (hs : cs'.size = cs.size) : WExt w [b] (w.setRow b cs') := by
  refine ⟨rfl, rfl, rfl, by simp [World.setRow], fun c hc hn => setRow_other w b c cs' (by simpa using hn), fun c cs1 E1 z1 h1 => ?_, Nat.le_refl _⟩
  by_cases e : c = b
  · subst e
    rw [hb] at h1; cases h1
    exact ⟨cs', setRow_heap w c cs cs' E z hb, hs⟩
  · exact ⟨cs1, by rw [setRow_other w b c cs' e]; exact h1, rfl⟩

theorem run_storeAt {T : TypeId} {inf : TypeInfo} {k b q : Nat} {v : Value} {cs : Array Value} {E : TypeId} (hi : P.info? T = some inf) (hk : inf.size = k)
    (hv : v.cells.toList.length = k) (h1 : ∀ x ∈ v.cells.toList, x.oneCell' = true) (hb : w.heap[b]? = some (.cells cs E (0, 0))) (hq : q + k ≤ cs.size) :
    (Instr.storeAt T (.pointer (some ⟨b, q, none⟩)) v).run P w = .ok () (w.setRow b (splice cs.toList q v.cells.toList).toArray) := by
  have hst := run_storeCells_at P b q E v.cells.toList 0 cs w hb (by simpa [hv] using hq) h1
  simp only [Nat.add_zero] at hst
  rw [splice_eq _ _ _ (by simp at hv ⊢; omega)] at hst
  simp at hv
  simp [Instr.storeAt, Instr.sureAddr, storeVar, sizeOf, typeInfo, hi, hk, hv, hst]

theorem S.store {T : TypeId} {x y : Operand} {x' y' : Opd} {inf : TypeInfo} {k : Nat} (ho : o.op = .store T x y) (hx : okOpd x x' = true) (hy : okOpd y y' = true) (hi : P.info? T = some inf) (hk : inf.size = k)
    (h : Rel P N A w0 F0 J0 g s a w) (hm : mop false P (.store k x' y') n s K) (hn : Goes P A w0 F0 J0 g s.hp n o a K next) : o.wp P a w next Q := by
  have rx := h.val hx
  have ry := h.val hy
  simp only [mop] at hm
  split at hm
  · rename_i id i off xs hb hxs
    obtain ⟨hc, h1⟩ := ry.cells hxs
    obtain ⟨hlen, hm⟩ := hm
    have hvl : (a.eval y).cells.toList.length = k := by rw [hc.length, hlen]
    rw [hb] at rx
    generalize hv : a.eval x = v at rx
    cases rx with
    | pr _ _ _ l hl =>
      split at hm
      · rename_i t k' es hob
        split at hm
        · rename_i t' ds u hds
          obtain ⟨hne, hi1, hk1, hK⟩ := hm
          replace hK := hK.get hi1
          obtain ⟨g1, hg1, hi2, h2, hinv, hoth, hall⟩ := h.hp.freezes s.hp u (toDs_frz hds) (fun id o x => .inl x)
          have hlook : look (upds s.hp u) id = some (.arr t k' es) := by rw [hoth id hne]; exact hob
          have hD := toDs_DR (g := g) h2 hg1 (fun i t1 k1 es1 hf => by
            rcases hinv i _ hf with e | ⟨_, _, _, e, _⟩
            · exact e
            · cases e) hc hds (fun x hx => hall x hx)
          obtain ⟨hkk, ⟨he, _⟩ | ⟨l', hl', hlk, cs, E, h3, h4, h5, h6⟩⟩ := h2.objs id _ hlook
          · subst he; simp at hi1
          · have hl1 := hg1.inj _ _ hl
            rw [hl1] at hl'; cases hl'
            have hfit : l.base + i * l.k + off + k ≤ cs.size := by
              have : (i + 1) * k' ≤ l.C * k' := Nat.mul_le_mul_right _ (by omega)
              rw [hlk]; rw [Nat.add_mul] at this; omega
            have hdl : ds.length = k := by rw [hD.1, hvl]
            have hw := WExt.setRow (w := w) (cs' := (splice cs.toList (l.base + i * l.k + off) (a.eval y).cells.toList).toArray) h3 (by simp [splice_length])
            refine wp_skp (w' := w.setRow l.b (splice cs.toList (l.base + i * l.k + off) (a.eval y).cells.toList).toArray) ?_ (hn _ _ _ g1 _ undef hK hg1 .un ?_)
            · have := run_storeAt (P := P) (w := w) hi hk hvl h1 h3 hfit
              simp [execOp, ho, hv, this]
            · rw [upds_append]
              show HRel _ _ _ _ _ _ (put (upds s.hp u) id (.arr (t && t') k' (es.set i (splice (es.getD i []) off ds)))) _
              refine ((h2.write (mo' := .arr (t && t') k' (es.set i (splice (es.getD i []) off ds))) hlook rfl hl1 rfl hw ⟨?_, .inr ⟨l, hl1, hlk, _, E, setRow_heap w l.b cs _ E _ h3, by simp [splice_length]; omega, by simpa using h5, fun i' j' hi' hj' => ?_⟩⟩).weaken (fun _ x => x.1))
              · intro e he
                rcases List.mem_or_eq_of_mem_set he with he | he
                · exact hkk e he
                · subst he; rw [splice_length]; exact hkk _ (by simp [List.getD, List.getElem?_eq_getElem hi1])
              · simp at hi'
                obtain ⟨v0, hv0, hr0⟩ := h6 i' j' hi' hj'
                have weakJ : ∀ (ta tb : Bool) {v : Value} {d : D}, DR (g1.im ta) v d → DR (g1.im (ta && tb)) v d := fun ta tb v d hh => by
                  cases ta <;> cases tb <;> first | exact hh | exact hh.mono (fun b o x => h2.JI b o x)
                have hel : (es.getD i []).length = k' := hkk _ (by simp [List.getD, List.getElem?_eq_getElem hi1])
                rw [List.getElem?_toArray, splice_get]
                by_cases hii : i' = i
                · subst hii
                  by_cases hin : off ≤ j' ∧ j' < off + k
                  · refine ⟨(a.eval y).cells.toList.getD (j' - off) undef, ?_, ?_⟩
                    · rw [if_pos ⟨by rw [hlk]; omega, by rw [hlk, hvl]; omega, by rw [hlk] at hfit; simp; omega⟩]
                      rw [show l.base + i' * k' + j' - (l.base + i' * l.k + off) = j' - off by rw [hlk]; omega]
                      simp [List.getD, show j' - off < (a.eval y).cells.size by simp at hvl; omega]
                    · have hh := hD.2 (j' - off) ((a.eval y).cells.toList.getD (j' - off) undef) (by simp [List.getD, show j' - off < (a.eval y).cells.size by simp at hvl; omega])
                      have e1 : cellD (es.set i' (splice (es.getD i' []) off ds)) i' j' = ds.getD (j' - off) default := by
                        simp only [cellD]
                        rw [show (es.set i' (splice (es.getD i' []) off ds)).getD i' [] = splice (es.getD i' []) off ds by simp [List.getD, hi1]]
                        simp only [List.getD]
                        rw [splice_get, if_pos ⟨hin.1, by omega, by have := hel; simp only [List.getD] at this; omega⟩]
                      rw [e1, Bool.and_comm]; exact weakJ _ _ hh
                  · refine ⟨v0, ?_, ?_⟩
                    · rw [if_neg (by rw [hlk, hvl]; omega)]
                      simpa using hv0
                    · have e1 : cellD (es.set i' (splice (es.getD i' []) off ds)) i' j' = cellD es i' j' := by
                        simp only [cellD]
                        rw [show (es.set i' (splice (es.getD i' []) off ds)).getD i' [] = splice (es.getD i' []) off ds by simp [List.getD, hi1]]
                        simp only [List.getD]
                        rw [splice_get, if_neg (by omega)]
                      rw [e1]; exact weakJ _ _ hr0
                · refine ⟨v0, ?_, ?_⟩
                  · rw [if_neg]
                    · simpa using hv0
                    · rw [hlk, hvl]
                      rcases Nat.lt_or_gt_of_ne hii with hlt | hgt
                      · have : (i' + 1) * k' ≤ i * k' := Nat.mul_le_mul_right _ hlt
                        rw [Nat.add_mul] at this; omega
                      · have : (i + 1) * k' ≤ i' * k' := Nat.mul_le_mul_right _ hgt
                        rw [Nat.add_mul] at this; omega
                  · have e1 : cellD (es.set i (splice (es.getD i []) off ds)) i' j' = cellD es i' j' := by
                      simp [cellD, List.getD, List.getElem?_set, Ne.symm hii]
                    rw [e1]; exact weakJ _ _ hr0
        · exact hm.elim
      · rename_i cs hob
        obtain ⟨rfl, hk1, hK⟩ := hm
        obtain ⟨l', cells, E, hl', h3, h4, h5, h6⟩ := h.hp.objs id _ hob
        rw [hl] at hl'; cases hl'
        have hfit : l.base + off + k ≤ cells.size := by omega
        have hw := WExt.setRow (w := w) (cs' := (splice cells.toList (l.base + off) (a.eval y).cells.toList).toArray) h3 (by simp [splice_length])
        refine wp_skp (w' := w.setRow l.b (splice cells.toList (l.base + off) (a.eval y).cells.toList).toArray) ?_ (hn _ _ _ g _ undef hK (Env.le.refl g) .un ?_)
        · have := run_storeAt (P := P) (w := w) hi hk hvl h1 h3 hfit
          simp [execOp, ho, hv, this]
        · show HRel _ _ _ _ _ _ (put s.hp id (.box (splice cs off xs))) _
          refine ((h.hp.write (mo' := .box (splice cs off xs)) hob rfl hl rfl hw ⟨l, _, E, hl, setRow_heap w l.b cells _ E _ h3, by simp [splice_length]; omega, ?_, ?_⟩).weaken (fun _ x => x.1))
          · intro x hx
            simp at hx
            exact splice_one (fun x => x.oneCell' = true) _ _ _ h1 (fun x hx => h5 x hx) x hx
          · have hsp := hc.splice off h6
            rw [splice_length]
            have e : (List.drop l.base (splice cells.toList (l.base + off) (a.eval y).cells.toList)).take cs.length = splice ((cells.toList.drop l.base).take cs.length) off (a.eval y).cells.toList := by
              refine List.ext_getElem? (fun p => ?_)
              rw [splice_get]
              by_cases hp : p < cs.length
              · rw [List.getElem?_take_of_lt hp, List.getElem?_drop, splice_get, List.getElem?_take_of_lt hp, List.getElem?_drop]
                by_cases hin : off ≤ p ∧ p < off + (a.eval y).cells.toList.length
                · rw [if_pos ⟨by omega, by omega, by simp; omega⟩, if_pos ⟨hin.1, hin.2, by simp; omega⟩]; congr 1; omega
                · rw [if_neg (by omega), if_neg (by omega)]
              · rw [List.getElem?_eq_none (by simp; omega), if_neg (by simp; omega), List.getElem?_eq_none (by simp; omega)]
            simp only [List.toList_toArray]
            rw [e]; exact hsp
      · exact hm.elim
  · exact hm.elim

theorem S.makeSlice {T e : TypeId} {x y : Operand} {x' y' : Opd} {inf : TypeInfo} {k bytes : Nat} {zero : List D} {z : Value} (ho : o.op = .makeSlice T x y) (hx : okOpd x x' = true) (hy : okOpd y y' = true)
    (ht : P.underlying T = some (.slice e)) (hi : P.info? e = some inf) (hk : inf.size = k) (hby : inf.bytes = bytes) (hb0 : 0 < bytes) (hz : inf.zero = some z) (hzl : z.cells.size = k)
    (hzd : zero.length = k ∧ ∀ j, j < k → DR (fun _ => none) (z.cells.getD j undef) (zero.getD j default)) (hA : ∀ id, n ≤ id → id < n + 64 → A id)
    (h : Rel P N A w0 F0 J0 g s a w) (hm : mop false P (.makeSlice k bytes zero x' y') n s K) (hn : Goes P A w0 F0 J0 g s.hp n o a K next) : o.wp P a w next Q := by
  have rx := h.val hx
  have ry := h.val hy
  simp only [mop] at hm
  split at hm
  · rename_i ka p kb q hb1 hb2
    rw [hb1] at rx; rw [hb2] at ry
    generalize hv : a.eval x = v at *
    generalize hv' : a.eval y = v' at *
    cases rx; cases ry
    obtain ⟨rfl, h0, hbd, hK⟩ := hm
    have hp63 : p ≤ 140737488355328 := by
      have : p * 1 ≤ p * bytes := Int.mul_le_mul_of_nonneg_left (by omega) h0
      omega
    have hrun := run_make (P := P) w T e inf z ht hi hz ka kb p p h0 (Int.le_refl _) (by rw [hby, Int.mul_comm]; omega) (by omega)
    have hA0 := hA n (Nat.le_refl _) (by omega)
    have hinj := (h.hp.avail n hA0).1
    have hle := Env.le_at (l := ⟨w.heap.size, 0, k, p.toNat, []⟩) hinj
    refine wp_val (v := .slice (some ⟨w.heap.size, 0, none⟩) p.toNat p.toNat) (w' := w.alloc (.cells (madeCells z.cells (p.toNat * inf.size)) e)) (by simp [execOp, ho, hv, hv', hrun])
      (hn _ _ _ (g.at n ⟨w.heap.size, 0, k, p.toNat, []⟩) _ _ hK hle ?_ (notin_weak (h.hp.alloc hA0 rfl (o := .cells (madeCells z.cells (p.toNat * inf.size)) e (0, 0)) ⟨?_, .inr ⟨⟨w.heap.size, 0, k, p.toNat, []⟩, by simp [Env.at], rfl, madeCells z.cells (p.toNat * inf.size), e, heap_alloc_new w _, ?_, ?_, ?_⟩⟩)))
    · have := RV.sr (P := P) (g := g.at n ⟨w.heap.size, 0, k, p.toNat, []⟩) n 0 p.toNat p.toNat ⟨w.heap.size, 0, k, p.toNat, []⟩ (by simp [Env.at]) (by simp) (Nat.le_refl _)
      simpa using this
    · intro el hel; rw [List.eq_of_mem_replicate hel]; exact hzd.1
    · simp [size_madeCells, hk]
    · simp
    · intro i j hi' hj'
      simp at hi'
      have hlt : i * k + j < p.toNat * k := by
        have : (i + 1) * k ≤ p.toNat * k := Nat.mul_le_mul_right _ (by omega)
        rw [Nat.add_mul] at this; omega
      have hk0 : 0 < k := by omega
      refine ⟨z.cells.getD j undef, ?_, ?_⟩
      · have e1 : (i * k + j) % k = j := by rw [Nat.mul_comm, Nat.mul_add_mod, Nat.mod_eq_of_lt hj']
        have hj2 : j < z.cells.size := by omega
        simp [madeCells, hk, hlt, hzl, e1]
        rw [getElem!_pos z.cells j hj2]; simp [hj2]
      · have e1 : cellD (List.replicate p.toNat zero) i j = zero.getD j default := by
          simp [cellD, List.getD, hi']
        rw [e1]
        exact (hzd.2 j hj').mono (by intro b o x; cases x)
  · exact hm.elim
end
end Go.Fw
namespace Go.Fw
set_option linter.unusedVariables false
set_option linter.unusedSimpArgs false
section
variable {P : Program} {N : FrS} {A : Nat → Prop} {w0 : World} {F0 : List Nat} {J0 : Imm} {g : Env} {s : MS} {a : Act} {w : World} {hp : List (Nat × MO)}
variable {n : Nat} {o : Oper} {K : MK} {next : Act → World → Prop} {Q : Exit → Act → World → Prop}

/-- The parts of a composite value: each operand, its place. -/
def okParts (place : Nat → Option (Nat × Nat)) : List (Nat × Operand) → List (Nat × Nat × Opd) → Bool
  | [], [] => true
  | (i, x) :: r, (off, k, y) :: r' => decide (place i = some (off, k)) && okOpd x y && okParts place r r'
  | _, _ => false

theorem fill_build (h : Rel P N A w0 F0 J0 g s a w) {place : Nat → Option (Nat × Nat)} : ∀ {parts : List (Nat × Operand)} {parts' : List (Nat × Nat × Opd)} {cells : Array Value} {ms : List MV} {Kc : List MV → Prop},
    okParts place parts parts' = true → RVL P g cells.toList ms → (∀ x ∈ cells.toList, x.oneCell' = true) → buildC s parts' ms Kc →
    ∃ cells' ms', Instr.fill place cells (parts.map fun x => (x.1, a.eval x.2)) = some cells' ∧ RVL P g cells'.toList ms' ∧ (∀ x ∈ cells'.toList, x.oneCell' = true) ∧ Kc ms' := by
  intro parts
  induction parts with
  | nil =>
    intro parts' cells ms Kc hok hr h1 hb
    cases parts' with
    | nil => exact ⟨cells, ms, rfl, hr, h1, hb⟩
    | cons => simp [okParts] at hok
  | cons p r ih =>
    intro parts' cells ms Kc hok hr h1 hb
    cases parts' with
    | nil => simp [okParts] at hok
    | cons p' r' =>
      obtain ⟨i, x⟩ := p
      obtain ⟨off, k, y⟩ := p'
      simp [okParts] at hok
      obtain ⟨⟨hpl, hx⟩, hrest⟩ := hok
      simp only [buildC] at hb
      split at hb
      · rename_i xs hxs
        obtain ⟨hlen, hle, hb⟩ := hb
        obtain ⟨hc, hc1⟩ := (h.val hx).cells hxs
        have hl := hc.length
        have hl2 := hr.length
        simp at hl hl2
        have hsz : (a.eval x).cells.size = k := by omega
        have hfit : off + (a.eval x).cells.size ≤ cells.size := by omega
        have hfold : ((a.eval x).cells.zipIdx.foldl (fun cs (c, j) => cs.setIfInBounds (off + j) c) cells).toList = splice cells.toList off (a.eval x).cells.toList := by
          have := fold_splice (a.eval x).cells.toList 0 off cells
          rw [Nat.add_zero] at this
          rw [← this, ← Array.foldl_toList]
          simp
        obtain ⟨cells', ms', e1, e2, e3, e4⟩ := ih (cells := (a.eval x).cells.zipIdx.foldl (fun cs (c, j) => cs.setIfInBounds (off + j) c) cells) hrest (by rw [hfold]; exact hc.splice off hr)
          (by rw [hfold]; exact splice_one (fun x : Value => x.oneCell' = true) _ _ _ hc1 h1) hb
        refine ⟨cells', ms', ?_, e2, e3, e4⟩
        simp only [List.map_cons, Instr.fill, hpl]
        rw [if_neg (by simp [hsz]; omega)]
        exact e1
      · exact hb.elim

theorem S.build {T : TypeId} {parts : Array (Nat × Operand)} {zero : List MV} {parts' : List (Nat × Nat × Opd)} {z : Array Value} {place : Nat → Option (Nat × Nat)} (ho : o.op = .build T parts)
    (hbl : ∀ ps, P.built T ps = Instr.fill place z ps) (hz : cOKs z.toList zero = true) (hp : okParts place parts.toList parts' = true)
    (h : Rel P N A w0 F0 J0 g s a w) (hm : mop false P (.build zero parts') n s K) (hn : Goes P A w0 F0 J0 g s.hp n o a K next) : o.wp P a w next Q := by
  simp only [mop] at hm
  obtain ⟨hr, h1⟩ := cOKs_RV (P := P) (g := g) hz
  obtain ⟨cells', ms', e1, e2, e3, e4⟩ := fill_build h hp hr h1 hm
  refine hn.same h e4 (.agg cells' ms' e2 e3) ?_
  have hb : P.built T (parts.map fun (i, x) => (i, a.eval x)).toList = some cells' := by
    rw [hbl, Array.toList_map]; exact e1
  simp [execOp, ho, run_build w T _ cells' hb]

/-- A slice literal's parts, in order. -/
def okRows : Nat → List (Nat × Operand) → List Opd → Bool
  | _, [], [] => true
  | i, (j, x) :: r, y :: r' => i == j && okOpd x y && okRows (i + 1) r r'
  | _, _, _ => false

theorem okRows_len : ∀ {i : Nat} {ps : List (Nat × Operand)} {ys : List Opd}, okRows i ps ys = true → ps.length = ys.length
  | _, [], [], _ => rfl
  | i, (j, x) :: r, y :: r', h => by simp [okRows] at h; simp [okRows_len h.2]
  | _, [], _ :: _, h => by simp [okRows] at h
  | _, _ :: _, [], h => by simp [okRows] at h

theorem rowsV_frz {k : Nat} : ∀ {ys : List Opd} {t es u}, rowsV s k ys = some (t, es, u) → Frz s.hp u ∧ es.length = ys.length ∧ (∀ e ∈ es, e.length = k) := by
  intro ys
  induction ys with
  | nil => intro t es u h; simp [rowsV] at h; obtain ⟨_, rfl, rfl⟩ := h; exact ⟨fun x hx => (by cases hx), rfl, by simp⟩
  | cons y r ih =>
    intro t es u h
    simp only [rowsV] at h
    split at h
    · split at h
      · rename_i t1 ds u1 hds
        split at h
        · rename_i t2 es2 u2 h2
          split at h
          · rename_i hl
            cases h
            obtain ⟨h3, h4, h5⟩ := ih h2
            refine ⟨?_, by simp [h4], by simp [hl]; exact h5⟩
            intro x hx
            rcases List.mem_append.1 hx with hx | hx
            · exact toDs_frz hds x hx
            · exact h3 x hx
          · cases h
        · cases h
      · cases h
    · cases h

theorem fill_rows (h : Rel P N A w0 F0 J0 g s a w) {k : Nat} {g' : Env} {hp' : List (Nat × MO)} (h' : HRel P A w0 F0 J0 g' hp' w) (hle : g.le g')
    (hfz2 : ∀ id t k es, s.obj id = some (.fz t k es) → look hp' id = some (.fz t k es)) :
    ∀ {ps : List (Nat × Operand)} {ys : List Opd} {i0 : Nat} {cells : Array Value} {t es u}, okRows i0 ps ys = true → (i0 + ps.length) * k ≤ cells.size →
    rowsV s k ys = some (t, es, u) → (∀ x ∈ u, ∃ t k es, s.obj x.1 = some (.arr t k es) ∧ look hp' x.1 = some (.fz t k es)) →
    ∃ cells', Instr.fill (fun i => some (i * k, k)) cells (ps.map fun x => (x.1, a.eval x.2)) = some cells' ∧ cells'.size = cells.size ∧ (∀ p, p < i0 * k → cells'[p]? = cells[p]?) ∧
      ∀ i j, i < es.length → j < k → ∃ v, cells'[(i0 + i) * k + j]? = some v ∧ DR (g'.im t) v (cellD es i j) := by
  intro ps
  induction ps with
  | nil =>
    intro ys i0 cells t es u hok hsz hb _
    cases ys with
    | nil =>
      simp [rowsV] at hb
      obtain ⟨rfl, rfl, rfl⟩ := hb
      exact ⟨cells, rfl, rfl, fun _ _ => rfl, by simp⟩
    | cons => simp [okRows] at hok
  | cons p r ih =>
    intro ys i0 cells t es u hok hsz hb hf
    cases ys with
    | nil => simp [okRows] at hok
    | cons y r' =>
      obtain ⟨i, x⟩ := p
      simp [okRows] at hok
      obtain ⟨⟨rfl, hx⟩, hrest⟩ := hok
      simp only [rowsV] at hb
      split at hb
      · rename_i xs hxs
        split at hb
        · rename_i t1 ds u1 hds
          split at hb
          · rename_i t2 es2 u2 hv2
            split at hb
            · rename_i hlen
              cases hb
              obtain ⟨hc, hc1⟩ := (h.val hx).cells hxs
              have hD := toDs_DR (g := g) h' hle hfz2 hc hds (fun x hx => hf x (List.mem_append_left _ hx))
              have hl := hD.1
              simp at hl
              have hck : (a.eval x).cells.size = k := by omega
              have hmul : (i0 + (r.length + 1)) * k ≤ cells.size := by simpa using hsz
              have hfold : ((a.eval x).cells.zipIdx.foldl (fun cs (c, j) => cs.setIfInBounds (i0 * k + j) c) cells).toList = splice cells.toList (i0 * k) (a.eval x).cells.toList := by
                have := fold_splice (a.eval x).cells.toList 0 (i0 * k) cells
                rw [Nat.add_zero] at this
                rw [← this, ← Array.foldl_toList]
                simp
              have hsize1 : ((a.eval x).cells.zipIdx.foldl (fun cs (c, j) => cs.setIfInBounds (i0 * k + j) c) cells).size = cells.size := by
                rw [← Array.length_toList, hfold, splice_length, Array.length_toList]
              have hfit : i0 * k + k ≤ cells.size := by
                have : (i0 + 1) * k ≤ (i0 + (r.length + 1)) * k := Nat.mul_le_mul_right _ (by omega)
                rw [Nat.add_mul i0 1] at this; omega
              have hget1 : ∀ p : Nat, ((a.eval x).cells.zipIdx.foldl (fun cs (c, j) => cs.setIfInBounds (i0 * k + j) c) cells)[p]? = (splice cells.toList (i0 * k) (a.eval x).cells.toList)[p]? := fun p => by
                rw [← Array.getElem?_toList, hfold]
              obtain ⟨cells', e1, e2, e3, e4⟩ := ih (i0 := i0 + 1) (cells := (a.eval x).cells.zipIdx.foldl (fun cs (c, j) => cs.setIfInBounds (i0 * k + j) c) cells) hrest
                (by rw [hsize1]; rw [show i0 + 1 + r.length = i0 + (r.length + 1) by omega]; exact hmul) hv2 (fun x hx => hf x (List.mem_append_right _ hx))
              refine ⟨cells', ?_, by rw [e2, hsize1], fun p hp => ?_, fun i j hi hj => ?_⟩
              · simp only [List.map_cons, Instr.fill]
                rw [if_neg (by simp [hck]; omega)]
                exact e1
              · rw [e3 p (by rw [Nat.add_mul]; omega), hget1, splice_get, if_neg (by omega)]; simp
              · cases i with
                | zero =>
                  refine ⟨(a.eval x).cells.toList.getD j undef, ?_, ?_⟩
                  · rw [Nat.add_zero, e3 (i0 * k + j) (by rw [Nat.add_mul]; omega), hget1, splice_get, if_pos ⟨by omega, by simp; omega, by simp; omega⟩]
                    rw [show i0 * k + j - i0 * k = j by omega]
                    simp [List.getD, show j < (a.eval x).cells.size by omega]
                  · have := hD.2 j ((a.eval x).cells.toList.getD j undef) (by simp [List.getD, show j < (a.eval x).cells.size by omega])
                    have e0 : cellD (ds :: es2) 0 j = ds.getD j default := rfl
                    rw [e0]
                    cases t1
                    · exact this
                    · cases t2
                      · exact this.mono (fun b o x => h'.JI b o x)
                      · exact this
                | succ i =>
                  obtain ⟨v, hv, hr⟩ := e4 i j (by simpa using hi) hj
                  refine ⟨v, by rw [show i0 + (i + 1) = i0 + 1 + i by omega]; exact hv, ?_⟩
                  have e0 : cellD (ds :: es2) (i + 1) j = cellD es2 i j := rfl
                  rw [e0]
                  cases t1
                  · cases t2
                    · exact hr
                    · exact hr.mono (fun b o x => h'.JI b o x)
                  · exact hr
            · cases hb
          · cases hb
        · cases hb
      · cases hb

theorem S.buildSlice {T e : TypeId} {len : Nat} {parts : Array (Nat × Operand)} {ys : List Opd} {inf : TypeInfo} {k : Nat} {z : Value} (ho : o.op = .buildSlice T len parts)
    (ht : P.underlying T = some (.slice e)) (hi : P.info? e = some inf) (hk : inf.size = k) (hz : inf.zero = some z) (hk0 : 0 < k) (hlen : parts.toList.length = len) (hsm : len * k ≤ 16777216)
    (hp : okRows 0 parts.toList ys = true) (hA : ∀ id, n ≤ id → id < n + 64 → A id)
    (h : Rel P N A w0 F0 J0 g s a w) (hm : mop false P (.buildSlice k ys) n s K) (hn : Goes P A w0 F0 J0 g s.hp n o a K next) : o.wp P a w next Q := by
  simp only [mop] at hm
  split at hm
  · rename_i t es u hv
    obtain ⟨hfz, hel, hek⟩ := rowsV_frz hv
    obtain ⟨g1, hg1, hi1, h1, hinv, hoth, hall⟩ := h.hp.freezes s.hp u hfz (fun id o x => .inl x)
    have hpl := okRows_len hp
    have hfz2 : ∀ id t k es, s.obj id = some (.fz t k es) → look (upds s.hp u) id = some (.fz t k es) := fun i t1 k1 es1 hf => by
      rcases hinv i _ hf with e | ⟨_, _, _, e, _⟩
      · exact e
      · cases e
    have hrun : ∃ cells : Array Value, (Instr.buildSlice T len (parts.map fun (i, x) => (i, a.eval x))).run P w = .ok (.slice (some ⟨w.heap.size, 0, none⟩) len len) (w.alloc (.cells cells e)) ∧ cells.size = len * k ∧
        ∀ i j, i < es.length → j < k → ∃ v, cells[i * k + j]? = some v ∧ DR (g1.im t) v (cellD es i j) := by
      by_cases hl0 : len = 0
      · subst hl0
        have hps : parts = #[] := by simpa using hlen
        subst hps
        refine ⟨#[], ?_, by simp, fun i j hi' => ?_⟩
        · simp [Instr.buildSlice, run_underlying ht, sizeOf, typeInfo, hi, Instr.fill, newRow, Array.range_zero']
        · rw [hel, ← hpl] at hi'; simp at hi'
      · obtain ⟨cells, e1, e2, _, e4⟩ := fill_rows h h1 hg1 hfz2 (k := k) (cells := (Array.range (len * k)).map (z.cells[· % z.cells.size]!)) hp (by rw [Nat.zero_add, hlen]; simp) hv (fun x hx => hall x hx)
        refine ⟨cells, ?_, by rw [e2]; simp, fun i j hi' hj' => by have := e4 i j hi' hj'; simpa using this⟩
        refine run_buildSlice w T e len _ cells inf z ht hi hz (by rw [hk]; omega) ?_ ?_
        · have := Nat.mul_pos (Nat.pos_of_ne_zero hl0) hk0; rw [hk]; omega
        · rw [hk, Array.toList_map]; exact e1
    obtain ⟨cells, hrun, hcs, hcells⟩ := hrun
    have hA0 := hA n (Nat.le_refl _) (by omega)
    have hinj := (h1.avail n hA0).1
    have hle := Env.le_at (l := ⟨w.heap.size, 0, k, len, []⟩) hinj
    have hys : ys.length = len := by rw [← hpl, hlen]
    refine wp_val (v := .slice (some ⟨w.heap.size, 0, none⟩) len len) (w' := w.alloc (.cells cells e)) (by simp [execOp, ho, hrun]) (hn _ _ _ (g1.at n ⟨w.heap.size, 0, k, len, []⟩) _ _ hm (hg1.trans hle) ?_ ?_)
    · have := RV.sr (P := P) (g := g1.at n ⟨w.heap.size, 0, k, len, []⟩) n 0 len len ⟨w.heap.size, 0, k, len, []⟩ (by simp [Env.at]) (by simp) (Nat.le_refl _)
      rw [hys]; simpa using this
    · rw [upds_append]
      refine notin_weak (h1.alloc hA0 rfl (o := .cells cells e (0, 0)) (mo := .arr t k es) ⟨hek, .inr ⟨⟨w.heap.size, 0, k, len, []⟩, by simp [Env.at], rfl, cells, e, heap_alloc_new w _, by simp [hcs], by simp [hel, hys], fun i j hi' hj' => ?_⟩⟩)
      obtain ⟨v, hv', hr⟩ := hcells i j hi' hj'
      exact ⟨v, by simpa using hv', hr.mono (hle.im t)⟩
  · exact hm.elim
end
end Go.Fw
namespace Go.Fw
set_option linter.unusedVariables false
set_option linter.unusedSimpArgs false
section
variable {P : Program} {N : FrS} {A : Nat → Prop} {w0 : World} {F0 : List Nat} {J0 : Imm} {g : Env} {s : MS} {a : Act} {w : World} {hp : List (Nat × MO)}
variable {n : Nat} {o : Oper} {K : MK} {next : Act → World → Prop} {Q : Exit → Act → World → Prop}

theorem HRel.kills : ∀ (ids : List Nat) {hp : List (Nat × MO)}, HRel P A w0 F0 J0 g hp w →
    HRel P A w0 F0 J0 g (upds hp (ids.map (·, none))) w ∧ ∀ i o, look (upds hp (ids.map (·, none))) i = some o → look hp i = some o ∧ i ∉ ids := by
  intro ids
  induction ids with
  | nil => intro hp h; exact ⟨h, fun i o x => ⟨x, by simp⟩⟩
  | cons d r ih =>
    intro hp h
    obtain ⟨h1, h2⟩ := ih (h.kill d)
    refine ⟨h1, fun i o x => ?_⟩
    obtain ⟨h3, h4⟩ := h2 i o x
    rw [look_del] at h3
    by_cases e : d = i
    · simp [e] at h3
    · simp [e] at h3; exact ⟨h3, by simp [Ne.symm e, h4]⟩

/-- An empty array that lies nowhere. -/
theorem HRel.ghost (h : HRel P A w0 F0 J0 g hp w) (hA : A n) (t : Bool) (k : Nat) : HRel P (fun id => A id ∧ id ≠ n) w0 F0 J0 g (put hp n (.arr t k [])) w := by
  have ha := h.avail n hA
  have hput : ∀ {id o l}, look (put hp n (.arr t k [])) id = some o → g.inj id = some l → look hp id = some o := fun {id o l} x y => by
    rw [look_put] at x
    by_cases e : n = id
    · subst e; rw [ha.1] at y; cases y
    · rwa [if_neg e] at x
  refine ⟨fun id o x => ?_, fun id x => ⟨(h.avail id x.1).1, by rw [look_put, if_neg (Ne.symm x.2)]; exact (h.avail id x.1).2⟩,
    fun id1 id2 o1 o2 l1 l2 a1 a2 b1 b2 c1 c2 => h.sepB id1 id2 o1 o2 l1 l2 (hput a1 c1) (hput a2 c2) b1 b2 c1 c2,
    fun id o l a1 b1 c1 => h.disjB id o l (hput a1 c1) b1 c1, fun id o l a1 b1 c1 => h.freshB id o l (hput a1 c1) b1 c1, fun id o l a1 b1 c1 => h.ltB id o l (hput a1 c1) b1 c1, h.imm, h.JI, h.Jf, h.ext⟩
  rw [look_put] at x
  by_cases e : n = id
  · subst e; simp at x; subst x; exact ⟨by simp, .inl ⟨rfl, ha.1⟩⟩
  · rw [if_neg e] at x; exact h.objs id o x

/-- No slices at all, nowhere. -/
theorem HRel.ghostN (h : HRel P A w0 F0 J0 g hp w) (hA : A n) (k : Nat) : HRel P (fun id => A id ∧ id ≠ n) w0 F0 J0 g (put hp n (.nst [] k [])) w := by
  have ha := h.avail n hA
  have hput : ∀ {id o l}, look (put hp n (.nst [] k [])) id = some o → g.inj id = some l → look hp id = some o := fun {id o l} x y => by
    rw [look_put] at x
    by_cases e : n = id
    · subst e; rw [ha.1] at y; cases y
    · rwa [if_neg e] at x
  refine ⟨fun id o x => ?_, fun id x => ⟨(h.avail id x.1).1, by rw [look_put, if_neg (Ne.symm x.2)]; exact (h.avail id x.1).2⟩,
    fun id1 id2 o1 o2 l1 l2 a1 a2 b1 b2 c1 c2 => h.sepB id1 id2 o1 o2 l1 l2 (hput a1 c1) (hput a2 c2) b1 b2 c1 c2,
    fun id o l a1 b1 c1 => h.disjB id o l (hput a1 c1) b1 c1, fun id o l a1 b1 c1 => h.freshB id o l (hput a1 c1) b1 c1, fun id o l a1 b1 c1 => h.ltB id o l (hput a1 c1) b1 c1, h.imm, h.JI, h.Jf, h.ext⟩
  rw [look_put] at x
  by_cases e : n = id
  · subst e; simp at x; subst x; exact .inl ⟨rfl, rfl, ha.1⟩
  · rw [if_neg e] at x; exact h.objs id o x

theorem run_append_in {T ty e : TypeId} {inf : TypeInfo} (ht : P.underlying T = some (.slice e)) (hi : P.info? e = some inf) {b q sLen sCap : Nat} {cur : Array Value} {E : TypeId}
    (hb : w.heap[b]? = some (.cells cur E (0, 0))) {p : Addr} {m c : Nat} {news : List Value} (hl : news.length = m * inf.size) (hnews : ∀ j u, news[j]? = some u → w.cell? (p.add j) = some u)
    (h1 : ∀ u ∈ news, u.oneCell' = true) (hroom : sLen + m ≤ sCap) (hfit : q + sLen * inf.size + news.length ≤ cur.size) :
    (Builtin.append_ #[T, T] ty #[.slice (some ⟨b, q, none⟩) sLen sCap, .slice (some p) m c]).run P w =
      .ok (.slice (some ⟨b, q, none⟩) (sLen + m) sCap) (w.setRow b (splice cur.toList (q + sLen * inf.size) news).toArray) := by
  have hf := run_firstCells_some (P := P) w inf.size m p m c news hl hnews
  have hst := run_storeCells_at P b (q + sLen * inf.size) E news 0 cur w hb (by simpa using hfit) h1
  simp only [Nat.add_zero] at hst
  rw [splice_eq _ _ _ (by simpa using hfit)] at hst
  have hadd : (⟨b, q, none⟩ : Addr).add (sLen * inf.size) = ⟨b, q + sLen * inf.size, none⟩ := by
    by_cases e : sLen * inf.size = 0
    · simp [Addr.add, e]
    · simp [Addr.add, e]
  simp [Builtin.append_, run_underlying ht, sizeOf, typeInfo, hi, Builtin.lenOf, hroom, hf, hadd, hst]

theorem run_append_none {T ty e : TypeId} {inf : TypeInfo} (ht : P.underlying T = some (.slice e)) (hi : P.info? e = some inf) {px py : Option Addr} {sLen sCap c : Nat} (hle : sLen ≤ sCap) :
    (Builtin.append_ #[T, T] ty #[.slice px sLen sCap, .slice py 0 c]).run P w = .ok (.slice px sLen sCap) w := by
  cases px <;> cases py <;> simp [Builtin.append_, run_underlying ht, sizeOf, typeInfo, hi, Builtin.lenOf, hle, Builtin.firstCells, loadCells, loadCellsFrom, storeCells]

theorem cells_chunks {k : Nat} (hk : 0 < k) {cs : Array Value} {q m : Nat} (h : ∀ i j, i < m → j < k → ∃ u, cs[q + i * k + j]? = some u) (p : Nat) (hp : p < m * k) : ∃ u, cs[q + p]? = some u := by
  have h1 : p / k < m := by rw [Nat.div_lt_iff_lt_mul hk]; exact hp
  obtain ⟨u, hu⟩ := h (p / k) (p % k) h1 (Nat.mod_lt _ hk)
  refine ⟨u, ?_⟩
  rw [← hu]; congr 1
  have := Nat.div_add_mod p k
  rw [Nat.mul_comm (p / k)]; omega

theorem cellD_append (xs ys : List (List D)) (i j : Nat) : cellD (xs ++ ys) i j = if i < xs.length then cellD xs i j else cellD ys (i - xs.length) j := by
  simp only [cellD, List.getD]
  by_cases h : i < xs.length
  · rw [List.getElem?_append_left h, if_pos h]
  · rw [List.getElem?_append_right (by omega), if_neg h]

theorem S.append {T e : TypeId} {x y : Operand} {x' y' : Opd} {inf : TypeInfo} {z : Value} {k bytes : Nat} {drop : Bool} (ho : o.op = .call { callee := .builtin .append, args := #[x, y], argTypes := #[T, T] })
    (hx : okOpd x x' = true) (hy : okOpd y y' = true) (ht : P.underlying T = some (.slice e)) (hi : P.info? e = some inf) (hk : inf.size = k) (hk0 : 0 < k) (hby : inf.bytes = bytes) (hb0 : 0 < bytes)
    (hz : inf.zero = some z) (hzl : z.cells.size = k) (hA : ∀ id, n ≤ id → id < n + 64 → A id)
    (h : Rel P N A w0 F0 J0 g s a w) (hm : mop false P (.append k bytes drop x' y') n s K) (hn : Goes P A w0 F0 J0 g s.hp n o a K next) : o.wp P a w next Q := by
  have rx := h.val hx
  have ry := h.val hy
  simp only [mop] at hm
  have hexec : ∀ {v : Value} {w' : World}, (Builtin.append_ #[T, T] o.type #[a.eval x, a.eval y]).run P w = .ok v w' → (execOp a.eval o).run P w = .ok (.value v) w' := by
    intro v w' e1
    simp [execOp, ho, resolve, invoke, builtin, e1]
  have hA0 := hA n (Nat.le_refl _) (by omega)
  split at hm
  · rename_i t' k' ys rs hs
    obtain ⟨rfl, hm⟩ := hm
    obtain ⟨hyk, py, leny, capy, hvy, hlen, hcapy, hycells⟩ := h.hp.slice ry hs
    rw [hvy] at hexec
    -- the cells that are appended
    have hnews : ys = [] ∨ ∃ (p : Addr) (news : List Value), py = some p ∧ news.length = ys.length * k' ∧ (∀ j u, news[j]? = some u → w.cell? (p.add j) = some u) ∧ (∀ u ∈ news, u.oneCell' = true) ∧
        ∀ i j, i < ys.length → j < k' → ∃ u, news[i * k' + j]? = some u ∧ DR (g.im t') u (cellD ys i j) := by
      rcases hycells with e | ⟨b, q, cs, E, zz, rfl, hb, hc, _⟩
      · exact .inl e
      · right
        have hall := cells_chunks hk0 (cs := cs) (q := q) (m := ys.length) (fun i j hi hj => by obtain ⟨u, hu, _⟩ := hc i j hi hj; exact ⟨u, hu⟩)
        have hget : ∀ p, p < ys.length * k' → cs[q + p]? = some (cs.getD (q + p) undef) := fun p hp => by
          obtain ⟨u, hu⟩ := hall p hp
          rw [hu, Array.getD_eq_getD_getElem?, hu]; rfl
        refine ⟨⟨b, q, none⟩, (List.range (ys.length * k')).map (fun p => cs.getD (q + p) undef), rfl, by simp, fun j u hj => ?_, fun u hu => ?_, fun i j hi hj => ?_⟩
        · by_cases hjl : j < ys.length * k'
          · rw [List.getElem?_map, List.getElem?_range hjl] at hj
            simp at hj; subst hj
            have hadd : (⟨b, q, none⟩ : Addr).add j = ⟨b, q + j, none⟩ := by
              by_cases e : j = 0
              · subst e; simp [Addr.add]
              · simp [Addr.add, e]
            rw [hadd, cell_of_row w b (q + j) cs E zz hb, hget j hjl]; simp
          · rw [List.getElem?_eq_none (by simp; omega)] at hj; cases hj
        · simp at hu
          obtain ⟨p, hp, rfl⟩ := hu
          have h1 : p / k' < ys.length := by rw [Nat.div_lt_iff_lt_mul hk0]; exact hp
          obtain ⟨u, hu, hr⟩ := hc (p / k') (p % k') h1 (Nat.mod_lt _ hk0)
          have e1 : q + p / k' * k' + p % k' = q + p := by have := Nat.div_add_mod p k'; rw [Nat.mul_comm (p / k')]; omega
          rw [e1] at hu
          have : cs.getD (q + p) undef = u := by rw [Array.getD_eq_getD_getElem?, hu]; rfl
          rw [← Array.getD_eq_getD_getElem?, this]; exact hr.one
        · obtain ⟨u, hu, hr⟩ := hc i j hi hj
          have hlt : i * k' + j < ys.length * k' := by
            have : (i + 1) * k' ≤ ys.length * k' := Nat.mul_le_mul_right _ (by omega)
            rw [Nat.add_mul] at this; omega
          refine ⟨u, ?_, hr⟩
          rw [List.getElem?_map, List.getElem?_range hlt]
          simp only [Option.map_some, ← Nat.add_assoc]
          rw [Array.getD_eq_getD_getElem?, hu]; rfl
    -- what is made of it, whatever the first operand
    have fin : ∀ (t : Bool) (xs : List (List D)) (kl : List Nat) (px : Option Addr) (capx : Nat), (∀ el ∈ xs, el.length = k') → a.eval x = .slice px xs.length capx → xs.length ≤ capx →
        (((xs.length + ys.length : Nat) : Int) * bytes ≤ 140737488355328) →
        ((xs = [] ∧ capx = 0) ∨ ∃ (b q : Nat) (cur : Array Value) (E : TypeId), px = some ⟨b, q, none⟩ ∧ w.heap[b]? = some (.cells cur E (0, 0)) ∧ q + capx * k' ≤ cur.size ∧ g.I b = none ∧ (w0.heap.size ≤ b ∨ b ∈ F0) ∧
          (xs.length + ys.length ≤ capx → ∀ id o l1, look s.hp id = some o → id ∉ kl → o.live = true → g.inj id = some l1 → b ∉ o.blks l1) ∧ ∀ i j, i < xs.length → j < k' → ∃ u, cur[q + i * k' + j]? = some u ∧ DR (g.im t) u (cellD xs i j)) →
        K (.sr n 0 (xs.length + ys.length)) (kl.map (·, none) ++ [(n, some (.arr (t && t') k' (xs ++ ys)))]) (rs) ∨ (∃ rd, K (.sr n 0 (xs.length + ys.length)) (kl.map (·, none) ++ [(n, some (.arr (t && t') k' (xs ++ ys)))]) rd) →
        o.wp P a w next Q := by
      intro t xs kl px capx hxk hvx hxc hbd hplace hK
      obtain ⟨rd, hK⟩ : ∃ rd, K (.sr n 0 (xs.length + ys.length)) (kl.map (·, none) ++ [(n, some (.arr (t && t') k' (xs ++ ys)))]) rd := by
        rcases hK with h1 | h1
        · exact ⟨rs, h1⟩
        · exact h1
      obtain ⟨hk1, hk2⟩ := h.hp.kills kl
      have weakI : ∀ (g' : Env), (∀ b o, g'.J b = some o → g'.I b = some o) → ∀ (ta tb : Bool) {v : Value} {d : D}, DR (g'.im ta) v d → DR (g'.im (ta && tb)) v d := fun g' hJ ta tb v d hh => by
        cases ta <;> cases tb <;> first | exact hh | exact hh.mono (fun b o x => hJ b o x)
      have weakI' : ∀ (g' : Env), (∀ b o, g'.J b = some o → g'.I b = some o) → ∀ (ta tb : Bool) {v : Value} {d : D}, DR (g'.im tb) v d → DR (g'.im (ta && tb)) v d := fun g' hJ ta tb v d hh => by
        rw [Bool.and_comm]; exact weakI g' hJ tb ta hh
      have helen : ∀ el ∈ xs ++ ys, el.length = k' := fun el he => by
        rcases List.mem_append.1 he with he | he
        · exact hxk el he
        · exact hyk el he
      rw [hvx, hlen] at hexec
      have hbd2 : (xs.length + ys.length) * bytes ≤ 140737488355328 := Int.ofNat_le.1 (by rw [Int.natCast_mul]; exact hbd)
      have hbd3 : xs.length + ys.length ≤ 140737488355328 := Nat.le_trans (Nat.le_mul_of_pos_right _ hb0) hbd2
      -- a new row
      have newrow : ∀ (w1 : World) (cells : Array Value) (cap : Nat), HRel P A w0 F0 J0 g (upds s.hp (kl.map (·, none))) w1 → w1.heap.size = w.heap.size → xs.length + ys.length ≤ cap → cells.size = cap * k' →
          (∀ i j, i < xs.length + ys.length → j < k' → ∃ u, cells[i * k' + j]? = some u ∧ DR (g.im (t && t')) u (cellD (xs ++ ys) i j)) →
          (execOp a.eval o).run P w = .ok (.value (.slice (some ⟨w.heap.size, 0, none⟩) (xs.length + ys.length) cap)) (w1.alloc (.cells cells e (0, 0))) → o.wp P a w next Q := by
        intro w1 cells cap hr1 hsz hcap hcs hcells hrun
        have hinj := (hr1.avail n hA0).1
        have hle := Env.le_at (l := ⟨w.heap.size, 0, k', cap, []⟩) hinj
        refine wp_val hrun (hn _ _ _ (g.at n ⟨w.heap.size, 0, k', cap, []⟩) _ _ hK hle ?_ ?_)
        · have := RV.sr (P := P) (g := g.at n ⟨w.heap.size, 0, k', cap, []⟩) n 0 (xs.length + ys.length) cap ⟨w.heap.size, 0, k', cap, []⟩ (by simp [Env.at]) (by simp) hcap
          simpa using this
        · rw [upds_append]
          refine notin_weak (hr1.alloc hA0 hsz.symm (o := .cells cells e (0, 0)) (mo := .arr (t && t') k' (xs ++ ys)) ⟨helen, .inr ⟨⟨w.heap.size, 0, k', cap, []⟩, by simp [Env.at], rfl, cells, e, ?_, by simp [hcs], by simpa using hcap, fun i j hi' hj' => ?_⟩⟩)
          · rw [← hsz]; exact heap_alloc_new w1 _
          · obtain ⟨u, hu, hr⟩ := hcells i j (by simpa using hi') hj'
            exact ⟨u, by simpa using hu, hr.mono (hle.im _)⟩
      rcases hnews with hy0 | ⟨p, news, rfl, hnl, hncell, hn1, hnD⟩
      · -- nothing is appended
        subst hy0
        have hrun := run_append_none (P := P) (w := w) (ty := o.type) (px := px) (py := py) (c := capy) ht hi hxc
        simp only [List.length_nil, Nat.add_zero, List.append_nil] at hK hexec
        rcases hplace with ⟨rfl, rfl⟩ | ⟨b, q, cur, E, rfl, hb, hfit, hI, hfr, hfree, hcur⟩
        · refine wp_val (hexec hrun) (hn _ _ _ g _ _ hK (Env.le.refl g) (.sr0 _ _ _) ?_)
          rw [upds_append]
          exact notin_weak (hk1.ghost hA0 (t && t') k')
        · have hinj := (hk1.avail n hA0).1
          have hle := Env.le_at (l := ⟨b, q, k', capx, []⟩) hinj
          refine wp_val (hexec hrun) (hn _ _ _ (g.at n ⟨b, q, k', capx, []⟩) _ _ hK hle ?_ ?_)
          · have := RV.sr (P := P) (g := g.at n ⟨b, q, k', capx, []⟩) n 0 xs.length capx ⟨b, q, k', capx, []⟩ (by simp [Env.at]) (by simp) hxc
            simpa using this
          · rw [upds_append]
            refine notin_weak (hk1.adopt1 hA0 (fun id o l1 a1 a2 a3 => hfree (by simpa using hxc) id o l1 (hk2 id o a1).1 (hk2 id o a1).2 a2 a3) hI hfr (Array.getElem?_eq_some_iff.1 hb).1 (WExt.refl w _) (mo := .arr (t && t') k' xs)
              ⟨hxk, .inr ⟨⟨b, q, k', capx, []⟩, by simp [Env.at], rfl, cur, E, hb, by simpa using hfit, hxc, fun i j hi' hj' => ?_⟩⟩)
            obtain ⟨u, hu, hr⟩ := hcur i j hi' hj'
            exact ⟨u, hu, (weakI g h.hp.JI _ _ hr).mono (hle.im _)⟩
      · by_cases hroom : xs.length + ys.length ≤ capx
        · -- in place
          rcases hplace with ⟨rfl, rfl⟩ | ⟨b, q, cur, E, rfl, hb, hfit, hI, hfr, hfree, hcur⟩
          · have hy0 : ys = [] := List.eq_nil_of_length_eq_zero (by simp at hroom; simpa using hroom)
            subst hy0
            have hrun := run_append_none (P := P) (w := w) (ty := o.type) (px := px) (py := some p) (c := capy) ht hi hxc
            simp only [List.length_nil, Nat.add_zero, List.append_nil] at hK hexec
            refine wp_val (hexec hrun) (hn _ _ _ g _ _ hK (Env.le.refl g) (.sr0 _ _ _) ?_)
            rw [upds_append]
            exact notin_weak (hk1.ghost hA0 (t && t') k')
          · have hfit2 : q + xs.length * inf.size + news.length ≤ cur.size := by
              have : (xs.length + ys.length) * k' ≤ capx * k' := Nat.mul_le_mul_right _ hroom
              rw [Nat.add_mul] at this; rw [hnl, hk]; omega
            have hrun := run_append_in (P := P) (w := w) (ty := o.type) (c := capy) ht hi hb (by rw [hnl, hk]) hncell hn1 hroom hfit2
            have hinj := (hk1.avail n hA0).1
            have hle := Env.le_at (l := ⟨b, q, k', capx, []⟩) hinj
            have hw := WExt.setRow (w := w) (cs' := (splice cur.toList (q + xs.length * inf.size) news).toArray) hb (by simp [splice_length])
            refine wp_val (hexec hrun) (hn _ _ _ (g.at n ⟨b, q, k', capx, []⟩) _ _ hK hle ?_ ?_)
            · have := RV.sr (P := P) (g := g.at n ⟨b, q, k', capx, []⟩) n 0 (xs.length + ys.length) capx ⟨b, q, k', capx, []⟩ (by simp [Env.at]) (by simp) hroom
              simpa using this
            · rw [upds_append]
              refine notin_weak (hk1.adopt1 hA0 (fun id o l1 a1 a2 a3 => hfree hroom id o l1 (hk2 id o a1).1 (hk2 id o a1).2 a2 a3) hI hfr (Array.getElem?_eq_some_iff.1 hb).1 hw (mo := .arr (t && t') k' (xs ++ ys))
                ⟨helen, .inr ⟨⟨b, q, k', capx, []⟩, by simp [Env.at], rfl, _, E, setRow_heap w b cur _ E _ hb, by simp [splice_length]; exact hfit, by simpa using hroom, fun i j hi' hj' => ?_⟩⟩)
              simp at hi'
              dsimp only
              rw [List.getElem?_toArray, splice_get, hk, cellD_append]
              by_cases hix : i < xs.length
              · obtain ⟨u, hu, hr⟩ := hcur i j hix hj'
                have : (i + 1) * k' ≤ xs.length * k' := Nat.mul_le_mul_right _ (by omega)
                rw [Nat.add_mul] at this
                rw [if_neg (by omega), if_pos hix]
                exact ⟨u, by simpa using hu, (weakI g h.hp.JI _ _ hr).mono (hle.im _)⟩
              · obtain ⟨u, hu, hr⟩ := hnD (i - xs.length) j (by omega) hj'
                have e1 : i * k' = xs.length * k' + (i - xs.length) * k' := by rw [← Nat.add_mul]; congr 1; omega
                have e2 : (i - xs.length + 1) * k' ≤ ys.length * k' := Nat.mul_le_mul_right _ (by omega)
                rw [Nat.add_mul] at e2
                rw [hk] at hfit2
                rw [if_pos ⟨by omega, by omega, by simp; omega⟩, if_neg hix]
                refine ⟨u, ?_, (weakI' g h.hp.JI _ _ hr).mono (hle.im _)⟩
                rw [← hu]; congr 1; omega
        · -- a new row
          have hgrow := growslice_fits (bytes := bytes) (show capx < xs.length + ys.length by omega) hbd2
          have mix : ∀ (olds : List Value) (rest : Array Value), olds.length = xs.length * k' → (∀ i j, i < xs.length → j < k' → ∃ u, olds[i * k' + j]? = some u ∧ DR (g.im t) u (cellD xs i j)) →
              ∀ i j, i < xs.length + ys.length → j < k' → ∃ u, (olds.toArray ++ news.toArray ++ rest)[i * k' + j]? = some u ∧ DR (g.im (t && t')) u (cellD (xs ++ ys) i j) := by
            intro olds rest hol holds i j hi' hj'
            rw [cellD_append]
            by_cases hix : i < xs.length
            · obtain ⟨u, hu, hr⟩ := holds i j hix hj'
              have : (i + 1) * k' ≤ xs.length * k' := Nat.mul_le_mul_right _ (by omega)
              rw [Nat.add_mul] at this
              refine ⟨u, ?_, by rw [if_pos hix]; exact weakI g h.hp.JI _ _ hr⟩
              rw [Array.getElem?_append_left (by simp; omega), Array.getElem?_append_left (by simp; omega)]
              simpa using hu
            · obtain ⟨u, hu, hr⟩ := hnD (i - xs.length) j (by omega) hj'
              have e1 : i * k' = xs.length * k' + (i - xs.length) * k' := by rw [← Nat.add_mul]; congr 1; omega
              have e2 : (i - xs.length + 1) * k' ≤ ys.length * k' := Nat.mul_le_mul_right _ (by omega)
              rw [Nat.add_mul] at e2
              refine ⟨u, ?_, by rw [if_neg hix]; exact weakI' g h.hp.JI _ _ hr⟩
              rw [Array.getElem?_append_left (by simp; omega), Array.getElem?_append_right (by simp; omega)]
              rw [show i * k' + j - olds.toArray.size = (i - xs.length) * k' + j by simp; omega]
              simpa using hu
          have hge := grownCap_ge w (xs.length + ys.length) capx e
          have size : ∀ (olds : List Value), olds.length = xs.length * k' → (olds.toArray ++ news.toArray ++ Builtin.zeroCells z.cells (grownCap w (xs.length + ys.length) capx e - (xs.length + ys.length))).size = grownCap w (xs.length + ys.length) capx e * k' := by
            intro olds hol
            simp only [Array.size_append, List.size_toArray, size_zeroCells, hzl, hol, hnl, ← Nat.add_mul]
            congr 1; omega
          have hdrew : HRel P A w0 F0 J0 g (upds s.hp (kl.map (·, none))) w.drew := hk1.drew
          rcases hplace with ⟨rfl, rfl⟩ | ⟨b, q, cur, E, rfl, hb, hfit, hI, hfr, hfree, hcur⟩
          · have hg := mix [] (Builtin.zeroCells z.cells (grownCap w (0 + ys.length) 0 e - (0 + ys.length))) (by simp) (by simp)
            have hs := size [] (by simp)
            cases px with
            | none =>
              have hr := run_append_nil (P := P) w T o.type e inf z ht hi hz p ys.length capy news (by rw [hnl, hk]) hncell (by simp at hroom; exact List.length_pos_iff.2 hroom) (by simp at hbd3; omega) (by rw [hby]; simp at hbd2; omega)
              refine newrow w.drew _ _ hdrew rfl hge hs hg (hexec ?_)
              simpa using hr
            | some px =>
              have hr := run_append_grow (P := P) w T o.type e inf z ht hi hz px 0 0 [] (by simp) (by simp) p ys.length capy news (by rw [hnl, hk]) hncell (by omega) (by simp at hbd3 ⊢; omega) (by rw [hby]; simpa using hgrow)
              exact newrow w.drew _ _ hdrew rfl hge hs hg (hexec hr)
          · have hall := cells_chunks hk0 (cs := cur) (q := q) (m := xs.length) (fun i j hi hj => by obtain ⟨u, hu, _⟩ := hcur i j hi hj; exact ⟨u, hu⟩)
            have hget : ∀ p, p < xs.length * k' → cur[q + p]? = some (cur.getD (q + p) undef) := fun p hp => by
              obtain ⟨u, hu⟩ := hall p hp
              rw [hu, Array.getD_eq_getD_getElem?, hu]; rfl
            have hol : ((List.range (xs.length * k')).map (fun p => cur.getD (q + p) undef)).length = xs.length * k' := by simp
            have hr := run_append_grow (P := P) w T o.type e inf z ht hi hz ⟨b, q, none⟩ xs.length capx ((List.range (xs.length * k')).map (fun p => cur.getD (q + p) undef)) (by rw [hol, hk]) (fun j u hj => by
                by_cases hjl : j < xs.length * k'
                · rw [List.getElem?_map, List.getElem?_range hjl] at hj
                  simp at hj; subst hj
                  have hadd : (⟨b, q, none⟩ : Addr).add j = ⟨b, q + j, none⟩ := by
                    by_cases e : j = 0
                    · subst e; simp [Addr.add]
                    · simp [Addr.add, e]
                  rw [hadd, cell_of_row w b (q + j) cur E _ hb, hget j hjl]; simp
                · rw [List.getElem?_eq_none (by simp; omega)] at hj; cases hj) p ys.length capy news (by rw [hnl, hk]) hncell (by omega) (by omega) (by rw [hby]; exact hgrow)
            refine newrow w.drew _ _ hdrew rfl hge (size _ hol) (mix _ _ hol (fun i j hi hj => ?_)) (hexec hr)
            obtain ⟨u, hu, hrr⟩ := hcur i j hi hj
            have hlt : i * k' + j < xs.length * k' := by
              have : (i + 1) * k' ≤ xs.length * k' := Nat.mul_le_mul_right _ (by omega)
              rw [Nat.add_mul] at this; omega
            refine ⟨u, ?_, hrr⟩
            rw [List.getElem?_map, List.getElem?_range hlt]
            simp only [Option.map_some, ← Nat.add_assoc]
            rw [Array.getD_eq_getD_getElem?, hu]; rfl
    split at hm
    · rename_i k2 hb
      obtain ⟨hbd, hK⟩ := hm
      rw [hb] at rx
      generalize hv : a.eval x = v at rx
      cases rx with
      | nl p =>
        refine fin true [] (if drop then rs else []) p 0 (by simp) hv (Nat.zero_le _) (by simpa using hbd) (.inl ⟨rfl, rfl⟩) (.inr ⟨rs, ?_⟩)
        cases drop <;> simpa using hK
    · rename_i id off len hb
      rw [hb] at rx
      generalize hv : a.eval x = v at rx
      split at hm
      · rename_i t k2 es hob
        obtain ⟨rfl, hbd, hle, hK⟩ := hm
        have hlx : ((es.drop off).take len).length = len := by simp; omega
        obtain ⟨hek, hrep⟩ := h.hp.objs id _ hob
        have hxk : ∀ el ∈ (es.drop off).take len, el.length = k2 := fun el he => hek el (List.mem_of_mem_drop (List.mem_of_mem_take he))
        have hKK : ∃ rd, K (.sr n 0 (((es.drop off).take len).length + ys.length)) ((id :: (if drop then rs else [])).map (·, none) ++ [(n, some (.arr (t && t') k2 ((es.drop off).take len ++ ys)))]) rd := by
          refine ⟨id :: rs, ?_⟩
          cases drop
          · simpa using hK
          · simpa using hK
        cases rx with
        | sr0 p =>
          rw [List.take_zero] at hbd hKK
          rw [List.take_zero] at hxk
          exact fin t ([] : List (List D)) (id :: (if drop then rs else [])) p 0 (by simp) hv (Nat.zero_le _) (by simpa using hbd) (.inl ⟨rfl, rfl⟩) (.inr (by simpa using hKK))
        | sr _ _ _ cap l hl h1 h2 =>
          have hv' : a.eval x = .slice (some ⟨l.b, l.base + off * l.k, none⟩) ((es.drop off).take len).length cap := by rw [hlx]; exact hv
          refine fin t _ _ _ cap hxk hv' (by rw [hlx]; exact h2) hbd ?_ (.inr hKK)
          rcases hrep with ⟨he, h3⟩ | ⟨l', h3, hlk, cs, E, h4, h5, h6, h7⟩
          · rw [hl] at h3; cases h3
          · rw [hl] at h3; cases h3
            right
            refine ⟨l.b, l.base + off * l.k, cs, E, rfl, h4, ?_, h.hp.disj id _ l hob rfl hl, h.hp.fresh id _ l hob rfl hl, fun _ i o l1 a1 a2 a3 a4 e => ?_, fun i j hi' hj' => ?_⟩
            · have : (off + cap) * k2 ≤ l.C * k2 := Nat.mul_le_mul_right _ (Nat.le_of_eq h1)
              rw [Nat.add_mul] at this; rw [hlk]; omega
            · have := h.hp.sepB i id o _ l1 l a1 hob a3 rfl a4 hl l.b e (MO.mem _ l)
              subst this; simp at a2
            · rw [hlx] at hi'
              obtain ⟨u, hu, hr⟩ := h7 (off + i) j (by omega) hj'
              refine ⟨u, ?_, ?_⟩
              · rw [← hu, hlk, Nat.add_mul]; congr 1; omega
              · have e1 : cellD ((es.drop off).take len) i j = cellD es (off + i) j := by simp [cellD, List.getD, List.getElem?_take_of_lt hi']
                rw [e1]; exact hr
      · rename_i t k2 es C hob
        obtain ⟨rfl, hbd, hle, hgr, hK⟩ := hm
        have hlx : ((es.drop off).take len).length = len := by simp; omega
        obtain ⟨hek, l, h3, hC, hlk, cs, E, h4, h5, h6, h7⟩ := h.hp.objs id _ hob
        have hxk : ∀ el ∈ (es.drop off).take len, el.length = k2 := fun el he => hek el (List.mem_of_mem_drop (List.mem_of_mem_take he))
        have hKK : ∃ rd, K (.sr n 0 (((es.drop off).take len).length + ys.length)) ((if drop then rs else []).map (·, none) ++ [(n, some (.arr (t && t') k2 ((es.drop off).take len ++ ys)))]) rd := by
          refine ⟨id :: rs, ?_⟩
          cases drop
          · simpa using hK
          · simpa using hK
        cases rx with
        | sr0 p =>
          rw [List.take_zero] at hbd hKK
          rw [List.take_zero] at hxk
          exact fin t ([] : List (List D)) (if drop then rs else []) p 0 (by simp) hv (Nat.zero_le _) (by simpa using hbd) (.inl ⟨rfl, rfl⟩) (.inr (by simpa using hKK))
        | sr _ _ _ cap lq hl h1 h2 =>
          obtain rfl : l = lq := by rw [hl] at h3; exact (Option.some.inj h3).symm
          have hv' : a.eval x = .slice (some ⟨l.b, l.base + off * l.k, none⟩) ((es.drop off).take len).length cap := by rw [hlx]; exact hv
          refine fin t _ _ _ cap hxk hv' (by rw [hlx]; exact h2) hbd ?_ (.inr hKK)
          right
          refine ⟨l.b, l.base + off * l.k, cs, E, rfl, h4, ?_, h.hp.disj id _ l hob rfl hl, h.hp.fresh id _ l hob rfl hl, fun hroom => ?_, fun i j hi' hj' => ?_⟩
          · have : (off + cap) * k2 ≤ l.C * k2 := Nat.mul_le_mul_right _ (Nat.le_of_eq h1)
            rw [Nat.add_mul] at this; rw [hlk]; omega
          · exfalso; rw [hlx] at hroom; omega
          · rw [hlx] at hi'
            obtain ⟨u, hu, hr⟩ := h7 (off + i) j (by omega) hj'
            refine ⟨u, ?_, ?_⟩
            · rw [← hu, hlk, Nat.add_mul]; congr 1; omega
            · have e1 : cellD ((es.drop off).take len) i j = cellD es (off + i) j := by simp [cellD, List.getD, List.getElem?_take_of_lt hi']
              rw [e1]; exact hr
      · exact hm.elim
    · exact hm.elim
  · exact hm.elim
end
end Go.Fw
namespace Go.Fw
set_option linter.unusedVariables false
set_option linter.unusedSimpArgs false
section
variable {P : Program} {N : FrS} {A : Nat → Prop} {w0 : World} {F0 : List Nat} {J0 : Imm} {g : Env} {s : MS} {a : Act} {w : World} {hp : List (Nat × MO)}
variable {n : Nat} {o : Oper} {K : MK} {next : Act → World → Prop} {Q : Exit → Act → World → Prop}

theorem overR_length {es ys : List (List D)} {off : Nat} (h : off ≤ es.length) : (overR es off ys).length = max es.length (off + ys.length) := by
  simp [overR]; omega
theorem overR_nil {es : List (List D)} {off : Nat} : overR es off [] = es := by simp [overR]
theorem cellD_overR {es ys : List (List D)} {off : Nat} (h : off ≤ es.length) (i j : Nat) : cellD (overR es off ys) i j = if off ≤ i ∧ i < off + ys.length then cellD ys (i - off) j else cellD es i j := by
  have e : (overR es off ys)[i]? = if off ≤ i ∧ i < off + ys.length then ys[i - off]? else es[i]? := by
    unfold overR
    by_cases h1 : i < off
    · rw [if_neg (by omega), List.append_assoc, List.getElem?_append_left (by simp; omega), List.getElem?_take_of_lt h1]
    · by_cases h2 : i < off + ys.length
      · rw [if_pos ⟨by omega, h2⟩, List.append_assoc, List.getElem?_append_right (by simp; omega), List.getElem?_append_left (by simp; omega)]
        congr 1; simp; omega
      · rw [if_neg (by omega), List.getElem?_append_right (by simp; omega), List.getElem?_drop]
        congr 1; simp; omega
  simp only [cellD, List.getD, e]
  split <;> rfl

/-- The room of an array is forgotten. -/
theorem HRel.unroom (h : HRel P A w0 F0 J0 g hp w) {id : Nat} {t : Bool} {k : Nat} {es : List (List D)} {C : Nat} (h1 : look hp id = some (.rm t k es C)) :
    HRel P A w0 F0 J0 g (put hp id (.arr t k es)) w := by
  obtain ⟨h0, l, h2, hC, hb⟩ := h.objs id _ h1
  exact h.write h1 rfl h2 rfl (WExt.refl w _) ⟨h0, .inr ⟨l, h2, hb⟩⟩

/-- The first elements of a slice, read. -/
theorem HRel.pref (h : HRel P A w0 F0 J0 g s.hp w) {v : Value} {m : MV} (hv : RV P g v m) {c L : Nat} {t : Bool} {k : Nat} {ys : List (List D)} {rs : List Nat} (hs : prefOf s c m = some (t, k, ys, rs)) (hL : lenV s m = some L) :
    (∀ e ∈ ys, e.length = k) ∧ ys.length = c ∧ ∃ p cap, v = .slice p L cap ∧
      (ys = [] ∨ ∃ (b q : Nat) (cs : Array Value) (E : TypeId) (z : Nat × Nat), p = some ⟨b, q, none⟩ ∧ w.heap[b]? = some (.cells cs E z) ∧
        (∀ i j, i < ys.length → j < k → ∃ u, cs[q + i * k + j]? = some u ∧ DR (g.im t) u (cellD ys i j))) := by
  cases m <;> simp [prefOf] at hs
  case s t' k' es =>
    obtain ⟨hc, rfl, rfl, rfl, rfl⟩ := hs
    obtain ⟨h1, p, len, cap, rfl, h2, h3, h4⟩ := h.slice hv (show sliceOf s (.s t' k' es) = some (t', k', es, []) from rfl)
    simp only [lenV, Option.some.injEq] at hL; subst hL
    refine ⟨fun e he => h1 e (List.mem_of_mem_take he), by simp; omega, p, cap, by rw [h2], ?_⟩
    rcases h4 with rfl | ⟨b, q, cs, E, z, e1, e2, e3, _⟩
    · left; simp
    · right
      refine ⟨b, q, cs, E, z, e1, e2, fun i j hi hj => ?_⟩
      simp at hi
      obtain ⟨u, hu, hr⟩ := e3 i j (by omega) hj
      refine ⟨u, hu, ?_⟩
      have hi' : i < c := by omega
      have : cellD (es.take c) i j = cellD es i j := by simp [cellD, List.getD, List.getElem?_take_of_lt hi']
      rw [this]; exact hr
  case nl k' =>
    obtain ⟨rfl, rfl, rfl, rfl, rfl⟩ := hs
    cases hv with
    | nl p =>
      simp only [lenV, Option.some.injEq] at hL; subst hL
      exact ⟨by simp, rfl, p, _, rfl, .inl rfl⟩
  case sr id off len =>
    simp only [lenV, Option.some.injEq] at hL; subst hL
    have key : ∀ (s' : MS), HRel P A w0 F0 J0 g s'.hp w → ∀ (t' : Bool) (k' : Nat) (es : List (List D)), (s'.obj id = some (.arr t' k' es) ∨ s'.obj id = some (.fz t' k' es)) → c ≤ len → off + c ≤ es.length →
        (∀ e ∈ (es.drop off).take c, e.length = k') ∧ ((es.drop off).take c).length = c ∧ ∃ p cap, v = .slice p len cap ∧
        ((es.drop off).take c = [] ∨ ∃ (b q : Nat) (cs : Array Value) (E : TypeId) (z : Nat × Nat), p = some ⟨b, q, none⟩ ∧ w.heap[b]? = some (.cells cs E z) ∧
        (∀ i j, i < ((es.drop off).take c).length → j < k' → ∃ u, cs[q + i * k' + j]? = some u ∧ DR (g.im t') u (cellD ((es.drop off).take c) i j))) := by
      intro s' h' t' k' es hob hc1 hc2
      have hso : sliceOf s' (.sr id off c) = some (t', k', (es.drop off).take c, [id]) := by
        rcases hob with hob | hob <;> simp [sliceOf, hob, hc2]
      have hl : ((es.drop off).take c).length = c := by simp; omega
      cases hv with
      | sr0 p =>
        obtain rfl : c = 0 := by omega
        obtain ⟨h1, _⟩ := h'.slice (RV.sr0 p id off) hso
        exact ⟨h1, hl, p, 0, rfl, .inl (by simp)⟩
      | sr _ _ _ cap l hl' g1 g2 =>
        obtain ⟨h1, p, len', cap', e0, h2, h3, h4⟩ := h'.slice (RV.sr id off c cap l hl' g1 (by omega)) hso
        cases e0
        refine ⟨h1, hl, _, cap, rfl, ?_⟩
        rcases h4 with h4 | ⟨b, q, cs, E, z, e1, e2, e3, _⟩
        · exact .inl h4
        · exact .inr ⟨b, q, cs, E, z, e1, e2, e3⟩
    split at hs
    · rename_i t' k' es hob
      simp at hs
      obtain ⟨hle, rfl, rfl, rfl, rfl⟩ := hs
      exact key s h _ _ _ (.inl hob) hle.1 hle.2
    · rename_i t' k' es hob
      simp at hs
      obtain ⟨hle, rfl, rfl, rfl, rfl⟩ := hs
      exact key s h _ _ _ (.inr hob) hle.1 hle.2
    · rename_i t' k' es C hob
      simp at hs
      obtain ⟨hle, rfl, rfl, rfl, rfl⟩ := hs
      refine key ⟨s.fr, put s.hp id (.arr t' k' es), s.nx⟩ (h.unroom hob) _ _ _ (.inl ?_) hle.1 hle.2
      show look (put s.hp id (.arr t' k' es)) id = _
      rw [look_put]; simp
    · simp at hs

theorem S.cap {T e : TypeId} {x : Operand} {x' : Opd} {ts : Array TypeId} (ho : o.op = .call { callee := .builtin .cap, args := #[x], argTypes := ts }) (hT : ts[0]? = some T) (hx : okOpd x x' = true)
    (ht : P.underlying T = some (.slice e)) (h : Rel P N A w0 F0 J0 g s a w) (hm : mop false P (.cap x') n s K) (hn : Goes P A w0 F0 J0 g s.hp n o a K next) : o.wp P a w next Q := by
  have rx := h.val hx
  simp only [mop] at hm
  split at hm
  · rename_i id off len hb
    split at hm
    · rename_i t k es hob
      obtain ⟨hlen, hK⟩ := hm
      rw [hb] at rx
      generalize hv : a.eval x = v at rx
      cases rx with
      | sr0 p => omega
      | sr _ _ _ cap l hl h1 h2 =>
        obtain ⟨h0, hrep⟩ := h.hp.objs id _ hob
        rcases hrep with ⟨_, h3⟩ | ⟨l', h3, hb3⟩
        · rw [hl] at h3; cases h3
        rw [hl] at h3; cases h3
        have hle : es.length ≤ l.C := by obtain ⟨_, _, _, _, _, h5, _⟩ := hb3; exact h5
        refine wp_val (v := .int .i64 cap) (w' := w) ?_ (hn _ _ _ g _ _ (hK cap h2 (by omega)) (Env.le.refl g) (.i _ _) ?_)
        · simp [execOp, ho, resolve, invoke, builtin, Builtin.cap_, hT, hv, run_underlying ht, goInt]
        · show HRel _ _ _ _ _ _ (put s.hp id (.rm t k es (off + cap))) _
          exact (h.hp.write (mo' := .rm t k es (off + cap)) hob rfl hl rfl (WExt.refl w _) ⟨h0, l, hl, h1.symm, hb3⟩).weaken (fun _ x => x.1)
    · exact hm.elim
  · rename_i k hb
    rw [hb] at rx
    generalize hv : a.eval x = v at rx
    cases rx with
    | nl p =>
      refine hn.same h hm (v := .int .i64 0) (.i _ _) ?_
      simp [execOp, ho, resolve, invoke, builtin, Builtin.cap_, hT, hv, run_underlying ht, goInt]
  · exact hm.elim

/-- The cells of some rows, one behind the other. -/
theorem news_of {k : Nat} (hk0 : 0 < k) {I : Imm} {ys : List (List D)} {p : Option Addr}
    (h : ys = [] ∨ ∃ (b q : Nat) (cs : Array Value) (E : TypeId) (z : Nat × Nat), p = some ⟨b, q, none⟩ ∧ w.heap[b]? = some (.cells cs E z) ∧ (∀ i j, i < ys.length → j < k → ∃ u, cs[q + i * k + j]? = some u ∧ DR I u (cellD ys i j))) :
    ys = [] ∨ ∃ (p' : Addr) (news : List Value), p = some p' ∧ news.length = ys.length * k ∧ (∀ j u, news[j]? = some u → w.cell? (p'.add j) = some u) ∧ (∀ u ∈ news, u.oneCell' = true) ∧
        ∀ i j, i < ys.length → j < k → ∃ u, news[i * k + j]? = some u ∧ DR I u (cellD ys i j) := by
  rcases h with e | ⟨b, q, cs, E, zz, rfl, hb, hc⟩
  · exact .inl e
  · right
    have hall := cells_chunks hk0 (cs := cs) (q := q) (m := ys.length) (fun i j hi hj => by obtain ⟨u, hu, _⟩ := hc i j hi hj; exact ⟨u, hu⟩)
    have hget : ∀ p, p < ys.length * k → cs[q + p]? = some (cs.getD (q + p) undef) := fun p hp => by
      obtain ⟨u, hu⟩ := hall p hp
      rw [hu, Array.getD_eq_getD_getElem?, hu]; rfl
    refine ⟨⟨b, q, none⟩, (List.range (ys.length * k)).map (fun p => cs.getD (q + p) undef), rfl, by simp, fun j u hj => ?_, fun u hu => ?_, fun i j hi hj => ?_⟩
    · by_cases hjl : j < ys.length * k
      · rw [List.getElem?_map, List.getElem?_range hjl] at hj
        simp at hj; subst hj
        have hadd : (⟨b, q, none⟩ : Addr).add j = ⟨b, q + j, none⟩ := by
          by_cases e : j = 0
          · subst e; simp [Addr.add]
          · simp [Addr.add, e]
        rw [hadd, cell_of_row w b (q + j) cs E zz hb, hget j hjl]; simp
      · rw [List.getElem?_eq_none (by simp; omega)] at hj; cases hj
    · simp at hu
      obtain ⟨p, hp, rfl⟩ := hu
      have h1 : p / k < ys.length := by rw [Nat.div_lt_iff_lt_mul hk0]; exact hp
      obtain ⟨u, hu, hr⟩ := hc (p / k) (p % k) h1 (Nat.mod_lt _ hk0)
      have e1 : q + p / k * k + p % k = q + p := by have := Nat.div_add_mod p k; rw [Nat.mul_comm (p / k)]; omega
      rw [e1] at hu
      have : cs.getD (q + p) undef = u := by rw [Array.getD_eq_getD_getElem?, hu]; rfl
      rw [← Array.getD_eq_getD_getElem?, this]; exact hr.one
    · obtain ⟨u, hu, hr⟩ := hc i j hi hj
      have hlt : i * k + j < ys.length * k := by
        have : (i + 1) * k ≤ ys.length * k := Nat.mul_le_mul_right _ (by omega)
        rw [Nat.add_mul] at this; omega
      refine ⟨u, ?_, hr⟩
      rw [List.getElem?_map, List.getElem?_range hlt]
      simp only [Option.map_some, ← Nat.add_assoc]
      rw [Array.getD_eq_getD_getElem?, hu]; rfl

/-- Rows are written over others, in an array's room. -/
theorem HRel.overwrite (h : HRel P A w0 F0 J0 g hp w) {id : Nat} {o0 : MO} {t t' : Bool} {k : Nat} {es ys : List (List D)} {off : Nat} {l : Loc} (hob : look hp id = some o0)
    (ho0 : o0 = .arr t k es ∨ ∃ C, o0 = .rm t k es C) (hl : g.inj id = some l) (hoff : off ≤ es.length) (hfit : off + ys.length ≤ l.C) (hyk : ∀ e ∈ ys, e.length = k)
    {news : List Value} (hnl : news.length = ys.length * k) (hnD : ∀ i j, i < ys.length → j < k → ∃ u, news[i * k + j]? = some u ∧ DR (g.im t') u (cellD ys i j)) :
    ∃ (cs : Array Value) (E : TypeId), w.heap[l.b]? = some (.cells cs E (0, 0)) ∧ l.k = k ∧ l.base + off * k + news.length ≤ cs.size ∧
      HRel P A w0 F0 J0 g (put hp id (.arr (t && t') k (overR es off ys))) (w.setRow l.b (splice cs.toList (l.base + off * k) news).toArray) := by
  have hrep : (∀ e ∈ es, e.length = k) ∧ BRep (g.im t) w l k es := by
    rcases ho0 with rfl | ⟨C, rfl⟩
    · obtain ⟨h0, ⟨_, h3⟩ | ⟨l', h3, hb⟩⟩ := h.objs id _ hob
      · rw [hl] at h3; cases h3
      · rw [hl] at h3; cases h3; exact ⟨h0, hb⟩
    · obtain ⟨h0, l', h3, _, hb⟩ := h.objs id _ hob
      rw [hl] at h3; cases h3; exact ⟨h0, hb⟩
  have hlive : o0.live = true := by rcases ho0 with rfl | ⟨C, rfl⟩ <;> rfl
  obtain ⟨h0, hlk, cs, E, h4, h5, h6, h7⟩ := hrep
  have hsz : l.base + off * k + news.length ≤ cs.size := by
    have : (off + ys.length) * k ≤ l.C * k := Nat.mul_le_mul_right _ hfit
    rw [Nat.add_mul] at this; rw [hnl]; omega
  refine ⟨cs, E, h4, hlk, hsz, ?_⟩
  have hw := WExt.setRow (w := w) (cs' := (splice cs.toList (l.base + off * k) news).toArray) h4 (by simp [splice_length])
  have wk1 : ∀ (ta tb : Bool) {v : Value} {d : D}, DR (g.im ta) v d → DR (g.im (ta && tb)) v d := fun ta tb v d hh => by
    cases ta <;> cases tb <;> first | exact hh | exact hh.mono (fun b o x => h.JI b o x)
  have wk2 : ∀ (ta tb : Bool) {v : Value} {d : D}, DR (g.im tb) v d → DR (g.im (ta && tb)) v d := fun ta tb v d hh => by
    rw [Bool.and_comm]; exact wk1 tb ta hh
  refine h.write (mo' := .arr (t && t') k (overR es off ys)) hob hlive hl rfl hw ⟨fun e he => ?_, .inr ⟨l, hl, hlk, _, E, setRow_heap w l.b cs _ E _ h4, by simp [splice_length]; exact h5, by rw [overR_length hoff]; omega, fun i j hi hj => ?_⟩⟩ (by rcases ho0 with rfl | ⟨C, rfl⟩ <;> rfl)
  · simp only [overR, List.mem_append] at he
    rcases he with (he | he) | he
    · exact h0 e (List.mem_of_mem_take he)
    · exact hyk e he
    · exact h0 e (List.mem_of_mem_drop he)
  · rw [overR_length hoff] at hi
    rw [List.getElem?_toArray, splice_get, cellD_overR hoff]
    have m1 : ∀ p q : Nat, p < q → p * k + k ≤ q * k := fun p q hpq => by
      have : (p + 1) * k ≤ q * k := Nat.mul_le_mul_right _ hpq
      rw [Nat.add_mul] at this; omega
    by_cases hin : off ≤ i ∧ i < off + ys.length
    · obtain ⟨u, hu, hr⟩ := hnD (i - off) j (by omega) hj
      have e1 : i * k = off * k + (i - off) * k := by rw [← Nat.add_mul]; congr 1; omega
      have e2 := m1 (i - off) ys.length (by omega)
      rw [if_pos ⟨by omega, by omega, by simp; omega⟩, if_pos hin]
      refine ⟨u, ?_, wk2 t t' hr⟩
      rw [← hu]; congr 1; omega
    · obtain ⟨u, hu, hr⟩ := h7 i j (by omega) hj
      rw [if_neg, if_neg hin]
      · exact ⟨u, by simpa using hu, wk1 t t' hr⟩
      · rw [hnl]
        by_cases h1 : i < off
        · have := m1 i off h1; omega
        · have : (off + ys.length) * k ≤ i * k := Nat.mul_le_mul_right _ (by omega)
          rw [Nat.add_mul] at this; omega

theorem HRel.weakObj (h : HRel P A w0 F0 J0 g hp w) {id : Nat} {o0 : MO} {t : Bool} (t' : Bool) {k : Nat} {es : List (List D)} (hob : look hp id = some o0) (ho0 : o0 = .arr t k es ∨ ∃ C, o0 = .rm t k es C) :
    HRel P A w0 F0 J0 g (put hp id (.arr (t && t') k es)) w := by
  have wk1 : ∀ {v : Value} {d : D}, DR (g.im t) v d → DR (g.im (t && t')) v d := fun {v d} hh => by
    cases t <;> cases t' <;> first | exact hh | exact hh.mono (fun b o x => h.JI b o x)
  have hbr : ∀ l, BRep (g.im t) w l k es → BRep (g.im (t && t')) w l k es := fun l ⟨e1, cs, E, e2, e3, e4, e5⟩ => ⟨e1, cs, E, e2, e3, e4, fun i j hi hj => by
    obtain ⟨u, hu, hr⟩ := e5 i j hi hj
    exact ⟨u, hu, wk1 hr⟩⟩
  have loc : ∀ l, g.inj id = some l → (∀ e ∈ es, e.length = k) → BRep (g.im t) w l k es → o0.live = true → HRel P A w0 F0 J0 g (put hp id (.arr (t && t') k es)) w := fun l hl h0 hb hlv =>
    h.write hob hlv hl rfl (WExt.refl w _) ⟨h0, .inr ⟨l, hl, hbr l hb⟩⟩ (by rcases ho0 with rfl | ⟨C, rfl⟩ <;> rfl)
  rcases ho0 with rfl | ⟨C, rfl⟩
  · obtain ⟨h0, ⟨he, h3⟩ | ⟨l, h3, hb⟩⟩ := h.objs id _ hob
    · have hsame : ∀ i o, look (put hp id (.arr (t && t') k es)) i = some o → o.live = true → ∃ o', look hp i = some o' ∧ o'.live = true ∧ ∀ l, o.blks l = o'.blks l := fun i o x hlv => by
        rw [look_put] at x
        by_cases e : id = i
        · subst e; rw [if_pos rfl] at x; cases x; exact ⟨_, hob, rfl, fun _ => rfl⟩
        · rw [if_neg e] at x; exact ⟨o, x, hlv, fun _ => rfl⟩
      refine ⟨fun i o x => ?_, fun i x => ⟨(h.avail i x).1, ?_⟩, fun i1 i2 o1 o2 l1 l2 a1 a2 b1 b2 c1 c2 => ?_, fun i o1 l1 a1 b1 c1 => ?_, fun i o1 l1 a1 b1 c1 => ?_, fun i o1 l1 a1 b1 c1 => ?_, h.imm, h.JI, h.Jf, h.ext⟩
      · rw [look_put] at x
        by_cases e : id = i
        · subst e; simp at x; subst x; exact ⟨h0, .inl ⟨he, h3⟩⟩
        · rw [if_neg e] at x; exact h.objs i o x
      · rw [look_put]
        by_cases e : id = i
        · subst e; rw [(h.avail _ x).2] at hob; cases hob
        · rw [if_neg e]; exact (h.avail i x).2
      · obtain ⟨p1, q1, r1, t1⟩ := hsame _ _ a1 b1
        obtain ⟨p2, q2, r2, t2⟩ := hsame _ _ a2 b2
        rw [t1, t2]
        exact h.sepB i1 i2 p1 p2 l1 l2 q1 q2 r1 r2 c1 c2
      · obtain ⟨p1, q1, r1, t1⟩ := hsame _ _ a1 b1
        rw [t1]
        exact h.disjB i p1 l1 q1 r1 c1
      · obtain ⟨p1, q1, r1, t1⟩ := hsame _ _ a1 b1
        rw [t1]
        exact h.freshB i p1 l1 q1 r1 c1
      · obtain ⟨p1, q1, r1, t1⟩ := hsame _ _ a1 b1
        rw [t1]
        exact h.ltB i p1 l1 q1 r1 c1
    · exact loc l h3 h0 hb rfl
  · obtain ⟨h0, l, h3, _, hb⟩ := h.objs id _ hob
    exact loc l h3 h0 hb rfl

theorem run_copy_none {T ty e : TypeId} {inf : TypeInfo} {ts : Array TypeId} (hT : ts[0]? = some T) (ht : P.underlying T = some (.slice e)) (hi : P.info? e = some inf) {px py : Option Addr} {l m cx cy : Nat} (h0 : min m l = 0) :
    (Builtin.copy_ ts ty #[.slice px l cx, .slice py m cy]).run P w = .ok (.int .i64 0) w := by
  have h0' : Nat.min m l = 0 := h0
  cases px <;> cases py <;> simp [Builtin.copy_, hT, run_underlying ht, sizeOf, typeInfo, hi, Builtin.lenOf, h0', Builtin.firstCells, loadCells, loadCellsFrom, storeCells, goInt]

theorem S.copy {T e : TypeId} {x y : Operand} {x' y' : Opd} {inf : TypeInfo} {ts : Array TypeId} {k : Nat} (ho : o.op = .call { callee := .builtin .copy, args := #[x, y], argTypes := ts }) (hT : ts[0]? = some T)
    (hx : okOpd x x' = true) (hy : okOpd y y' = true) (ht : P.underlying T = some (.slice e)) (hi : P.info? e = some inf) (hk : inf.size = k) (hk0 : 0 < k)
    (h : Rel P N A w0 F0 J0 g s a w) (hm : mop false P (.copy k x' y') n s K) (hn : Goes P A w0 F0 J0 g s.hp n o a K next) : o.wp P a w next Q := by
  have rx := h.val hx
  have ry := h.val hy
  simp only [mop] at hm
  have hexec : ∀ {v : Value} {w' : World}, (Builtin.copy_ ts o.type #[a.eval x, a.eval y]).run P w = .ok v w' → (execOp a.eval o).run P w = .ok (.value v) w' := by
    intro v w' e1
    simp [execOp, ho, resolve, invoke, builtin, e1]
  split at hm
  · rename_i id off len m hb hL
    have key : ∀ (o0 : MO) (t : Bool) (k' : Nat) (es : List (List D)), look s.hp id = some o0 → (o0 = .arr t k' es ∨ ∃ C, o0 = .rm t k' es C) →
        (match prefOf s (min m len) (s.val y') with
        | some (t', k'', ys, rs) => k' = k ∧ k'' = k ∧ off ≤ es.length ∧ K (.i .i64 (min m len : Nat)) [(id, some (.arr (t && t') k (overR es off ys)))] (id :: rs)
        | none => False) → o.wp P a w next Q := by
      intro o0 t k' es hob ho0 hm
      split at hm
      · rename_i t' k'' ys rs hpf
        obtain ⟨rfl, rfl, hoff, hK⟩ := hm
        obtain ⟨hyk, hyl, py, capy, hvy, hcells⟩ := h.hp.pref ry hpf hL
        rw [hvy] at hexec
        rw [hb] at rx
        generalize hv : a.eval x = v at rx hexec
        rcases news_of hk0 hcells with hy0 | ⟨p, news, rfl, hnl, hncell, hn1, hnD⟩
        · subst hy0
          have h0 : min m len = 0 := by simpa using hyl.symm
          have fin : ∀ px capx, v = .slice px len capx → o.wp P a w next Q := by
            rintro px capx rfl
            refine wp_val (hexec (run_copy_none hT ht hi h0)) (hn _ _ _ g _ _ hK (Env.le.refl g) (by rw [h0]; exact .i _ _) ?_)
            rw [overR_nil]
            exact (h.hp.weakObj t' hob ho0).weaken (fun _ x => x.1)
          cases rx with
          | sr0 p => exact fin _ _ rfl
          | sr _ _ _ cap l hl h1 h2 => exact fin _ _ rfl
        · cases rx with
          | sr0 p' =>
            have : ys = [] := List.eq_nil_of_length_eq_zero (by rw [hyl]; simp)
            subst this
            refine wp_val (hexec (run_copy_none hT ht hi (by simp))) (hn _ _ _ g _ _ hK (Env.le.refl g) (by simpa using RV.i _ _) ?_)
            rw [overR_nil]
            exact (h.hp.weakObj t' hob ho0).weaken (fun _ x => x.1)
          | sr _ _ _ cap l hl h1 h2 =>
            obtain ⟨cs, E, h4, hlk, hsz, hH⟩ := h.hp.overwrite (t' := t') (off := off) hob ho0 hl hoff (by omega) hyk hnl hnD
            refine wp_val (v := .int .i64 (min m len : Nat)) (hexec ?_) (hn _ _ _ g _ _ hK (Env.le.refl g) (.i _ _) (hH.weaken (fun _ x => x.1)))
            have hf := run_firstCells_some (P := P) w inf.size (min m len) p m capy news (by rw [hnl, hk, hyl]) hncell
            have hst := run_storeCells_at P l.b (l.base + off * k'') E news 0 cs w h4 (by simpa using hsz) hn1
            simp only [Nat.add_zero] at hst
            rw [splice_eq _ _ _ (by simpa using hsz)] at hst
            have hmin : Nat.min m len = min m len := rfl
            rw [hlk]
            simp [Builtin.copy_, hT, run_underlying ht, sizeOf, typeInfo, hi, Builtin.lenOf, hmin, hf, hst, goInt]
      · exact hm.elim
    split at hm
    · rename_i t k' es hob; exact key _ t k' es hob (.inl rfl) hm
    · rename_i t k' es C hob; exact key _ t k' es hob (.inr ⟨C, rfl⟩) hm
    · exact hm.elim
  · exact hm.elim

theorem zeroCells_get (z : Array Value) (n i j : Nat) (hi : i < n) (hj : j < z.size) : (Builtin.zeroCells z n)[i * z.size + j]? = z[j]? := by
  have hlt : i * z.size + j < n * z.size := by
    have : (i + 1) * z.size ≤ n * z.size := Nat.mul_le_mul_right _ hi
    rw [Nat.add_mul] at this; omega
  have hm : (i * z.size + j) % z.size = j := by rw [Nat.mul_comm, Nat.mul_add_mod, Nat.mod_eq_of_lt hj]
  simp only [Builtin.zeroCells]
  rw [Array.getElem?_eq_getElem (by simpa using hlt)]
  simp [hm, getElem!_pos z j hj, hj]

theorem S.clear {T e : TypeId} {x : Operand} {x' : Opd} {inf : TypeInfo} {z : Value} {ts : Array TypeId} {k : Nat} {zero : List D} (ho : o.op = .call { callee := .builtin .clear, args := #[x], argTypes := ts }) (hT : ts[0]? = some T)
    (hx : okOpd x x' = true) (ht : P.underlying T = some (.slice e)) (hi : P.info? e = some inf) (hk : inf.size = k) (hk0 : 0 < k) (hz : inf.zero = some z) (hzl : z.cells.size = k)
    (hzd : zero.length = k ∧ ∀ j, j < k → DR (fun _ => none) (z.cells.getD j undef) (zero.getD j default))
    (h : Rel P N A w0 F0 J0 g s a w) (hm : mop false P (.clear k zero x') n s K) (hn : Goes P A w0 F0 J0 g s.hp n o a K next) : o.wp P a w next Q := by
  have rx := h.val hx
  simp only [mop] at hm
  have hexec : ∀ {v : Value} {w' : World}, (Builtin.clear_ ts o.type #[a.eval x]).run P w = .ok v w' → (execOp a.eval o).run P w = .ok (.value v) w' := by
    intro v w' e1
    simp [execOp, ho, resolve, invoke, builtin, e1]
  split at hm
  · rename_i id off len hb
    split at hm
    · rename_i t k' es hob
      obtain ⟨rfl, hle, hK⟩ := hm
      rw [hb] at rx
      generalize hv : a.eval x = v at rx hexec
      have same : len = 0 → ∀ (p : Option Addr) (c : Nat), v = .slice p len c → o.wp P a w next Q := by
        rintro rfl p c rfl
        refine wp_val (v := .tuple #[]) (w' := w) (hexec ?_) (hn _ _ _ g _ _ hK (Env.le.refl g) (.tup _ _ .nil) ?_)
        · cases p <;> simp [Builtin.clear_, hT, run_underlying ht]
        · simp only [List.replicate_zero, overR_nil]
          have := (h.hp.weakObj true hob (.inl rfl)).weaken (A' := fun id => A id ∧ ¬(n ≤ id ∧ id < n + 64)) (fun _ x => x.1)
          rw [Bool.and_true] at this; exact this
      cases rx with
      | sr0 p => exact same rfl _ _ rfl
      | sr _ _ _ cap l hl h1 h2 =>
        cases len with
        | zero => exact same rfl _ _ rfl
        | succ len =>
          have hone : ∀ j, j < k' → ∃ u, z.cells[j]? = some u ∧ DR (g.im true) u (zero.getD j default) := fun j hj => by
            have hjz : j < z.cells.size := by omega
            refine ⟨z.cells[j], by simp [hjz], ?_⟩
            have := (hzd.2 j hj).mono (I' := g.im true) (fun b o x => by cases x)
            rwa [Array.getD_eq_getD_getElem?, Array.getElem?_eq_getElem hjz] at this
          have hcell : ∀ i j, i < len + 1 → j < k' → ∃ u, (Builtin.zeroCells z.cells (len + 1)).toList[i * k' + j]? = some u ∧ DR (g.im true) u (zero.getD j default) := fun i j hi hj => by
            obtain ⟨u, hu, hr⟩ := hone j hj
            refine ⟨u, ?_, hr⟩
            rw [Array.getElem?_toList, ← hzl, zeroCells_get _ _ _ _ hi (by omega), hu]
          obtain ⟨cs, E, h4, hlk, hsz, hH⟩ := h.hp.overwrite (t' := true) (off := off) (ys := List.replicate (len + 1) zero) (news := (Builtin.zeroCells z.cells (len + 1)).toList) hob (.inl rfl) hl (by omega) (by rw [List.length_replicate]; omega)
            (fun e he => by rw [(List.mem_replicate.1 he).2]; exact hzd.1) (by simp [size_zeroCells, hzl]) (fun i j hi hj => by
              simp at hi
              obtain ⟨u, hu, hr⟩ := hcell i j hi hj
              refine ⟨u, hu, ?_⟩
              have : cellD (List.replicate (len + 1) zero) i j = zero.getD j default := by simp [cellD, List.getD, hi]
              rw [this]; exact hr)
          rw [Bool.and_true] at hH
          refine wp_val (v := .tuple #[]) (hexec ?_) (hn _ _ _ g _ _ hK (Env.le.refl g) (.tup _ _ .nil) (hH.weaken (fun _ x => x.1)))
          have hn1 : ∀ u ∈ (Builtin.zeroCells z.cells (len + 1)).toList, u.oneCell' = true := fun u hu => by
            obtain ⟨p, hp, rfl⟩ := List.mem_iff_getElem.1 hu
            have hp' : p < (len + 1) * k' := by simpa [size_zeroCells, hzl] using hp
            have h1 : p / k' < len + 1 := by rw [Nat.div_lt_iff_lt_mul hk0]; exact hp'
            obtain ⟨u, hu, hr⟩ := hcell (p / k') (p % k') h1 (Nat.mod_lt _ hk0)
            have e1 : p / k' * k' + p % k' = p := by have := Nat.div_add_mod p k'; rw [Nat.mul_comm (p / k')]; omega
            rw [e1, List.getElem?_eq_getElem hp] at hu
            rw [Option.some.inj hu]; exact hr.one
          have hst := run_storeCells_at P l.b (l.base + off * k') E (Builtin.zeroCells z.cells (len + 1)).toList 0 cs w h4 (by simpa using hsz) hn1
          simp only [Nat.add_zero] at hst
          rw [splice_eq _ _ _ (by simpa using hsz)] at hst
          rw [hlk]
          simp [Builtin.clear_, hT, run_underlying ht, zeroValue, typeInfo, hi, hz, hst]
    · exact hm.elim
  · exact hm.elim

theorem run_append_zeros {t ti ty e : TypeId} {i : TypeInfo} {z : Value} {ik : IntKind} (ht : P.underlying t = some (.slice e)) (hti : P.underlying ti = some (.int ik)) (hi : P.info? e = some i) (hz : i.zero = some z)
    {px : Option Addr} {sLen sCap : Nat} {olds : List Value} (holds : ∀ w', w'.heap = w.heap → (Builtin.firstCells i.size sLen (.slice px sLen sCap)).run P w' = .ok olds.toArray w')
    {n : Nat} {kk : IntKind} (hn0 : 0 < n) (hs0 : 0 < i.size) (hg : sCap < sLen + n) (h63 : ((sLen + n : Nat) : Int) ≤ 140737488355328) (hnb : n * i.bytes ≤ 140737488355328) (hfit : Builtin.nextslicecap (sLen + n) sCap * i.bytes ≤ 281474976710656) :
    (Builtin.append_ #[t, ti] ty #[.slice px sLen sCap, .int kk n]).run P w =
      .ok (.slice (some ⟨w.heap.size, 0, none⟩) (sLen + n) (grownCap w (sLen + n) sCap e))
        (w.drew.alloc (.cells (olds.toArray ++ Builtin.zeroCells z.cells n ++ Builtin.zeroCells z.cells (grownCap w (sLen + n) sCap e - (sLen + n))) e)) := by
  have hn : ¬ (sLen + n ≤ sCap) := by omega
  have hw : IntKind.i64.wrap (n : Int) = n := fits64 (by omega) (by omega)
  have h1 : ¬ ((n : Int) < 0) := by omega
  have h2 : ¬ (281474976710656 < (n : Int) * (i.bytes : Int)) := by
    have : (((n * i.bytes : Nat)) : Int) ≤ 140737488355328 := by omega
    rw [Int.natCast_mul] at this; omega
  have h63' : ¬ (9223372036854775807 < ((sLen : Int) + (n : Int))) := by omega
  have h48' : ¬ (281474976710656 < Builtin.nextslicecap (sLen + n) sCap * i.bytes) := by omega
  have h3 : ¬ (n * i.size = 0) := by
    intro e; rcases Nat.mul_eq_zero.1 e with e | e <;> omega
  have h3' : ¬ (n = 0 ∨ i.size = 0) := by omega
  have hf := holds w.drew rfl
  have hmx : max (n : Int) 0 = n := by omega
  simp [Builtin.append_, run_underlying ht, run_underlying hti, asInt, asIntOf, hw, hmx, h1, h2, sizeOf, typeInfo, zeroValue, hi, hz, hn, h63', h48', h3, h3', Question.forced, hf, newRow, grownCap]

theorem S.appendMk {T TI e : TypeId} {x y : Operand} {x' y' : Opd} {inf : TypeInfo} {z : Value} {ik : IntKind} {k bytes : Nat} {zero : List D} (ho : o.op = .call { callee := .builtin .append, args := #[x, y], argTypes := #[T, TI] })
    (hx : okOpd x x' = true) (hy : okOpd y y' = true) (ht : P.underlying T = some (.slice e)) (hti : P.underlying TI = some (.int ik)) (hi : P.info? e = some inf) (hk : inf.size = k) (hk0 : 0 < k) (hby : inf.bytes = bytes) (hb0 : 0 < bytes)
    (hz : inf.zero = some z) (hzl : z.cells.size = k) (hzd : zero.length = k ∧ ∀ j, j < k → DR (fun _ => none) (z.cells.getD j undef) (zero.getD j default)) (hA : ∀ id, n ≤ id → id < n + 64 → A id)
    (h : Rel P N A w0 F0 J0 g s a w) (hm : mop false P (.appendMk k bytes zero x' y') n s K) (hn : Goes P A w0 F0 J0 g s.hp n o a K next) : o.wp P a w next Q := by
  have rx := h.val hx
  have ry := h.val hy
  simp only [mop] at hm
  have hexec : ∀ {v : Value} {w' : World}, (Builtin.append_ #[T, TI] o.type #[a.eval x, a.eval y]).run P w = .ok v w' → (execOp a.eval o).run P w = .ok (.value v) w' := by
    intro v w' e1
    simp [execOp, ho, resolve, invoke, builtin, e1]
  have hA0 := hA n (Nat.le_refl _) (by omega)
  split at hm
  · rename_i id off len kk m hb hb'
    split at hm
    · rename_i t k' es C hob
      obtain ⟨rfl, hm0, hle, hgr, hbd, hK⟩ := hm
      obtain ⟨mm, rfl⟩ := Int.eq_ofNat_of_zero_le (show 0 ≤ m by omega)
      simp only [Int.toNat_natCast] at *
      rw [hb] at rx; rw [hb'] at ry
      generalize hv : a.eval x = v at rx hexec
      generalize hv' : a.eval y = v' at ry hexec
      cases ry
      obtain ⟨hek, l0, h3, hC, hlk, cs, E, h4, h5, h6, h7⟩ := h.hp.objs id _ hob
      have hlx : ((es.drop off).take len).length = len := by simp; omega
      have hxk : ∀ el ∈ (es.drop off).take len, el.length = k' := fun el he => hek el (List.mem_of_mem_drop (List.mem_of_mem_take he))
      have hbd2 : (len + mm) * bytes ≤ 140737488355328 := Int.ofNat_le.1 (by rw [Int.natCast_mul]; exact hbd)
      have hbd3 : len + mm ≤ 140737488355328 := Nat.le_trans (Nat.le_mul_of_pos_right _ hb0) hbd2
      have hbd4 : mm * bytes ≤ 140737488355328 := Nat.le_trans (Nat.mul_le_mul_right _ (by omega)) hbd2
      have hone : ∀ j, j < k' → ∃ u, z.cells[j]? = some u ∧ ∀ g' : Env, DR (g'.im t) u (zero.getD j default) := fun j hj => by
        have hjz : j < z.cells.size := by omega
        refine ⟨z.cells[j], by simp [hjz], fun g' => ?_⟩
        have := (hzd.2 j hj).mono (I' := g'.im t) (fun b o x => by cases x)
        rwa [Array.getD_eq_getD_getElem?, Array.getElem?_eq_getElem hjz] at this
      have fin : ∀ (px : Option Addr) (cap : Nat) (olds : List Value), v = .slice px len cap → cap < len + mm → olds.length = len * k' →
          (∀ w', w'.heap = w.heap → (Builtin.firstCells inf.size len (.slice px len cap)).run P w' = .ok olds.toArray w') →
          (∀ i j, i < len → j < k' → ∃ u, olds[i * k' + j]? = some u ∧ DR (g.im t) u (cellD ((es.drop off).take len) i j)) → o.wp P a w next Q := by
        rintro px cap olds rfl hcap hol hf hoD
        have hgrow := growslice_fits (bytes := bytes) hcap hbd2
        have hrun := run_append_zeros (P := P) (w := w) (ty := o.type) (kk := kk) (n := mm) ht hti hi hz hf (by omega) (by omega) hcap (by omega) (by rw [hby]; exact hbd4) (by rw [hby]; exact hgrow)
        have hge := grownCap_ge w (len + mm) cap e
        have hr1 : HRel P A w0 F0 J0 g s.hp w.drew := h.hp.drew
        have hinj := (hr1.avail n hA0).1
        have hleg := Env.le_at (l := ⟨w.heap.size, 0, k', grownCap w (len + mm) cap e, []⟩) hinj
        refine wp_val (hexec hrun) (hn _ _ _ (g.at n ⟨w.heap.size, 0, k', grownCap w (len + mm) cap e, []⟩) _ _ hK hleg ?_ ?_)
        · have := RV.sr (P := P) (g := g.at n ⟨w.heap.size, 0, k', grownCap w (len + mm) cap e, []⟩) n 0 (len + mm) (grownCap w (len + mm) cap e) ⟨w.heap.size, 0, k', grownCap w (len + mm) cap e, []⟩ (by simp [Env.at]) (by simp) hge
          simpa using this
        · refine notin_weak (hr1.alloc hA0 rfl (mo := .arr t k' ((es.drop off).take len ++ List.replicate mm zero)) ⟨fun el he => ?_, .inr ⟨⟨w.heap.size, 0, k', grownCap w (len + mm) cap e, []⟩, by simp [Env.at], rfl, _, e, heap_alloc_new _ _, ?_, ?_, fun i j hi' hj' => ?_⟩⟩)
          · rcases List.mem_append.1 he with he | he
            · exact hxk el he
            · rw [(List.mem_replicate.1 he).2]; exact hzd.1
          · simp only [Array.size_append, List.size_toArray, size_zeroCells, hzl, hol, ← Nat.add_mul]
            simp only [Nat.zero_add]
            apply Nat.mul_le_mul_right; omega
          · simp only [List.length_append, hlx, List.length_replicate]; exact hge
          · simp only [List.length_append, hlx, List.length_replicate] at hi'
            simp only [Nat.zero_add]
            rw [cellD_append, hlx]
            by_cases hix : i < len
            · obtain ⟨u, hu, hr⟩ := hoD i j hix hj'
              have : (i + 1) * k' ≤ len * k' := Nat.mul_le_mul_right _ (by omega)
              rw [Nat.add_mul] at this
              refine ⟨u, ?_, by rw [if_pos hix]; exact hr.mono (hleg.im _)⟩
              rw [Array.getElem?_append_left (by simp [size_zeroCells]; omega), Array.getElem?_append_left (by simp; omega)]
              simpa using hu
            · obtain ⟨u, hu, hr⟩ := hone j hj'
              have e1 : i * k' = len * k' + (i - len) * k' := by rw [← Nat.add_mul]; congr 1; omega
              have e2 : (i - len + 1) * k' ≤ mm * k' := Nat.mul_le_mul_right _ (by omega)
              rw [Nat.add_mul] at e2
              refine ⟨u, ?_, ?_⟩
              · rw [Array.getElem?_append_left (by simp [size_zeroCells, hzl]; omega), Array.getElem?_append_right (by simp; omega)]
                rw [show i * k' + j - olds.toArray.size = (i - len) * z.cells.size + j by simp [hzl]; omega, zeroCells_get _ _ _ _ (by omega) (by omega), hu]
              · rw [if_neg hix]
                have : cellD (List.replicate mm zero) (i - len) j = zero.getD j default := by simp [cellD, List.getD, show i - len < mm by omega]
                rw [this]; exact hr _
      cases rx with
      | sr0 p =>
        refine fin p 0 [] rfl (by omega) (by simp) (fun w' _ => ?_) (fun i j hi _ => by omega)
        cases p <;> simp [Builtin.firstCells, loadCells, loadCellsFrom]
      | sr _ _ _ cap lq hl h1 h2 =>
        obtain rfl : l0 = lq := by rw [hl] at h3; exact (Option.some.inj h3).symm
        have hcell : ∀ i j, i < len → j < k' → ∃ u, cs[l0.base + off * k' + i * k' + j]? = some u ∧ DR (g.im t) u (cellD ((es.drop off).take len) i j) := fun i j hi hj => by
          obtain ⟨u, hu, hr⟩ := h7 (off + i) j (by omega) hj
          refine ⟨u, ?_, ?_⟩
          · rw [← hu, Nat.add_mul]; congr 1; omega
          · have e1 : cellD ((es.drop off).take len) i j = cellD es (off + i) j := by simp [cellD, List.getD, List.getElem?_take_of_lt hi]
            rw [e1]; exact hr
        rcases news_of (w := w) (I := g.im t) (ys := (es.drop off).take len) (p := some ⟨l0.b, l0.base + off * k', none⟩) hk0
          (.inr ⟨l0.b, l0.base + off * k', cs, E, (0, 0), rfl, h4, fun i j hi hj => hcell i j (by rw [hlx] at hi; exact hi) hj⟩) with h0 | ⟨p', news, e0, hnl, hnc, hn1, hnD⟩
        · have : len = 0 := by rw [← hlx, h0]; rfl
          subst this
          refine fin _ cap [] rfl (by omega) (by simp) (fun w' _ => ?_) (fun i j hi _ => by omega)
          simp [Builtin.firstCells, loadCells, loadCellsFrom]
        · cases e0
          refine fin _ cap news (by rw [hlk]) (by omega) (by rw [hnl, hlx]) (fun w' hw' => ?_) (fun i j hi hj => hnD i j (by rw [hlx]; exact hi) hj)
          refine run_firstCells_some (P := P) w' inf.size len _ len cap news (by rw [hnl, hlx, hk]) (fun j u hj => ?_)
          have := hnc j u hj
          simpa [World.cell?, hw'] using this
    · exact hm.elim
  · rename_i kx kk m hb hb'
    obtain ⟨hm0, hbd, hK⟩ := hm
    obtain ⟨mm, rfl⟩ := Int.eq_ofNat_of_zero_le (show 0 ≤ m by omega)
    simp only [Int.toNat_natCast] at *
    rw [hb] at rx; rw [hb'] at ry
    generalize hv : a.eval x = v at rx hexec
    generalize hv' : a.eval y = v' at ry hexec
    cases ry
    cases rx with
    | nl p =>
      have hbd2 : (0 + mm) * bytes ≤ 140737488355328 := by rw [Nat.zero_add]; exact Int.ofNat_le.1 (by rw [Int.natCast_mul]; exact hbd)
      have hbd3 : 0 + mm ≤ 140737488355328 := Nat.le_trans (Nat.le_mul_of_pos_right _ hb0) hbd2
      have hbd4 : mm * bytes ≤ 140737488355328 := Nat.le_trans (Nat.mul_le_mul_right _ (by omega)) hbd2
      have hone : ∀ j, j < k → ∃ u, z.cells[j]? = some u ∧ ∀ g' : Env, DR (g'.im true) u (zero.getD j default) := fun j hj => by
        have hjz : j < z.cells.size := by omega
        refine ⟨z.cells[j], by simp [hjz], fun g' => ?_⟩
        have := (hzd.2 j hj).mono (I' := g'.im true) (fun b o x => by cases x)
        rwa [Array.getD_eq_getD_getElem?, Array.getElem?_eq_getElem hjz] at this
      have hcap : 0 < 0 + mm := by omega
      have hf : ∀ w' : World, w'.heap = w.heap → (Builtin.firstCells inf.size 0 (.slice p 0 0)).run P w' = .ok ([] : List Value).toArray w' := fun w' _ => by
        cases p <;> simp [Builtin.firstCells, loadCells, loadCellsFrom]
      have hgrow := growslice_fits (bytes := bytes) hcap hbd2
      have hrun := run_append_zeros (P := P) (w := w) (ty := o.type) (kk := kk) (n := mm) ht hti hi hz hf (by omega) (by omega) hcap (by omega) (by rw [hby]; exact hbd4) (by rw [hby]; exact hgrow)
      have hge := grownCap_ge w (0 + mm) 0 e
      have hr1 : HRel P A w0 F0 J0 g s.hp w.drew := h.hp.drew
      have hinj := (hr1.avail n hA0).1
      have hleg := Env.le_at (l := ⟨w.heap.size, 0, k, grownCap w (0 + mm) 0 e, []⟩) hinj
      refine wp_val (hexec hrun) (hn _ _ _ (g.at n ⟨w.heap.size, 0, k, grownCap w (0 + mm) 0 e, []⟩) _ _ hK hleg ?_ ?_)
      · have := RV.sr (P := P) (g := g.at n ⟨w.heap.size, 0, k, grownCap w (0 + mm) 0 e, []⟩) n 0 mm (grownCap w (0 + mm) 0 e) ⟨w.heap.size, 0, k, grownCap w (0 + mm) 0 e, []⟩ (by simp [Env.at]) (by simp) (by omega)
        simpa using this
      · refine notin_weak (hr1.alloc hA0 rfl (mo := .arr true k (List.replicate mm zero)) ⟨fun el he => ?_, .inr ⟨⟨w.heap.size, 0, k, grownCap w (0 + mm) 0 e, []⟩, by simp [Env.at], rfl, _, e, heap_alloc_new _ _, ?_, ?_, fun i j hi' hj' => ?_⟩⟩)
        · rw [(List.mem_replicate.1 he).2]; exact hzd.1
        · simp only [Array.size_append, List.size_toArray, size_zeroCells, hzl, List.length_nil]
          simp only [Nat.zero_add] at hge ⊢
          rw [← Nat.add_mul]
          apply Nat.mul_le_mul_right; omega
        · simp only [List.length_replicate]; show mm ≤ grownCap w (0 + mm) 0 e; omega
        · simp only [List.length_replicate] at hi'
          simp only [Nat.zero_add]
          obtain ⟨u, hu, hr⟩ := hone j hj'
          have e2 : (i + 1) * k ≤ mm * k := Nat.mul_le_mul_right _ (by omega)
          rw [Nat.add_mul] at e2
          refine ⟨u, ?_, ?_⟩
          · rw [Array.getElem?_append_left (by simp [size_zeroCells, hzl]; omega)]
            rw [show (([] : List Value).toArray ++ Builtin.zeroCells z.cells mm) = Builtin.zeroCells z.cells mm by simp]
            rw [show i * k + j = i * z.cells.size + j by simp [hzl], zeroCells_get _ _ _ _ (by omega) (by omega), hu]
          · have : cellD (List.replicate mm zero) i j = zero.getD j default := by simp [cellD, List.getD, show i < mm by omega]
            rw [this]; exact hr _
  · exact hm.elim

theorem S.overlaps {f : FuncId} {x y : Operand} {x' y' : Opd} {ts : Array TypeId} (ho : o.op = .call { callee := .value (.func f), args := #[x, y], argTypes := ts }) (hx : okOpd x x' = true) (hy : okOpd y y' = true)
    (h : Rel P N A w0 F0 J0 g s a w) (hm : mop false P (.overlaps f x' y') n s K) (hn : Goes P A w0 F0 J0 g s.hp n o a K next) : o.wp P a w next Q := by
  have rx := h.val hx
  have ry := h.val hy
  simp only [mop] at hm
  split at hm
  · rename_i id off len id' off' len' hb hb'
    split at hm
    · rename_i o1 o2 hob hob'
      obtain ⟨⟨fd, T, R, e, inf, hf, hname, hbody, hnx, hfind, hT, hinf⟩, l1, l2, i1, i2, hne, hK⟩ := hm
      have fin : (Extern.SlicesOverlaps.overlaps #[T, T] #[R] #[a.eval x, a.eval y]).run P w = .ok (.bool false) w → o.wp P a w next Q := by
        intro hov
        refine hn.same h hK (.b false) ?_
        have := run_callFunc_extern hf hname hbody hnx hfind #[a.eval x, a.eval y] w
        rw [hov] at this
        have hfv : a.eval (.func f) = .func (.func f) #[] #[] := rfl
        simp [execOp, ho, resolve, hfv, Deferred.ofValue, invoke, this, Result.andThen]
      rw [hb] at rx
      rw [hb'] at ry
      have lv : ∀ o : MO, hasRow o = true → o.live = true := fun o h => by cases o <;> simp [hasRow] at h <;> rfl
      generalize hv : a.eval x = v at rx fin
      generalize hv' : a.eval y = v' at ry fin
      have hz : ∀ w, (Go.sizeOf e).run P w = .ok inf.size w := fun w => by simp [sizeOf, typeInfo, hinf]
      have cells : ∀ (i : Nat) (oo : MO) (ll : Loc), look s.hp i = some oo → hasRow oo = true → g.inj i = some ll → ∃ (cs : Array Value) (E : TypeId), w.heap[ll.b]? = some (.cells cs E (0, 0)) ∧ cs.size ≠ 0 := by
        intro i oo ll hoo hr hll
        have key : ∀ t k (es : List (List D)), 0 < k ∧ 0 < es.length → BRep (g.im t) w ll k es → ∃ (cs : Array Value) (E : TypeId), w.heap[ll.b]? = some (.cells cs E (0, 0)) ∧ cs.size ≠ 0 := by
          rintro t k es ⟨hk, he⟩ ⟨_, cs, E, h4, _, _, h7⟩
          obtain ⟨u, hu, _⟩ := h7 0 0 he hk
          exact ⟨cs, E, h4, fun e => by rw [Array.getElem?_eq_none (by omega)] at hu; cases hu⟩
        cases oo with
        | arr t k es =>
          obtain ⟨_, ⟨_, h3⟩ | ⟨l', h3, hb⟩⟩ := h.hp.objs i _ hoo
          · rw [hll] at h3; cases h3
          · rw [hll] at h3; cases h3; exact key t k es (by simpa [hasRow] using hr) hb
        | rm t k es C =>
          obtain ⟨_, l', h3, _, hb⟩ := h.hp.objs i _ hoo
          rw [hll] at h3; cases h3; exact key t k es (by simpa [hasRow] using hr) hb
        | nst => simp [hasRow] at hr
        | al => simp [hasRow] at hr
        | fz t k es => simp [hasRow] at hr
        | box cs => simp [hasRow] at hr
      cases rx with
      | sr0 p => omega
      | sr _ _ _ cap l hl h1 h2 =>
        cases ry with
        | sr0 q => omega
        | sr _ _ _ cap' l' hl' h1' h2' =>
          obtain ⟨cs, E, hc, _⟩ := cells _ _ _ hob i1 hl
          obtain ⟨cs', E', hc', h0⟩ := cells _ _ _ hob' i2 hl'
          have hbb : l.b ≠ l'.b := fun e => hne (h.hp.sep id id' o1 o2 l l' hob hob' (lv _ i1) (lv _ i2) hl hl' e)
          exact fin (Lib.run_overlaps_apart w T R e hT inf.size hz ⟨l.b, l.base + off * l.k, none⟩ ⟨l'.b, l'.base + off' * l'.k, none⟩ len cap len' cap' hbb E E' cs.size cs'.size
              (by simp [World.shape?, hc]) (by simp [World.shape?, hc']) h0 (by simp [World.frozen?, hc]) (by simp [World.frozen?, hc]))
    · exact hm.elim
  · exact hm.elim
end
end Go.Fw
namespace Go.Fw
set_option linter.unusedVariables false
set_option linter.unusedSimpArgs false
section
variable {P : Program} {N : FrS} {A : Nat → Prop} {w0 : World} {F0 : List Nat} {J0 : Imm} {g : Env} {s : MS} {a : Act} {w : World} {hp : List (Nat × MO)}
variable {n : Nat} {o : Oper} {K : MK} {next : Act → World → Prop} {Q : Exit → Act → World → Prop}

theorem bnd_get (h : Rel P N A w0 F0 J0 g s a w) (d : Nat) (op : Option Operand) (op' : Option Opd) (Kb : Nat → Prop) (hop : okOO op op' = true) (hb : bound s d op' Kb) : ∃ l, Kb l ∧ bdV a op d l := by
  cases op with
  | none =>
    cases op' with
    | none => exact ⟨d, hb, rfl⟩
    | some => cases hop
  | some p =>
    cases op' with
    | none => cases hop
    | some q =>
      simp only [bound] at hb
      have rp := h.val hop
      split at hb
      · rename_i kk z hz
        rw [hz] at rp
        generalize hv : a.eval p = v at rp
        cases rp
        exact ⟨z.toNat, hb.2, kk, by rw [show ((z.toNat : Nat) : Int) = z by omega]; exact hv⟩
      · exact hb.elim
theorem run_sliced {T e : TypeId} {x : Operand} {lo hi : Option Operand} {inf : TypeInfo} {k : Nat} (ho : o.op = .slice T x lo hi none) (ht : P.underlying T = some (.slice e)) (hi0 : P.info? e = some inf) (hk : inf.size = k)
    {p : Option Addr} {len cap l hh : Nat} (e1 : a.eval x = .slice p len cap) (e3 : l ≤ hh) (e4 : hh ≤ cap) (e5 : bdV a lo 0 l) (e6 : bdV a hi len hh) :
    (execOp a.eval o).run P w = .ok (.value (.slice (if cap = l then p else p.map (·.add (l * k))) (hh - l) (cap - l))) w := by
  have hlc : hh ≤ cap := e4
  have hlc' : l ≤ cap := by omega
  cases lo with
  | none =>
    simp only [bdV] at e5; subst e5
    cases hi with
    | none =>
      simp only [bdV] at e6; subst e6
      simp [execOp, ho, e1, Instr.sliceAt, run_underlying ht, Instr.slice, Instr.sliceBounds, sizeOf, typeInfo, hi0, hk]
    | some q =>
      obtain ⟨kk, e6⟩ := e6
      simp [execOp, ho, e1, Instr.sliceAt, run_underlying ht, Instr.slice, Instr.sliceBounds, Instr.sliceBound, asIntOf, e6, hlc, sizeOf, typeInfo, hi0, hk]
  | some q =>
    obtain ⟨kk, e5⟩ := e5
    cases hi with
    | none =>
      simp only [bdV] at e6; subst e6
      simp [execOp, ho, e1, Instr.sliceAt, run_underlying ht, Instr.slice, Instr.sliceBounds, Instr.sliceBound, asIntOf, e5, e3, sizeOf, typeInfo, hi0, hk]
    | some r =>
      obtain ⟨kk', e6⟩ := e6
      simp [execOp, ho, e1, Instr.sliceAt, run_underlying ht, Instr.slice, Instr.sliceBounds, Instr.sliceBound, asIntOf, e5, e6, hlc, e3, sizeOf, typeInfo, hi0, hk]

theorem S.sliceHd {T e : TypeId} {x : Operand} {x' : Opd} {hi : Option Operand} {hi' : Option Opd} {inf : TypeInfo} {k : Nat} (ho : o.op = .slice T x none hi none) (hx : okOpd x x' = true) (hhi : okOO hi hi' = true)
    (ht : P.underlying T = some (.slice e)) (hi0 : P.info? e = some inf) (hk : inf.size = k)
    (h : Rel P N A w0 F0 J0 g s a w) (hm : mop false P (.sliceHd k x' hi') n s K) (hn : Goes P A w0 F0 J0 g s.hp n o a K next) : o.wp P a w next Q := by
  have rx := h.val hx
  simp only [mop] at hm
  split at hm
  · rename_i id off len hb
    rw [hb] at rx
    generalize hv : a.eval x = v at rx
    split at hm
    · rename_i t k' es hob
      obtain ⟨e0, hlen, hbb⟩ := hm
      obtain ⟨hh, ⟨e4, hK⟩, eh⟩ := bnd_get h _ _ _ _ hhi hbb
      cases rx with
      | sr0 p => omega
      | sr _ _ _ cap lc hl h1 h2 =>
        refine hn.same h hK (v := .slice (some ⟨lc.b, lc.base + off * lc.k, none⟩) hh cap) (.sn _ _ _ cap lc hl h1 (by omega)) ?_
        rw [run_sliced (l := 0) ho ht hi0 hk hv (Nat.zero_le _) (by omega) rfl eh, if_neg (by omega)]
        simp [Addr.add]
    · exact hm.elim
  · exact hm.elim

theorem S.sliceTr {T e : TypeId} {x : Operand} {x' : Opd} {hi : Option Operand} {hi' : Option Opd} {inf : TypeInfo} {k : Nat} (ho : o.op = .slice T x none hi none) (hx : okOpd x x' = true) (hhi : okOO hi hi' = true)
    (ht : P.underlying T = some (.slice e)) (hi0 : P.info? e = some inf) (hk : inf.size = k)
    (h : Rel P N A w0 F0 J0 g s a w) (hm : mop false P (.sliceTr k x' hi') n s K) (hn : Goes P A w0 F0 J0 g s.hp n o a K next) : o.wp P a w next Q := by
  have rx := h.val hx
  simp only [mop] at hm
  split at hm
  · rename_i id off len hb
    rw [hb] at rx
    generalize hv : a.eval x = v at rx
    split at hm
    · rename_i t k' es hob
      obtain ⟨e0, rfl, hlen, hle, hbb⟩ := hm
      obtain ⟨hh, ⟨e4, hK⟩, eh⟩ := bnd_get h _ _ _ _ hhi hbb
      cases rx with
      | sr0 p => omega
      | sr _ _ _ cap lc hl h1 h2 =>
        obtain ⟨hek, ⟨_, h3⟩ | ⟨l', h3, hlk, cs, E, h4, h5, h6, h7⟩⟩ := h.hp.objs id _ hob
        · rw [hl] at h3; cases h3
        rw [hl] at h3; cases h3
        refine wp_val (v := .slice (some ⟨lc.b, lc.base + 0 * lc.k, none⟩) hh cap) (w' := w) ?_ (hn _ _ _ g _ _ hK (Env.le.refl g) (.sr _ _ _ cap lc hl h1 (by omega)) ?_)
        · rw [run_sliced (l := 0) ho ht hi0 hk hv (Nat.zero_le _) (by omega) rfl eh, if_neg (by omega)]
          simp [Addr.add]
        · show HRel _ _ _ _ _ _ (put s.hp id (.arr t k' (es.take hh))) _
          refine (h.hp.write (mo' := .arr t k' (es.take hh)) hob rfl hl rfl (WExt.refl w _) ⟨fun el he => hek el (List.mem_of_mem_take he), .inr ⟨lc, hl, hlk, cs, E, h4, h5, by simp; omega, fun i j hi hj => ?_⟩⟩).weaken (fun _ x => x.1)
          simp at hi
          obtain ⟨u, hu, hr⟩ := h7 i j (by omega) hj
          refine ⟨u, hu, ?_⟩
          have hi' : i < hh := by omega
          have : cellD (es.take hh) i j = cellD es i j := by simp [cellD, List.getD, List.getElem?_take_of_lt hi']
          rw [this]; exact hr
    · exact hm.elim
  · exact hm.elim

theorem S.sliceUp {T e : TypeId} {x : Operand} {x' : Opd} {lo hi : Option Operand} {lo' hi' : Option Opd} {inf : TypeInfo} {k : Nat} (ho : o.op = .slice T x lo hi none) (hx : okOpd x x' = true) (hlo : okOO lo lo' = true) (hhi : okOO hi hi' = true)
    (ht : P.underlying T = some (.slice e)) (hi0 : P.info? e = some inf) (hk : inf.size = k)
    (h : Rel P N A w0 F0 J0 g s a w) (hm : mop false P (.sliceUp k x' lo' hi') n s K) (hn : Goes P A w0 F0 J0 g s.hp n o a K next) : o.wp P a w next Q := by
  have rx := h.val hx
  simp only [mop] at hm
  split at hm
  · rename_i id off len hb
    rw [hb] at rx
    generalize hv : a.eval x = v at rx
    split at hm
    · rename_i t k' es hob
      obtain ⟨rfl, hbb⟩ := hm
      obtain ⟨l, hbb, el⟩ := bnd_get h _ _ _ _ hlo hbb
      obtain ⟨hh, ⟨e3, e4, hK⟩, eh⟩ := bnd_get h _ _ _ _ hhi hbb
      cases rx with
      | sn _ _ _ cap lc hl h1 h2 =>
        obtain ⟨_, ⟨_, h3⟩ | ⟨l', h3, hlk, cs, E, h4, h5, h6, h7⟩⟩ := h.hp.objs id _ hob
        · rw [hl] at h3; cases h3
        rw [hl] at h3; cases h3
        have e4' : hh ≤ cap := by omega
        by_cases ec : cap = l
        · refine hn.same h hK ?_ (run_sliced ho ht hi0 hk hv e3 e4' el eh)
          have : hh - l = 0 := by omega
          rw [this, show cap - l = 0 by omega]; exact .sr0 _ _ _
        · refine hn.same h hK (v := .slice (some ⟨lc.b, lc.base + (off + l) * lc.k, none⟩) (hh - l) (cap - l)) (.sr _ _ _ (cap - l) lc hl (by omega) (by omega)) ?_
          rw [run_sliced ho ht hi0 hk hv e3 e4' el eh, if_neg ec]
          have : (⟨lc.b, lc.base + off * lc.k, none⟩ : Addr).add (l * k') = ⟨lc.b, lc.base + (off + l) * lc.k, none⟩ := by
            rw [hlk, Nat.add_mul]
            by_cases e0 : l * k' = 0
            · simp [Addr.add, e0]
            · simp [Addr.add, e0]; omega
          simp [this]
    · exact hm.elim
  · exact hm.elim

theorem S.slice3 {T e : TypeId} {x q r : Operand} {x' : Opd} {lo : Option Operand} {lo' hi' mx' : Option Opd} {inf : TypeInfo} (ho : o.op = .slice T x lo (some q) (some r)) (hx : okOpd x x' = true) (hlo : okOO lo lo' = true) (hhi : okOO (some q) hi' = true) (hmx : okOO (some r) mx' = true)
    (ht : P.underlying T = some (.slice e)) (hi0 : P.info? e = some inf)
    (h : Rel P N A w0 F0 J0 g s a w) (hm : mop false P (.slice3 x' lo' hi' mx') n s K) (hn : Goes P A w0 F0 J0 g s.hp n o a K next) : o.wp P a w next Q := by
  have rx := h.val hx
  simp only [mop] at hm
  split at hm
  · rename_i id off len hb
    rw [hb] at rx
    generalize hv : a.eval x = v at rx
    obtain ⟨l, hbb, el⟩ := bnd_get h _ _ _ _ hlo hm
    obtain ⟨hh, hbb, eh⟩ := bnd_get h _ _ _ _ hhi hbb
    obtain ⟨m, ⟨e3, e4, e5, hK⟩, em⟩ := bnd_get h _ _ _ _ hmx hbb
    obtain ⟨kq, eh⟩ := eh
    obtain ⟨kr, em⟩ := em
    have fin : ∀ p cap, v = .slice p len cap → len ≤ cap → o.wp P a w next Q := by
      rintro p cap rfl hc
      have hmc : m ≤ cap := by omega
      cases lo with
      | none =>
        simp only [bdV] at el; subst el
        refine hn.same h hK (.u _) (v := .slice (if m = 0 then p else p.map (·.add (0 * inf.size))) (hh - 0) (m - 0)) ?_
        simp [execOp, ho, hv, Instr.sliceAt, run_underlying ht, Instr.slice, Instr.sliceBounds, Instr.sliceBound, asIntOf, eh, em, hmc, e4, sizeOf, typeInfo, hi0]
      | some ql =>
        obtain ⟨kl, el⟩ := el
        refine hn.same h hK (.u _) (v := .slice (if m = l then p else p.map (·.add (l * inf.size))) (hh - l) (m - l)) ?_
        simp [execOp, ho, hv, Instr.sliceAt, run_underlying ht, Instr.slice, Instr.sliceBounds, Instr.sliceBound, asIntOf, eh, em, el, hmc, e3, e4, sizeOf, typeInfo, hi0]
    cases rx with
    | sr0 p => exact fin _ _ rfl (Nat.le_refl _)
    | sr _ _ _ cap lc hl h1 h2 => exact fin _ _ rfl h2
  · exact hm.elim

theorem S.appendIn {T e : TypeId} {x y : Operand} {x' y' : Opd} {inf : TypeInfo} {k : Nat} (ho : o.op = .call { callee := .builtin .append, args := #[x, y], argTypes := #[T, T] })
    (hx : okOpd x x' = true) (hy : okOpd y y' = true) (ht : P.underlying T = some (.slice e)) (hi : P.info? e = some inf) (hk : inf.size = k) (hk0 : 0 < k)
    (h : Rel P N A w0 F0 J0 g s a w) (hm : mop false P (.appendIn k x' y') n s K) (hn : Goes P A w0 F0 J0 g s.hp n o a K next) : o.wp P a w next Q := by
  have rx := h.val hx
  have ry := h.val hy
  simp only [mop] at hm
  have hexec : ∀ {v : Value} {w' : World}, (Builtin.append_ #[T, T] o.type #[a.eval x, a.eval y]).run P w = .ok v w' → (execOp a.eval o).run P w = .ok (.value v) w' := by
    intro v w' e1
    simp [execOp, ho, resolve, invoke, builtin, e1]
  split at hm
  · rename_i t' k' ys rs hs
    split at hm
    · rename_i id off len hb
      split at hm
      · rename_i t k'' es hob
        obtain ⟨rfl, rfl, hfit, hK⟩ := hm
        obtain ⟨hyk, py, leny, capy, hvy, hlen, hcapy, hycells⟩ := h.hp.slice ry hs
        rw [hvy] at hexec
        rw [hb] at rx
        generalize hv : a.eval x = v at rx hexec
        have hcells : ys = [] ∨ ∃ (b q : Nat) (cs : Array Value) (E : TypeId) (z : Nat × Nat), py = some ⟨b, q, none⟩ ∧ w.heap[b]? = some (.cells cs E z) ∧ (∀ i j, i < ys.length → j < k'' → ∃ u, cs[q + i * k'' + j]? = some u ∧ DR (g.im t') u (cellD ys i j)) := by
          rcases hycells with e1 | ⟨b, q, cs, E, z, e1, e2, e3, _⟩
          · exact .inl e1
          · exact .inr ⟨b, q, cs, E, z, e1, e2, e3⟩
        cases rx with
        | sn _ _ _ cap l hl h1 h2 =>
          obtain ⟨_, ⟨_, h3⟩ | ⟨l', h3, hlk, cs, E, h4, h5, h6, h7⟩⟩ := h.hp.objs id _ hob
          · rw [hl] at h3; cases h3
          rw [hl] at h3; cases h3
          rcases news_of hk0 hcells with hy0 | ⟨p, news, rfl, hnl, hncell, hn1, hnD⟩
          · subst hy0
            simp only [List.length_nil] at hlen hK
            subst hlen
            have hrun := run_append_none (P := P) (w := w) (ty := o.type) (px := some ⟨l.b, l.base + off * l.k, none⟩) (py := py) (sLen := len) (sCap := cap) (c := capy) ht hi h2
            refine wp_val (hexec hrun) (hn _ _ _ g _ _ hK (Env.le.refl g) ?_ ?_)
            · exact .sn _ _ _ cap l hl h1 h2
            · rw [overR_nil]
              exact (h.hp.weakObj t' hob (.inl rfl)).weaken (fun _ x => x.1)
          · have hroom : len + ys.length ≤ cap := by omega
            obtain ⟨cs', E', h4', hlk', hsz, hH⟩ := h.hp.overwrite (t' := t') (off := off + len) hob (.inl rfl) hl (by omega) (by omega) hyk hnl hnD
            have hq : l.base + off * l.k + len * inf.size = l.base + (off + len) * k'' := by rw [hk, hlk, Nat.add_mul]; omega
            have hrun := run_append_in (P := P) (w := w) (ty := o.type) (q := l.base + off * l.k) (sLen := len) (sCap := cap) (m := ys.length) (c := capy) ht hi h4' (by rw [hnl, hk]) hncell hn1 hroom (by rw [hq]; exact hsz)
            rw [hq] at hrun
            rw [hlen] at hexec
            exact wp_val (hexec hrun) (hn _ _ _ g _ _ hK (Env.le.refl g) (.sn _ _ _ cap l hl h1 hroom) (hH.weaken (fun _ x => x.1)))
      · exact hm.elim
    · exact hm.elim
  · exact hm.elim
end
end Go.Fw
namespace Go.Fw
set_option linter.unusedVariables false
set_option linter.unusedSimpArgs false
section
variable {P : Program} {N : FrS} {A : Nat → Prop} {w0 : World} {F0 : List Nat} {J0 : Imm} {g : Env} {s : MS} {a : Act} {w : World} {hp : List (Nat × MO)}

/-- Memory that is not written, or that belongs to one of the objects in rs. -/
def Reads (g : Env) (hp : List (Nat × MO)) (rs : List Nat) (b : Nat) : Prop :=
  g.I b ≠ none ∨ ∃ id o l, id ∈ rs ∧ look hp id = some o ∧ o.live = true ∧ g.inj id = some l ∧ b ∈ o.blks l

theorem Reads.mono {rs rs' : List Nat} {b : Nat} (h : Reads g hp rs b) (hs : ∀ i ∈ rs, i ∈ rs') : Reads g hp rs' b := by
  rcases h with h | ⟨id, o, l, h1, h2⟩
  · exact .inl h
  · exact .inr ⟨id, o, l, hs _ h1, h2⟩

theorem HRel.I_of (h : HRel P A w0 F0 J0 g hp w) {I' : Imm} {rs : List Nat} (hI' : ∀ b o, w.heap[b]? = some o → Reads g hp rs b → I' b = some o) : ∀ b o, g.I b = some o → I' b = some o :=
  fun b o x => hI' b o (h.imm b o x) (.inl (by rw [x]; simp))

theorem DR.slice_of {I' : Imm} {v : Value} {k : Nat} {ys : List (List D)} {p len cap} (hk : ∀ e ∈ ys, e.length = k) (hv : v = .slice p len cap) (hlen : len = ys.length) (hcap : len ≤ cap)
    (hc : ys = [] ∨ ∃ (b q : Nat) (cs : Array Value) (E : TypeId) (z : Nat × Nat), p = some ⟨b, q, none⟩ ∧ I' b = some (.cells cs E z) ∧ ∀ i j, i < ys.length → j < k → ∃ u, cs[q + i * k + j]? = some u ∧ DR I' u (cellD ys i j)) :
    DR I' v (.a k ys) := by
  subst hv
  rcases hc with rfl | ⟨b, q, cs, E, z, rfl, hI, hcc⟩
  · subst hlen; exact .a0 _ _ _
  · refine .a b q cap len cs E z k ys (fun i j => cs.getD (q + i * k + j) undef) hI hlen hk hcap (fun i j hi hj => ?_) (fun i j hi hj => ?_)
    · obtain ⟨u, hu, _⟩ := hcc i j hi hj
      show _ = some (cs.getD _ undef)
      rw [Array.getD_eq_getD_getElem?, hu]; rfl
    · obtain ⟨u, hu, hr⟩ := hcc i j hi hj
      show DR I' (cs.getD _ undef) _
      rw [Array.getD_eq_getD_getElem?, hu]; exact hr

/-- A slice that is read, as the callee sees it. -/
theorem HRel.slice_in (h : HRel P A w0 F0 J0 g s.hp w) {I' : Imm} {rs : List Nat} (hI' : ∀ b o, w.heap[b]? = some o → Reads g s.hp rs b → I' b = some o)
    {v : Value} {m : MV} (hv : RV P g v m) {t : Bool} {k : Nat} {ys : List (List D)} {rs' : List Nat} (hs : sliceOf s m = some (t, k, ys, rs')) (hr : ∀ i ∈ rs', i ∈ rs) : DR I' v (.a k ys) := by
  obtain ⟨hk, p, len, cap, e1, e2, e3, e4⟩ := h.slice hv hs
  refine DR.slice_of hk e1 e2 e3 ?_
  rcases e4 with e | ⟨b, q, cs, E, z, h1, h2, h3, h4⟩
  · exact .inl e
  · refine .inr ⟨b, q, cs, E, z, h1, hI' _ _ h2 ?_, fun i j hi hj => ?_⟩
    · rcases h4 with h4 | ⟨id, o, l, a1, a2, a3, a4, a5⟩
      · exact .inl h4
      · exact .inr ⟨id, o, l, hr _ a1, a2, a3, a4, by rw [← a5]; exact o.mem l⟩
    · obtain ⟨u, hu, hd⟩ := h3 i j hi hj
      refine ⟨u, hu, hd.mono ?_⟩
      intro b o x
      cases t
      · exact h.I_of hI' b o x
      · exact h.I_of hI' b o (h.JI b o x)

theorem val_DR {I' : Imm} {d : D} (h : d.isFlat = true) : DR I' d.val d := by
  cases d with
  | i k n => exact .i k n
  | b x => exact .b x
  | a k es => simp [D.isFlat] at h
theorem cellD_flat {es : List (List D)} (h : Flat es) (i j : Nat) : (cellD es i j).isFlat = true := by
  unfold cellD
  rw [List.getD_eq_getElem?_getD, List.getD_eq_getElem?_getD]
  cases hi : es[i]? with
  | none => simp; rfl
  | some e =>
    simp only [Option.getD_some]
    cases hj : e[j]? with
    | none => rfl
    | some d => exact h e (List.mem_of_getElem? hi) d (List.mem_of_getElem? hj)
theorem RowRep.toDR {I' : Imm} {v : Value} {k : Nat} {es : List (List D)} (h : RowRep w v k es) (hv : ∀ b ∈ hb v, ∀ o, w.heap[b]? = some o → I' b = some o) : DR I' v (.a k es) := by
  obtain ⟨h1, h2, ⟨rfl, p, rfl⟩ | ⟨b, q, cap, cs, E, rfl, e2, e3, e4, e5, e6⟩⟩ := h
  · exact .a0 _ _ _
  · exact .a b q cap es.length cs E (0, 0) k es (fun i j => (cellD es i j).val) (hv b (by simp [hb]; omega) _ e4) rfl h1 e2 e6 (fun i j _ _ => val_DR (cellD_flat h2 i j))
/-- A row of slices, read. -/
theorem NRep.toDR {I' : Imm} {l : Loc} {hs : List Value} {k : Nat} {ess : List (List (List D))} {cap : Nat} (h : NRep w l hs k ess) (hv : ∀ b ∈ l.b :: hs.flatMap hb, ∀ o, w.heap[b]? = some o → I' b = some o) (hc : ess.length ≤ cap) :
    DR I' (.slice (some ⟨l.b, l.base, none⟩) ess.length cap) (.a 1 (ess.map fun es => [D.a k es])) := by
  obtain ⟨h1, h2, h3, h4, ⟨cs, E, e1, e2, e3, e4⟩, h5⟩ := h
  refine .a l.b l.base cap ess.length cs E (0, 0) 1 _ (fun i _ => hs.getD i undef) (hv _ (by simp) _ e1) (by simp) (fun e he => by simp at he; obtain ⟨x, _, rfl⟩ := he; rfl) hc (fun i j hi hj => ?_) (fun i j hi hj => ?_)
  · simp at hi
    obtain rfl : j = 0 := by omega
    have hi' : i < hs.length := by omega
    have := e4 i hs[i] (List.getElem?_eq_getElem hi')
    rw [Nat.mul_one, Nat.add_zero, this, List.getD_eq_getElem?_getD, List.getElem?_eq_getElem hi']; rfl
  · simp at hi
    obtain rfl : j = 0 := by omega
    have hi' : i < hs.length := by omega
    have g1 : hs.getD i undef = hs[i] := by rw [List.getD_eq_getElem?_getD, List.getElem?_eq_getElem hi']; rfl
    have g2 : cellD (ess.map fun es => [D.a k es]) i 0 = D.a k ess[i] := by simp [cellD, List.getD_eq_getElem?_getD, hi]
    show DR I' (hs.getD i undef) _
    rw [g1, g2]
    exact (h5 i _ _ (List.getElem?_eq_getElem hi') (List.getElem?_eq_getElem hi)).toDR fun b hb' o ho => hv b (rows_blks (List.getElem?_eq_getElem hi') hb') o ho

theorem closeD_DR (h : HRel P A w0 F0 J0 g s.hp w) {I' : Imm} {rs : List Nat} (hI' : ∀ b o, w.heap[b]? = some o → Reads g s.hp rs b → I' b = some o)
    {v : Value} {m : MV} (hv : RV P g v m) {d : D} (hd : closeD s m = some d) (hr : ∀ i ∈ readsD s m, i ∈ rs) : DR I' v d := by
  cases m <;> simp [closeD] at hd
  case i => subst hd; cases hv; exact .i _ _
  case b => subst hd; cases hv; exact .b _
  case s t k es =>
    subst hd
    cases hv with
    | s _ _ _ _ hh => exact hh.mono (fun b o x => h.I_of hI' b o (by cases t; exact x; exact h.JI b o x))
  case nl => subst hd; cases hv; exact .a0 _ _ _
  case sr id off len =>
    have hid : id ∈ rs := hr id (by simp only [readsD]; split <;> simp)
    split at hd
    · rename_i t k es hob
      simp at hd
      obtain ⟨hle, rfl⟩ := hd
      exact h.slice_in hI' hv (t := t) (k := k) (ys := (es.drop off).take len) (rs' := [id]) (by simp [sliceOf, hob, hle]) (by simpa using hid)
    · rename_i t k es hob
      simp at hd
      obtain ⟨hle, rfl⟩ := hd
      exact h.slice_in hI' hv (t := t) (k := k) (ys := (es.drop off).take len) (rs' := [id]) (by simp [sliceOf, hob, hle]) (by simpa using hid)
    · rename_i nid i hob
      have hn : nid ∈ rs := hr nid (by simp [readsD, hob])
      split at hd
      · rename_i hs k ess hob2
        split at hd
        · rename_i es hes
          simp at hd
          obtain ⟨⟨rfl, rfl⟩, rfl⟩ := hd
          have ho := h.objs id _ hob
          have hN := h.objs nid _ hob2
          generalize hln : es.length = ln at hv
          cases hv with
          | sr0 p =>
            obtain rfl : es = [] := List.eq_nil_of_length_eq_zero hln
            exact .a0 _ _ _
          | sr _ _ _ cap l hl h1 h2 =>
            subst hln
            obtain ⟨ln, hd, h4, h5, h6⟩ := ho
            rcases hN with ⟨_, rfl, _⟩ | ⟨ln', q1, q2⟩
            · simp at hes
            · rw [h4] at q1; cases q1
              obtain ⟨n1, n2, n3, n4, n5, n6⟩ := q2
              rw [n2] at h5
              obtain ⟨r1, r2, ⟨rfl, p, e⟩ | ⟨b, q, cap2, cs, E, e2, e3, e4, e5, e6, e7⟩⟩ := n6 i _ es h5 hes
              · exact .a0 _ _ _
              · rcases h6 with ⟨p, h6⟩ | ⟨l', len', cap', h3, h6⟩
                · rw [h6] at e2; simp at e2; omega
                · rw [hl] at h3; cases h3
                  rw [h6] at e2
                  cases e2
                  have e0 : ∀ x : Nat, 0 * x = 0 := fun x => Nat.zero_mul x
                  rw [e0, Nat.add_zero]
                  exact .a l.b l.base cap es.length cs E (0, 0) k es (fun i j => (cellD es i j).val) (hI' _ _ e5 (.inr ⟨nid, _, ln, hn, hob2, rfl, h4, rows_blks h5 (by rw [h6]; simp [hb]; omega)⟩)) rfl r1 h2 e7 (fun i j _ _ => val_DR (cellD_flat r2 i j))
        · simp at hd
      · simp at hd
    · simp at hd

theorem mapO_get {α β : Type} {f : α → Option β} : ∀ {xs : List α} {ys : List β}, mapO f xs = some ys → ys.length = xs.length ∧ ∀ (i : Nat) (x : α), xs[i]? = some x → ∃ y, f x = some y ∧ ys[i]? = some y
  | [], ys, h => by simp [mapO] at h; subst h; exact ⟨rfl, by simp⟩
  | x :: xs, ys, h => by
    simp only [mapO] at h
    split at h
    · rename_i y hy
      split at h
      · rename_i ys' hys
        cases h
        obtain ⟨h1, h2⟩ := mapO_get hys
        refine ⟨by simp [h1], fun i z hz => ?_⟩
        cases i with
        | zero => simp at hz; subst hz; exact ⟨y, hy, rfl⟩
        | succ i => simp at hz; obtain ⟨y', h3, h4⟩ := h2 i z hz; exact ⟨y', h3, by simpa using h4⟩
      · cases h
    · cases h

theorem closeC_RV (h : HRel P A w0 F0 J0 g s.hp w) {I' J' : Imm} {rs : List Nat} {al : Bool} (hI' : ∀ b o, w.heap[b]? = some o → Reads g s.hp rs b → I' b = some o)
    (hJ' : ∀ b o, (if al then g.I else g.J) b = some o → J' b = some o) {v : Value} {m x : MV} (hv : RV P g v m) (hc : closeC s al m = some x) (hr : ∀ i ∈ readsC s m, i ∈ rs) :
    RV P ⟨I', J', noInj⟩ v x := by
  have toJ : ∀ t, al = true → ∀ b o, g.im t b = some o → J' b = some o := fun t ha b o y => by
    subst ha; exact hJ' b o (by cases t; exact y; exact h.JI b o y)
  have flagI : ∀ t, ∀ b o, g.im t b = some o → (⟨I', J', noInj⟩ : Env).im (t || al) b = some o := fun t b o y => by
    cases al
    · cases t
      · exact h.I_of hI' b o y
      · exact hJ' b o y
    · rw [Bool.or_true]; exact toJ t rfl b o y
  cases m <;> simp [closeC] at hc
  case i => subst hc; cases hv; exact .i _ _
  case b => subst hc; cases hv; exact .b _
  case s t k es =>
    subst hc
    cases hv with
    | s _ _ _ _ hh => exact .s _ _ _ _ (hh.mono (flagI t))
  case nl => subst hc; cases hv; exact .s _ _ _ _ (.a0 _ _ _)
  case sr id off len =>
    have hid : id ∈ rs := hr id (by simp [readsC])
    split at hc
    · rename_i t k es hob
      simp at hc
      obtain ⟨hle, rfl⟩ := hc
      exact .s _ _ _ _ (h.slice_in hI' hv (t := t) (k := k) (ys := (es.drop off).take len) (rs' := [id]) (by simp [sliceOf, hob, hle]) (by simpa using hid))
    · rename_i t k es hob
      simp at hc
      obtain ⟨hle, rfl⟩ := hc
      exact .s _ _ _ _ (h.slice_in hI' hv (t := t) (k := k) (ys := (es.drop off).take len) (rs' := [id]) (by simp [sliceOf, hob, hle]) (by simpa using hid))
    · rename_i hs k ess hob
      simp at hc
      obtain ⟨⟨rfl, rfl⟩, rfl⟩ := hc
      refine .s _ _ _ _ ?_
      rcases h.objs id _ hob with ⟨rfl, rfl, h3⟩ | ⟨l', h3, hn⟩
      · cases hv with
        | sr _ _ _ cap l hl h1 h2 => rw [hl] at h3; cases h3
        | sr0 p => exact .a0 _ _ _
      · generalize hln : ess.length = ln at hv
        cases hv with
        | sr0 p =>
          obtain rfl : ess = [] := List.eq_nil_of_length_eq_zero hln
          exact .a0 _ _ _
        | sr _ _ _ cap l hl h1 h2 =>
          rw [hl] at h3; cases h3
          subst hln
          have := hn.toDR (I' := I') (cap := cap) (fun b hb' o ho => hI' b o ho (.inr ⟨id, _, _, hid, hob, rfl, hl, hb'⟩)) h2
          have e0 : ∀ x : Nat, 0 * x = 0 := fun x => Nat.zero_mul x
          rw [e0, Nat.add_zero]
          exact this
    · simp at hc
  case pd t cs off =>
    subst hc
    cases hv with
    | pd _ _ _ bb p cells E z vs hI hcc hrr => exact .pd _ _ _ bb p cells E z vs (flagI t _ _ hI) hcc (fun j hj => (hrr j hj).mono (flagI t))
  case pf d φ =>
    subst hc
    cases hv with
    | pf bb p cells E z v _ _ hI hcc hf =>
      cases hf with
      | fn f fv cv _ _ h0 hh => exact .pf bb p cells E z _ _ _ (h.I_of hI' _ _ hI) hcc (.fn f fv cv _ _ h0 (fun w' xs hw => hh w' xs (fun b o x => hw b o (h.I_of hI' b o x))))
  case pr id i off =>
    split at hc
    · rename_i d φ hob
      simp at hc
      obtain ⟨⟨rfl, rfl⟩, rfl⟩ := hc
      have hr1 : id ∈ rs := hr id (by simp [readsC, hob])
      cases hv with
      | pr _ _ _ l hl =>
        obtain ⟨l', cells, E, h1, h2, h3, h4, h5⟩ := h.objs id _ hob
        rw [hl] at h1; cases h1
        simp at h3
        have hlt : l.base < cells.size := by omega
        have hce : cells[l.base]? = some cells[l.base] := by simp [hlt]
        have hf := h5.get 0 cells[l.base] (.fn d φ) (by rw [List.getElem?_take_of_lt (by simp), List.getElem?_drop, Array.getElem?_toList]; first | exact hce | (simp; exact hce)) (by simp)
        generalize cells[l.base] = v at hce hf
        have key : RV P ⟨I', J', noInj⟩ v (.fn d φ) := by
          cases hf with
          | fn f fv cv _ _ h0 hh => exact .fn f fv cv _ _ h0 (fun w' xs hw => hh w' xs (fun b o x => hw b o (h.I_of hI' b o x)))
        have := RV.pf (P := P) (g := ⟨I', J', noInj⟩) l.b l.base cells E (0, 0) v d φ (hI' _ _ h2 (.inr ⟨id, _, l, hr1, hob, rfl, hl, MO.mem _ l⟩)) hce key
        simpa using this
    · rename_i cs _ hob
      simp at hc
      obtain ⟨rfl, ds, hds, rfl⟩ := hc
      have hr1 : id ∈ rs := hr id (by simp [readsC, hob])
      cases hv with
      | pr _ _ _ l hl =>
        obtain ⟨l', cells, E, h1, h2, h3, h4, h5⟩ := h.objs id _ hob
        rw [hl] at h1; cases h1
        obtain ⟨hlen, hget⟩ := mapO_get hds
        have hcell : ∀ j, j < ds.length → ∃ (m : MV) (d : D), cs[j]? = some m ∧ closeD s m = some d ∧ ds[j]? = some d ∧ cells[l.base + j]? = some (cells.getD (l.base + j) undef) ∧ RV P g (cells.getD (l.base + j) undef) m := by
          intro j hj
          rw [hlen] at hj
          obtain ⟨d, hd1, hd2⟩ := hget j _ (List.getElem?_eq_getElem hj)
          have hlt : l.base + j < cells.size := by omega
          have hce : cells[l.base + j]? = some (cells.getD (l.base + j) undef) := by simp [Array.getD_eq_getD_getElem?, hlt]
          refine ⟨_, d, List.getElem?_eq_getElem hj, hd1, hd2, hce, ?_⟩
          have := h5.get j (cells.getD (l.base + j) undef) cs[j] (by rw [List.getElem?_take_of_lt hj, List.getElem?_drop, Array.getElem?_toList, hce]) (List.getElem?_eq_getElem hj)
          exact this
        have := RV.pd (P := P) (g := ⟨I', J', noInj⟩) false ds off l.b l.base cells E (0, 0) (fun j => cells.getD (l.base + j) undef) (hI' _ _ h2 (.inr ⟨id, _, l, hr1, hob, rfl, hl, MO.mem _ l⟩))
          (fun j hj => (hcell j hj).choose_spec.choose_spec.2.2.2.1) (fun j hj => by
            obtain ⟨m, d, c1, c2, c3, _, c5⟩ := hcell j hj
            have e1 : ds.getD j default = d := by simp [List.getD, c3]
            rw [e1]
            refine closeD_DR h hI' c5 c2 (fun i hm => hr i ?_)
            simp only [readsC, hob, List.mem_cons, List.mem_flatMap]
            exact .inr ⟨_, List.mem_of_getElem? c1, hm⟩)
        simpa using this
    · simp at hc
  case fn d φ =>
    subst hc
    cases hv with
    | fn f fv cv _ _ h0 hh => exact .fn f fv cv _ _ h0 (fun w' xs hw => hh w' xs (fun b o x => hw b o (h.I_of hI' b o x)))
  case clo f a b =>
    cases a with
    | cons _ _ => simp [closeC] at hc
    | nil =>
      cases b with
      | cons _ _ => simp [closeC] at hc
      | nil =>
        simp [closeC] at hc
        subst hc
        cases hv with
        | clo _ fv cv _ _ c1 c2 =>
          have e1 : fv.toList = [] := by cases hfv : fv.toList with | nil => rfl | cons x l => rw [hfv] at c1; cases c1
          have e2 : cv.toList = [] := by cases hcv : cv.toList with | nil => rfl | cons x l => rw [hcv] at c2; cases c2
          exact .clo f fv cv [] [] (by rw [e1]; exact .nil) (by rw [e2]; exact .nil)

theorem closeM_RV (h : HRel P A w0 F0 J0 g s.hp w) {I' J' : Imm} {rs : List Nat} {al : Bool} (hI' : ∀ b o, w.heap[b]? = some o → Reads g s.hp rs b → I' b = some o)
    (hJ' : ∀ b o, (if al then g.I else g.J) b = some o → J' b = some o) {v : Value} {m x : MV} (hv : RV P g v m) (hc : closeM s al m = some x) (hr : ∀ i ∈ readsA s m, i ∈ rs) :
    RV P ⟨I', J', noInj⟩ v x := by
  cases m
  case agg cs =>
    simp only [closeM, Option.map_eq_some_iff] at hc
    obtain ⟨ys, hys, rfl⟩ := hc
    obtain ⟨hlen, hget⟩ := mapO_get hys
    cases hv with
    | agg vs _ hvs h1 =>
      refine .agg _ _ (RVL.of_get (by rw [hvs.length, hlen]) (fun i v y e1 e2 => ?_)) h1
      have hi : i < cs.length := by
        have := hvs.length
        have : i < vs.toList.length := (List.getElem?_eq_some_iff.1 e1).1
        omega
      obtain ⟨y', h2, h3⟩ := hget i _ (List.getElem?_eq_getElem hi)
      rw [e2] at h3; cases h3
      refine closeC_RV h hI' hJ' (hvs.get i v _ e1 (List.getElem?_eq_getElem hi)) h2 (fun j hj => hr j ?_)
      simp only [readsA, List.mem_flatMap]
      exact ⟨_, List.getElem_mem hi, hj⟩
  all_goals exact closeC_RV h hI' hJ' hv hc hr

theorem flat_val {d : D} {v : Value} (hd : d.isFlat = true) (h : RV P g v (ofD true d)) : v = d.val := by
  cases d with
  | i k n => cases h; rfl
  | b x => cases h; rfl
  | a => simp [D.isFlat] at hd

theorem flat_vals : ∀ {ds : List D} {vs : List Value}, ds.all D.isFlat = true → RVL P g vs (ds.map (ofD true)) → vs = ds.map D.val
  | [], _, _, .nil => rfl
  | d :: ds, _, h, .cons v vs _ _ hv hvs => by
    simp at h
    rw [List.map_cons, flat_val h.1 hv, flat_vals (by simpa using h.2) hvs]

theorem flat_FV {x : FV} {v : Value} (hx : x.isFlat = true) (h : RV P g v x.mv) : v = x.val := by
  cases x with
  | c d => exact flat_val hx h
  | g ds =>
    simp only [FV.mv] at h
    cases h with
    | agg vs _ hr _ =>
      have := flat_vals hx hr
      simp only [FV.val]; rw [← this]

theorem flat_RV {d : D} (hd : d.isFlat = true) : RV P g d.val (ofD true d) := by
  cases d with
  | i k n => exact .i _ _
  | b x => exact .b _
  | a => simp [D.isFlat] at hd
theorem flat_RVL : ∀ {ds : List D}, ds.all D.isFlat = true → RVL P g (ds.map D.val) (ds.map (ofD true)) ∧ ∀ v ∈ ds.map D.val, v.oneCell' = true
  | [], _ => ⟨.nil, by simp⟩
  | d :: ds, h => by
    simp at h
    have ih := flat_RVL (ds := ds) (by simpa using h.2)
    refine ⟨.cons _ _ _ _ (flat_RV h.1) ih.1, fun v hv => ?_⟩
    rcases List.mem_cons.1 hv with e | hv
    · subst e; cases d <;> rfl
    · exact ih.2 v hv
theorem FV_RV {x : FV} (hx : x.isFlat = true) : RV P g x.val x.mv := by
  cases x with
  | c d => exact flat_RV hx
  | g ds =>
    have := flat_RVL (P := P) (g := g) hx
    exact .agg _ _ (by simpa using this.1) (by simpa using this.2)

theorem Own_flat {I J : Imm} {x : FV} {v : Value} {F : List Nat} (hx : x.isFlat = true) (h : Own P I J w v x.mv F) : v = x.val := by
  cases x with
  | c d =>
    simp only [FV.mv] at h
    generalize hm : ofD true d = m at h
    cases h with
    | imm _ _ hv => subst hm; exact flat_val hx hv
    | ow0 => cases d <;> simp [ofD] at hm
    | ow => cases d <;> simp [ofD] at hm
    | on0 => cases d <;> simp [ofD] at hm
    | on => cases d <;> simp [ofD] at hm
    | pw => cases d <;> simp [ofD] at hm
    | agg => cases d <;> simp [ofD] at hm
    | tup => cases d <;> simp [ofD] at hm
  | g ds =>
    simp only [FV.mv] at h
    cases h with
    | imm _ _ hv => exact flat_FV (x := .g ds) hx hv
    | agg vs _ _ hr h1 =>
      have key : ∀ {vs : List Value} {ds : List D} {F : List Nat}, ds.all D.isFlat = true → OwnL P I J w vs (ds.map (ofD true)) F → vs = ds.map D.val := by
        intro vs ds
        induction ds generalizing vs with
        | nil => intro F _ hh; cases hh; rfl
        | cons d ds ih =>
          intro F hd hh
          simp at hd
          cases hh with
          | cons v vs _ _ F' G' h1 h2 =>
            rw [ih (by simpa using hd.2) h2]
            congr 1
            generalize hm : ofD true d = m at h1
            cases h1 with
            | imm _ _ hv => subst hm; exact flat_val hd.1 hv
            | ow0 => cases d <;> simp [ofD] at hm
            | ow => cases d <;> simp [ofD] at hm
            | on0 => cases d <;> simp [ofD] at hm
            | on => cases d <;> simp [ofD] at hm
            | pw => cases d <;> simp [ofD] at hm
            | agg => cases d <;> simp [ofD] at hm
            | tup => cases d <;> simp [ofD] at hm
      have := key hx hr
      simp only [FV.val]; rw [← this]

theorem OwnL.app {I J : Imm} : ∀ {vs us : List Value} {ms ns : List MV} {F G : List Nat}, OwnL P I J w vs ms F → OwnL P I J w us ns G → OwnL P I J w (vs ++ us) (ms ++ ns) (F ++ G)
  | _, _, _, _, _, _, .nil, k => by simpa using k
  | _, _, _, _, _, _, .cons v vs m ms F G h hs, k => by
    have := OwnL.cons v _ m _ F _ h (hs.app k)
    simpa [List.append_assoc] using this
theorem OwnL.of_RVL {I J : Imm} : ∀ {vs : List Value} {ms : List MV}, RVL P ⟨I, J, noInj⟩ vs ms → OwnL P I J w vs ms []
  | _, _, .nil => .nil
  | _, _, .cons v vs m ms h hs => by
    have := OwnL.cons v vs m ms [] [] (.imm v m h) (OwnL.of_RVL hs)
    simpa using this

/-- A closure, called. -/
theorem FnOk.calls (h : HRel P A w0 F0 J0 g s.hp w) {f : FuncId} {fv cv : Array Value} {first caps : List MV} {dom : List FV → Prop} {φ : List FV → FV} (hok : FnOk P s f first caps dom φ)
    (hf : RVL P g fv.toList first) (hc : RVL P g cv.toList caps) {I' : Imm} {rs : List Nat} (hI' : ∀ b o, w.heap[b]? = some o → Reads g s.hp rs b → I' b = some o)
    (hr : ∀ i ∈ readsM s (.clo f first caps), i ∈ rs) :
    Callable P f ∧ ∀ w' xs, (∀ b o, I' b = some o → w'.heap[b]? = some o) → (∀ x ∈ xs, x.isFlat = true) → dom xs →
      Calls P f (fv ++ (xs.map FV.val).toArray ++ cv) w' (fun e w'' => e = .returned (φ xs).val ∧ (φ xs).isFlat = true ∧ WExt w' [] w'') := by
  unfold FnOk at hok
  split at hok
  · rename_i fs cs h1 h2
    obtain ⟨hcal, hok⟩ := hok
    refine ⟨hcal, ?_⟩
    intro w' xs hw hxs hdom
    have hM := hok xs hxs hdom
    have cl : ∀ {vs : List Value} {ms ys : List MV}, RVL P g vs ms → mapO (closeM s false) ms = some ys → (∀ m ∈ ms, ∀ i ∈ readsA s m, i ∈ rs) → RVL P ⟨heapBut w' [], g.J, noInj⟩ vs ys := by
      intro vs ms ys hv hm hrr
      obtain ⟨hlen, hget⟩ := mapO_get hm
      refine RVL.of_get (by rw [hv.length, hlen]) (fun i v y e1 e2 => ?_)
      have hi : i < ms.length := by
        have := hv.length
        have : i < vs.length := (List.getElem?_eq_some_iff.1 e1).1
        omega
      obtain ⟨y', h3, h4⟩ := hget i _ (List.getElem?_eq_getElem hi)
      rw [e2] at h4; cases h4
      refine closeM_RV h (al := false) (rs := rs) (fun b o x y => ?_) (fun b o x => x) (hv.get i v _ e1 (List.getElem?_eq_getElem hi)) h3 (hrr _ (List.getElem_mem hi))
      simp only [heapBut, List.not_mem_nil, if_false]
      exact hw b o (hI' b o x y)
    have r1 := cl hf h1 (fun m hm i hi => hr i (by
      simp only [readsM, List.mem_append, List.mem_flatMap]
      exact .inl ⟨m, hm, hi⟩))
    have r2 := cl hc h2 (fun m hm i hi => hr i (by
      simp only [readsM, List.mem_append, List.mem_flatMap]
      exact .inr ⟨m, hm, hi⟩))
    have hx : RVL P ⟨heapBut w' [], g.J, noInj⟩ (xs.map FV.val) (xs.map FV.mv) := by
      clear hM hdom hok
      induction xs with
      | nil => exact .nil
      | cons x xs ih => exact .cons _ _ _ _ (FV_RV (hxs x (by simp))) (ih (fun y hy => hxs y (by simp [hy])))
    have hall := OwnL.of_RVL (w := w') ((r1.append hx).append r2)
    refine (hM w' g.J (fv ++ (xs.map FV.val).toArray ++ cv) [] (fun b o x => ⟨hw b o (h.I_of hI' b o (h.JI b o x)), by simp⟩) (by simp) (by simpa using hall)).mono ?_
    rintro e w'' ⟨v, outs, r, J', G, he, ⟨rfl, hfl⟩, hext, _, _, _, _, hown⟩
    refine ⟨?_, hfl, hext⟩
    cases hown with
    | cons _ _ _ _ F1 G1 h3 _ => rw [he, Own_flat hfl h3]
  · exact hok.elim
end
end Go.Fw
