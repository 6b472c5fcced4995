/-
  The model's states and operations: what one operation of the loaded code does to model values.
-/
import Derived.Test.YtdfbdbbjnihmaaaFwA
namespace Go.Fw
set_option linter.unusedVariables false
set_option linter.unusedSimpArgs false

def look {α : Type} : List (Nat × α) → Nat → Option α
  | [], _ => none
  | (k, v) :: r, n => if k = n then some v else look r n
def del {α : Type} : List (Nat × α) → Nat → List (Nat × α)
  | [], _ => []
  | (k, v) :: r, n => if k = n then del r n else (k, v) :: del r n
def put {α : Type} (l : List (Nat × α)) (n : Nat) (v : α) : List (Nat × α) := (n, v) :: del l n

theorem look_del {α : Type} : ∀ (l : List (Nat × α)) (n m : Nat), look (del l n) m = if n = m then none else look l m
  | [], n, m => by simp [look, del]
  | (k, v) :: r, n, m => by
    have ih := look_del r n m
    by_cases h : k = n
    · subst h
      rw [del, if_pos rfl, ih, look]
      by_cases hm : k = m <;> simp [hm]
    · rw [del, if_neg h, look, look, ih]
      by_cases hm : k = m
      · subst hm; simp [Ne.symm h]
      · simp [hm]
theorem look_put {α : Type} (l : List (Nat × α)) (n m : Nat) (v : α) : look (put l n v) m = if n = m then some v else look l m := by
  rw [put, look, look_del]; by_cases h : n = m <;> simp [h]

structure MS where
  fr : List (Nat × MV)
  hp : List (Nat × MO)
  nx : Nat

inductive Opd where
  | t (n : Nat)
  | v (m : MV)
instance : Inhabited Opd := ⟨.t 0⟩

def MS.val (s : MS) : Opd → MV
  | .t n => (look s.fr n).getD .u
  | .v m => m
def MS.obj (s : MS) (id : Nat) : Option MO := look s.hp id
def MS.set (s : MS) (d : Option Nat) (m : MV) : MS :=
  match d with
  | some t => { s with fr := put s.fr t m }
  | none => s

/-- Changes of objects: a new content, or gone. -/
abbrev Upd := List (Nat × Option MO)
def upds (hp : List (Nat × MO)) : Upd → List (Nat × MO)
  | [] => hp
  | (id, some o) :: r => upds (put hp id o) r
  | (id, none) :: r => upds (del hp id) r

abbrev MK := MV → Upd → List Nat → Prop

def MV.cells : MV → Option (List MV)
  | .agg cs => some cs
  | .tup _ | .u | .un => none
  | m => some [m]

def ofD (t : Bool) : D → MV
  | .i k n => .i k n
  | .b x => .b x
  | .a k es => .s t k es

/-- The data of a cell that is put into an array: its flag, the data, the objects that are written no more from then on. -/
def toD (s : MS) : MV → Option (Bool × D × Upd)
  | .i k n => some (true, .i k n, [])
  | .b x => some (true, .b x, [])
  | .s t k es => some (t, .a k es, [])
  | .nl k => some (true, .a k [], [])
  | .sr id off len =>
    match s.obj id with
    | some (.arr t k es) => if off + len ≤ es.length then some (t, .a k ((es.drop off).take len), [(id, some (.fz t k es))]) else none
    | some (.fz t k es) => if off + len ≤ es.length then some (t, .a k ((es.drop off).take len), []) else none
    | _ => none
  | _ => none
def toDs (s : MS) : List MV → Option (Bool × List D × Upd)
  | [] => some (true, [], [])
  | m :: r =>
    match toD s m with
    | some (t, d, u) =>
      match toDs s r with
      | some (t', ds, u') => some (t && t', d :: ds, u ++ u')
      | none => none
    | none => none

def splice {α : Type} (cs : List α) (off : Nat) : List α → List α
  | [] => cs
  | x :: r => splice (cs.set off x) (off + 1) r

def chunkVal (agg : Bool) (k off : Nat) (cs : List MV) : MV :=
  if agg then .agg ((cs.drop off).take k) else cs.getD off .u

def mapO {α β : Type} (f : α → Option β) : List α → Option (List β)
  | [] => some []
  | x :: r =>
    match f x with
    | some y =>
      match mapO f r with
      | some ys => some (y :: ys)
      | none => none
    | none => none

/-- What a cell reads as, to be handed to a callee that only reads it. -/
def closeD (s : MS) : MV → Option D
  | .i k n => some (.i k n)
  | .b x => some (.b x)
  | .s _ k es => some (.a k es)
  | .nl k => some (.a k [])
  | .sr id off len =>
    match s.obj id with
    | some (.arr _ k es) | some (.fz _ k es) => if off + len ≤ es.length then some (.a k ((es.drop off).take len)) else none
    | _ => none
  | _ => none
def closeC (s : MS) (al : Bool) : MV → Option MV
  | .i k n => some (.i k n)
  | .b x => some (.b x)
  | .s t k es => some (.s (t || al) k es)
  | .nl k => some (.s true k [])
  | .sr id off len =>
    match s.obj id with
    | some (.arr _ k es) | some (.fz _ k es) => if off + len ≤ es.length then some (.s false k ((es.drop off).take len)) else none
    | _ => none
  | .pd t cs off => some (.pd (t || al) cs off)
  | .pr id i off =>
    match s.obj id with
    | some (.box [.fn d φ]) => if i = 0 ∧ off = 0 then some (.pf d φ) else none
    | some (.box cs) => if i = 0 then (mapO (closeD s) cs).map (fun ds => .pd false ds off) else none
    | _ => none
  | .pf d φ => some (.pf d φ)
  | .fn d φ => some (.fn d φ)
  | _ => none
def closeM (s : MS) (al : Bool) : MV → Option MV
  | .agg cs => (mapO (closeC s al) cs).map .agg
  | m => closeC s al m

inductive Mode where
  | im | io | co | fn
  deriving DecidableEq

def Flat (es : List (List D)) : Prop := ∀ e ∈ es, ∀ d ∈ e, d.isFlat = true

/-- An owned cell: what it is handed over as, and the objects that go. -/
def takeC (s : MS) (al : Bool) : MV → (MV → List Nat → Prop) → Prop
  | .i k n, K => K (.i k n) []
  | .b x, K => K (.b x) []
  | .s t k es, K => K (.s (t || al) k es) []
  | .nl k, K => K (.ow false k []) []
  | .sr id off len, K =>
    match s.obj id with
    | some (.arr _ k es) => off = 0 ∧ len = es.length ∧ K (.ow false k es) [id]
    | _ => False
  | _, _ => False
def takeL (s : MS) (al : Bool) : List MV → (List MV → List Nat → Prop) → Prop
  | [], K => K [] []
  | m :: r, K => takeC s al m fun x is => takeL s al r fun xs js => K (x :: xs) (is ++ js)

/-- What comes back of an argument: one object at most; for a struct, one at most for each cell. -/
inductive Bk where
  | one (i : Option Nat)
  | many (is : List (Option Nat))

/-- A cell that is lent. -/
def lendC (s : MS) : MV → (MV → Option Nat → List Nat → Prop) → Prop
  | .i k n, K => K (.i k n) none []
  | .b x, K => K (.b x) none []
  | .nl k, K => K (.ow false k []) none []
  | .sr id off len, K =>
    match s.obj id with
    | some (.arr _ k es) => off = 0 ∧ len = es.length ∧ K (.ow false k es) (some id) [id]
    | _ => False
  | _, _ => False
def lendL (s : MS) : List MV → (List MV → List (Option Nat) → List Nat → Prop) → Prop
  | [], K => K [] [] []
  | m :: r, K => lendC s m fun x i g => lendL s r fun xs is gs => K (x :: xs) (i :: is) (g ++ gs)

/-- One argument. The continuation gets: what is handed over; the objects that come back ('io'); the objects that are handed over. -/
def argK (s : MS) (al : Bool) : Mode → MV → (MV → Bk → List Nat → Prop) → Prop
  | .im, m, K =>
    match closeM s al m with
    | some x => K x (.one none) []
    | none => False
  | .io, .agg cs, K => lendL s cs fun xs is g => K (.agg xs) (.many is) g
  | .io, .pr id i off, K =>
    match s.obj id with
    | some (.box cs) => i = 0 ∧ off = 0 ∧ takeL s al cs fun xs is => K (.pw xs) (.one (some id)) (id :: is)
    | _ => False
  | .io, m, K => lendC s m fun x i g => K x (.one i) g
  | .co, .agg cs, K => takeL s al cs fun xs is => K (.agg xs) (.one none) is
  | .co, m, K => takeC s al m fun x is => K x (.one none) is
  | _, _, _ => False

/-- The same, cell by cell. -/
def flatI : List Bk → List (Option Nat)
  | [] => []
  | .one i :: r => i :: flatI r
  | .many is :: r => is ++ flatI r
def cellsO (n : Nat) : MV → List MV
  | .agg cs => if cs.length = n then cs else List.replicate n .u
  | _ => List.replicate n .u
def flatO : List Bk → List MV → List MV
  | .one _ :: r, m :: ms => m :: flatO r ms
  | .many is :: r, m :: ms => cellsO is.length m ++ flatO r ms
  | _, _ => []

def impL (f : MV → Nat → MV × List (Nat × MO) × Nat) : List MV → Nat → List MV × List (Nat × MO) × Nat
  | [], n => ([], [], n)
  | m :: r, n =>
    let x := f m n
    let y := impL f r x.2.2
    (x.1 :: y.1, x.2.1 ++ y.2.1, y.2.2)
/-- A result is taken over: each owned slice becomes an object. -/
def imp (t : Option Bool) : Nat → MV → Nat → MV × List (Nat × MO) × Nat
  | 0, _, n => (.u, [], n)
  | _ + 1, .ow t' k es, n => (.sr n 0 es.length, [(n, .arr (t.getD t') k es)], n + 1)
  | f + 1, .pw cs, n =>
    let r := impL (imp t f) cs (n + 1)
    (.pr n 0 0, r.2.1 ++ [(n, .box r.1)], r.2.2)
  | f + 1, .agg cs, n =>
    let r := impL (imp t f) cs n
    (.agg r.1, r.2.1, r.2.2)
  | f + 1, .tup cs, n =>
    let r := impL (imp t f) cs n
    (.tup r.1, r.2.1, r.2.2)
  | _ + 1, .s t' k es, n => (.s (t.getD t') k es, [], n)
  | _ + 1, .pd t' cs off, n => (.pd (t.getD t') cs off, [], n)
  | _ + 1, .i k x, n => (.i k x, [], n)
  | _ + 1, .b x, n => (.b x, [], n)
  | _ + 1, .nl k, n => (.nl k, [], n)
  | _ + 1, .fn d φ, n => (.fn d φ, [], n)
  | _ + 1, .pf d φ, n => (.pf d φ, [], n)
  | _ + 1, _, n => (.u, [], n)

end Go.Fw
