/-
  A value model for walks: plain data, model values and how a world represents them. No program in sight.
-/
import Derived.Orders
import Derived.KernelRfl
import Derived.WalkKit
import Derived.Laws.Rows
import Derived.Laws.Cells
import Derived.Laws.CopyRow
namespace Go.Fw
set_option linter.unusedVariables false
set_option linter.unusedSimpArgs false

/-- Data in one cell: a number, a truth value, or a slice (its elements, each a list of 'k' cells). -/
inductive D where
  | i (k : IntKind) (n : Int)
  | b (x : Bool)
  | a (k : Nat) (es : List (List D))
instance : Inhabited D := ⟨.b false⟩

/-- A flat argument of a function value: one cell, or the cells of a struct. -/
inductive FV where
  | c (x : D)
  | g (xs : List D)
instance : Inhabited FV := ⟨.c default⟩

def D.val : D → Value
  | .i k n => .int k n
  | .b x => .bool x
  | .a _ _ => .bool false
def D.isFlat : D → Bool
  | .a _ _ => false
  | _ => true
def FV.val : FV → Value
  | .c x => x.val
  | .g xs => .agg (xs.map D.val).toArray
def FV.isFlat : FV → Bool
  | .c x => x.isFlat
  | .g xs => xs.all D.isFlat

/-- Model values. s: a slice that is only read. sr: a slice of an object of the call's own. pr, pd: pointers into an object, into memory that is only read. ow, pw: (in contracts) an owned slice, an owned variable. u: anything. un: the value of an operation that was passed over. -/
inductive MV where
  | i (k : IntKind) (n : Int)
  | b (x : Bool)
  | s (t : Bool) (k : Nat) (es : List (List D))
  | nl (k : Nat)
  | sr (id off len : Nat)
  | pr (id i off : Nat)
  | pd (t : Bool) (cs : List D) (off : Nat)
  | agg (cs : List MV)
  | tup (vs : List MV)
  | fn (dom : List FV → Prop) (φ : List FV → FV)
  | pf (dom : List FV → Prop) (φ : List FV → FV)
  | clo (f : FuncId) (first caps : List MV)
  | ow (t : Bool) (k : Nat) (es : List (List D))
  | pw (cs : List MV)
  | un
  | u
instance : Inhabited MV := ⟨.u⟩

/-- Objects of the call's own: an array (fz: it is written no more; rm: its room is known), a variable. -/
inductive MO where
  | arr (t : Bool) (k : Nat) (es : List (List D))
  | fz (t : Bool) (k : Nat) (es : List (List D))
  | rm (t : Bool) (k : Nat) (es : List (List D)) (C : Nat)
  | box (cs : List MV)
instance : Inhabited MO := ⟨.box []⟩

abbrev Imm := Nat → Option Obj

def cellD (es : List (List D)) (i j : Nat) : D := (es.getD i []).getD j default

inductive DR (I : Imm) : Value → D → Prop
  | i (k n) : DR I (.int k n) (.i k n)
  | b (x) : DR I (.bool x) (.b x)
  | a0 (p c k) : DR I (.slice p 0 c) (.a k [])
  | a (b off cap len : Nat) (cs : Array Value) (E z) (k) (es) (vs : Nat → Nat → Value) (hI : I b = some (.cells cs E z)) (hlen : len = es.length)
      (hk : ∀ e ∈ es, e.length = k) (hcap : len ≤ cap)
      (hc : ∀ i j, i < es.length → j < k → cs[off + i * k + j]? = some (vs i j))
      (hr : ∀ i j, i < es.length → j < k → DR I (vs i j) (cellD es i j)) : DR I (.slice (some ⟨b, off, none⟩) len cap) (.a k es)

theorem DR.mono {I I' : Imm} (h : ∀ b o, I b = some o → I' b = some o) {v : Value} {d : D} (r : DR I v d) : DR I' v d := by
  induction r with
  | i k n => exact .i k n
  | b x => exact .b x
  | a0 p c k => exact .a0 p c k
  | a b off cap len cs E z k es vs hI hlen hk hcap hc _ ih => exact .a b off cap len cs E z k es vs (h _ _ hI) hlen hk hcap hc ih

/-- A place of an object: block, first cell, cells of an element, room (in elements). -/
structure Loc where
  b : Nat
  base : Nat
  k : Nat
  C : Nat

/-- I, J: memory that is not written (J: made by the call itself). inj: where the objects lie. -/
structure Env where
  I : Imm
  J : Imm
  inj : Nat → Option Loc

def Env.im (g : Env) (t : Bool) : Imm := if t then g.J else g.I

/-- w' is w, but for new blocks and the blocks in F. -/
structure WExt (w : World) (F : List Nat) (w' : World) : Prop where
  os : w'.os = w.os
  tape : w'.tape = w.tape
  output : w'.output = w.output
  size : w.heap.size ≤ w'.heap.size
  block : ∀ b, b < w.heap.size → b ∉ F → w'.heap[b]? = w.heap[b]?
  shape : ∀ (b : Nat) (cs : Array Value) (E : TypeId) (z : Nat × Nat), w.heap[b]? = some (Obj.cells cs E z) → ∃ cs' : Array Value, w'.heap[b]? = some (Obj.cells cs' E z) ∧ cs'.size = cs.size

theorem WExt.refl (w : World) (F : List Nat) : WExt w F w := ⟨rfl, rfl, rfl, Nat.le_refl _, fun _ _ _ => rfl, fun _ cs _ _ h => ⟨cs, h, rfl⟩⟩

theorem WExt.trans {w w1 w2 : World} {F G : List Nat} (h : WExt w F w1) (k : WExt w1 G w2) (hG : ∀ b ∈ G, b < w.heap.size → b ∈ F) : WExt w F w2 := by
  refine ⟨k.os.trans h.os, k.tape.trans h.tape, k.output.trans h.output, Nat.le_trans h.size k.size, fun b hb hn => ?_, fun b cs E z hc => ?_⟩
  · rw [k.block b (Nat.lt_of_lt_of_le hb h.size) (fun hm => hn (hG b hm hb)), h.block b hb hn]
  · obtain ⟨c1, h1, e1⟩ := h.shape b cs E z hc
    obtain ⟨c2, h2, e2⟩ := k.shape b c1 E z h1
    exact ⟨c2, h2, e2.trans e1⟩

/-- A Go function with a body. -/
def Callable (P : Program) (f : FuncId) : Prop := ∃ fd, P.funcs[f]? = some fd ∧ (fd.name == "runtime.NumGoroutine") = false ∧ fd.body.isNone = false

mutual
inductive RV (P : Program) (g : Env) : Value → MV → Prop
  | i (k n) : RV P g (.int k n) (.i k n)
  | b (x) : RV P g (.bool x) (.b x)
  | s (t k es v) (h : DR (g.im t) v (.a k es)) : RV P g v (.s t k es)
  | nl (p k) : RV P g (.slice p 0 0) (.nl k)
  | sr (id off len cap l) (hl : g.inj id = some l) (h1 : off + cap = l.C) (h2 : len ≤ cap) :
      RV P g (.slice (some ⟨l.b, l.base + off * l.k, none⟩) len cap) (.sr id off len)
  | sr0 (p id off) : RV P g (.slice p 0 0) (.sr id off 0)
  | pr (id i off l) (hl : g.inj id = some l) : RV P g (.pointer (some ⟨l.b, l.base + i * l.k + off, none⟩)) (.pr id i off)
  | pd (t cs off bb o cells E z) (vs : Nat → Value) (hI : g.im t bb = some (.cells cells E z)) (hc : ∀ j, j < cs.length → cells[o + j]? = some (vs j))
      (hr : ∀ j, j < cs.length → DR (g.im t) (vs j) (cs.getD j default)) : RV P g (.pointer (some ⟨bb, o + off, none⟩)) (.pd t cs off)
  | agg (vs cs) (h : RVL P g vs.toList cs) (h1 : ∀ v ∈ vs.toList, v.oneCell' = true) : RV P g (.agg vs) (.agg cs)
  | tup (vs cs) (h : RVL P g vs.toList cs) : RV P g (.tuple vs) (.tup cs)
  | fn (f fv cv dom φ) (hc : Callable P f) (h : ∀ w' xs, (∀ b o, g.I b = some o → w'.heap[b]? = some o) → (∀ x ∈ xs, x.isFlat = true) → dom xs →
        Calls P f (fv ++ (xs.map FV.val).toArray ++ cv) w' (fun e w'' => e = .returned (φ xs).val ∧ (φ xs).isFlat = true ∧ WExt w' [] w'')) :
      RV P g (.func (.func f) fv cv) (.fn dom φ)
  | clo (f fv cv first caps) (h1 : RVL P g fv.toList first) (h2 : RVL P g cv.toList caps) : RV P g (.func (.func f) fv cv) (.clo f first caps)
  | pf (bb o cells E z v dom φ) (hI : g.I bb = some (.cells cells E z)) (hc : cells[o]? = some v) (h : RV P g v (.fn dom φ)) : RV P g (.pointer (some ⟨bb, o, none⟩)) (.pf dom φ)
  | un : RV P g undef .un
  | u (v) : RV P g v .u
inductive RVL (P : Program) (g : Env) : List Value → List MV → Prop
  | nil : RVL P g [] []
  | cons (v vs m ms) (h : RV P g v m) (hs : RVL P g vs ms) : RVL P g (v :: vs) (m :: ms)
end

/-- g' knows all that g knows. -/
structure Env.le (g g' : Env) : Prop where
  I : ∀ b o, g.I b = some o → g'.I b = some o
  J : ∀ b o, g.J b = some o → g'.J b = some o
  inj : ∀ id l, g.inj id = some l → g'.inj id = some l

theorem Env.le.refl (g : Env) : g.le g := ⟨fun _ _ h => h, fun _ _ h => h, fun _ _ h => h⟩
theorem Env.le.trans {g g1 g2 : Env} (h : g.le g1) (k : g1.le g2) : g.le g2 :=
  ⟨fun b o x => k.I b o (h.I b o x), fun b o x => k.J b o (h.J b o x), fun b o x => k.inj b o (h.inj b o x)⟩
theorem Env.le.im {g g' : Env} (h : g.le g') (t : Bool) : ∀ b o, g.im t b = some o → g'.im t b = some o := by
  cases t
  · exact h.I
  · exact h.J

mutual
theorem RV.mono {P : Program} {g g' : Env} (hg : g.le g') {v : Value} {m : MV} : RV P g v m → RV P g' v m
  | .i k n => .i k n
  | .b x => .b x
  | .s t k es v h => .s t k es v (h.mono (hg.im t))
  | .nl p k => .nl p k
  | .sr id off len cap l hl h1 h2 => .sr id off len cap l (hg.inj _ _ hl) h1 h2
  | .sr0 p id off => .sr0 p id off
  | .pr id i off l hl => .pr id i off l (hg.inj _ _ hl)
  | .pd t cs off bb o cells E z vs hI hc hr => .pd t cs off bb o cells E z vs (hg.im t _ _ hI) hc (fun j hj => (hr j hj).mono (hg.im t))
  | .agg vs cs h h1 => .agg vs cs (RVL.mono hg h) h1
  | .tup vs cs h => .tup vs cs (RVL.mono hg h)
  | .fn f fv cv dom φ hc h => .fn f fv cv dom φ hc (fun w' xs hI => h w' xs (fun b o hb => hI b o (hg.I b o hb)))
  | .clo f fv cv first caps h1 h2 => .clo f fv cv first caps (RVL.mono hg h1) (RVL.mono hg h2)
  | .pf bb o cells E z v dom φ hI hc h => .pf bb o cells E z v dom φ (hg.I _ _ hI) hc (RV.mono hg h)
  | .un => .un
  | .u v => .u v
theorem RVL.mono {P : Program} {g g' : Env} (hg : g.le g') {vs : List Value} {ms : List MV} : RVL P g vs ms → RVL P g' vs ms
  | .nil => .nil
  | .cons v vs m ms h hs => .cons v vs m ms (RV.mono hg h) (RVL.mono hg hs)
end

theorem RVL.length {P : Program} {g : Env} : ∀ {vs : List Value} {ms : List MV}, RVL P g vs ms → vs.length = ms.length
  | _, _, .nil => rfl
  | _, _, .cons _ _ _ _ _ hs => by simp [hs.length]

theorem RVL.get {P : Program} {g : Env} : ∀ {vs : List Value} {ms : List MV}, RVL P g vs ms → ∀ (i : Nat) (v : Value) (m : MV), vs[i]? = some v → ms[i]? = some m → RV P g v m
  | _, _, .nil, i, v, m, h, _ => by simp at h
  | _, _, .cons _ _ _ _ h hs, 0, v, m, h1, h2 => by simp at h1 h2; subst h1 h2; exact h
  | _, _, .cons _ _ _ _ h hs, i + 1, v, m, h1, h2 => hs.get i v m (by simpa using h1) (by simpa using h2)

theorem RVL.append {P : Program} {g : Env} : ∀ {vs us : List Value} {ms ns : List MV}, RVL P g vs ms → RVL P g us ns → RVL P g (vs ++ us) (ms ++ ns)
  | _, _, _, _, .nil, k => k
  | _, _, _, _, .cons _ _ _ _ h hs, k => .cons _ _ _ _ h (hs.append k)

theorem RVL.take {P : Program} {g : Env} : ∀ {vs : List Value} {ms : List MV} (n : Nat), RVL P g vs ms → RVL P g (vs.take n) (ms.take n)
  | _, _, 0, _ => by simpa using RVL.nil
  | _, _, n + 1, .nil => by simpa using RVL.nil
  | _, _, n + 1, .cons _ _ _ _ h hs => by simpa using RVL.cons _ _ _ _ h (hs.take n)

theorem RVL.drop {P : Program} {g : Env} : ∀ {vs : List Value} {ms : List MV} (n : Nat), RVL P g vs ms → RVL P g (vs.drop n) (ms.drop n)
  | _, _, 0, h => by simpa using h
  | _, _, n + 1, .nil => by simpa using RVL.nil
  | _, _, n + 1, .cons _ _ _ _ h hs => by simpa using hs.drop n

theorem RVL.set {P : Program} {g : Env} : ∀ {vs : List Value} {ms : List MV} (n : Nat) {v m}, RVL P g vs ms → RV P g v m → RVL P g (vs.set n v) (ms.set n m)
  | _, _, _, _, _, .nil, _ => by simpa using RVL.nil
  | _, _, 0, _, _, .cons _ _ _ _ h hs, k => by simpa using RVL.cons _ _ _ _ k hs
  | _, _, n + 1, _, _, .cons _ _ _ _ h hs, k => by simpa using RVL.cons _ _ _ _ h (hs.set n k)

theorem RVL.of_get {P : Program} {g : Env} : ∀ {vs : List Value} {ms : List MV}, vs.length = ms.length → (∀ (i : Nat) (v : Value) (m : MV), vs[i]? = some v → ms[i]? = some m → RV P g v m) → RVL P g vs ms
  | [], [], _, _ => .nil
  | v :: vs, m :: ms, h, k => .cons _ _ _ _ (k 0 v m (by simp) (by simp)) (RVL.of_get (by simpa using h) (fun i v m h1 h2 => k (i + 1) v m (by simpa using h1) (by simpa using h2)))
  | [], _ :: _, h, _ => by simp at h
  | _ :: _, [], h, _ => by simp at h

end Go.Fw
