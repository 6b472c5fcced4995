/-
  Rules by which the model's code is reckoned out.
-/
import Derived.Test.YtdfbdbbjnihmaaaFxB
namespace Go.Fw
set_option linter.unusedVariables false
set_option linter.unusedSimpArgs false

/-- A word that is always turned: so that the rules of congruence below always count as used. -/
def zz : Nat := 0
theorem zz_eq : zz = 0 := (rfl)

/-- Two ways, by a truth value. -/
def guardK (x w : Bool) (A B : Prop) : Prop := (x = w → A) ∧ (x = (!w) → B)
@[congr] theorem guardK_congr {z : Nat} (hz : zz = z) {x x' w w' : Bool} {A B : Prop} (h : x = x') (hw : w = w') : guardK x w A B = guardK x' w' A B := by rw [h, hw]
theorem guardK_tt {A B : Prop} : guardK true true A B = A := by simp [guardK]
theorem guardK_ff {A B : Prop} : guardK false false A B = A := by simp [guardK]
theorem guardK_tf {A B : Prop} : guardK true false A B = B := by simp [guardK]
theorem guardK_ft {A B : Prop} : guardK false true A B = B := by simp [guardK]
theorem guardK_dt {p : Prop} [Decidable p] {A B : Prop} : guardK (decide p) true A B = ((p → A) ∧ (¬p → B)) := by simp [guardK]
theorem guardK_df {p : Prop} [Decidable p] {A B : Prop} : guardK (decide p) false A B = ((¬p → A) ∧ (p → B)) := by simp [guardK]
theorem guardK_nt {x : Bool} {A B : Prop} : guardK (!x) true A B = guardK x false A B := by cases x <;> simp [guardK]
theorem guardK_nf {x : Bool} {A B : Prop} : guardK (!x) false A B = guardK x true A B := by cases x <;> simp [guardK]
theorem guardK_mk {x w : Bool} {A B : Prop} (h1 : x = w → A) (h2 : x = (!w) → B) : guardK x w A B := ⟨h1, h2⟩

/- The same meanings as rigid words: Lean's kernel never opens them by itself. -/
inductive Wwp (P : Program) (c : MCode) (Q : Ex → MS → Prop) (s : MS) : Prop
  | mk (h : mwp P c Q s)
inductive Wops (P : Program) (l : List MOper) (n : Nat) (s : MS) (K : MS → Prop) : Prop
  | mk (h : mops P l n s K)
inductive Wtrace (P : Program) (l : List MOper) (n : Nat) (s : MS) (K : List Rec → MS → Prop) : Prop
  | mk (h : mtrace P l n s K)

section
variable {P : Program} {Q : Ex → MS → Prop} {s s' : MS}

theorem Wwp.eq {c} : Wwp P c Q s = mwp P c Q s := propext ⟨fun ⟨h⟩ => h, .mk⟩
theorem Wops.eq {l n K} : Wops P l n s K = mops P l n s K := propext ⟨fun ⟨h⟩ => h, .mk⟩
theorem Wtrace.eq {l n K} : Wtrace P l n s K = mtrace P l n s K := propext ⟨fun ⟨h⟩ => h, .mk⟩
theorem Wwp.fn {c} : Wwp P c Q = mwp P c Q := funext fun _ => Wwp.eq

@[congr] theorem Wwp_congr {z : Nat} (hz : zz = z) {c : MCode} (h : s = s') : Wwp P c Q s = Wwp P c Q s' := by rw [h]
@[congr] theorem Wops_congr {z : Nat} (hz : zz = z) {l : List MOper} {n n' : Nat} {K : MS → Prop} (h : s = s') (hn : n = n') : Wops P l n s K = Wops P l n' s' K := by rw [h, hn]
@[congr] theorem Wtrace_congr {z : Nat} (hz : zz = z) {l : List MOper} {n n' : Nat} {K : List Rec → MS → Prop} (h : s = s') (hn : n = n') : Wtrace P l n s K = Wtrace P l n' s' K := by rw [h, hn]
@[congr] theorem mop_congr {z : Nat} (hz : zz = z) {d : Bool} {o : MOp} {n n' : Nat} {K : MK} (h : s = s') (hn : n = n') : mop d P o n s K = mop d P o n' s' K := by rw [h, hn]
@[congr] theorem callK_congr {z : Nat} (hz : zz = z) {d : Bool} {f : FuncId} {xs xs' : List MV} {K : List MV → MV → Prop} (h : xs = xs') : callK d P f xs K = callK d P f xs' K := by rw [h]
@[congr] theorem thenM_congr {z : Nat} (hz : zz = z) {n : MS → Prop} {e : Ex} (h : s = s') : thenM n Q e s = thenM n Q e s' := by rw [h]
@[congr] theorem inBlockM_congr {z : Nat} (hz : zz = z) {n : Nat} {e : Ex} (h : s = s') : inBlockM n Q e s = inBlockM n Q e s' := by rw [h]

@[congr] theorem mstep_congr {z : Nat} (hz : zz = z) {o : MOper} {n n' : Nat} {K : Rec → Prop} (h : s = s') (hn : n = n') : mstep P o n s K = mstep P o n' s' K := by rw [h, hn]
@[congr] theorem argsK_congr {z : Nat} (hz : zz = z) {al : Bool} {os : List Mode} {ms ms' : List MV} {K : List MV → List Bk → List Nat → List Nat → Prop} (h : s = s') (hm : ms = ms') : argsK P s al os ms K = argsK P s' al os ms' K := by rw [h, hm]
@[congr] theorem argK_congr {z : Nat} (hz : zz = z) {al : Bool} {o : Mode} {m m' : MV} {K : MV → Bk → List Nat → Prop} (h : s = s') (hm : m = m') : argK s al o m K = argK s' al o m' K := by rw [h, hm]
@[congr] theorem lendC_congr {z : Nat} (hz : zz = z) {m m' : MV} {K : MV → Option Nat → List Nat → Prop} (h : s = s') (hm : m = m') : lendC s m K = lendC s' m' K := by rw [h, hm]
@[congr] theorem lendL_congr {z : Nat} (hz : zz = z) {m m' : List MV} {K : List MV → List (Option Nat) → List Nat → Prop} (h : s = s') (hm : m = m') : lendL s m K = lendL s' m' K := by rw [h, hm]
@[congr] theorem takeC_congr {z : Nat} (hz : zz = z) {al : Bool} {m m' : MV} {K : MV → List Nat → Prop} (h : s = s') (hm : m = m') : takeC s al m K = takeC s' al m' K := by rw [h, hm]
@[congr] theorem takeL_congr {z : Nat} (hz : zz = z) {al : Bool} {m m' : List MV} {K : List MV → List Nat → Prop} (h : s = s') (hm : m = m') : takeL s al m K = takeL s' al m' K := by rw [h, hm]
@[congr] theorem outK_congr {z : Nat} (hz : zz = z) {t t' : Bool} {is is' : List (Option Nat)} {ms ms' : List MV} {n n' : Nat} {K : Upd → Nat → Prop} (ht : t = t') (h : s = s') (hi : is = is') (hm : ms = ms') (hn : n = n') : outK t s is ms n K = outK t' s' is' ms' n' K := by rw [ht, h, hi, hm, hn]
@[congr] theorem bound_congr {z : Nat} (hz : zz = z) {d d' : Nat} {o : Option Opd} {K : Nat → Prop} (h : s = s') (hd : d = d') : bound s d o K = bound s' d' o K := by rw [h, hd]
@[congr] theorem buildC_congr {z : Nat} (hz : zz = z) {ps : List (Nat × Nat × Opd)} {cs cs' : List MV} {K : List MV → Prop} (h : s = s') (hc : cs = cs') : buildC s ps cs K = buildC s' ps cs' K := by rw [h, hc]
@[congr] theorem intBin_congr {z : Nat} (hz : zz = z) {op : BinOp} {k : IntKind} {a a' b b' : Int} {K : MV → Prop} (ha : a = a') (hb : b = b') : intBin op k a b K = intBin op k a' b' K := by rw [ha, hb]
@[congr] theorem exC_congr {z : Nat} (hz : zz = z) {m m' : MV} {K : MV → List Nat → Prop} (h : s = s') (hm : m = m') : exC s m K = exC s' m' K := by rw [h, hm]
@[congr] theorem exM_congr {z : Nat} (hz : zz = z) {m m' : MV} {K : MV → List Nat → Prop} (h : s = s') (hm : m = m') : exM s m K = exM s' m' K := by rw [h, hm]
@[congr] theorem exL_congr {z : Nat} (hz : zz = z) {m m' : List MV} {K : List MV → List Nat → Prop} (h : s = s') (hm : m = m') : exL s m K = exL s' m' K := by rw [h, hm]
@[congr] theorem exO_congr {z : Nat} (hz : zz = z) {fx : List Nat} {k k' n n' : Nat} {K : List MV → List Nat → Prop} (h : s = s') (hk : k = k') (hn : n = n') : exO s fx k n K = exO s' fx k' n' K := by rw [h, hk, hn]
@[congr] theorem exMs_congr {z : Nat} (hz : zz = z) {m m' : List MV} {K : List MV → List Nat → Prop} (h : s = s') (hm : m = m') : exMs s m K = exMs s' m' K := by rw [h, hm]
@[congr] theorem getK_congr {z : Nat} (hz : zz = z) {es es' : List (List D)} {i i' : Nat} {K : List D → Prop} (h : es = es') (hi : i = i') : getK es i K = getK es' i' K := by rw [h, hi]
@[congr] theorem okTrace_congr {z : Nat} (hz : zz = z) {bs : List Nat} {i : Nat} {l : List Rec} : okTrace bs i l = okTrace bs i l := (rfl)


theorem thenM_n {n : MS → Prop} : thenM n Q .normal s = n s := (rfl)
theorem thenM_e {n : MS → Prop} {id} : thenM n Q (.exit id) s = Q (.exit id) s := (rfl)
theorem thenM_r {n : MS → Prop} : thenM n Q .ret s = Q .ret s := (rfl)
theorem inBlockM_n {n : Nat} : inBlockM n Q .normal s = Q .normal s := (rfl)
theorem inBlockM_e {n id : Nat} : inBlockM n Q (.exit id) s = if id = n then Q .normal s else Q (.exit id) s := (rfl)
theorem inBlockM_r {n : Nat} : inBlockM n Q .ret s = Q .ret s := (rfl)
theorem retQ_n {rs fx n} {Q : List MV → MV → Prop} : retQ rs fx n Q .normal s = retK rs fx n Q s := (rfl)
theorem retQ_r {rs fx n} {Q : List MV → MV → Prop} : retQ rs fx n Q .ret s = retK rs fx n Q s := (rfl)

variable {fr : List (Nat × MV)} {hp : List (Nat × MO)} {nx : Nat}
/- The rules of walking stand for states that are written out. -/
theorem app_nil {t m} : MS.app ⟨fr, hp, nx⟩ (some t) m [] = ⟨put fr t m, hp, nx⟩ := (rfl)
theorem app_none {m} : MS.app ⟨fr, hp, nx⟩ none m [] = ⟨fr, hp, nx⟩ := (rfl)
theorem app_put {d m id o u} : MS.app ⟨fr, hp, nx⟩ d m ((id, some o) :: u) = MS.app ⟨fr, put hp id o, nx⟩ d m u := (rfl)
theorem app_del {d m id u} : MS.app ⟨fr, hp, nx⟩ d m ((id, none) :: u) = MS.app ⟨fr, del hp id, nx⟩ d m u := (rfl)
theorem set_some {t m} : MS.set ⟨fr, hp, nx⟩ (some t) m = ⟨put fr t m, hp, nx⟩ := (rfl)
theorem set_none {m} : MS.set ⟨fr, hp, nx⟩ none m = ⟨fr, hp, nx⟩ := (rfl)
theorem know_t {t x} : MS.know ⟨fr, hp, nx⟩ (.t t) x = ⟨put fr t (.b x), hp, nx⟩ := (rfl)
theorem know_v {m x} : MS.know ⟨fr, hp, nx⟩ (.v m) x = ⟨fr, hp, nx⟩ := (rfl)
theorem keep_mk {live n} : keep live n ⟨fr, hp, nx⟩ = ⟨keepFr fr live, hp, n⟩ := (rfl)
theorem did_mk {d v u rs ids} : MS.did s ⟨d, v, u, rs, ids⟩ = s.app d v u := (rfl)

theorem mwp_skip : Wwp P .skip Q ⟨fr, hp, nx⟩ = Q .normal ⟨fr, hp, nx⟩ := Wwp.eq
theorem mwp_reg {ms live} : Wwp P (.reg ms live) Q ⟨fr, hp, nx⟩ = Wops P ms nx ⟨fr, hp, nx⟩ fun s' => Q .normal (keep live (nx + 64 * ms.length) s') := by rw [Wwp.eq, Wops.eq]; rfl
theorem mwp_draw {bs ms live} : Wwp P (.draw bs ms live) Q ⟨fr, hp, nx⟩ = Wtrace P ms nx ⟨fr, hp, nx⟩ fun rs s' => okTrace bs 0 rs = true ∧ Q .normal (keep live (nx + 64 * ms.length) s') := by rw [Wwp.eq, Wtrace.eq]; rfl
theorem mwp_seq {a b} : Wwp P (.seq a b) Q ⟨fr, hp, nx⟩ = Wwp P a (thenM (Wwp P b Q) Q) ⟨fr, hp, nx⟩ := by rw [Wwp.eq, Wwp.eq, Wwp.fn]; rfl
theorem mwp_cond {c a b} : Wwp P (.cond c a b) Q ⟨fr, hp, nx⟩ = match MS.val ⟨fr, hp, nx⟩ c with | .b x => guardK x true (Wwp P a Q (MS.know ⟨fr, hp, nx⟩ c true)) (Wwp P b Q (MS.know ⟨fr, hp, nx⟩ c false)) | _ => False := by
  rw [Wwp.eq]; simp only [Wwp.fn]; rfl
theorem mwp_block {id b} : Wwp P (.block id b) Q ⟨fr, hp, nx⟩ = Wwp P b (inBlockM id Q) ⟨fr, hp, nx⟩ := by rw [Wwp.eq, Wwp.eq]; rfl
theorem mwp_exit {id} : Wwp P (.exit id) Q ⟨fr, hp, nx⟩ = Q (.exit id) ⟨fr, hp, nx⟩ := Wwp.eq
theorem mwp_ret : Wwp P .ret Q ⟨fr, hp, nx⟩ = Q .ret ⟨fr, hp, nx⟩ := Wwp.eq

theorem mops_nil {n K} : Wops P [] n ⟨fr, hp, nx⟩ K = K ⟨fr, hp, nx⟩ := Wops.eq
theorem mops_cons {d o r n K} : Wops P (⟨d, none, o⟩ :: r) n ⟨fr, hp, nx⟩ K = mop false P o n ⟨fr, hp, nx⟩ fun m u _ => Wops P r (n + 64) (MS.app ⟨fr, hp, nx⟩ d m u) K := by
  rw [Wops.eq]; simp only [Wops.eq]; rfl
theorem mops_guard {d g want o r n K} : Wops P (⟨d, some (g, want), o⟩ :: r) n ⟨fr, hp, nx⟩ K =
    match MS.val ⟨fr, hp, nx⟩ (.t g) with
    | .b x => guardK x want (mop false P o n (MS.set ⟨fr, hp, nx⟩ (some g) (.b want)) fun m u _ => Wops P r (n + 64) (MS.app (MS.set ⟨fr, hp, nx⟩ (some g) (.b want)) d m u) K)
        (Wops P r (n + 64) (MS.set (MS.set ⟨fr, hp, nx⟩ (some g) (.b (!want))) d .un) K)
    | .un => Wops P r (n + 64) (MS.set ⟨fr, hp, nx⟩ d .un) K
    | _ => False := by
  rw [Wops.eq]; simp only [Wops.eq]; rfl
theorem mtrace_nil {n K} : Wtrace P [] n ⟨fr, hp, nx⟩ K = K [] ⟨fr, hp, nx⟩ := Wtrace.eq
theorem mtrace_cons {d o r n K} : Wtrace P (⟨d, none, o⟩ :: r) n ⟨fr, hp, nx⟩ K =
    mop true P o n ⟨fr, hp, nx⟩ fun m u rd => Wtrace P r (n + 64) (MS.did ⟨fr, hp, nx⟩ ⟨d, m, u, o.slots, rd ++ u.map (·.1)⟩) fun rs s' => K (⟨d, m, u, o.slots, rd ++ u.map (·.1)⟩ :: rs) s' := by
  rw [Wtrace.eq]; simp only [Wtrace.eq]; rfl
theorem mtrace_guard {d g want o r n K} : Wtrace P (⟨d, some (g, want), o⟩ :: r) n ⟨fr, hp, nx⟩ K =
    match MS.val ⟨fr, hp, nx⟩ (.t g) with
    | .b x => guardK x want (mop true P o n ⟨fr, hp, nx⟩ fun m u rd => Wtrace P r (n + 64) (MS.did ⟨fr, hp, nx⟩ ⟨d, m, u, g :: o.slots, rd ++ u.map (·.1)⟩) fun rs s' => K (⟨d, m, u, g :: o.slots, rd ++ u.map (·.1)⟩ :: rs) s')
        (Wtrace P r (n + 64) (MS.did ⟨fr, hp, nx⟩ ⟨d, .un, [], [g], []⟩) fun rs s' => K (⟨d, .un, [], [g], []⟩ :: rs) s')
    | .un => Wtrace P r (n + 64) (MS.did ⟨fr, hp, nx⟩ ⟨d, .un, [], [g], []⟩) fun rs s' => K (⟨d, .un, [], [g], []⟩ :: rs) s'
    | _ => False := by
  rw [Wtrace.eq]; simp only [Wtrace.eq]; rfl

theorem mopR_mov {det : Bool} {n : Nat} {s : MS} {K : MK} {x} : mop det P (.mov x) n s K = K (s.val x) [] [] := (rfl)
theorem mopR_pick {det : Bool} {n : Nat} {s : MS} {K : MK} {c} {a} {b} : mop det P (.pick c a b) n s K =
    match s.val c with
    | .b x => if x then K (s.val a) [] [] else K (s.val b) [] []
    | _ => False := (rfl)
theorem mopR_box {det : Bool} {n : Nat} {s : MS} {K : MK} {k} {x} : mop det P (.box k x) n s K =
    match (s.val x).cells with
    | some cs => cs.length = k ∧ K (.pr n 0 0) [(n, some (.box cs))] []
    | none => False := (rfl)
theorem mopR_alloc {det : Bool} {n : Nat} {s : MS} {K : MK} {cs} : mop det P (.alloc cs) n s K = K (.pr n 0 0) [(n, some (.box cs))] [] := (rfl)
theorem mopR_build {det : Bool} {n : Nat} {s : MS} {K : MK} {zero} {parts} : mop det P (.build zero parts) n s K = buildC s parts zero fun cs => K (.agg cs) [] [] := (rfl)
theorem mopR_buildSlice {det : Bool} {n : Nat} {s : MS} {K : MK} {k} {parts} : mop det P (.buildSlice k parts) n s K =
    match rowsV s k parts with
    | some (t, es, u) => K (.sr n 0 parts.length) (u ++ [(n, some (.arr t k es))]) (parts.flatMap fun x => srs (((s.val x).cells).getD []))
    | none => False := (rfl)
theorem mopR_load {det : Bool} {n : Nat} {s : MS} {K : MK} {ag} {k} {x} : mop det P (.load ag k x) n s K =
    match s.val x with
    | .pr id i off =>
      match s.obj id with
      | some (.arr t k' es) | some (.fz t k' es) => i < es.length ∧ off + k ≤ k' ∧ getK es i fun e => K (chunkVal ag k off (e.map (ofD t))) [] [id]
      | some (.box cs) => i = 0 ∧ off + k ≤ cs.length ∧ K (chunkVal ag k off cs) [] [id]
      | _ => False
    | .pd t cs off => off + k ≤ cs.length ∧ K (chunkVal ag k off (cs.map (ofD t))) [] []
    | .pf d φ => ag = false ∧ K (.fn d φ) [] []
    | _ => False := (rfl)
theorem mopR_store {det : Bool} {n : Nat} {s : MS} {K : MK} {k} {a} {x} : mop det P (.store k a x) n s K =
    match s.val a, (s.val x).cells with
    | .pr id i off, some xs =>
      xs.length = k ∧
      match s.obj id with
      | some (.arr t k' es) =>
        match toDs s xs with
        | some (t', ds, u) => (∀ x ∈ u, x.1 ≠ id) ∧ i < es.length ∧ off + k ≤ k' ∧ getK es i fun e => K .un (u ++ [(id, some (.arr (t && t') k' (es.set i (splice e off ds))))]) (id :: srs xs)
        | none => False
      | some (.box cs) => i = 0 ∧ off + k ≤ cs.length ∧ K .un [(id, some (.box (splice cs off xs)))] [id]
      | _ => False
    | _, _ => False := (rfl)
theorem mopR_nilCheck {det : Bool} {n : Nat} {s : MS} {K : MK} {x} : mop det P (.nilCheck x) n s K =
    match s.val x with
    | .pr id i off => K (.pr id i off) [] []
    | .pd t cs off => K (.pd t cs off) [] []
    | .clo f a b => K (.clo f a b) [] []
    | .fn d φ => K (.fn d φ) [] []
    | _ => False := (rfl)
theorem mopR_bin {det : Bool} {n : Nat} {s : MS} {K : MK} {op} {x} {y} : mop det P (.bin op x y) n s K =
    match s.val x, s.val y with
    | .i k a, .i k' b => (k' = k ∨ op = .shl ∨ op = .shr) ∧ intBin op k a b fun m => K m [] []
    | _, _ => False := (rfl)
theorem mopR_binb {det : Bool} {n : Nat} {s : MS} {K : MK} {neg} {x} {y} : mop det P (.binb neg x y) n s K =
    match s.val x, s.val y with
    | .b a, .b b => K (.b (if neg then !(a == b) else (a == b))) [] []
    | _, _ => False := (rfl)
theorem mopR_nilq {det : Bool} {n : Nat} {s : MS} {K : MK} {neg} {x} : mop det P (.nilq neg x) n s K =
    match sliceOf s (s.val x) with
    | some (_, _, es, rs) => (es = [] → K (.b (!neg)) [] rs) ∧ K (.b neg) [] rs
    | none => False := (rfl)
theorem mopR_eqAgg {det : Bool} {n : Nat} {s : MS} {K : MK} {neg} {sig} {x} {y} : mop det P (.eqAgg neg sig x y) n s K =
    match s.val x, s.val y with
    | .agg as, .agg bs =>
      match eqCells as bs with
      | some b => sigOK sig as = true ∧ sigOK sig bs = true ∧ K (.b (if neg then !b else b)) [] []
      | _ => False
    | _, _ => False := (rfl)
theorem mopR_un {det : Bool} {n : Nat} {s : MS} {K : MK} {op} {x} : mop det P (.un op x) n s K =
    match op, s.val x with
    | .not, .b a => K (.b (!a)) [] []
    | .neg, .i k a => Fits k (-a) ∧ K (.i k (-a)) [] []
    | _, _ => False := (rfl)
theorem mopR_conv {det : Bool} {n : Nat} {s : MS} {K : MK} {dst} {x} : mop det P (.conv dst x) n s K =
    match s.val x with
    | .i _ a => Fits dst a ∧ K (.i dst a) [] []
    | _ => False := (rfl)
theorem mopR_makeSlice {det : Bool} {n : Nat} {s : MS} {K : MK} {k} {bytes} {zero} {l} {c} : mop det P (.makeSlice k bytes zero l c) n s K =
    match s.val l, s.val c with
    | .i _ a, .i _ b => a = b ∧ 0 ≤ a ∧ a * bytes ≤ 140737488355328 ∧ K (.sr n 0 a.toNat) [(n, some (.arr true k (List.replicate a.toNat zero)))] []
    | _, _ => False := (rfl)
theorem mopR_slice {det : Bool} {n : Nat} {s : MS} {K : MK} {k} {x} {lo} {hi} : mop det P (.slice k x lo hi) n s K =
    match s.val x with
    | .sr id off len =>
      match s.obj id with
      | some (.arr _ k' _) | some (.fz _ k' _) => k' = k ∧ bound s 0 lo fun l => bound s len hi fun h => l ≤ h ∧ h ≤ len ∧ K (.sr id (off + l) (h - l)) [] [id]
      | some (.rm _ k' _ C) => k' = k ∧ 0 < len ∧ bound s 0 lo fun l => bound s len hi fun h => l ≤ h ∧ off + h ≤ C ∧ K (.sr id (off + l) (h - l)) [] [id]
      | _ => False
    | .s t k' es => k' = k ∧ bound s 0 lo fun l => bound s es.length hi fun h => l ≤ h ∧ h ≤ es.length ∧ K (.s t k ((es.drop l).take (h - l))) [] []
    | .nl k' => bound s 0 lo fun l => bound s 0 hi fun h => l = 0 ∧ h = 0 ∧ K (.nl k') [] []
    | _ => False := (rfl)
theorem mopR_fieldAddr {det : Bool} {n : Nat} {s : MS} {K : MK} {off} {x} : mop det P (.fieldAddr off x) n s K =
    match s.val x with
    | .pr id i o => K (.pr id i (o + off)) [] []
    | .pd t cs o => K (.pd t cs (o + off)) [] []
    | _ => False := (rfl)
theorem mopR_field {det : Bool} {n : Nat} {s : MS} {K : MK} {ag} {k} {off} {x} : mop det P (.field ag k off x) n s K =
    match s.val x with
    | .agg cs => off + k ≤ cs.length ∧ K (chunkVal ag k off cs) [] []
    | _ => False := (rfl)
theorem mopR_indexAddr {det : Bool} {n : Nat} {s : MS} {K : MK} {k} {x} {y} : mop det P (.indexAddr k x y) n s K =
    match s.val x, s.val y with
    | .sr id off len, .i _ a =>
      match s.obj id with
      | some (.arr _ k' _) | some (.fz _ k' _) => k' = k ∧ 0 ≤ a ∧ a < len ∧ K (.pr id (off + a.toNat) 0) [] [id]
      | _ => False
    | .s t k' es, .i _ a => k' = k ∧ 0 ≤ a ∧ a < es.length ∧ getK es a.toNat fun e => K (.pd t e 0) [] []
    | _, _ => False := (rfl)
theorem mopR_arrAddr {det : Bool} {n : Nat} {s : MS} {K : MK} {len} {k} {x} {y} : mop det P (.arrAddr len k x y) n s K =
    match s.val x, s.val y with
    | .pr id i o, .i _ a => 0 ≤ a ∧ a < len ∧ K (.pr id i (o + a.toNat * k)) [] []
    | .pd t cs o, .i _ a => 0 ≤ a ∧ a < len ∧ K (.pd t cs (o + a.toNat * k)) [] []
    | _, _ => False := (rfl)
theorem mopR_arrIndex {det : Bool} {n : Nat} {s : MS} {K : MK} {ag} {len} {k} {x} {y} : mop det P (.arrIndex ag len k x y) n s K =
    match s.val x, s.val y with
    | .agg cs, .i _ a => 0 ≤ a ∧ a < len ∧ a.toNat * k + k ≤ cs.length ∧ K (chunkVal ag k (a.toNat * k) cs) [] []
    | _, _ => False := (rfl)
theorem mopR_extract {det : Bool} {n : Nat} {s : MS} {K : MK} {x} {i} : mop det P (.extract x i) n s K =
    match s.val x with
    | .tup vs => i < vs.length ∧ K (vs.getD i .u) [] []
    | _ => False := (rfl)
theorem mopR_len {det : Bool} {n : Nat} {s : MS} {K : MK} {x} : mop det P (.len x) n s K =
    match s.val x with
    | .sr _ _ len => K (.i .i64 len) [] []
    | .s _ _ es => K (.i .i64 es.length) [] []
    | .nl _ => K (.i .i64 0) [] []
    | _ => False := (rfl)
theorem mopR_append {det : Bool} {n : Nat} {s : MS} {K : MK} {k} {bytes} {drop} {x} {y} : mop det P (.append k bytes drop x y) n s K =
    match sliceOf s (s.val y) with
    | some (t', k', ys, rs) =>
      k' = k ∧
      match s.val x with
      | .nl _ => (ys.length : Int) * bytes ≤ 140737488355328 ∧ K (.sr n 0 ys.length) ((if drop then rs.map (·, none) else []) ++ [(n, some (.arr t' k ys))]) rs
      | .sr id off len =>
        match s.obj id with
        | some (.arr t k'' es) => k'' = k ∧ ((((es.drop off).take len).length + ys.length : Nat) : Int) * bytes ≤ 140737488355328 ∧ off + len ≤ es.length ∧
            K (.sr n 0 (((es.drop off).take len).length + ys.length)) ((id, none) :: (if drop then rs.map (·, none) else []) ++ [(n, some (.arr (t && t') k ((es.drop off).take len ++ ys)))]) (id :: rs)
        | some (.rm t k'' es C) => k'' = k ∧ ((((es.drop off).take len).length + ys.length : Nat) : Int) * bytes ≤ 140737488355328 ∧ off + len ≤ es.length ∧ C < off + len + ys.length ∧
            K (.sr n 0 (((es.drop off).take len).length + ys.length)) ((if drop then rs.map (·, none) else []) ++ [(n, some (.arr (t && t') k ((es.drop off).take len ++ ys)))]) (id :: rs)
        | _ => False
      | _ => False
    | none => False := (rfl)
theorem mopR_minmax {det : Bool} {n : Nat} {s : MS} {K : MK} {mx} {x} {y} : mop det P (.minmax mx x y) n s K =
    match s.val x, s.val y with
    | .i k a, .i k' b => k' = k ∧ K (.i k (if mx then max a b else min a b)) [] []
    | _, _ => False := (rfl)
theorem mopR_call {det : Bool} {n : Nat} {s : MS} {K : MK} {f} {al} {ms} {args} : mop det P (.call f al ms args) n s K =
    argsK P s al ms (args.map s.val) fun xs is gs rs =>
      gs.Nodup ∧ (∀ i ∈ rs, i ∉ gs) ∧
      callK det P f xs fun outs r => outK (!al) s (flatI is) (flatO is outs) n fun u n1 =>
        let x := imp (some (!al)) 4 r n1
        x.2.2 ≤ n + 64 ∧ K x.1 (gs.map (·, none) ++ u ++ x.2.1.map (fun y => (y.1, some y.2))) (gs ++ rs) := (rfl)
theorem mopR_callv {det : Bool} {n : Nat} {s : MS} {K : MK} {f} {args} : mop det P (.callv f args) n s K =
    match s.val f, mapO flatM (args.map s.val) with
    | .fn dom φ, some xs => dom xs ∧ K (φ xs).mv [] []
    | .clo f first caps, some xs =>
      ∃ dom φ, FnOk P s f first caps dom φ ∧ dom xs ∧ K (φ xs).mv [] (readsM s (.clo f first caps))
    | _, _ => False := (rfl)
theorem mopR_mkfn {det : Bool} {n : Nat} {s : MS} {K : MK} {f} {first} {caps} : mop det P (.mkfn f first caps) n s K = K (.clo f (first.map s.val) (caps.map s.val)) [] [] := (rfl)

theorem mopR_cap {det : Bool} {n : Nat} {s : MS} {K : MK} {x} : mop det P (.cap x) n s K =
    match s.val x with
    | .sr id off len =>
      match s.obj id with
      | some (.arr t k es) => 0 < len ∧ ∀ c : Nat, len ≤ c → es.length ≤ off + c → K (.i .i64 c) [(id, some (.rm t k es (off + c)))] [id]
      | _ => False
    | _ => False := (rfl)
theorem mopR_copy {det : Bool} {n : Nat} {s : MS} {K : MK} {k x y} : mop det P (.copy k x y) n s K =
    match s.val x, lenV s (s.val y) with
    | .sr id off len, some m =>
      match s.obj id with
      | some (.arr t k' es) | some (.rm t k' es _) =>
        match prefOf s (min m len) (s.val y) with
        | some (t', k'', ys, rs) => k' = k ∧ k'' = k ∧ off ≤ es.length ∧ K (.i .i64 (min m len : Nat)) [(id, some (.arr (t && t') k (overR es off ys)))] (id :: rs)
        | none => False
      | _ => False
    | _, _ => False := (rfl)
theorem mopR_clear {det : Bool} {n : Nat} {s : MS} {K : MK} {k zero x} : mop det P (.clear k zero x) n s K =
    match s.val x with
    | .sr id off len =>
      match s.obj id with
      | some (.arr t k' es) => k' = k ∧ off + len ≤ es.length ∧ K (.tup []) [(id, some (.arr t k (overR es off (List.replicate len zero))))] [id]
      | _ => False
    | _ => False := (rfl)
theorem mopR_appendMk {det : Bool} {n : Nat} {s : MS} {K : MK} {k bytes zero x y} : mop det P (.appendMk k bytes zero x y) n s K =
    match s.val x, s.val y with
    | .sr id off len, .i _ m =>
      match s.obj id with
      | some (.rm t k' es C) => k' = k ∧ 0 < m ∧ off + len ≤ es.length ∧ C < off + len + m.toNat ∧ ((len + m.toNat : Nat) : Int) * bytes ≤ 140737488355328 ∧
          K (.sr n 0 (len + m.toNat)) [(n, some (.arr t k ((es.drop off).take len ++ List.replicate m.toNat zero)))] [id]
      | _ => False
    | _, _ => False := (rfl)
theorem mopR_overlaps {det : Bool} {n : Nat} {s : MS} {K : MK} {f x y} : mop det P (.overlaps f x y) n s K =
    match s.val x, s.val y with
    | .sr id _ len, .sr id' _ len' =>
      match s.obj id, s.obj id' with
      | some o, some o' => OvOK P f ∧ 0 < len ∧ 0 < len' ∧ hasRow o = true ∧ hasRow o' = true ∧ id ≠ id' ∧ K (.b false) [] [id, id']
      | _, _ => False
    | _, _ => False := (rfl)

theorem MCall.run (hm : P.follows .mixedOrders = true) {f : FuncId} {fd : Func} {n : Nat} {fx : List Nat} {rs : List RSl} {m : MCode} {args : List MV} {Q : List MV → MV → Prop} (hf : P.funcs[f]? = some fd)
    (hok : okFn P fd n fx rs m = true) (hN : args.length ≤ n) (hrs : rs.length ≤ 3) (hw : Wwp P m (retQ rs fx args.length Q) (entry args)) : MCall P f args Q := MCall.of_code hm hf hok hN hrs (Wwp.eq ▸ hw)

/-- A loop: what holds ahead of every round. -/
theorem mwp_loop {live b} {X : Type} (mk : X → MS) (ok : X → Prop) (μ : X → Nat) (x0 : X) (h0 : norm live s = mk x0) (h1 : ok x0)
    (h : ∀ x, ok x → Wwp P b (thenM (fun s' => ∃ x', norm live s' = mk x' ∧ ok x' ∧ μ x' < μ x) Q) (mk x)) : Wwp P (.loop live b) Q s :=
  .mk ⟨X, mk, ok, μ, ⟨x0, h0, h1⟩, fun x hx => Wwp.eq ▸ h x hx⟩
/-- The same; what follows a round stands behind a variable. -/
theorem mwp_loopk {live b} {X : Type} (mk : X → MS) (ok : X → Prop) (μ : X → Nat) (x0 : X) (h0 : norm live s = mk x0) (h1 : ok x0)
    (h : ∀ x, ok x → ∀ K : Ex → MS → Prop, (∀ s' x', norm live s' = mk x' → ok x' → μ x' < μ x → K .normal s') → (∀ id s', Q (.exit id) s' → K (.exit id) s') → (∀ s', Q .ret s' → K .ret s') → Wwp P b K (mk x)) : Wwp P (.loop live b) Q s :=
  mwp_loop mk ok μ x0 h0 h1 fun x hx => h x hx _ (fun s' x' h1 h2 h3 => ⟨x', h1, h2, h3⟩) (fun _ _ q => q) (fun _ q => q)
theorem mwp_cut {live a b} {X : Type} (mk : X → MS) (ok : X → Prop) (h : Wwp P a (thenM (fun s' => ∃ x, norm live s' = mk x ∧ ok x) Q) s) (h2 : ∀ x, ok x → Wwp P b Q (mk x)) : Wwp P (.cut live a b) Q s :=
  .mk ⟨X, mk, ok, Wwp.eq ▸ h, fun x hx => Wwp.eq ▸ h2 x hx⟩

/-- A function of its arguments alone. -/
abbrev Is (P : Program) (f : FuncId) (args : List MV) (r : MV) : Prop := MCall P f args (fun o r' => o = args.map (fun _ => MV.u) ∧ r' = r)

theorem callK_is {d : Bool} {f : FuncId} {xs : List MV} {r : MV} {K : List MV → MV → Prop} (h : Is P f xs r) (k : K (xs.map fun _ => MV.u) r) : callK d P f xs K := by
  cases d
  · exact ⟨_, h, fun o r' e => by rw [e.1, e.2]; exact k⟩
  · exact ⟨_, _, h, k⟩

theorem callK_det {d : Bool} {f : FuncId} {xs os : List MV} {r : MV} {K : List MV → MV → Prop} (h : MCall P f xs (fun o' r' => o' = os ∧ r' = r)) (k : K os r) : callK d P f xs K := by
  cases d
  · exact ⟨_, h, fun o r' e => by rw [e.1, e.2]; exact k⟩
  · exact ⟨_, _, h, k⟩
theorem callK_any {f : FuncId} {xs : List MV} {Q : List MV → MV → Prop} {K : List MV → MV → Prop} (h : MCall P f xs Q) (k : ∀ o r, Q o r → K o r) : callK false P f xs K := ⟨_, h, k⟩

theorem getK_map {α : Type} {f : α → List D} {l : List α} {i : Nat} {K : List D → Prop} : getK (l.map f) i K = ∀ x, l[i]? = some x → K (f x) := by
  simp only [getK, List.getElem?_map, Option.map_eq_some_iff, eq_iff_iff]
  exact ⟨fun h x hx => h _ ⟨x, hx, rfl⟩, fun h e ⟨x, hx, he⟩ => he ▸ h x hx⟩

end
end Go.Fw
