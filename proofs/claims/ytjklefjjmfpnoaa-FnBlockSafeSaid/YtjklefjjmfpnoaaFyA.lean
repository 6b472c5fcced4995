/-
  Arguments that can be read as data: what they are as model values.
-/
import Derived.Test.YtjklefjjmfpnoaaFxC
import Derived.ProofKit
import Derived.OpenShut
import Derived.ChangeOld
import Derived.Below
import Derived.Deep.Slices
namespace Go.Fw
set_option linter.unusedVariables false
set_option linter.unusedSimpArgs false
open Go.WideShapes Go.RowKit

/-- Cells without depth. -/
inductive Sc where
  | i (k : IntKind)
  | b
inductive Sh where
  | sc (s : Sc)
  | sl (es : List Sc)

def rowOK : List Sc → List D → Prop
  | [], [] => True
  | .i k :: ss, .i k' n :: ds => k' = k ∧ (Lit.int k n).wf = true ∧ rowOK ss ds
  | .b :: ss, .b _ :: ds => rowOK ss ds
  | _, _ => False
def msOK : List Sh → List MV → Prop
  | [], [] => True
  | .sc (.i k) :: ss, .i k' n :: ms => k' = k ∧ (Lit.int k n).wf = true ∧ msOK ss ms
  | .sc .b :: ss, .b _ :: ms => msOK ss ms
  | .sl es :: ss, .s t k rows :: ms => t = false ∧ k = es.length ∧ (∀ r ∈ rows, rowOK es r) ∧ rows.length ≤ maxLen ∧ msOK ss ms
  | _, _ => False

mutual
/-- The cells of a type, if they have no depth. -/
def scT (P : Program) : Nat → TypeId → Option (List Sc)
  | 0, _ => none
  | n + 1, T =>
    match P.underlying T with
    | some (.int k) => some [.i k]
    | some .bool => some [.b]
    | some (.struct fs) =>
      match scFs P n fs.toList 0 with
      | some l => if P.cellsOf T = l.length then some l else none
      | none => none
    | _ => none
def scFs (P : Program) : Nat → List Field → Nat → Option (List Sc)
  | 0, _, _ => none
  | _ + 1, [], _ => some []
  | n + 1, f :: r, off =>
    match scT P n f.type with
    | some l =>
      if f.offset = off ∧ P.cellsOf f.type = l.length then
        match scFs P n r (off + l.length) with
        | some l' => some (l ++ l')
        | none => none
      else none
    | none => none
end
mutual
def shT (P : Program) : Nat → TypeId → Option (List Sh)
  | 0, _ => none
  | n + 1, T =>
    match P.underlying T with
    | some (.int k) => some [.sc (.i k)]
    | some .bool => some [.sc .b]
    | some (.slice e) =>
      match scT P n e with
      | some l => if P.cellsOf e = l.length ∧ 0 < l.length then some [.sl l] else none
      | none => none
    | some (.struct fs) =>
      match shFs P n fs.toList 0 with
      | some l => if P.cellsOf T = l.length then some l else none
      | none => none
    | _ => none
def shFs (P : Program) : Nat → List Field → Nat → Option (List Sh)
  | 0, _, _ => none
  | _ + 1, [], _ => some []
  | n + 1, f :: r, off =>
    match shT P n f.type with
    | some l =>
      if f.offset = off ∧ P.cellsOf f.type = l.length then
        match shFs P n r (off + l.length) with
        | some l' => some (l ++ l')
        | none => none
      else none
    | none => none
end

theorem rowOK.length : ∀ {ss : List Sc} {ds : List D}, rowOK ss ds → ds.length = ss.length
  | [], [], _ => rfl
  | .i k :: ss, .i k' n :: ds, h => by simp [rowOK] at h; simp [h.2.2.length]
  | .b :: ss, .b _ :: ds, h => by simp [rowOK] at h; simp [h.length]
  | [], _ :: _, h => by simp [rowOK] at h
  | .i _ :: _, [], h => by simp [rowOK] at h
  | .b :: _, [], h => by simp [rowOK] at h
  | .i _ :: _, .b _ :: _, h => by simp [rowOK] at h
  | .i _ :: _, .a _ _ :: _, h => by simp [rowOK] at h
  | .b :: _, .i _ _ :: _, h => by simp [rowOK] at h
  | .b :: _, .a _ _ :: _, h => by simp [rowOK] at h
theorem rowOK.append : ∀ {ss ss' : List Sc} {ds ds' : List D}, rowOK ss ds → rowOK ss' ds' → rowOK (ss ++ ss') (ds ++ ds')
  | [], _, [], _, _, k => k
  | .i k :: ss, _, .i k' n :: ds, _, h, q => by simp [rowOK] at h ⊢; exact ⟨h.1, h.2.1, h.2.2.append q⟩
  | .b :: ss, _, .b _ :: ds, _, h, q => by simp [rowOK] at h ⊢; exact h.append q
  | [], _, _ :: _, _, h, _ => by simp [rowOK] at h
  | .i _ :: _, _, [], _, h, _ => by simp [rowOK] at h
  | .b :: _, _, [], _, h, _ => by simp [rowOK] at h
  | .i _ :: _, _, .b _ :: _, _, h, _ => by simp [rowOK] at h
  | .i _ :: _, _, .a _ _ :: _, _, h, _ => by simp [rowOK] at h
  | .b :: _, _, .i _ _ :: _, _, h, _ => by simp [rowOK] at h
  | .b :: _, _, .a _ _ :: _, _, h, _ => by simp [rowOK] at h
theorem rowOK.flat : ∀ {ss : List Sc} {ds : List D}, rowOK ss ds → ∀ d ∈ ds, ∀ I : Imm, DR I d.val d
  | .i k :: ss, .i k' n :: ds, h, d, hd, I => by
    simp [rowOK] at h
    rcases List.mem_cons.1 hd with rfl | hd
    · exact .i _ _
    · exact h.2.2.flat d hd I
  | .b :: ss, .b _ :: ds, h, d, hd, I => by
    simp [rowOK] at h
    rcases List.mem_cons.1 hd with rfl | hd
    · exact .b _
    · exact h.flat d hd I
  | [], [], _, d, hd, _ => by simp at hd
  | [], _ :: _, h, _, _, _ => by simp [rowOK] at h
  | .i _ :: _, [], h, _, _, _ => by simp [rowOK] at h
  | .b :: _, [], h, _, _, _ => by simp [rowOK] at h
  | .i _ :: _, .b _ :: _, h, _, _, _ => by simp [rowOK] at h
  | .i _ :: _, .a _ _ :: _, h, _, _, _ => by simp [rowOK] at h
  | .b :: _, .i _ _ :: _, h, _, _, _ => by simp [rowOK] at h
  | .b :: _, .a _ _ :: _, h, _, _, _ => by simp [rowOK] at h
theorem msOK.append : ∀ {ss ss' : List Sh} {ds ds' : List MV}, msOK ss ds → msOK ss' ds' → msOK (ss ++ ss') (ds ++ ds')
  | [], _, [], _, _, k => k
  | .sc (.i k) :: ss, _, .i k' n :: ds, _, h, q => by simp [msOK] at h ⊢; exact ⟨h.1, h.2.1, h.2.2.append q⟩
  | .sc .b :: ss, _, .b _ :: ds, _, h, q => by simp [msOK] at h ⊢; exact h.append q
  | .sl es :: ss, _, .s t k rows :: ds, _, h, q => by simp only [msOK, List.cons_append] at h ⊢; exact ⟨h.1, h.2.1, h.2.2.1, h.2.2.2.1, h.2.2.2.2.append q⟩
  | [], _, _ :: _, _, h, _ => by simp [msOK] at h
  | .sc s :: _, _, [], _, h, _ => by cases s <;> simp [msOK] at h
  | .sl _ :: _, _, [], _, h, _ => by simp [msOK] at h
  | .sc s :: _, _, .s _ _ _ :: _, _, h, _ => by cases s <;> simp [msOK] at h
  | .sc (.i _) :: _, _, .b _ :: _, _, h, _ => by simp [msOK] at h
  | .sc .b :: _, _, .i _ _ :: _, _, h, _ => by simp [msOK] at h
  | .sc s :: _, _, .nl _ :: _, _, h, _ | .sc s :: _, _, .sr _ _ _ :: _, _, h, _ | .sc s :: _, _, .pr _ _ _ :: _, _, h, _ | .sc s :: _, _, .pd _ _ _ :: _, _, h, _ | .sc s :: _, _, .agg _ :: _, _, h, _ | .sc s :: _, _, .tup _ :: _, _, h, _
  | .sc s :: _, _, .fn _ _ :: _, _, h, _ | .sc s :: _, _, .clo _ _ _ :: _, _, h, _ | .sc s :: _, _, .ow _ _ _ :: _, _, h, _ | .sc s :: _, _, .pw _ :: _, _, h, _ | .sc s :: _, _, .un :: _, _, h, _ | .sc s :: _, _, .u :: _, _, h, _ => by cases s <;> simp [msOK] at h
  | .sl s :: _, _, .nl _ :: _, _, h, _ | .sl s :: _, _, .sr _ _ _ :: _, _, h, _ | .sl s :: _, _, .pr _ _ _ :: _, _, h, _ | .sl s :: _, _, .pd _ _ _ :: _, _, h, _ | .sl s :: _, _, .agg _ :: _, _, h, _ | .sl s :: _, _, .tup _ :: _, _, h, _
  | .sl s :: _, _, .fn _ _ :: _, _, h, _ | .sl s :: _, _, .clo _ _ _ :: _, _, h, _ | .sl s :: _, _, .ow _ _ _ :: _, _, h, _ | .sl s :: _, _, .pw _ :: _, _, h, _ | .sl s :: _, _, .un :: _, _, h, _ | .sl s :: _, _, .u :: _, _, h, _
  | .sl s :: _, _, .i _ _ :: _, _, h, _ | .sl s :: _, _, .b _ :: _, _, h, _ => by simp [msOK] at h

section
variable {H : Type} {enc : TypeId × Value → H} {P : Program} {w : World} {base : Nat} {spare : Nat → Bool} {held : Bool}

theorem mapM_some {α β : Type} {f : α → Option β} : ∀ {l : List α} {ys : List β}, l.mapM f = some ys → ys.length = l.length ∧ ∀ (i : Nat) (x : α), l[i]? = some x → ∃ y, f x = some y ∧ ys[i]? = some y
  | [], ys, h => by simp at h; subst h; simp
  | x :: l, ys, h => by
    simp only [List.mapM_cons, Option.bind_eq_bind, Option.bind_eq_some_iff, Option.pure_def, Option.some.injEq] at h
    obtain ⟨y, hy, ys', hys, rfl⟩ := h
    obtain ⟨h1, h2⟩ := mapM_some hys
    refine ⟨by simp [h1], fun i z hz => ?_⟩
    cases i with
    | zero => simp at hz; subst hz; exact ⟨y, hy, rfl⟩
    | succ i => obtain ⟨u, hu, hv⟩ := h2 i z (by simpa using hz); exact ⟨u, hu, by simpa using hv⟩

theorem take_drop_add {α : Type} (l : List α) (i a b : Nat) : (l.drop i).take (a + b) = (l.drop i).take a ++ (l.drop (i + a)).take b := by
  rw [List.take_add, List.drop_drop]

theorem sc_read : ∀ (n : Nat), (∀ (T : TypeId) (l : List Sc) (fuel : Nat) (cs : List Value) (x : DataW H × List MemPlace), scT P n T = some l → DataW.trod enc P w base spare held fuel T cs = some x → ∃ ds, rowOK l ds ∧ cs = ds.map D.val) ∧
    (∀ (fs : List Field) (off : Nat) (l : List Sc) (cs : List Value), scFs P n fs off = some l → (∀ f ∈ fs, ∃ (fuel : Nat) (x : DataW H × List MemPlace), DataW.trod enc P w base spare held fuel f.type ((cs.drop f.offset).take (P.cellsOf f.type)) = some x) →
      ∃ ds, rowOK l ds ∧ (cs.drop off).take l.length = ds.map D.val)
  | 0 => ⟨fun T l fuel cs x h => by simp [scT] at h, fun fs off l cs h => by simp [scFs] at h⟩
  | n + 1 => by
    obtain ⟨ih1, ih2⟩ := sc_read n
    refine ⟨fun T l fuel cs x h hx => ?_, fun fs off l cs h hx => ?_⟩
    · simp only [scT] at h
      split at h
      · rename_i k hu
        cases h
        obtain ⟨m, rfl, _, hw⟩ := DataW.trod_int hu hx
        exact ⟨[.i k m], ⟨rfl, hw, trivial⟩, rfl⟩
      · rename_i hu
        cases h
        obtain ⟨m, rfl, _⟩ := DataW.trod_bool hu hx
        exact ⟨[.b m], trivial, rfl⟩
      · rename_i fs hu
        split at h
        · rename_i l' hl
          split at h
          · rename_i hc
            cases h
            obtain ⟨xs, m, _, _, hlen, hxl, hf⟩ := DataW.trod_struct hu hx
            obtain ⟨ds, h1, h2⟩ := ih2 fs.toList 0 l cs hl (fun f hfm => by
              obtain ⟨j, hj, e⟩ := List.mem_iff_getElem.1 hfm
              have hjx : j < xs.length := by simpa [hxl] using hj
              exact ⟨m, xs[j], by rw [hf j f (by rw [← e]; simp), List.getElem?_eq_getElem hjx]⟩)
            refine ⟨ds, h1, ?_⟩
            rw [List.drop_zero, List.take_of_length_le (by omega)] at h2
            exact h2
          · cases h
        · cases h
      · cases h
    · cases fs with
      | nil => simp only [scFs] at h; cases h; exact ⟨[], trivial, by simp⟩
      | cons f r =>
        simp only [scFs] at h
        split at h
        · rename_i l1 hl1
          split at h
          · rename_i hc
            split at h
            · rename_i l2 hl2
              cases h
              obtain ⟨fuel, x, hx1⟩ := hx f (by simp)
              obtain ⟨d1, a1, a2⟩ := ih1 _ _ _ _ _ hl1 hx1
              obtain ⟨d2, b1, b2⟩ := ih2 _ _ _ cs hl2 (fun g hg => hx g (by simp [hg]))
              refine ⟨d1 ++ d2, a1.append b1, ?_⟩
              rw [List.length_append, take_drop_add, b2, List.map_append, ← a2, hc.1, hc.2]
            · cases h
          · cases h
        · cases h

theorem cell_get {a : Addr} {v : Value} (h : w.cell? a = some v) : a.spot = none ∧ ∃ cs E z, w.heap[a.block]? = some (.cells cs E z) ∧ cs[a.off]? = some v := by
  unfold World.cell? at h
  split at h
  · rename_i c E z hb
    split at h
    · cases h
    · rename_i hs
      exact ⟨by simpa using hs, c, E, z, hb, h⟩
  · cases h

theorem slice_read {n : Nat} {T e : TypeId} {l : List Sc} {fuel : Nat} {cs : List Value} {x : DataW H × List MemPlace} (hu : P.underlying T = some (.slice e)) (hl : scT P n e = some l) (hc : P.cellsOf e = l.length) (h0 : 0 < l.length)
    (h : DataW.trod enc P w base spare held fuel T cs = some x) :
    ∃ v rows, cs = [v] ∧ v.oneCell' = true ∧ (∀ r ∈ rows, rowOK l r) ∧ rows.length ≤ maxLen ∧ DR (fun b => w.heap[b]?) v (.a l.length rows) := by
  rcases Go.Deep.open_slice hu h with ⟨rfl, _⟩ | ⟨a, len, cap, m, n', Dd, Pl, rfl, hb, hle, hcap, hm, _, hel⟩
  · exact ⟨_, [], rfl, rfl, by simp, by simp, .a0 _ _ _⟩
  · have hlm : len ≤ m := by rw [hm]; split <;> omega
    have hrow : ∀ i, i < len → ∃ ds, rowOK l ds ∧ w.cells? base (a.add (i * l.length)) l.length = some (ds.map D.val) := fun i hi => by
      obtain ⟨cs', h1, h2⟩ := hel i (by omega)
      obtain ⟨ds, h3, h4⟩ := (sc_read n).1 _ _ _ _ _ hl h2
      rw [hc] at h1
      exact ⟨ds, h3, by rw [h1, h4]⟩
    obtain ⟨rw', hrw⟩ : ∃ f : Nat → List D, ∀ i, i < len → rowOK l (f i) ∧ w.cells? base (a.add (i * l.length)) l.length = some ((f i).map D.val) :=
      ⟨fun i => if hi : i < len then (hrow i hi).choose else [], fun i hi => by simp only [dif_pos hi]; exact (hrow i hi).choose_spec⟩
    have hcell : ∀ i j, i < len → j < l.length → w.cell? ((a.add (i * l.length)).add j) = some (((rw' i).getD j default).val) := fun i j hi hj => by
      obtain ⟨h1, h2⟩ := hrw i hi
      unfold World.cells? at h2
      split at h2
      · obtain ⟨h3, h4⟩ := mapM_some h2
        obtain ⟨y, hy, hg⟩ := h4 j j (by simp [hj])
        rw [hy]
        have hjl : j < (rw' i).length := by rw [h1.length]; exact hj
        simp [hjl] at hg
        simp [List.getD, hjl, hg]
      · cases h2
    refine ⟨_, (List.range len).map rw', rfl, rfl, fun r hr => ?_, by simp; omega, ?_⟩
    · obtain ⟨i, hi, rfl⟩ := List.mem_map.1 hr
      exact (hrw i (by simpa using hi)).1
    · cases len with
      | zero => exact .a0 _ _ _
      | succ len =>
        have hc0 := hcell 0 0 (by omega) h0
        simp only [Nat.zero_mul, Addr.add, if_pos] at hc0
        obtain ⟨hs, cells, E, z, hbk, _⟩ := cell_get hc0
        obtain ⟨ab, ao, as⟩ := a
        simp only at hs
        subst hs
        refine .a ab ao cap (len + 1) cells E z l.length _ (fun i j => ((rw' i).getD j default).val) hbk (by simp) (fun e he => ?_) hle (fun i j hi hj => ?_) (fun i j hi hj => ?_)
        · obtain ⟨i, hi, rfl⟩ := List.mem_map.1 he
          exact (hrw i (by simpa using hi)).1.length
        · simp at hi
          have h1 := hcell i j hi hj
          have e : ((⟨ab, ao, none⟩ : Addr).add (i * l.length)).add j = ⟨ab, ao + i * l.length + j, none⟩ := by
            simp only [Addr.add]; split <;> split <;> simp_all
          rw [e] at h1
          obtain ⟨_, cells', E', z', hbk', hv⟩ := cell_get h1
          simp only at hbk' hv
          rw [hbk] at hbk'; cases hbk'
          exact hv
        · simp at hi
          have e : cellD ((List.range (len + 1)).map rw') i j = (rw' i).getD j default := by
            simp [cellD, List.getD, hi]
          rw [e]
          have hrow := (hrw i hi).1
          have hjl : j < (rw' i).length := by rw [hrow.length]; exact hj
          have e2 : (rw' i).getD j default = (rw' i)[j] := by simp [List.getD, hjl]
          rw [e2]
          exact hrow.flat _ (List.getElem_mem _) _

abbrev memEnv (w : World) : Env := ⟨fun b => w.heap[b]?, fun _ => none, noInj⟩

theorem sh_read : ∀ (n : Nat), (∀ (T : TypeId) (l : List Sh) (fuel : Nat) (cs : List Value) (x : DataW H × List MemPlace), shT P n T = some l → DataW.trod enc P w base spare held fuel T cs = some x →
      ∃ ms, msOK l ms ∧ RVL P (memEnv w) cs ms ∧ ∀ v ∈ cs, v.oneCell' = true) ∧
    (∀ (fs : List Field) (off : Nat) (l : List Sh) (cs : List Value), shFs P n fs off = some l → (∀ f ∈ fs, ∃ (fuel : Nat) (x : DataW H × List MemPlace), DataW.trod enc P w base spare held fuel f.type ((cs.drop f.offset).take (P.cellsOf f.type)) = some x) →
      ∃ ms, msOK l ms ∧ RVL P (memEnv w) ((cs.drop off).take l.length) ms ∧ ∀ v ∈ (cs.drop off).take l.length, v.oneCell' = true)
  | 0 => ⟨fun T l fuel cs x h => by simp [shT] at h, fun fs off l cs h => by simp [shFs] at h⟩
  | n + 1 => by
    obtain ⟨ih1, ih2⟩ := sh_read n
    refine ⟨fun T l fuel cs x h hx => ?_, fun fs off l cs h hx => ?_⟩
    · simp only [shT] at h
      split at h
      · rename_i k hu
        cases h
        obtain ⟨m, rfl, _, hw⟩ := DataW.trod_int hu hx
        exact ⟨[.i k m], ⟨rfl, hw, trivial⟩, .cons _ _ _ _ (.i _ _) .nil, by simp [Value.oneCell']⟩
      · rename_i hu
        cases h
        obtain ⟨m, rfl, _⟩ := DataW.trod_bool hu hx
        exact ⟨[.b m], trivial, .cons _ _ _ _ (.b _) .nil, by simp [Value.oneCell']⟩
      · rename_i e hu
        split at h
        · rename_i l' hl
          split at h
          · rename_i hc
            cases h
            obtain ⟨v, rows, rfl, h1, h2, h3, h4⟩ := slice_read hu hl hc.1 hc.2 hx
            exact ⟨[.s false l'.length rows], ⟨rfl, rfl, h2, h3, trivial⟩, .cons _ _ _ _ (.s _ _ _ _ h4) .nil, by simpa using h1⟩
          · cases h
        · cases h
      · rename_i fs hu
        split at h
        · rename_i l' hl
          split at h
          · rename_i hc
            cases h
            obtain ⟨xs, m, _, _, hlen, hxl, hf⟩ := DataW.trod_struct hu hx
            obtain ⟨ms, h1, h2, h3⟩ := ih2 fs.toList 0 l cs hl (fun f hfm => by
              obtain ⟨j, hj, e⟩ := List.mem_iff_getElem.1 hfm
              have hjx : j < xs.length := by simpa [hxl] using hj
              exact ⟨m, xs[j], by rw [hf j f (by rw [← e]; simp), List.getElem?_eq_getElem hjx]⟩)
            rw [List.drop_zero, List.take_of_length_le (by omega)] at h2 h3
            exact ⟨ms, h1, h2, h3⟩
          · cases h
        · cases h
      · cases h
    · cases fs with
      | nil => simp only [shFs] at h; cases h; exact ⟨[], trivial, by simpa using RVL.nil, by simp⟩
      | cons f r =>
        simp only [shFs] at h
        split at h
        · rename_i l1 hl1
          split at h
          · rename_i hc
            split at h
            · rename_i l2 hl2
              cases h
              obtain ⟨fuel, x, hx1⟩ := hx f (by simp)
              obtain ⟨d1, a1, a2, a3⟩ := ih1 _ _ _ _ _ hl1 hx1
              obtain ⟨d2, b1, b2, b3⟩ := ih2 _ _ _ cs hl2 (fun g hg => hx g (by simp [hg]))
              rw [hc.1, hc.2] at a2 a3
              refine ⟨d1 ++ d2, a1.append b1, ?_, ?_⟩
              · rw [List.length_append, take_drop_add]; exact a2.append b2
              · rw [List.length_append, take_drop_add]
                intro v hv
                rcases List.mem_append.1 hv with hv | hv
                · exact a3 v hv
                · exact b3 v hv
            · cases h
          · cases h
        · cases h

/-- A slice that is read. -/
theorem read_slice {n : Nat} {T : TypeId} {es : List Sc} {a : Option Addr} {len cap : Nat} {d : DataW H} {ps : List MemPlace} (hl : shT P n T = some [.sl es]) (h : DataW.Trod enc P w base spare held T (.slice a len cap) d ps) :
    ∃ rows, RV P (memEnv w) (.slice a len cap) (.s false es.length rows) ∧ (∀ r ∈ rows, rowOK es r) ∧ rows.length ≤ maxLen := by
  obtain ⟨fuel, hf⟩ := h
  obtain ⟨ms, h1, h2, _⟩ := (sh_read n).1 _ _ _ _ _ hl hf
  simp only [Value.cells] at h2
  cases h2 with
  | cons _ _ m ms' h3 h4 =>
    cases h4
    cases m <;> simp only [msOK] at h1
    all_goals try exact h1.elim
    obtain ⟨rfl, rfl, h5, h6, _⟩ := h1
    exact ⟨_, h3, h5, h6⟩
/-- A struct that is read. -/
theorem read_struct {n : Nat} {T : TypeId} {l : List Sh} {cs : Array Value} {d : DataW H} {ps : List MemPlace} (hl : shT P n T = some l) (h : DataW.Trod enc P w base spare held T (.agg cs) d ps) :
    ∃ ms, RV P (memEnv w) (.agg cs) (.agg ms) ∧ msOK l ms := by
  obtain ⟨fuel, hf⟩ := h
  obtain ⟨ms, h1, h2, h3⟩ := (sh_read n).1 _ _ _ _ _ hl hf
  exact ⟨ms, .agg _ _ h2 h3, h1⟩

theorem Is.calls {f : FuncId} {vs : Array Value} {ms : List MV} (h : Is P f ms (.b true)) (hv : RVL P (memEnv w) vs.toList ms) : Calls P f vs w fun e w' => e = .returned (.bool true) ∧ Below w.heap.size w w' := by
  have e : heapBut w [] = fun b => w.heap[b]? := by funext b; simp [heapBut]
  refine (h w (fun _ => none) vs [] (by simp) (by simp) (by rw [e]; exact OwnL.of_RVL hv)).mono ?_
  rintro e w' ⟨v, outs, r, J', G, rfl, ⟨_, rfl⟩, hw, _, _, _, _, ho⟩
  refine ⟨?_, ⟨hw.os, hw.tape, hw.output, hw.size, fun k hk => hw.block k hk (by simp)⟩⟩
  cases ho with
  | cons _ _ _ _ _ _ h1 _ =>
    cases h1 with
    | imm _ _ hr => cases hr; rfl
end

/-- Rows of one number. -/
theorem rows_int {k : IntKind} : ∀ {rows : List (List D)}, (∀ r ∈ rows, rowOK [.i k] r) → ∃ l : List Int, rows = l.map (fun n => [D.i k n]) ∧ ∀ n ∈ l, (Lit.int k n).wf = true
  | [], _ => ⟨[], rfl, by simp⟩
  | r :: rows, h => by
    obtain ⟨l, rfl, hl⟩ := rows_int (fun r hr => h r (List.mem_cons_of_mem _ hr))
    have h1 := h r (by simp)
    match r, h1 with
    | [.i k' n], h1 =>
      simp only [rowOK] at h1
      obtain ⟨rfl, hw, _⟩ := h1
      exact ⟨n :: l, rfl, fun m hm => by rcases List.mem_cons.1 hm with rfl | hm; exact hw; exact hl m hm⟩
    | [], h1 => simp [rowOK] at h1
    | [.b _], h1 => simp [rowOK] at h1
    | [.a _ _], h1 => simp [rowOK] at h1
    | .i _ _ :: _ :: _, h1 => simp [rowOK] at h1
    | .b _ :: _ :: _, h1 => simp [rowOK] at h1
    | .a _ _ :: _ :: _, h1 => simp [rowOK] at h1
/-- Rows of one truth value. -/
theorem rows_bool : ∀ {rows : List (List D)}, (∀ r ∈ rows, rowOK [.b] r) → ∃ l : List Bool, rows = l.map (fun n => [D.b n])
  | [], _ => ⟨[], rfl⟩
  | r :: rows, h => by
    obtain ⟨l, rfl⟩ := rows_bool (fun r hr => h r (List.mem_cons_of_mem _ hr))
    have h1 := h r (by simp)
    match r, h1 with
    | [.b n], h1 => exact ⟨n :: l, rfl⟩
    | [], h1 => simp [rowOK] at h1
    | [.i _ _], h1 => simp [rowOK] at h1
    | [.a _ _], h1 => simp [rowOK] at h1
    | .i _ _ :: _ :: _, h1 => simp [rowOK] at h1
    | .b _ :: _ :: _, h1 => simp [rowOK] at h1
    | .a _ _ :: _ :: _, h1 => simp [rowOK] at h1
/-- Rows of two numbers. -/
theorem rows_two {k : IntKind} : ∀ {rows : List (List D)}, (∀ r ∈ rows, rowOK [.i k, .i k] r) → ∃ l : List (Int × Int), rows = l.map (fun e => [D.i k e.1, D.i k e.2]) ∧ ∀ e ∈ l, (Lit.int k e.1).wf = true ∧ (Lit.int k e.2).wf = true
  | [], _ => ⟨[], rfl, by simp⟩
  | r :: rows, h => by
    obtain ⟨l, rfl, hl⟩ := rows_two (fun r hr => h r (List.mem_cons_of_mem _ hr))
    have h1 := h r (by simp)
    match r, h1 with
    | [.i k1 n, .i k2 m], h1 =>
      simp only [rowOK] at h1
      obtain ⟨rfl, hw, rfl, hw2, _⟩ := h1
      exact ⟨(n, m) :: l, rfl, fun e he => by rcases List.mem_cons.1 he with rfl | he; exact ⟨hw, hw2⟩; exact hl e he⟩
    | [], h1 => simp [rowOK] at h1
    | [.i _ _], h1 => simp [rowOK] at h1
    | .b _ :: _, h1 => simp [rowOK] at h1
    | .a _ _ :: _, h1 => simp [rowOK] at h1
    | [.i _ _, .b _], h1 => simp [rowOK] at h1
    | [.i _ _, .a _ _], h1 => simp [rowOK] at h1
    | .i _ _ :: .i _ _ :: _ :: _, h1 => simp [rowOK] at h1
    | .i _ _ :: .b _ :: _ :: _, h1 => simp [rowOK] at h1
    | .i _ _ :: .a _ _ :: _ :: _, h1 => simp [rowOK] at h1
theorem wf_u8 {n : Int} (h : (Lit.int .u8 n).wf = true) : 0 ≤ n ∧ n ≤ 255 := by
  have e1 : IntKind.min .u8 = 0 := by decide
  have e2 : IntKind.max .u8 = 255 := by decide
  simp [Lit.wf, e1, e2] at h
  omega
theorem wf_i64 {n : Int} (h : (Lit.int .i64 n).wf = true) : -9223372036854775808 ≤ n ∧ n ≤ 9223372036854775807 := by
  have e1 : IntKind.min .i64 = -9223372036854775808 := by decide
  have e2 : IntKind.max .i64 = 9223372036854775807 := by decide
  simp [Lit.wf, e1, e2] at h
  omega
end Go.Fw
