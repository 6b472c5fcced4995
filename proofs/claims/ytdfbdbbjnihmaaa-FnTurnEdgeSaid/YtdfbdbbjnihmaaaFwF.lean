/-
  Loads, index addresses, fields, arithmetic.
-/
import Derived.Test.YtdfbdbbjnihmaaaFwE
namespace Go.Fw
set_option linter.unusedVariables false
set_option linter.unusedSimpArgs false
section
variable {P : Program} {N : FrS} {A : Nat → Prop} {w0 : World} {F0 : List Nat} {J0 : Imm} {g : Env} {s : MS} {a : Act} {w : World}
variable {n : Nat} {o : Oper} {K : MK} {next : Act → World → Prop} {Q : Exit → Act → World → Prop}

def isAggD : TypeDesc → Bool
  | .struct _ | .array _ _ => true
  | _ => false

theorem DR.one {I : Imm} {v : Value} {d : D} (h : DR I v d) : v.oneCell' = true := by cases h <;> rfl
theorem DR.rv {v : Value} {d : D} {t : Bool} (h : DR (g.im t) v d) : RV P g v (ofD t d) := by
  cases d with
  | i k n => cases h; exact .i _ _
  | b x => cases h; exact .b _
  | a k es => exact .s _ _ _ _ h

theorem run_loadAt {T : TypeId} {d : TypeDesc} {inf : TypeInfo} {k b q : Nat} {cs : Array Value} {E : TypeId} {z : Nat × Nat} {vs : Nat → Value} {ag : Bool}
    (ht : P.underlying T = some d) (hd : isAggD d = ag) (hi : P.info? T = some inf) (hk : inf.size = k) (hk1 : ag = false → k = 1)
    (hb : w.heap[b]? = some (.cells cs E z)) (hc : ∀ j, j < k → cs[q + j]? = some (vs j)) :
    (Instr.loadAt T (.pointer (some ⟨b, q, none⟩))).run P w = .ok (if ag then .agg ((List.range k).map vs).toArray else vs 0) w := by
  have hcell : ∀ j, j < k → w.cell? ((⟨b, q, none⟩ : Addr).add j) = some (vs j) := fun j hj => by
    have : ((⟨b, q, none⟩ : Addr).add j) = ⟨b, q + j, none⟩ := by
      by_cases e : j = 0
      · subst e; simp [Addr.add]
      · simp [Addr.add, e]
    rw [this, cell_of_row w b (q + j) cs E z hb, hc j hj]
  cases ag with
  | true =>
    have hl := run_loadCells (P := P) w ⟨b, q, none⟩ k vs hcell
    have : isAggD d = true := hd
    cases d <;> simp [isAggD] at this <;> simp [Instr.loadAt, Instr.sureAddr, loadVar, isAgg, run_underlying ht, sizeOf, typeInfo, hi, hk, hl]
  | false =>
    have h0 := hcell 0 (by rw [hk1 rfl]; omega)
    simp [Addr.add] at h0
    have : isAggD d = false := hd
    cases d <;> simp [isAggD] at this <;> simp [Instr.loadAt, Instr.sureAddr, loadVar, isAgg, run_underlying ht, h0]

theorem rvl_range {vs : Nat → Value} {cs : List MV} {off : Nat} : ∀ (k : Nat), (∀ j, j < k → RV P g (vs j) (cs.getD (off + j) .u)) → off + k ≤ cs.length →
    RVL P g ((List.range k).map vs) ((cs.drop off).take k) := by
  intro k h hl
  refine RVL.of_get (by simp; omega) (fun i v m h1 h2 => ?_)
  by_cases hi : i < k
  · rw [List.getElem?_map, List.getElem?_range hi] at h1
    simp at h1; subst h1
    rw [List.getElem?_take_of_lt hi, List.getElem?_drop] at h2
    have := h i hi
    rw [List.getD, h2] at this; exact this
  · rw [List.getElem?_eq_none (by simp; omega)] at h1; cases h1

theorem rv_chunk {vs : Nat → Value} {cs : List MV} {off k : Nat} {ag : Bool} (hk1 : ag = false → k = 1) (h : ∀ j, j < k → RV P g (vs j) (cs.getD (off + j) .u)) (hl : off + k ≤ cs.length)
    (h1 : ∀ j, j < k → (vs j).oneCell' = true) : RV P g (if ag then .agg ((List.range k).map vs).toArray else vs 0) (chunkVal ag k off cs) := by
  cases ag with
  | true =>
    simp only [chunkVal, if_true]
    refine .agg _ _ (rvl_range k h hl) (fun v hv => ?_)
    simp at hv
    obtain ⟨j, hj, rfl⟩ := hv
    exact h1 j hj
  | false =>
    simp only [chunkVal, Bool.false_eq_true, if_false]
    have := h 0 (by rw [hk1 rfl]; omega)
    simpa using this

theorem getD_map_ofD (t : Bool) (ds : List D) (j : Nat) (hj : j < ds.length) : (ds.map (ofD t)).getD j .u = ofD t (ds.getD j default) := by
  simp [List.getD, List.getElem?_eq_getElem hj]

theorem HRel.chunk (h : HRel P A w0 F0 J0 g s.hp w) {id : Nat} {mo : MO} {l : Loc} (h1 : s.obj id = some mo) (hl : g.inj id = some l) {i off k : Nat} :
    (∀ t k' es, (mo = .arr t k' es ∨ mo = .fz t k' es) → i < es.length → off + k ≤ k' →
      ∃ (cs : Array Value) (E : TypeId) (z : Nat × Nat) (vs : Nat → Value), w.heap[l.b]? = some (.cells cs E z) ∧ (∀ j, j < k → cs[l.base + i * l.k + off + j]? = some (vs j)) ∧
        (∀ j, j < k → RV P g (vs j) (((es.getD i []).map (ofD t)).getD (off + j) .u)) ∧ off + k ≤ ((es.getD i []).map (ofD t)).length ∧ ∀ j, j < k → (vs j).oneCell' = true) ∧
    (∀ cs, mo = .box cs → off + k ≤ cs.length →
      ∃ (cells : Array Value) (E : TypeId) (z : Nat × Nat) (vs : Nat → Value), w.heap[l.b]? = some (.cells cells E z) ∧ (∀ j, j < k → cells[l.base + off + j]? = some (vs j)) ∧
        (∀ j, j < k → RV P g (vs j) (cs.getD (off + j) .u)) ∧ ∀ j, j < k → (vs j).oneCell' = true) := by
  have hob := h.objs id mo h1
  constructor
  · intro t k' es hmo hi hk
    have key : ∃ (cs : Array Value) (E : TypeId) (z : Nat × Nat), w.heap[l.b]? = some (.cells cs E z) ∧ l.k = k' ∧ (∀ e ∈ es, e.length = k') ∧
        ∀ i j, i < es.length → j < k' → ∃ v, cs[l.base + i * k' + j]? = some v ∧ DR (g.im t) v (cellD es i j) := by
      rcases hmo with rfl | rfl
      · obtain ⟨h0, ⟨he, h2⟩ | ⟨l', h2, hk', cs, E, h3, _, _, h6⟩⟩ := hob
        · rw [hl] at h2; cases h2
        · rw [hl] at h2; cases h2; exact ⟨cs, E, _, h3, hk', h0, h6⟩
      · obtain ⟨h0, ⟨he, h2⟩ | ⟨l', h2, hk', cs, E, z, h3, _, _, h6⟩⟩ := hob
        · rw [hl] at h2; cases h2
        · rw [hl] at h2; cases h2
          refine ⟨cs, E, z, ?_, hk', h0, h6⟩
          cases t
          · exact h.imm _ _ h3
          · exact h.imm _ _ (h.JI _ _ h3)
    obtain ⟨cs, E, z, h3, hk', h0, h6⟩ := key
    subst hk'
    have hlen : (es.getD i []).length = l.k := h0 _ (by simp [List.getD, List.getElem?_eq_getElem hi])
    refine ⟨cs, E, z, fun j => cs.getD (l.base + i * l.k + off + j) undef, h3, fun j hj => ?_, fun j hj => ?_, by rw [List.length_map, hlen]; exact hk, fun j hj => ?_⟩ <;>
      obtain ⟨v, hv, hr⟩ := h6 i (off + j) hi (by omega) <;> rw [← Nat.add_assoc] at hv
    · show _ = some (cs.getD _ undef)
      rw [hv, Array.getD_eq_getD_getElem?, hv]; rfl
    · rw [getD_map_ofD t _ _ (by rw [hlen]; omega)]
      show RV P g (cs.getD _ undef) _
      rw [Array.getD_eq_getD_getElem?, hv]; exact hr.rv
    · show (cs.getD _ undef).oneCell' = true
      rw [Array.getD_eq_getD_getElem?, hv]; exact hr.one
  · intro cs hmo hk
    subst hmo
    obtain ⟨l', cells, E, h2, h3, h4, h5, h6⟩ := hob
    rw [hl] at h2; cases h2
    have hget : ∀ j, j < k → cells[l.base + off + j]? = some (cells.getD (l.base + off + j) undef) := fun j hj => by
      simp [Array.getD_eq_getD_getElem?, show l.base + off + j < cells.size by omega]
    refine ⟨cells, E, (0, 0), fun j => cells.getD (l.base + off + j) undef, h3, hget, fun j hj => ?_, fun j hj => h5 _ ?_⟩
    · have := h6.getD (off + j) undef
      rw [show ((cells.toList.drop l.base).take cs.length).getD (off + j) undef = cells.getD (l.base + off + j) undef from ?_] at this
      · exact this
      · simp [List.getD, List.getElem?_take_of_lt (show off + j < cs.length by omega), Nat.add_assoc]
    · exact Array.mem_toList_iff.2 (Array.mem_of_getElem? (hget j hj))

theorem S.load {T : TypeId} {x : Operand} {y : Opd} {d : TypeDesc} {inf : TypeInfo} {k : Nat} {ag : Bool} (ho : o.op = .load T x) (hx : okOpd x y = true)
    (ht : P.underlying T = some d) (hd : isAggD d = ag) (hi : P.info? T = some inf) (hk : inf.size = k) (hk1 : ag = false → k = 1)
    (h : Rel P N A w0 F0 J0 g s a w) (hm : mop false P (.load ag k y) n s K) (hn : Goes P A w0 F0 J0 g s.hp n o a K next) : o.wp P a w next Q := by
  have rx := h.val hx
  simp only [mop] at hm
  have hrun : ∀ {b q : Nat} {v : Value}, (Instr.loadAt T (.pointer (some ⟨b, q, none⟩))).run P w = .ok v w → a.eval x = .pointer (some ⟨b, q, none⟩) → (execOp a.eval o).run P w = .ok (.value v) w := by
    intro b q v e1 e2
    simp [execOp, ho, e2, e1]
  split at hm
  · rename_i id i off hb
    rw [hb] at rx
    generalize hv : a.eval x = v at rx
    cases rx with
    | pr _ _ _ l hl =>
      split at hm
      · rename_i t k' es hob
        obtain ⟨cs, E, z, vs, h3, h4, h5, h6, h7⟩ := (h.hp.chunk hob hl).1 t k' es (.inl rfl) hm.1 hm.2.1
        exact hn.same h (hm.2.2.get hm.1) (rv_chunk hk1 h5 h6 h7) (hrun (run_loadAt ht hd hi hk hk1 h3 h4) hv)
      · rename_i t k' es hob
        obtain ⟨cs, E, z, vs, h3, h4, h5, h6, h7⟩ := (h.hp.chunk hob hl).1 t k' es (.inr rfl) hm.1 hm.2.1
        exact hn.same h (hm.2.2.get hm.1) (rv_chunk hk1 h5 h6 h7) (hrun (run_loadAt ht hd hi hk hk1 h3 h4) hv)
      · rename_i cs hob
        obtain ⟨rfl, hm2, hm3⟩ := hm
        obtain ⟨cells, E, z, vs, h3, h4, h5, h7⟩ := (h.hp.chunk (i := 0) hob hl).2 cs rfl hm2
        refine hn.same h hm3 (rv_chunk hk1 h5 hm2 h7) (hrun (run_loadAt ht hd hi hk hk1 h3 (by simpa using h4)) hv)
      · exact hm.elim
  · rename_i t cs off hb
    rw [hb] at rx
    generalize hv : a.eval x = v at rx
    cases rx with
    | pd _ _ _ bb p cells E z vs hI hc hr =>
      have h3 : w.heap[bb]? = some (.cells cells E z) := by
        cases t
        · exact h.hp.imm _ _ hI
        · exact h.hp.imm _ _ (h.hp.JI _ _ hI)
      refine hn.same h hm.2 (rv_chunk (vs := fun j => vs (off + j)) hk1 (fun j hj => ?_) (by simpa using hm.1) (fun j hj => (hr (off + j) (by omega)).one)) (hrun (run_loadAt ht hd hi hk hk1 h3 (fun j hj => ?_)) hv)
      · rw [getD_map_ofD t _ _ (by omega)]; exact (hr (off + j) (by omega)).rv
      · rw [Nat.add_assoc]; exact hc (off + j) (by omega)
  · rename_i dm φ hb
    rw [hb] at rx
    generalize hv : a.eval x = v at rx
    cases rx with
    | pf bb p cells E z v _ _ hI hc hf =>
      obtain ⟨hag, hK⟩ := hm
      have := run_loadAt (P := P) (w := w) (q := p) (vs := fun _ => v) ht hd hi hk hk1 (h.hp.imm _ _ hI) (fun j hj => by
        have h1 := hk1 hag
        have h2 : j = 0 := by omega
        rw [h2, Nat.add_zero]; exact hc)
      rw [hag] at this
      exact hn.same h hK hf (hrun (by simpa using this) hv)
  · exact hm.elim

theorem S.indexAddr {T e : TypeId} {x i : Operand} {x' i' : Opd} {inf : TypeInfo} {k : Nat} (ho : o.op = .indexAddr T x i) (hx : okOpd x x' = true) (hi' : okOpd i i' = true)
    (ht : P.underlying T = some (.slice e)) (hi : P.info? e = some inf) (hk : inf.size = k)
    (h : Rel P N A w0 F0 J0 g s a w) (hm : mop false P (.indexAddr k x' i') n s K) (hn : Goes P A w0 F0 J0 g s.hp n o a K next) : o.wp P a w next Q := by
  have rx := h.val hx
  have ri := h.val hi'
  simp only [mop] at hm
  have hadd : ∀ (b q m : Nat), (⟨b, q, none⟩ : Addr).add m = ⟨b, q + m, none⟩ := fun b q m => by
    by_cases e : m = 0
    · subst e; simp [Addr.add]
    · simp [Addr.add, e]
  have hrun : ∀ {b q len cap : Nat} {kk : IntKind} {z : Int}, a.eval x = .slice (some ⟨b, q, none⟩) len cap → a.eval i = .int kk z → 0 ≤ z → z < len →
      (execOp a.eval o).run P w = .ok (.value (.pointer (some ⟨b, q + z.toNat * k, none⟩))) w := by
    intro b q len cap kk z e1 e2 e3 e4
    simp [execOp, ho, e1, e2, Instr.indexAt, asIntOf, run_underlying ht, e3, e4, sizeOf, typeInfo, hi, hk, hadd]
  split at hm
  · rename_i id off len kk z hb hz
    rw [hb] at rx; rw [hz] at ri
    generalize hv : a.eval x = v at rx
    generalize hv' : a.eval i = v' at ri
    cases ri
    have key : ∀ k', (∀ l, g.inj id = some l → l.k = k') → k' = k → 0 ≤ z → z < len → K (.pr id (off + z.toNat) 0) [] [id] → o.wp P a w next Q := by
      intro k' hlk e1 e2 e3 hK
      cases rx with
      | sr _ _ _ cap l hl h1 h2 =>
        have := hlk l hl
        refine hn.same h hK (RV.pr id (off + z.toNat) 0 l hl) ?_
        rw [hrun hv hv' e2 e3, ← e1, ← this]
        simp [Nat.add_mul, Nat.add_assoc]
      | sr0 => simp at e3; omega
    split at hm
    · rename_i t k' es hob
      refine key k' (fun l hl => ?_) hm.1 hm.2.1 hm.2.2.1 hm.2.2.2
      obtain ⟨_, ⟨_, h2⟩ | ⟨l', h2, hk', _⟩⟩ := h.hp.objs id _ hob
      · rw [hl] at h2; cases h2
      · rw [hl] at h2; cases h2; exact hk'
    · rename_i t k' es hob
      refine key k' (fun l hl => ?_) hm.1 hm.2.1 hm.2.2.1 hm.2.2.2
      obtain ⟨_, ⟨_, h2⟩ | ⟨l', h2, hk', _⟩⟩ := h.hp.objs id _ hob
      · rw [hl] at h2; cases h2
      · rw [hl] at h2; cases h2; exact hk'
    · exact hm.elim
  · rename_i t k' es kk z hb hz
    rw [hb] at rx; rw [hz] at ri
    generalize hv : a.eval x = v at rx
    generalize hv' : a.eval i = v' at ri
    cases ri
    obtain ⟨rfl, e2, e3, hK⟩ := hm
    cases rx with
    | s _ _ _ _ hd =>
      cases hd with
      | a0 => simp at e3; omega
      | a b off cap len cs E z' _ _ vs hI hlen hkk hcap hc hr =>
        subst hlen
        have hlt : z.toNat < es.length := by omega
        have hel : (es.getD z.toNat []).length = k' := hkk _ (by simp [List.getD, List.getElem?_eq_getElem hlt])
        refine hn.same h (hK.get hlt) (RV.pd t (es.getD z.toNat []) 0 b (off + z.toNat * k') cs E z' (vs z.toNat) hI (fun j hj => ?_) (fun j hj => ?_)) (hrun hv hv' e2 e3)
        · exact hc z.toNat j hlt (by omega)
        · exact hr z.toNat j hlt (by omega)
  · exact hm.elim

theorem S.len {T : TypeId} {e : TypeId} {x : Operand} {y : Opd} {ts : Array TypeId} (ho : o.op = .call { callee := .builtin .len, args := #[x], argTypes := ts }) (hT : ts[0]? = some T) (hx : okOpd x y = true)
    (ht : P.underlying T = some (.slice e))
    (h : Rel P N A w0 F0 J0 g s a w) (hm : mop false P (.len y) n s K) (hn : Goes P A w0 F0 J0 g s.hp n o a K next) : o.wp P a w next Q := by
  have rx := h.val hx
  simp only [mop] at hm
  have hrun : ∀ {p : Option Addr} {len cap : Nat}, a.eval x = .slice p len cap → (execOp a.eval o).run P w = .ok (.value (.int .i64 len)) w := by
    intro p len cap e1
    simp [execOp, ho, resolve, invoke, builtin, Builtin.len_, hT, e1, run_underlying ht, goInt]
  split at hm
  · rename_i id off len hb
    rw [hb] at rx
    generalize hv : a.eval x = v at rx
    cases rx with
    | sr _ _ _ cap l hl h1 h2 => exact hn.same h hm (.i _ _) (hrun hv)
    | sr0 => exact hn.same h hm (.i _ _) (hrun hv)
  · rename_i t k' es hb
    rw [hb] at rx
    generalize hv : a.eval x = v at rx
    cases rx with
    | s _ _ _ _ hd =>
      cases hd with
      | a0 => exact hn.same h hm (.i _ _) (hrun hv)
      | a b off cap len cs E z' _ _ vs hI hlen hkk hcap hc hr => subst hlen; exact hn.same h hm (.i _ _) (hrun hv)
  · rename_i k' hb
    rw [hb] at rx
    generalize hv : a.eval x = v at rx
    cases rx
    exact hn.same h hm (.i _ _) (hrun hv)
  · exact hm.elim

end
end Go.Fw
