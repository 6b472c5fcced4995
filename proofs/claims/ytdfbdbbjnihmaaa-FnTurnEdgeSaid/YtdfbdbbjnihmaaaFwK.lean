/-
  Stores, make, composite values, literals of slices.
-/
import Derived.Test.YtdfbdbbjnihmaaaFwJ
import Derived.Laws.MakeOwn
namespace Go.Fw
set_option linter.unusedVariables false
set_option linter.unusedSimpArgs false
section
variable {P : Program} {N : FrS} {A : Nat → Prop} {w0 : World} {F0 : List Nat} {J0 : Imm} {g : Env} {s : MS} {a : Act} {w : World} {hp : List (Nat × MO)}
variable {n : Nat} {o : Oper} {K : MK} {next : Act → World → Prop} {Q : Exit → Act → World → Prop}

theorem splice_eq {α : Type} (cs : List α) (off : Nat) (xs : List α) (h : off + xs.length ≤ cs.length) : cs.take off ++ xs ++ cs.drop (off + xs.length) = splice cs off xs := by
  refine List.ext_getElem? (fun p => ?_)
  rw [splice_get]
  by_cases h1 : p < off
  · rw [if_neg (by omega), List.append_assoc, List.getElem?_append_left (by simp; omega), List.getElem?_take_of_lt h1]
  · by_cases h2 : p < off + xs.length
    · rw [if_pos ⟨by omega, h2, by omega⟩, List.append_assoc, List.getElem?_append_right (by simp; omega), List.getElem?_append_left (by simp; omega)]
      congr 1; simp; omega
    · rw [if_neg (by omega), List.getElem?_append_right (by simp; omega), List.getElem?_drop]
      congr 1; simp; omega

/-- The world behind a store. -/
theorem WExt.setRow {b : Nat} {cs cs' : Array Value} {E : TypeId} {z : Nat × Nat} (hb : w.heap[b]? = some (.cells cs E z)) (hs : cs'.size = cs.size) : WExt w [b] (w.setRow b cs') := by
  refine ⟨rfl, rfl, rfl, by simp [World.setRow], fun c hc hn => setRow_other w b c cs' (by simpa using hn), fun c cs1 E1 z1 h1 => ?_⟩
  by_cases e : c = b
  · subst e
    rw [hb] at h1; cases h1
    exact ⟨cs', setRow_heap w c cs cs' E z hb, hs⟩
  · exact ⟨cs1, by rw [setRow_other w b c cs' e]; exact h1, rfl⟩

theorem run_storeAt {T : TypeId} {inf : TypeInfo} {k b q : Nat} {v : Value} {cs : Array Value} {E : TypeId} (hi : P.info? T = some inf) (hk : inf.size = k)
    (hv : v.cells.toList.length = k) (h1 : ∀ x ∈ v.cells.toList, x.oneCell' = true) (hb : w.heap[b]? = some (.cells cs E (0, 0))) (hq : q + k ≤ cs.size) :
    (Instr.storeAt T (.pointer (some ⟨b, q, none⟩)) v).run P w = .ok () (w.setRow b (splice cs.toList q v.cells.toList).toArray) := by
  have hst := run_storeCells_at P b q E v.cells.toList 0 cs w hb (by simpa [hv] using hq) h1
  simp only [Nat.add_zero] at hst
  rw [splice_eq _ _ _ (by simp at hv ⊢; omega)] at hst
  simp at hv
  simp [Instr.storeAt, Instr.sureAddr, storeVar, sizeOf, typeInfo, hi, hk, hv, hst]

theorem S.store {T : TypeId} {x y : Operand} {x' y' : Opd} {inf : TypeInfo} {k : Nat} (ho : o.op = .store T x y) (hx : okOpd x x' = true) (hy : okOpd y y' = true) (hi : P.info? T = some inf) (hk : inf.size = k)
    (h : Rel P N A w0 F0 J0 g s a w) (hm : mop false P (.store k x' y') n s K) (hn : Goes P A w0 F0 J0 g s.hp n o a K next) : o.wp P a w next Q := by
  have rx := h.val hx
  have ry := h.val hy
  simp only [mop] at hm
  split at hm
  · rename_i id i off xs hb hxs
    obtain ⟨hc, h1⟩ := ry.cells hxs
    obtain ⟨hlen, hm⟩ := hm
    have hvl : (a.eval y).cells.toList.length = k := by rw [hc.length, hlen]
    rw [hb] at rx
    generalize hv : a.eval x = v at rx
    cases rx with
    | pr _ _ _ l hl =>
      split at hm
      · rename_i t k' es hob
        split at hm
        · rename_i t' ds u hds
          obtain ⟨hne, hi1, hk1, hK⟩ := hm
          replace hK := hK.get hi1
          obtain ⟨g1, hg1, hi2, h2, hinv, hoth, hall⟩ := h.hp.freezes s.hp u (toDs_frz hds) (fun id o x => .inl x)
          have hlook : look (upds s.hp u) id = some (.arr t k' es) := by rw [hoth id hne]; exact hob
          have hD := toDs_DR (g := g) h2 hg1 (fun i t1 k1 es1 hf => by
            rcases hinv i _ hf with e | ⟨_, _, _, e, _⟩
            · exact e
            · cases e) hc hds (fun x hx => hall x hx)
          obtain ⟨hkk, ⟨he, _⟩ | ⟨l', hl', hlk, cs, E, h3, h4, h5, h6⟩⟩ := h2.objs id _ hlook
          · subst he; simp at hi1
          · have hl1 := hg1.inj _ _ hl
            rw [hl1] at hl'; cases hl'
            have hfit : l.base + i * l.k + off + k ≤ cs.size := by
              have : (i + 1) * k' ≤ l.C * k' := Nat.mul_le_mul_right _ (by omega)
              rw [hlk]; rw [Nat.add_mul] at this; omega
            have hdl : ds.length = k := by rw [hD.1, hvl]
            have hw := WExt.setRow (w := w) (cs' := (splice cs.toList (l.base + i * l.k + off) (a.eval y).cells.toList).toArray) h3 (by simp [splice_length])
            refine wp_skp (w' := w.setRow l.b (splice cs.toList (l.base + i * l.k + off) (a.eval y).cells.toList).toArray) ?_ (hn _ _ _ g1 _ undef hK hg1 .un ?_)
            · have := run_storeAt (P := P) (w := w) hi hk hvl h1 h3 hfit
              simp [execOp, ho, hv, this]
            · rw [upds_append]
              show HRel _ _ _ _ _ _ (put (upds s.hp u) id (.arr (t && t') k' (es.set i (splice (es.getD i []) off ds)))) _
              refine ((h2.write (mo' := .arr (t && t') k' (es.set i (splice (es.getD i []) off ds))) hlook rfl hl1 rfl hw ⟨?_, .inr ⟨l, hl1, hlk, _, E, setRow_heap w l.b cs _ E _ h3, by simp [splice_length]; omega, by simpa using h5, fun i' j' hi' hj' => ?_⟩⟩).weaken (fun _ x => x.1))
              · intro e he
                rcases List.mem_or_eq_of_mem_set he with he | he
                · exact hkk e he
                · subst he; rw [splice_length]; exact hkk _ (by simp [List.getD, List.getElem?_eq_getElem hi1])
              · simp at hi'
                obtain ⟨v0, hv0, hr0⟩ := h6 i' j' hi' hj'
                have weakJ : ∀ (ta tb : Bool) {v : Value} {d : D}, DR (g1.im ta) v d → DR (g1.im (ta && tb)) v d := fun ta tb v d hh => by
                  cases ta <;> cases tb <;> first | exact hh | exact hh.mono (fun b o x => h2.JI b o x)
                have hel : (es.getD i []).length = k' := hkk _ (by simp [List.getD, List.getElem?_eq_getElem hi1])
                rw [List.getElem?_toArray, splice_get]
                by_cases hii : i' = i
                · subst hii
                  by_cases hin : off ≤ j' ∧ j' < off + k
                  · refine ⟨(a.eval y).cells.toList.getD (j' - off) undef, ?_, ?_⟩
                    · rw [if_pos ⟨by rw [hlk]; omega, by rw [hlk, hvl]; omega, by rw [hlk] at hfit; simp; omega⟩]
                      rw [show l.base + i' * k' + j' - (l.base + i' * l.k + off) = j' - off by rw [hlk]; omega]
                      simp [List.getD, show j' - off < (a.eval y).cells.size by simp at hvl; omega]
                    · have hh := hD.2 (j' - off) ((a.eval y).cells.toList.getD (j' - off) undef) (by simp [List.getD, show j' - off < (a.eval y).cells.size by simp at hvl; omega])
                      have e1 : cellD (es.set i' (splice (es.getD i' []) off ds)) i' j' = ds.getD (j' - off) default := by
                        simp only [cellD]
                        rw [show (es.set i' (splice (es.getD i' []) off ds)).getD i' [] = splice (es.getD i' []) off ds by simp [List.getD, hi1]]
                        simp only [List.getD]
                        rw [splice_get, if_pos ⟨hin.1, by omega, by have := hel; simp only [List.getD] at this; omega⟩]
                      rw [e1, Bool.and_comm]; exact weakJ _ _ hh
                  · refine ⟨v0, ?_, ?_⟩
                    · rw [if_neg (by rw [hlk, hvl]; omega)]
                      simpa using hv0
                    · have e1 : cellD (es.set i' (splice (es.getD i' []) off ds)) i' j' = cellD es i' j' := by
                        simp only [cellD]
                        rw [show (es.set i' (splice (es.getD i' []) off ds)).getD i' [] = splice (es.getD i' []) off ds by simp [List.getD, hi1]]
                        simp only [List.getD]
                        rw [splice_get, if_neg (by omega)]
                      rw [e1]; exact weakJ _ _ hr0
                · refine ⟨v0, ?_, ?_⟩
                  · rw [if_neg]
                    · simpa using hv0
                    · rw [hlk, hvl]
                      rcases Nat.lt_or_gt_of_ne hii with hlt | hgt
                      · have : (i' + 1) * k' ≤ i * k' := Nat.mul_le_mul_right _ hlt
                        rw [Nat.add_mul] at this; omega
                      · have : (i + 1) * k' ≤ i' * k' := Nat.mul_le_mul_right _ hgt
                        rw [Nat.add_mul] at this; omega
                  · have e1 : cellD (es.set i (splice (es.getD i []) off ds)) i' j' = cellD es i' j' := by
                      simp [cellD, List.getD, List.getElem?_set, Ne.symm hii]
                    rw [e1]; exact weakJ _ _ hr0
        · exact hm.elim
      · rename_i cs hob
        obtain ⟨rfl, hk1, hK⟩ := hm
        obtain ⟨l', cells, E, hl', h3, h4, h5, h6⟩ := h.hp.objs id _ hob
        rw [hl] at hl'; cases hl'
        have hfit : l.base + off + k ≤ cells.size := by omega
        have hw := WExt.setRow (w := w) (cs' := (splice cells.toList (l.base + off) (a.eval y).cells.toList).toArray) h3 (by simp [splice_length])
        refine wp_skp (w' := w.setRow l.b (splice cells.toList (l.base + off) (a.eval y).cells.toList).toArray) ?_ (hn _ _ _ g _ undef hK (Env.le.refl g) .un ?_)
        · have := run_storeAt (P := P) (w := w) hi hk hvl h1 h3 hfit
          simp [execOp, ho, hv, this]
        · show HRel _ _ _ _ _ _ (put s.hp id (.box (splice cs off xs))) _
          refine ((h.hp.write (mo' := .box (splice cs off xs)) hob rfl hl rfl hw ⟨l, _, E, hl, setRow_heap w l.b cells _ E _ h3, by simp [splice_length]; omega, ?_, ?_⟩).weaken (fun _ x => x.1))
          · intro x hx
            simp at hx
            exact splice_one (fun x => x.oneCell' = true) _ _ _ h1 (fun x hx => h5 x hx) x hx
          · have hsp := hc.splice off h6
            rw [splice_length]
            have e : (List.drop l.base (splice cells.toList (l.base + off) (a.eval y).cells.toList)).take cs.length = splice ((cells.toList.drop l.base).take cs.length) off (a.eval y).cells.toList := by
              refine List.ext_getElem? (fun p => ?_)
              rw [splice_get]
              by_cases hp : p < cs.length
              · rw [List.getElem?_take_of_lt hp, List.getElem?_drop, splice_get, List.getElem?_take_of_lt hp, List.getElem?_drop]
                by_cases hin : off ≤ p ∧ p < off + (a.eval y).cells.toList.length
                · rw [if_pos ⟨by omega, by omega, by simp; omega⟩, if_pos ⟨hin.1, hin.2, by simp; omega⟩]; congr 1; omega
                · rw [if_neg (by omega), if_neg (by omega)]
              · rw [List.getElem?_eq_none (by simp; omega), if_neg (by simp; omega), List.getElem?_eq_none (by simp; omega)]
            simp only [List.toList_toArray]
            rw [e]; exact hsp
      · exact hm.elim
  · exact hm.elim

theorem S.makeSlice {T e : TypeId} {x y : Operand} {x' y' : Opd} {inf : TypeInfo} {k bytes : Nat} {zero : List D} {z : Value} (ho : o.op = .makeSlice T x y) (hx : okOpd x x' = true) (hy : okOpd y y' = true)
    (ht : P.underlying T = some (.slice e)) (hi : P.info? e = some inf) (hk : inf.size = k) (hby : inf.bytes = bytes) (hb0 : 0 < bytes) (hz : inf.zero = some z) (hzl : z.cells.size = k)
    (hzd : zero.length = k ∧ ∀ j, j < k → DR (fun _ => none) (z.cells.getD j undef) (zero.getD j default)) (hA : ∀ id, n ≤ id → id < n + 64 → A id)
    (h : Rel P N A w0 F0 J0 g s a w) (hm : mop false P (.makeSlice k bytes zero x' y') n s K) (hn : Goes P A w0 F0 J0 g s.hp n o a K next) : o.wp P a w next Q := by
  have rx := h.val hx
  have ry := h.val hy
  simp only [mop] at hm
  split at hm
  · rename_i ka p kb q hb1 hb2
    rw [hb1] at rx; rw [hb2] at ry
    generalize hv : a.eval x = v at *
    generalize hv' : a.eval y = v' at *
    cases rx; cases ry
    obtain ⟨rfl, h0, hbd, hK⟩ := hm
    have hp63 : p ≤ 140737488355328 := by
      have : p * 1 ≤ p * bytes := Int.mul_le_mul_of_nonneg_left (by omega) h0
      omega
    have hrun := run_make (P := P) w T e inf z ht hi hz ka kb p p h0 (Int.le_refl _) (by rw [hby, Int.mul_comm]; omega) (by omega)
    have hA0 := hA n (Nat.le_refl _) (by omega)
    have hinj := (h.hp.avail n hA0).1
    have hle := Env.le_at (l := ⟨w.heap.size, 0, k, p.toNat⟩) hinj
    refine wp_val (v := .slice (some ⟨w.heap.size, 0, none⟩) p.toNat p.toNat) (w' := w.alloc (.cells (madeCells z.cells (p.toNat * inf.size)) e)) (by simp [execOp, ho, hv, hv', hrun])
      (hn _ _ _ (g.at n ⟨w.heap.size, 0, k, p.toNat⟩) _ _ hK hle ?_ (notin_weak (h.hp.alloc hA0 rfl (o := .cells (madeCells z.cells (p.toNat * inf.size)) e (0, 0)) ⟨?_, .inr ⟨⟨w.heap.size, 0, k, p.toNat⟩, by simp [Env.at], rfl, madeCells z.cells (p.toNat * inf.size), e, heap_alloc_new w _, ?_, ?_, ?_⟩⟩)))
    · have := RV.sr (P := P) (g := g.at n ⟨w.heap.size, 0, k, p.toNat⟩) n 0 p.toNat p.toNat ⟨w.heap.size, 0, k, p.toNat⟩ (by simp [Env.at]) (by simp) (Nat.le_refl _)
      simpa using this
    · intro el hel; rw [List.eq_of_mem_replicate hel]; exact hzd.1
    · simp [size_madeCells, hk]
    · simp
    · intro i j hi' hj'
      simp at hi'
      have hlt : i * k + j < p.toNat * k := by
        have : (i + 1) * k ≤ p.toNat * k := Nat.mul_le_mul_right _ (by omega)
        rw [Nat.add_mul] at this; omega
      have hk0 : 0 < k := by omega
      refine ⟨z.cells.getD j undef, ?_, ?_⟩
      · have e1 : (i * k + j) % k = j := by rw [Nat.mul_comm, Nat.mul_add_mod, Nat.mod_eq_of_lt hj']
        have hj2 : j < z.cells.size := by omega
        simp [madeCells, hk, hlt, hzl, e1]
        rw [getElem!_pos z.cells j hj2]; simp [hj2]
      · have e1 : cellD (List.replicate p.toNat zero) i j = zero.getD j default := by
          simp [cellD, List.getD, hi']
        rw [e1]
        exact (hzd.2 j hj').mono (by intro b o x; cases x)
  · exact hm.elim
end
end Go.Fw
