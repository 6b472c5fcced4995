/-
  Room, copies, clearing, whether memory is common.
-/
import Derived.Test.YtdfbdbbjnihmaaaFwM
import Derived.Lib.Overlaps
namespace Go.Fw
set_option linter.unusedVariables false
set_option linter.unusedSimpArgs false
section
variable {P : Program} {N : FrS} {A : Nat → Prop} {w0 : World} {F0 : List Nat} {J0 : Imm} {g : Env} {s : MS} {a : Act} {w : World} {hp : List (Nat × MO)}
variable {n : Nat} {o : Oper} {K : MK} {next : Act → World → Prop} {Q : Exit → Act → World → Prop}

theorem overR_length {es ys : List (List D)} {off : Nat} (h : off ≤ es.length) : (overR es off ys).length = max es.length (off + ys.length) := by
  simp [overR]; omega
theorem overR_nil {es : List (List D)} {off : Nat} : overR es off [] = es := by simp [overR]
theorem cellD_overR {es ys : List (List D)} {off : Nat} (h : off ≤ es.length) (i j : Nat) : cellD (overR es off ys) i j = if off ≤ i ∧ i < off + ys.length then cellD ys (i - off) j else cellD es i j := by
  have e : (overR es off ys)[i]? = if off ≤ i ∧ i < off + ys.length then ys[i - off]? else es[i]? := by
    unfold overR
    by_cases h1 : i < off
    · rw [if_neg (by omega), List.append_assoc, List.getElem?_append_left (by simp; omega), List.getElem?_take_of_lt h1]
    · by_cases h2 : i < off + ys.length
      · rw [if_pos ⟨by omega, h2⟩, List.append_assoc, List.getElem?_append_right (by simp; omega), List.getElem?_append_left (by simp; omega)]
        congr 1; simp; omega
      · rw [if_neg (by omega), List.getElem?_append_right (by simp; omega), List.getElem?_drop]
        congr 1; simp; omega
  simp only [cellD, List.getD, e]
  split <;> rfl

/-- The room of an array is forgotten. -/
theorem HRel.unroom (h : HRel P A w0 F0 J0 g hp w) {id : Nat} {t : Bool} {k : Nat} {es : List (List D)} {C : Nat} (h1 : look hp id = some (.rm t k es C)) :
    HRel P A w0 F0 J0 g (put hp id (.arr t k es)) w := by
  obtain ⟨h0, l, h2, hC, hb⟩ := h.objs id _ h1
  exact h.write h1 rfl h2 rfl (WExt.refl w _) ⟨h0, .inr ⟨l, h2, hb⟩⟩

/-- The first elements of a slice, read. -/
theorem HRel.pref (h : HRel P A w0 F0 J0 g s.hp w) {v : Value} {m : MV} (hv : RV P g v m) {c L : Nat} {t : Bool} {k : Nat} {ys : List (List D)} {rs : List Nat} (hs : prefOf s c m = some (t, k, ys, rs)) (hL : lenV s m = some L) :
    (∀ e ∈ ys, e.length = k) ∧ ys.length = c ∧ ∃ p cap, v = .slice p L cap ∧
      (ys = [] ∨ ∃ (b q : Nat) (cs : Array Value) (E : TypeId) (z : Nat × Nat), p = some ⟨b, q, none⟩ ∧ w.heap[b]? = some (.cells cs E z) ∧
        (∀ i j, i < ys.length → j < k → ∃ u, cs[q + i * k + j]? = some u ∧ DR (g.im t) u (cellD ys i j))) := by
  cases m <;> simp [prefOf] at hs
  case s t' k' es =>
    obtain ⟨hc, rfl, rfl, rfl, rfl⟩ := hs
    obtain ⟨h1, p, len, cap, rfl, h2, h3, h4⟩ := h.slice hv (show sliceOf s (.s t' k' es) = some (t', k', es, []) from rfl)
    simp only [lenV, Option.some.injEq] at hL; subst hL
    refine ⟨fun e he => h1 e (List.mem_of_mem_take he), by simp; omega, p, cap, by rw [h2], ?_⟩
    rcases h4 with rfl | ⟨b, q, cs, E, z, e1, e2, e3, _⟩
    · left; simp
    · right
      refine ⟨b, q, cs, E, z, e1, e2, fun i j hi hj => ?_⟩
      simp at hi
      obtain ⟨u, hu, hr⟩ := e3 i j (by omega) hj
      refine ⟨u, hu, ?_⟩
      have hi' : i < c := by omega
      have : cellD (es.take c) i j = cellD es i j := by simp [cellD, List.getD, List.getElem?_take_of_lt hi']
      rw [this]; exact hr
  case nl k' =>
    obtain ⟨rfl, rfl, rfl, rfl, rfl⟩ := hs
    cases hv with
    | nl p =>
      simp only [lenV, Option.some.injEq] at hL; subst hL
      exact ⟨by simp, rfl, p, _, rfl, .inl rfl⟩
  case sr id off len =>
    simp only [lenV, Option.some.injEq] at hL; subst hL
    have key : ∀ (s' : MS), HRel P A w0 F0 J0 g s'.hp w → ∀ (t' : Bool) (k' : Nat) (es : List (List D)), (s'.obj id = some (.arr t' k' es) ∨ s'.obj id = some (.fz t' k' es)) → c ≤ len → off + c ≤ es.length →
        (∀ e ∈ (es.drop off).take c, e.length = k') ∧ ((es.drop off).take c).length = c ∧ ∃ p cap, v = .slice p len cap ∧
        ((es.drop off).take c = [] ∨ ∃ (b q : Nat) (cs : Array Value) (E : TypeId) (z : Nat × Nat), p = some ⟨b, q, none⟩ ∧ w.heap[b]? = some (.cells cs E z) ∧
        (∀ i j, i < ((es.drop off).take c).length → j < k' → ∃ u, cs[q + i * k' + j]? = some u ∧ DR (g.im t') u (cellD ((es.drop off).take c) i j))) := by
      intro s' h' t' k' es hob hc1 hc2
      have hso : sliceOf s' (.sr id off c) = some (t', k', (es.drop off).take c, [id]) := by
        rcases hob with hob | hob <;> simp [sliceOf, hob, hc2]
      have hl : ((es.drop off).take c).length = c := by simp; omega
      cases hv with
      | sr0 p =>
        obtain rfl : c = 0 := by omega
        obtain ⟨h1, _⟩ := h'.slice (RV.sr0 p id off) hso
        exact ⟨h1, hl, p, 0, rfl, .inl (by simp)⟩
      | sr _ _ _ cap l hl' g1 g2 =>
        obtain ⟨h1, p, len', cap', e0, h2, h3, h4⟩ := h'.slice (RV.sr id off c cap l hl' g1 (by omega)) hso
        cases e0
        refine ⟨h1, hl, _, cap, rfl, ?_⟩
        rcases h4 with h4 | ⟨b, q, cs, E, z, e1, e2, e3, _⟩
        · exact .inl h4
        · exact .inr ⟨b, q, cs, E, z, e1, e2, e3⟩
    split at hs
    · rename_i t' k' es hob
      simp at hs
      obtain ⟨hle, rfl, rfl, rfl, rfl⟩ := hs
      exact key s h _ _ _ (.inl hob) hle.1 hle.2
    · rename_i t' k' es hob
      simp at hs
      obtain ⟨hle, rfl, rfl, rfl, rfl⟩ := hs
      exact key s h _ _ _ (.inr hob) hle.1 hle.2
    · rename_i t' k' es C hob
      simp at hs
      obtain ⟨hle, rfl, rfl, rfl, rfl⟩ := hs
      refine key ⟨s.fr, put s.hp id (.arr t' k' es), s.nx⟩ (h.unroom hob) _ _ _ (.inl ?_) hle.1 hle.2
      show look (put s.hp id (.arr t' k' es)) id = _
      rw [look_put]; simp
    · simp at hs

theorem S.cap {T e : TypeId} {x : Operand} {x' : Opd} {ts : Array TypeId} (ho : o.op = .call { callee := .builtin .cap, args := #[x], argTypes := ts }) (hT : ts[0]? = some T) (hx : okOpd x x' = true)
    (ht : P.underlying T = some (.slice e)) (h : Rel P N A w0 F0 J0 g s a w) (hm : mop false P (.cap x') n s K) (hn : Goes P A w0 F0 J0 g s.hp n o a K next) : o.wp P a w next Q := by
  have rx := h.val hx
  simp only [mop] at hm
  split at hm
  · rename_i id off len hb
    split at hm
    · rename_i t k es hob
      obtain ⟨hlen, hK⟩ := hm
      rw [hb] at rx
      generalize hv : a.eval x = v at rx
      cases rx with
      | sr0 p => omega
      | sr _ _ _ cap l hl h1 h2 =>
        obtain ⟨h0, hrep⟩ := h.hp.objs id _ hob
        rcases hrep with ⟨_, h3⟩ | ⟨l', h3, hb3⟩
        · rw [hl] at h3; cases h3
        rw [hl] at h3; cases h3
        have hle : es.length ≤ l.C := by obtain ⟨_, _, _, _, _, h5, _⟩ := hb3; exact h5
        refine wp_val (v := .int .i64 cap) (w' := w) ?_ (hn _ _ _ g _ _ (hK cap h2 (by omega)) (Env.le.refl g) (.i _ _) ?_)
        · simp [execOp, ho, resolve, invoke, builtin, Builtin.cap_, hT, hv, run_underlying ht, goInt]
        · show HRel _ _ _ _ _ _ (put s.hp id (.rm t k es (off + cap))) _
          exact (h.hp.write (mo' := .rm t k es (off + cap)) hob rfl hl rfl (WExt.refl w _) ⟨h0, l, hl, h1.symm, hb3⟩).weaken (fun _ x => x.1)
    · exact hm.elim
  · exact hm.elim

/-- The cells of some rows, one behind the other. -/
theorem news_of {k : Nat} (hk0 : 0 < k) {I : Imm} {ys : List (List D)} {p : Option Addr}
    (h : ys = [] ∨ ∃ (b q : Nat) (cs : Array Value) (E : TypeId) (z : Nat × Nat), p = some ⟨b, q, none⟩ ∧ w.heap[b]? = some (.cells cs E z) ∧ (∀ i j, i < ys.length → j < k → ∃ u, cs[q + i * k + j]? = some u ∧ DR I u (cellD ys i j))) :
    ys = [] ∨ ∃ (p' : Addr) (news : List Value), p = some p' ∧ news.length = ys.length * k ∧ (∀ j u, news[j]? = some u → w.cell? (p'.add j) = some u) ∧ (∀ u ∈ news, u.oneCell' = true) ∧
        ∀ i j, i < ys.length → j < k → ∃ u, news[i * k + j]? = some u ∧ DR I u (cellD ys i j) := by
  rcases h with e | ⟨b, q, cs, E, zz, rfl, hb, hc⟩
  · exact .inl e
  · right
    have hall := cells_chunks hk0 (cs := cs) (q := q) (m := ys.length) (fun i j hi hj => by obtain ⟨u, hu, _⟩ := hc i j hi hj; exact ⟨u, hu⟩)
    have hget : ∀ p, p < ys.length * k → cs[q + p]? = some (cs.getD (q + p) undef) := fun p hp => by
      obtain ⟨u, hu⟩ := hall p hp
      rw [hu, Array.getD_eq_getD_getElem?, hu]; rfl
    refine ⟨⟨b, q, none⟩, (List.range (ys.length * k)).map (fun p => cs.getD (q + p) undef), rfl, by simp, fun j u hj => ?_, fun u hu => ?_, fun i j hi hj => ?_⟩
    · by_cases hjl : j < ys.length * k
      · rw [List.getElem?_map, List.getElem?_range hjl] at hj
        simp at hj; subst hj
        have hadd : (⟨b, q, none⟩ : Addr).add j = ⟨b, q + j, none⟩ := by
          by_cases e : j = 0
          · subst e; simp [Addr.add]
          · simp [Addr.add, e]
        rw [hadd, cell_of_row w b (q + j) cs E zz hb, hget j hjl]; simp
      · rw [List.getElem?_eq_none (by simp; omega)] at hj; cases hj
    · simp at hu
      obtain ⟨p, hp, rfl⟩ := hu
      have h1 : p / k < ys.length := by rw [Nat.div_lt_iff_lt_mul hk0]; exact hp
      obtain ⟨u, hu, hr⟩ := hc (p / k) (p % k) h1 (Nat.mod_lt _ hk0)
      have e1 : q + p / k * k + p % k = q + p := by have := Nat.div_add_mod p k; rw [Nat.mul_comm (p / k)]; omega
      rw [e1] at hu
      have : cs.getD (q + p) undef = u := by rw [Array.getD_eq_getD_getElem?, hu]; rfl
      rw [← Array.getD_eq_getD_getElem?, this]; exact hr.one
    · obtain ⟨u, hu, hr⟩ := hc i j hi hj
      have hlt : i * k + j < ys.length * k := by
        have : (i + 1) * k ≤ ys.length * k := Nat.mul_le_mul_right _ (by omega)
        rw [Nat.add_mul] at this; omega
      refine ⟨u, ?_, hr⟩
      rw [List.getElem?_map, List.getElem?_range hlt]
      simp only [Option.map_some, ← Nat.add_assoc]
      rw [Array.getD_eq_getD_getElem?, hu]; rfl

/-- Rows are written over others, in an array's room. -/
theorem HRel.overwrite (h : HRel P A w0 F0 J0 g hp w) {id : Nat} {o0 : MO} {t t' : Bool} {k : Nat} {es ys : List (List D)} {off : Nat} {l : Loc} (hob : look hp id = some o0)
    (ho0 : o0 = .arr t k es ∨ ∃ C, o0 = .rm t k es C) (hl : g.inj id = some l) (hoff : off ≤ es.length) (hfit : off + ys.length ≤ l.C) (hyk : ∀ e ∈ ys, e.length = k)
    {news : List Value} (hnl : news.length = ys.length * k) (hnD : ∀ i j, i < ys.length → j < k → ∃ u, news[i * k + j]? = some u ∧ DR (g.im t') u (cellD ys i j)) :
    ∃ (cs : Array Value) (E : TypeId), w.heap[l.b]? = some (.cells cs E (0, 0)) ∧ l.k = k ∧ l.base + off * k + news.length ≤ cs.size ∧
      HRel P A w0 F0 J0 g (put hp id (.arr (t && t') k (overR es off ys))) (w.setRow l.b (splice cs.toList (l.base + off * k) news).toArray) := by
  have hrep : (∀ e ∈ es, e.length = k) ∧ BRep (g.im t) w l k es := by
    rcases ho0 with rfl | ⟨C, rfl⟩
    · obtain ⟨h0, ⟨_, h3⟩ | ⟨l', h3, hb⟩⟩ := h.objs id _ hob
      · rw [hl] at h3; cases h3
      · rw [hl] at h3; cases h3; exact ⟨h0, hb⟩
    · obtain ⟨h0, l', h3, _, hb⟩ := h.objs id _ hob
      rw [hl] at h3; cases h3; exact ⟨h0, hb⟩
  have hlive : o0.live = true := by rcases ho0 with rfl | ⟨C, rfl⟩ <;> rfl
  obtain ⟨h0, hlk, cs, E, h4, h5, h6, h7⟩ := hrep
  have hsz : l.base + off * k + news.length ≤ cs.size := by
    have : (off + ys.length) * k ≤ l.C * k := Nat.mul_le_mul_right _ hfit
    rw [Nat.add_mul] at this; rw [hnl]; omega
  refine ⟨cs, E, h4, hlk, hsz, ?_⟩
  have hw := WExt.setRow (w := w) (cs' := (splice cs.toList (l.base + off * k) news).toArray) h4 (by simp [splice_length])
  have wk1 : ∀ (ta tb : Bool) {v : Value} {d : D}, DR (g.im ta) v d → DR (g.im (ta && tb)) v d := fun ta tb v d hh => by
    cases ta <;> cases tb <;> first | exact hh | exact hh.mono (fun b o x => h.JI b o x)
  have wk2 : ∀ (ta tb : Bool) {v : Value} {d : D}, DR (g.im tb) v d → DR (g.im (ta && tb)) v d := fun ta tb v d hh => by
    rw [Bool.and_comm]; exact wk1 tb ta hh
  refine h.write (mo' := .arr (t && t') k (overR es off ys)) hob hlive hl rfl hw ⟨fun e he => ?_, .inr ⟨l, hl, hlk, _, E, setRow_heap w l.b cs _ E _ h4, by simp [splice_length]; exact h5, by rw [overR_length hoff]; omega, fun i j hi hj => ?_⟩⟩
  · simp only [overR, List.mem_append] at he
    rcases he with (he | he) | he
    · exact h0 e (List.mem_of_mem_take he)
    · exact hyk e he
    · exact h0 e (List.mem_of_mem_drop he)
  · rw [overR_length hoff] at hi
    rw [List.getElem?_toArray, splice_get, cellD_overR hoff]
    have m1 : ∀ p q : Nat, p < q → p * k + k ≤ q * k := fun p q hpq => by
      have : (p + 1) * k ≤ q * k := Nat.mul_le_mul_right _ hpq
      rw [Nat.add_mul] at this; omega
    by_cases hin : off ≤ i ∧ i < off + ys.length
    · obtain ⟨u, hu, hr⟩ := hnD (i - off) j (by omega) hj
      have e1 : i * k = off * k + (i - off) * k := by rw [← Nat.add_mul]; congr 1; omega
      have e2 := m1 (i - off) ys.length (by omega)
      rw [if_pos ⟨by omega, by omega, by simp; omega⟩, if_pos hin]
      refine ⟨u, ?_, wk2 t t' hr⟩
      rw [← hu]; congr 1; omega
    · obtain ⟨u, hu, hr⟩ := h7 i j (by omega) hj
      rw [if_neg, if_neg hin]
      · exact ⟨u, by simpa using hu, wk1 t t' hr⟩
      · rw [hnl]
        by_cases h1 : i < off
        · have := m1 i off h1; omega
        · have : (off + ys.length) * k ≤ i * k := Nat.mul_le_mul_right _ (by omega)
          rw [Nat.add_mul] at this; omega

theorem HRel.weakObj (h : HRel P A w0 F0 J0 g hp w) {id : Nat} {o0 : MO} {t : Bool} (t' : Bool) {k : Nat} {es : List (List D)} (hob : look hp id = some o0) (ho0 : o0 = .arr t k es ∨ ∃ C, o0 = .rm t k es C) :
    HRel P A w0 F0 J0 g (put hp id (.arr (t && t') k es)) w := by
  have wk1 : ∀ {v : Value} {d : D}, DR (g.im t) v d → DR (g.im (t && t')) v d := fun {v d} hh => by
    cases t <;> cases t' <;> first | exact hh | exact hh.mono (fun b o x => h.JI b o x)
  have hbr : ∀ l, BRep (g.im t) w l k es → BRep (g.im (t && t')) w l k es := fun l ⟨e1, cs, E, e2, e3, e4, e5⟩ => ⟨e1, cs, E, e2, e3, e4, fun i j hi hj => by
    obtain ⟨u, hu, hr⟩ := e5 i j hi hj
    exact ⟨u, hu, wk1 hr⟩⟩
  have loc : ∀ l, g.inj id = some l → (∀ e ∈ es, e.length = k) → BRep (g.im t) w l k es → o0.live = true → HRel P A w0 F0 J0 g (put hp id (.arr (t && t') k es)) w := fun l hl h0 hb hlv =>
    h.write hob hlv hl rfl (WExt.refl w _) ⟨h0, .inr ⟨l, hl, hbr l hb⟩⟩
  rcases ho0 with rfl | ⟨C, rfl⟩
  · obtain ⟨h0, ⟨he, h3⟩ | ⟨l, h3, hb⟩⟩ := h.objs id _ hob
    · have hsame : ∀ i o, look (put hp id (.arr (t && t') k es)) i = some o → o.live = true → ∃ o', look hp i = some o' ∧ o'.live = true := fun i o x hlv => by
        rw [look_put] at x
        by_cases e : id = i
        · subst e; exact ⟨_, hob, rfl⟩
        · rw [if_neg e] at x; exact ⟨o, x, hlv⟩
      refine ⟨fun i o x => ?_, fun i x => ⟨(h.avail i x).1, ?_⟩, fun i1 i2 o1 o2 l1 l2 a1 a2 b1 b2 c1 c2 e => ?_, fun i o1 l1 a1 b1 c1 => ?_, fun i o1 l1 a1 b1 c1 => ?_, h.imm, h.JI, h.Jf, h.ext⟩
      · rw [look_put] at x
        by_cases e : id = i
        · subst e; simp at x; subst x; exact ⟨h0, .inl ⟨he, h3⟩⟩
        · rw [if_neg e] at x; exact h.objs i o x
      · rw [look_put]
        by_cases e : id = i
        · subst e; rw [(h.avail _ x).2] at hob; cases hob
        · rw [if_neg e]; exact (h.avail i x).2
      · obtain ⟨p1, q1, r1⟩ := hsame _ _ a1 b1
        obtain ⟨p2, q2, r2⟩ := hsame _ _ a2 b2
        exact h.sep i1 i2 p1 p2 l1 l2 q1 q2 r1 r2 c1 c2 e
      · obtain ⟨p1, q1, r1⟩ := hsame _ _ a1 b1
        exact h.disj i p1 l1 q1 r1 c1
      · obtain ⟨p1, q1, r1⟩ := hsame _ _ a1 b1
        exact h.fresh i p1 l1 q1 r1 c1
    · exact loc l h3 h0 hb rfl
  · obtain ⟨h0, l, h3, _, hb⟩ := h.objs id _ hob
    exact loc l h3 h0 hb rfl

theorem run_copy_none {T ty e : TypeId} {inf : TypeInfo} {ts : Array TypeId} (hT : ts[0]? = some T) (ht : P.underlying T = some (.slice e)) (hi : P.info? e = some inf) {px py : Option Addr} {l m cx cy : Nat} (h0 : min m l = 0) :
    (Builtin.copy_ ts ty #[.slice px l cx, .slice py m cy]).run P w = .ok (.int .i64 0) w := by
  have h0' : Nat.min m l = 0 := h0
  cases px <;> cases py <;> simp [Builtin.copy_, hT, run_underlying ht, sizeOf, typeInfo, hi, Builtin.lenOf, h0', Builtin.firstCells, loadCells, loadCellsFrom, storeCells, goInt]

theorem S.copy {T e : TypeId} {x y : Operand} {x' y' : Opd} {inf : TypeInfo} {ts : Array TypeId} {k : Nat} (ho : o.op = .call { callee := .builtin .copy, args := #[x, y], argTypes := ts }) (hT : ts[0]? = some T)
    (hx : okOpd x x' = true) (hy : okOpd y y' = true) (ht : P.underlying T = some (.slice e)) (hi : P.info? e = some inf) (hk : inf.size = k) (hk0 : 0 < k)
    (h : Rel P N A w0 F0 J0 g s a w) (hm : mop false P (.copy k x' y') n s K) (hn : Goes P A w0 F0 J0 g s.hp n o a K next) : o.wp P a w next Q := by
  have rx := h.val hx
  have ry := h.val hy
  simp only [mop] at hm
  have hexec : ∀ {v : Value} {w' : World}, (Builtin.copy_ ts o.type #[a.eval x, a.eval y]).run P w = .ok v w' → (execOp a.eval o).run P w = .ok (.value v) w' := by
    intro v w' e1
    simp [execOp, ho, resolve, invoke, builtin, e1]
  split at hm
  · rename_i id off len m hb hL
    have key : ∀ (o0 : MO) (t : Bool) (k' : Nat) (es : List (List D)), look s.hp id = some o0 → (o0 = .arr t k' es ∨ ∃ C, o0 = .rm t k' es C) →
        (match prefOf s (min m len) (s.val y') with
        | some (t', k'', ys, rs) => k' = k ∧ k'' = k ∧ off ≤ es.length ∧ K (.i .i64 (min m len : Nat)) [(id, some (.arr (t && t') k (overR es off ys)))] (id :: rs)
        | none => False) → o.wp P a w next Q := by
      intro o0 t k' es hob ho0 hm
      split at hm
      · rename_i t' k'' ys rs hpf
        obtain ⟨rfl, rfl, hoff, hK⟩ := hm
        obtain ⟨hyk, hyl, py, capy, hvy, hcells⟩ := h.hp.pref ry hpf hL
        rw [hvy] at hexec
        rw [hb] at rx
        generalize hv : a.eval x = v at rx hexec
        rcases news_of hk0 hcells with hy0 | ⟨p, news, rfl, hnl, hncell, hn1, hnD⟩
        · subst hy0
          have h0 : min m len = 0 := by simpa using hyl.symm
          have fin : ∀ px capx, v = .slice px len capx → o.wp P a w next Q := by
            rintro px capx rfl
            refine wp_val (hexec (run_copy_none hT ht hi h0)) (hn _ _ _ g _ _ hK (Env.le.refl g) (by rw [h0]; exact .i _ _) ?_)
            rw [overR_nil]
            exact (h.hp.weakObj t' hob ho0).weaken (fun _ x => x.1)
          cases rx with
          | sr0 p => exact fin _ _ rfl
          | sr _ _ _ cap l hl h1 h2 => exact fin _ _ rfl
        · cases rx with
          | sr0 p' =>
            have : ys = [] := List.eq_nil_of_length_eq_zero (by rw [hyl]; simp)
            subst this
            refine wp_val (hexec (run_copy_none hT ht hi (by simp))) (hn _ _ _ g _ _ hK (Env.le.refl g) (by simpa using RV.i _ _) ?_)
            rw [overR_nil]
            exact (h.hp.weakObj t' hob ho0).weaken (fun _ x => x.1)
          | sr _ _ _ cap l hl h1 h2 =>
            obtain ⟨cs, E, h4, hlk, hsz, hH⟩ := h.hp.overwrite (t' := t') (off := off) hob ho0 hl hoff (by omega) hyk hnl hnD
            refine wp_val (v := .int .i64 (min m len : Nat)) (hexec ?_) (hn _ _ _ g _ _ hK (Env.le.refl g) (.i _ _) (hH.weaken (fun _ x => x.1)))
            have hf := run_firstCells_some (P := P) w inf.size (min m len) p m capy news (by rw [hnl, hk, hyl]) hncell
            have hst := run_storeCells_at P l.b (l.base + off * k'') E news 0 cs w h4 (by simpa using hsz) hn1
            simp only [Nat.add_zero] at hst
            rw [splice_eq _ _ _ (by simpa using hsz)] at hst
            have hmin : Nat.min m len = min m len := rfl
            rw [hlk]
            simp [Builtin.copy_, hT, run_underlying ht, sizeOf, typeInfo, hi, Builtin.lenOf, hmin, hf, hst, goInt]
      · exact hm.elim
    split at hm
    · rename_i t k' es hob; exact key _ t k' es hob (.inl rfl) hm
    · rename_i t k' es C hob; exact key _ t k' es hob (.inr ⟨C, rfl⟩) hm
    · exact hm.elim
  · exact hm.elim

theorem zeroCells_get (z : Array Value) (n i j : Nat) (hi : i < n) (hj : j < z.size) : (Builtin.zeroCells z n)[i * z.size + j]? = z[j]? := by
  have hlt : i * z.size + j < n * z.size := by
    have : (i + 1) * z.size ≤ n * z.size := Nat.mul_le_mul_right _ hi
    rw [Nat.add_mul] at this; omega
  have hm : (i * z.size + j) % z.size = j := by rw [Nat.mul_comm, Nat.mul_add_mod, Nat.mod_eq_of_lt hj]
  simp only [Builtin.zeroCells]
  rw [Array.getElem?_eq_getElem (by simpa using hlt)]
  simp [hm, getElem!_pos z j hj, hj]

theorem S.clear {T e : TypeId} {x : Operand} {x' : Opd} {inf : TypeInfo} {z : Value} {ts : Array TypeId} {k : Nat} {zero : List D} (ho : o.op = .call { callee := .builtin .clear, args := #[x], argTypes := ts }) (hT : ts[0]? = some T)
    (hx : okOpd x x' = true) (ht : P.underlying T = some (.slice e)) (hi : P.info? e = some inf) (hk : inf.size = k) (hk0 : 0 < k) (hz : inf.zero = some z) (hzl : z.cells.size = k)
    (hzd : zero.length = k ∧ ∀ j, j < k → DR (fun _ => none) (z.cells.getD j undef) (zero.getD j default))
    (h : Rel P N A w0 F0 J0 g s a w) (hm : mop false P (.clear k zero x') n s K) (hn : Goes P A w0 F0 J0 g s.hp n o a K next) : o.wp P a w next Q := by
  have rx := h.val hx
  simp only [mop] at hm
  have hexec : ∀ {v : Value} {w' : World}, (Builtin.clear_ ts o.type #[a.eval x]).run P w = .ok v w' → (execOp a.eval o).run P w = .ok (.value v) w' := by
    intro v w' e1
    simp [execOp, ho, resolve, invoke, builtin, e1]
  split at hm
  · rename_i id off len hb
    split at hm
    · rename_i t k' es hob
      obtain ⟨rfl, hle, hK⟩ := hm
      rw [hb] at rx
      generalize hv : a.eval x = v at rx hexec
      have same : len = 0 → ∀ (p : Option Addr) (c : Nat), v = .slice p len c → o.wp P a w next Q := by
        rintro rfl p c rfl
        refine wp_val (v := .tuple #[]) (w' := w) (hexec ?_) (hn _ _ _ g _ _ hK (Env.le.refl g) (.tup _ _ .nil) ?_)
        · cases p <;> simp [Builtin.clear_, hT, run_underlying ht]
        · simp only [List.replicate_zero, overR_nil]
          have := (h.hp.weakObj true hob (.inl rfl)).weaken (A' := fun id => A id ∧ ¬(n ≤ id ∧ id < n + 64)) (fun _ x => x.1)
          rw [Bool.and_true] at this; exact this
      cases rx with
      | sr0 p => exact same rfl _ _ rfl
      | sr _ _ _ cap l hl h1 h2 =>
        cases len with
        | zero => exact same rfl _ _ rfl
        | succ len =>
          have hone : ∀ j, j < k' → ∃ u, z.cells[j]? = some u ∧ DR (g.im true) u (zero.getD j default) := fun j hj => by
            have hjz : j < z.cells.size := by omega
            refine ⟨z.cells[j], by simp [hjz], ?_⟩
            have := (hzd.2 j hj).mono (I' := g.im true) (fun b o x => by cases x)
            rwa [Array.getD_eq_getD_getElem?, Array.getElem?_eq_getElem hjz] at this
          have hcell : ∀ i j, i < len + 1 → j < k' → ∃ u, (Builtin.zeroCells z.cells (len + 1)).toList[i * k' + j]? = some u ∧ DR (g.im true) u (zero.getD j default) := fun i j hi hj => by
            obtain ⟨u, hu, hr⟩ := hone j hj
            refine ⟨u, ?_, hr⟩
            rw [Array.getElem?_toList, ← hzl, zeroCells_get _ _ _ _ hi (by omega), hu]
          obtain ⟨cs, E, h4, hlk, hsz, hH⟩ := h.hp.overwrite (t' := true) (off := off) (ys := List.replicate (len + 1) zero) (news := (Builtin.zeroCells z.cells (len + 1)).toList) hob (.inl rfl) hl (by omega) (by rw [List.length_replicate]; omega)
            (fun e he => by rw [(List.mem_replicate.1 he).2]; exact hzd.1) (by simp [size_zeroCells, hzl]) (fun i j hi hj => by
              simp at hi
              obtain ⟨u, hu, hr⟩ := hcell i j hi hj
              refine ⟨u, hu, ?_⟩
              have : cellD (List.replicate (len + 1) zero) i j = zero.getD j default := by simp [cellD, List.getD, hi]
              rw [this]; exact hr)
          rw [Bool.and_true] at hH
          refine wp_val (v := .tuple #[]) (hexec ?_) (hn _ _ _ g _ _ hK (Env.le.refl g) (.tup _ _ .nil) (hH.weaken (fun _ x => x.1)))
          have hn1 : ∀ u ∈ (Builtin.zeroCells z.cells (len + 1)).toList, u.oneCell' = true := fun u hu => by
            obtain ⟨p, hp, rfl⟩ := List.mem_iff_getElem.1 hu
            have hp' : p < (len + 1) * k' := by simpa [size_zeroCells, hzl] using hp
            have h1 : p / k' < len + 1 := by rw [Nat.div_lt_iff_lt_mul hk0]; exact hp'
            obtain ⟨u, hu, hr⟩ := hcell (p / k') (p % k') h1 (Nat.mod_lt _ hk0)
            have e1 : p / k' * k' + p % k' = p := by have := Nat.div_add_mod p k'; rw [Nat.mul_comm (p / k')]; omega
            rw [e1, List.getElem?_eq_getElem hp] at hu
            rw [Option.some.inj hu]; exact hr.one
          have hst := run_storeCells_at P l.b (l.base + off * k') E (Builtin.zeroCells z.cells (len + 1)).toList 0 cs w h4 (by simpa using hsz) hn1
          simp only [Nat.add_zero] at hst
          rw [splice_eq _ _ _ (by simpa using hsz)] at hst
          rw [hlk]
          simp [Builtin.clear_, hT, run_underlying ht, zeroValue, typeInfo, hi, hz, hst]
    · exact hm.elim
  · exact hm.elim

theorem run_append_zeros {t ti ty e : TypeId} {i : TypeInfo} {z : Value} {ik : IntKind} (ht : P.underlying t = some (.slice e)) (hti : P.underlying ti = some (.int ik)) (hi : P.info? e = some i) (hz : i.zero = some z)
    {px : Option Addr} {sLen sCap : Nat} {olds : List Value} (holds : ∀ w', w'.heap = w.heap → (Builtin.firstCells i.size sLen (.slice px sLen sCap)).run P w' = .ok olds.toArray w')
    {n : Nat} {kk : IntKind} (hn0 : 0 < n) (hs0 : 0 < i.size) (hg : sCap < sLen + n) (h63 : ((sLen + n : Nat) : Int) ≤ 140737488355328) (hnb : n * i.bytes ≤ 140737488355328) (hfit : Builtin.nextslicecap (sLen + n) sCap * i.bytes ≤ 281474976710656) :
    (Builtin.append_ #[t, ti] ty #[.slice px sLen sCap, .int kk n]).run P w =
      .ok (.slice (some ⟨w.heap.size, 0, none⟩) (sLen + n) (grownCap w (sLen + n) sCap e))
        (w.drew.alloc (.cells (olds.toArray ++ Builtin.zeroCells z.cells n ++ Builtin.zeroCells z.cells (grownCap w (sLen + n) sCap e - (sLen + n))) e)) := by
  have hn : ¬ (sLen + n ≤ sCap) := by omega
  have hw : IntKind.i64.wrap (n : Int) = n := fits64 (by omega) (by omega)
  have h1 : ¬ ((n : Int) < 0) := by omega
  have h2 : ¬ (281474976710656 < (n : Int) * (i.bytes : Int)) := by
    have : (((n * i.bytes : Nat)) : Int) ≤ 140737488355328 := by omega
    rw [Int.natCast_mul] at this; omega
  have h63' : ¬ (9223372036854775807 < ((sLen : Int) + (n : Int))) := by omega
  have h48' : ¬ (281474976710656 < Builtin.nextslicecap (sLen + n) sCap * i.bytes) := by omega
  have h3 : ¬ (n * i.size = 0) := by
    intro e; rcases Nat.mul_eq_zero.1 e with e | e <;> omega
  have h3' : ¬ (n = 0 ∨ i.size = 0) := by omega
  have hf := holds w.drew rfl
  have hmx : max (n : Int) 0 = n := by omega
  simp [Builtin.append_, run_underlying ht, run_underlying hti, asInt, asIntOf, hw, hmx, h1, h2, sizeOf, typeInfo, zeroValue, hi, hz, hn, h63', h48', h3, h3', Question.forced, hf, newRow, grownCap]

theorem S.appendMk {T TI e : TypeId} {x y : Operand} {x' y' : Opd} {inf : TypeInfo} {z : Value} {ik : IntKind} {k bytes : Nat} {zero : List D} (ho : o.op = .call { callee := .builtin .append, args := #[x, y], argTypes := #[T, TI] })
    (hx : okOpd x x' = true) (hy : okOpd y y' = true) (ht : P.underlying T = some (.slice e)) (hti : P.underlying TI = some (.int ik)) (hi : P.info? e = some inf) (hk : inf.size = k) (hk0 : 0 < k) (hby : inf.bytes = bytes) (hb0 : 0 < bytes)
    (hz : inf.zero = some z) (hzl : z.cells.size = k) (hzd : zero.length = k ∧ ∀ j, j < k → DR (fun _ => none) (z.cells.getD j undef) (zero.getD j default)) (hA : ∀ id, n ≤ id → id < n + 64 → A id)
    (h : Rel P N A w0 F0 J0 g s a w) (hm : mop false P (.appendMk k bytes zero x' y') n s K) (hn : Goes P A w0 F0 J0 g s.hp n o a K next) : o.wp P a w next Q := by
  have rx := h.val hx
  have ry := h.val hy
  simp only [mop] at hm
  have hexec : ∀ {v : Value} {w' : World}, (Builtin.append_ #[T, TI] o.type #[a.eval x, a.eval y]).run P w = .ok v w' → (execOp a.eval o).run P w = .ok (.value v) w' := by
    intro v w' e1
    simp [execOp, ho, resolve, invoke, builtin, e1]
  have hA0 := hA n (Nat.le_refl _) (by omega)
  split at hm
  · rename_i id off len kk m hb hb'
    split at hm
    · rename_i t k' es C hob
      obtain ⟨rfl, hm0, hle, hgr, hbd, hK⟩ := hm
      obtain ⟨mm, rfl⟩ := Int.eq_ofNat_of_zero_le (show 0 ≤ m by omega)
      simp only [Int.toNat_natCast] at *
      rw [hb] at rx; rw [hb'] at ry
      generalize hv : a.eval x = v at rx hexec
      generalize hv' : a.eval y = v' at ry hexec
      cases ry
      obtain ⟨hek, l0, h3, hC, hlk, cs, E, h4, h5, h6, h7⟩ := h.hp.objs id _ hob
      have hlx : ((es.drop off).take len).length = len := by simp; omega
      have hxk : ∀ el ∈ (es.drop off).take len, el.length = k' := fun el he => hek el (List.mem_of_mem_drop (List.mem_of_mem_take he))
      have hbd2 : (len + mm) * bytes ≤ 140737488355328 := Int.ofNat_le.1 (by rw [Int.natCast_mul]; exact hbd)
      have hbd3 : len + mm ≤ 140737488355328 := Nat.le_trans (Nat.le_mul_of_pos_right _ hb0) hbd2
      have hbd4 : mm * bytes ≤ 140737488355328 := Nat.le_trans (Nat.mul_le_mul_right _ (by omega)) hbd2
      have hone : ∀ j, j < k' → ∃ u, z.cells[j]? = some u ∧ ∀ g' : Env, DR (g'.im t) u (zero.getD j default) := fun j hj => by
        have hjz : j < z.cells.size := by omega
        refine ⟨z.cells[j], by simp [hjz], fun g' => ?_⟩
        have := (hzd.2 j hj).mono (I' := g'.im t) (fun b o x => by cases x)
        rwa [Array.getD_eq_getD_getElem?, Array.getElem?_eq_getElem hjz] at this
      have fin : ∀ (px : Option Addr) (cap : Nat) (olds : List Value), v = .slice px len cap → cap < len + mm → olds.length = len * k' →
          (∀ w', w'.heap = w.heap → (Builtin.firstCells inf.size len (.slice px len cap)).run P w' = .ok olds.toArray w') →
          (∀ i j, i < len → j < k' → ∃ u, olds[i * k' + j]? = some u ∧ DR (g.im t) u (cellD ((es.drop off).take len) i j)) → o.wp P a w next Q := by
        rintro px cap olds rfl hcap hol hf hoD
        have hgrow := growslice_fits (bytes := bytes) hcap hbd2
        have hrun := run_append_zeros (P := P) (w := w) (ty := o.type) (kk := kk) (n := mm) ht hti hi hz hf (by omega) (by omega) hcap (by omega) (by rw [hby]; exact hbd4) (by rw [hby]; exact hgrow)
        have hge := grownCap_ge w (len + mm) cap e
        have hr1 : HRel P A w0 F0 J0 g s.hp w.drew := h.hp.drew
        have hinj := (hr1.avail n hA0).1
        have hleg := Env.le_at (l := ⟨w.heap.size, 0, k', grownCap w (len + mm) cap e⟩) hinj
        refine wp_val (hexec hrun) (hn _ _ _ (g.at n ⟨w.heap.size, 0, k', grownCap w (len + mm) cap e⟩) _ _ hK hleg ?_ ?_)
        · have := RV.sr (P := P) (g := g.at n ⟨w.heap.size, 0, k', grownCap w (len + mm) cap e⟩) n 0 (len + mm) (grownCap w (len + mm) cap e) ⟨w.heap.size, 0, k', grownCap w (len + mm) cap e⟩ (by simp [Env.at]) (by simp) hge
          simpa using this
        · refine notin_weak (hr1.alloc hA0 rfl (mo := .arr t k' ((es.drop off).take len ++ List.replicate mm zero)) ⟨fun el he => ?_, .inr ⟨⟨w.heap.size, 0, k', grownCap w (len + mm) cap e⟩, by simp [Env.at], rfl, _, e, heap_alloc_new _ _, ?_, ?_, fun i j hi' hj' => ?_⟩⟩)
          · rcases List.mem_append.1 he with he | he
            · exact hxk el he
            · rw [(List.mem_replicate.1 he).2]; exact hzd.1
          · simp only [Array.size_append, List.size_toArray, size_zeroCells, hzl, hol, ← Nat.add_mul]
            simp only [Nat.zero_add]
            apply Nat.mul_le_mul_right; omega
          · simp only [List.length_append, hlx, List.length_replicate]; exact hge
          · simp only [List.length_append, hlx, List.length_replicate] at hi'
            simp only [Nat.zero_add]
            rw [cellD_append, hlx]
            by_cases hix : i < len
            · obtain ⟨u, hu, hr⟩ := hoD i j hix hj'
              have : (i + 1) * k' ≤ len * k' := Nat.mul_le_mul_right _ (by omega)
              rw [Nat.add_mul] at this
              refine ⟨u, ?_, by rw [if_pos hix]; exact hr.mono (hleg.im _)⟩
              rw [Array.getElem?_append_left (by simp [size_zeroCells]; omega), Array.getElem?_append_left (by simp; omega)]
              simpa using hu
            · obtain ⟨u, hu, hr⟩ := hone j hj'
              have e1 : i * k' = len * k' + (i - len) * k' := by rw [← Nat.add_mul]; congr 1; omega
              have e2 : (i - len + 1) * k' ≤ mm * k' := Nat.mul_le_mul_right _ (by omega)
              rw [Nat.add_mul] at e2
              refine ⟨u, ?_, ?_⟩
              · rw [Array.getElem?_append_left (by simp [size_zeroCells, hzl]; omega), Array.getElem?_append_right (by simp; omega)]
                rw [show i * k' + j - olds.toArray.size = (i - len) * z.cells.size + j by simp [hzl]; omega, zeroCells_get _ _ _ _ (by omega) (by omega), hu]
              · rw [if_neg hix]
                have : cellD (List.replicate mm zero) (i - len) j = zero.getD j default := by simp [cellD, List.getD, show i - len < mm by omega]
                rw [this]; exact hr _
      cases rx with
      | sr0 p =>
        refine fin p 0 [] rfl (by omega) (by simp) (fun w' _ => ?_) (fun i j hi _ => by omega)
        cases p <;> simp [Builtin.firstCells, loadCells, loadCellsFrom]
      | sr _ _ _ cap lq hl h1 h2 =>
        obtain rfl : l0 = lq := by rw [hl] at h3; exact (Option.some.inj h3).symm
        have hcell : ∀ i j, i < len → j < k' → ∃ u, cs[l0.base + off * k' + i * k' + j]? = some u ∧ DR (g.im t) u (cellD ((es.drop off).take len) i j) := fun i j hi hj => by
          obtain ⟨u, hu, hr⟩ := h7 (off + i) j (by omega) hj
          refine ⟨u, ?_, ?_⟩
          · rw [← hu, Nat.add_mul]; congr 1; omega
          · have e1 : cellD ((es.drop off).take len) i j = cellD es (off + i) j := by simp [cellD, List.getD, List.getElem?_take_of_lt hi]
            rw [e1]; exact hr
        rcases news_of (w := w) (I := g.im t) (ys := (es.drop off).take len) (p := some ⟨l0.b, l0.base + off * k', none⟩) hk0
          (.inr ⟨l0.b, l0.base + off * k', cs, E, (0, 0), rfl, h4, fun i j hi hj => hcell i j (by rw [hlx] at hi; exact hi) hj⟩) with h0 | ⟨p', news, e0, hnl, hnc, hn1, hnD⟩
        · have : len = 0 := by rw [← hlx, h0]; rfl
          subst this
          refine fin _ cap [] rfl (by omega) (by simp) (fun w' _ => ?_) (fun i j hi _ => by omega)
          simp [Builtin.firstCells, loadCells, loadCellsFrom]
        · cases e0
          refine fin _ cap news (by rw [hlk]) (by omega) (by rw [hnl, hlx]) (fun w' hw' => ?_) (fun i j hi hj => hnD i j (by rw [hlx]; exact hi) hj)
          refine run_firstCells_some (P := P) w' inf.size len _ len cap news (by rw [hnl, hlx, hk]) (fun j u hj => ?_)
          have := hnc j u hj
          simpa [World.cell?, hw'] using this
    · exact hm.elim
  · exact hm.elim

theorem S.overlaps {f : FuncId} {x y : Operand} {x' y' : Opd} {ts : Array TypeId} (ho : o.op = .call { callee := .value (.func f), args := #[x, y], argTypes := ts }) (hx : okOpd x x' = true) (hy : okOpd y y' = true)
    (h : Rel P N A w0 F0 J0 g s a w) (hm : mop false P (.overlaps f x' y') n s K) (hn : Goes P A w0 F0 J0 g s.hp n o a K next) : o.wp P a w next Q := by
  have rx := h.val hx
  have ry := h.val hy
  simp only [mop] at hm
  split at hm
  · rename_i id off len id' off' len' hb hb'
    split at hm
    · rename_i o1 o2 hob hob'
      obtain ⟨⟨fd, T, R, e, inf, hf, hname, hbody, hnx, hfind, hT, hinf⟩, l1, l2, i1, i2, hne, hK⟩ := hm
      have fin : (Extern.SlicesOverlaps.overlaps #[T, T] #[R] #[a.eval x, a.eval y]).run P w = .ok (.bool false) w → o.wp P a w next Q := by
        intro hov
        refine hn.same h hK (.b false) ?_
        have := run_callFunc_extern hf hname hbody hnx hfind #[a.eval x, a.eval y] w
        rw [hov] at this
        have hfv : a.eval (.func f) = .func (.func f) #[] #[] := rfl
        simp [execOp, ho, resolve, hfv, Deferred.ofValue, invoke, this, Result.andThen]
      rw [hb] at rx
      rw [hb'] at ry
      have lv : ∀ o : MO, hasRow o = true → o.live = true := fun o h => by cases o <;> simp [hasRow] at h <;> rfl
      generalize hv : a.eval x = v at rx fin
      generalize hv' : a.eval y = v' at ry fin
      have hz : ∀ w, (Go.sizeOf e).run P w = .ok inf.size w := fun w => by simp [sizeOf, typeInfo, hinf]
      have cells : ∀ (i : Nat) (oo : MO) (ll : Loc), look s.hp i = some oo → hasRow oo = true → g.inj i = some ll → ∃ (cs : Array Value) (E : TypeId), w.heap[ll.b]? = some (.cells cs E (0, 0)) ∧ cs.size ≠ 0 := by
        intro i oo ll hoo hr hll
        have key : ∀ t k (es : List (List D)), 0 < k ∧ 0 < es.length → BRep (g.im t) w ll k es → ∃ (cs : Array Value) (E : TypeId), w.heap[ll.b]? = some (.cells cs E (0, 0)) ∧ cs.size ≠ 0 := by
          rintro t k es ⟨hk, he⟩ ⟨_, cs, E, h4, _, _, h7⟩
          obtain ⟨u, hu, _⟩ := h7 0 0 he hk
          exact ⟨cs, E, h4, fun e => by rw [Array.getElem?_eq_none (by omega)] at hu; cases hu⟩
        cases oo with
        | arr t k es =>
          obtain ⟨_, ⟨_, h3⟩ | ⟨l', h3, hb⟩⟩ := h.hp.objs i _ hoo
          · rw [hll] at h3; cases h3
          · rw [hll] at h3; cases h3; exact key t k es (by simpa [hasRow] using hr) hb
        | rm t k es C =>
          obtain ⟨_, l', h3, _, hb⟩ := h.hp.objs i _ hoo
          rw [hll] at h3; cases h3; exact key t k es (by simpa [hasRow] using hr) hb
        | fz t k es => simp [hasRow] at hr
        | box cs => simp [hasRow] at hr
      cases rx with
      | sr0 p => omega
      | sr _ _ _ cap l hl h1 h2 =>
        cases ry with
        | sr0 q => omega
        | sr _ _ _ cap' l' hl' h1' h2' =>
          obtain ⟨cs, E, hc, _⟩ := cells _ _ _ hob i1 hl
          obtain ⟨cs', E', hc', h0⟩ := cells _ _ _ hob' i2 hl'
          have hbb : l.b ≠ l'.b := fun e => hne (h.hp.sep id id' o1 o2 l l' hob hob' (lv _ i1) (lv _ i2) hl hl' e)
          exact fin (Lib.run_overlaps_apart w T R e hT inf.size hz ⟨l.b, l.base + off * l.k, none⟩ ⟨l'.b, l'.base + off' * l'.k, none⟩ len cap len' cap' hbb E E' cs.size cs'.size
              (by simp [World.shape?, hc]) (by simp [World.shape?, hc']) h0 (by simp [World.frozen?, hc]) (by simp [World.frozen?, hc]))
    · exact hm.elim
  · exact hm.elim
end
end Go.Fw
