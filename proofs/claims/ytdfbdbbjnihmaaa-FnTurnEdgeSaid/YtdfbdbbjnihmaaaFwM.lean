/-
  append.
-/
import Derived.Test.YtdfbdbbjnihmaaaFwL
import Derived.Laws.AppendOwn
namespace Go.Fw
set_option linter.unusedVariables false
set_option linter.unusedSimpArgs false
section
variable {P : Program} {N : FrS} {A : Nat → Prop} {w0 : World} {F0 : List Nat} {J0 : Imm} {g : Env} {s : MS} {a : Act} {w : World} {hp : List (Nat × MO)}
variable {n : Nat} {o : Oper} {K : MK} {next : Act → World → Prop} {Q : Exit → Act → World → Prop}

theorem HRel.kills : ∀ (ids : List Nat) {hp : List (Nat × MO)}, HRel P A w0 F0 J0 g hp w →
    HRel P A w0 F0 J0 g (upds hp (ids.map (·, none))) w ∧ ∀ i o, look (upds hp (ids.map (·, none))) i = some o → look hp i = some o ∧ i ∉ ids := by
  intro ids
  induction ids with
  | nil => intro hp h; exact ⟨h, fun i o x => ⟨x, by simp⟩⟩
  | cons d r ih =>
    intro hp h
    obtain ⟨h1, h2⟩ := ih (h.kill d)
    refine ⟨h1, fun i o x => ?_⟩
    obtain ⟨h3, h4⟩ := h2 i o x
    rw [look_del] at h3
    by_cases e : d = i
    · simp [e] at h3
    · simp [e] at h3; exact ⟨h3, by simp [Ne.symm e, h4]⟩

/-- An empty array that lies nowhere. -/
theorem HRel.ghost (h : HRel P A w0 F0 J0 g hp w) (hA : A n) (t : Bool) (k : Nat) : HRel P (fun id => A id ∧ id ≠ n) w0 F0 J0 g (put hp n (.arr t k [])) w := by
  have ha := h.avail n hA
  have hput : ∀ {id o l}, look (put hp n (.arr t k [])) id = some o → g.inj id = some l → look hp id = some o := fun {id o l} x y => by
    rw [look_put] at x
    by_cases e : n = id
    · subst e; rw [ha.1] at y; cases y
    · rwa [if_neg e] at x
  refine ⟨fun id o x => ?_, fun id x => ⟨(h.avail id x.1).1, by rw [look_put, if_neg (Ne.symm x.2)]; exact (h.avail id x.1).2⟩,
    fun id1 id2 o1 o2 l1 l2 a1 a2 b1 b2 c1 c2 => h.sep id1 id2 o1 o2 l1 l2 (hput a1 c1) (hput a2 c2) b1 b2 c1 c2,
    fun id o l a1 b1 c1 => h.disj id o l (hput a1 c1) b1 c1, fun id o l a1 b1 c1 => h.fresh id o l (hput a1 c1) b1 c1, h.imm, h.JI, h.Jf, h.ext⟩
  rw [look_put] at x
  by_cases e : n = id
  · subst e; simp at x; subst x; exact ⟨by simp, .inl ⟨rfl, ha.1⟩⟩
  · rw [if_neg e] at x; exact h.objs id o x

theorem run_append_in {T ty e : TypeId} {inf : TypeInfo} (ht : P.underlying T = some (.slice e)) (hi : P.info? e = some inf) {b q sLen sCap : Nat} {cur : Array Value} {E : TypeId}
    (hb : w.heap[b]? = some (.cells cur E (0, 0))) {p : Addr} {m c : Nat} {news : List Value} (hl : news.length = m * inf.size) (hnews : ∀ j u, news[j]? = some u → w.cell? (p.add j) = some u)
    (h1 : ∀ u ∈ news, u.oneCell' = true) (hroom : sLen + m ≤ sCap) (hfit : q + sLen * inf.size + news.length ≤ cur.size) :
    (Builtin.append_ #[T, T] ty #[.slice (some ⟨b, q, none⟩) sLen sCap, .slice (some p) m c]).run P w =
      .ok (.slice (some ⟨b, q, none⟩) (sLen + m) sCap) (w.setRow b (splice cur.toList (q + sLen * inf.size) news).toArray) := by
  have hf := run_firstCells_some (P := P) w inf.size m p m c news hl hnews
  have hst := run_storeCells_at P b (q + sLen * inf.size) E news 0 cur w hb (by simpa using hfit) h1
  simp only [Nat.add_zero] at hst
  rw [splice_eq _ _ _ (by simpa using hfit)] at hst
  have hadd : (⟨b, q, none⟩ : Addr).add (sLen * inf.size) = ⟨b, q + sLen * inf.size, none⟩ := by
    by_cases e : sLen * inf.size = 0
    · simp [Addr.add, e]
    · simp [Addr.add, e]
  simp [Builtin.append_, run_underlying ht, sizeOf, typeInfo, hi, Builtin.lenOf, hroom, hf, hadd, hst]

theorem run_append_none {T ty e : TypeId} {inf : TypeInfo} (ht : P.underlying T = some (.slice e)) (hi : P.info? e = some inf) {px py : Option Addr} {sLen sCap c : Nat} (hle : sLen ≤ sCap) :
    (Builtin.append_ #[T, T] ty #[.slice px sLen sCap, .slice py 0 c]).run P w = .ok (.slice px sLen sCap) w := by
  cases px <;> cases py <;> simp [Builtin.append_, run_underlying ht, sizeOf, typeInfo, hi, Builtin.lenOf, hle, Builtin.firstCells, loadCells, loadCellsFrom, storeCells]

theorem cells_chunks {k : Nat} (hk : 0 < k) {cs : Array Value} {q m : Nat} (h : ∀ i j, i < m → j < k → ∃ u, cs[q + i * k + j]? = some u) (p : Nat) (hp : p < m * k) : ∃ u, cs[q + p]? = some u := by
  have h1 : p / k < m := by rw [Nat.div_lt_iff_lt_mul hk]; exact hp
  obtain ⟨u, hu⟩ := h (p / k) (p % k) h1 (Nat.mod_lt _ hk)
  refine ⟨u, ?_⟩
  rw [← hu]; congr 1
  have := Nat.div_add_mod p k
  rw [Nat.mul_comm (p / k)]; omega

theorem cellD_append (xs ys : List (List D)) (i j : Nat) : cellD (xs ++ ys) i j = if i < xs.length then cellD xs i j else cellD ys (i - xs.length) j := by
  simp only [cellD, List.getD]
  by_cases h : i < xs.length
  · rw [List.getElem?_append_left h, if_pos h]
  · rw [List.getElem?_append_right (by omega), if_neg h]

theorem S.append {T e : TypeId} {x y : Operand} {x' y' : Opd} {inf : TypeInfo} {z : Value} {k bytes : Nat} {drop : Bool} (ho : o.op = .call { callee := .builtin .append, args := #[x, y], argTypes := #[T, T] })
    (hx : okOpd x x' = true) (hy : okOpd y y' = true) (ht : P.underlying T = some (.slice e)) (hi : P.info? e = some inf) (hk : inf.size = k) (hk0 : 0 < k) (hby : inf.bytes = bytes) (hb0 : 0 < bytes)
    (hz : inf.zero = some z) (hzl : z.cells.size = k) (hA : ∀ id, n ≤ id → id < n + 64 → A id)
    (h : Rel P N A w0 F0 J0 g s a w) (hm : mop false P (.append k bytes drop x' y') n s K) (hn : Goes P A w0 F0 J0 g s.hp n o a K next) : o.wp P a w next Q := by
  have rx := h.val hx
  have ry := h.val hy
  simp only [mop] at hm
  have hexec : ∀ {v : Value} {w' : World}, (Builtin.append_ #[T, T] o.type #[a.eval x, a.eval y]).run P w = .ok v w' → (execOp a.eval o).run P w = .ok (.value v) w' := by
    intro v w' e1
    simp [execOp, ho, resolve, invoke, builtin, e1]
  have hA0 := hA n (Nat.le_refl _) (by omega)
  split at hm
  · rename_i t' k' ys rs hs
    obtain ⟨rfl, hm⟩ := hm
    obtain ⟨hyk, py, leny, capy, hvy, hlen, hcapy, hycells⟩ := h.hp.slice ry hs
    rw [hvy] at hexec
    -- the cells that are appended
    have hnews : ys = [] ∨ ∃ (p : Addr) (news : List Value), py = some p ∧ news.length = ys.length * k' ∧ (∀ j u, news[j]? = some u → w.cell? (p.add j) = some u) ∧ (∀ u ∈ news, u.oneCell' = true) ∧
        ∀ i j, i < ys.length → j < k' → ∃ u, news[i * k' + j]? = some u ∧ DR (g.im t') u (cellD ys i j) := by
      rcases hycells with e | ⟨b, q, cs, E, zz, rfl, hb, hc, _⟩
      · exact .inl e
      · right
        have hall := cells_chunks hk0 (cs := cs) (q := q) (m := ys.length) (fun i j hi hj => by obtain ⟨u, hu, _⟩ := hc i j hi hj; exact ⟨u, hu⟩)
        have hget : ∀ p, p < ys.length * k' → cs[q + p]? = some (cs.getD (q + p) undef) := fun p hp => by
          obtain ⟨u, hu⟩ := hall p hp
          rw [hu, Array.getD_eq_getD_getElem?, hu]; rfl
        refine ⟨⟨b, q, none⟩, (List.range (ys.length * k')).map (fun p => cs.getD (q + p) undef), rfl, by simp, fun j u hj => ?_, fun u hu => ?_, fun i j hi hj => ?_⟩
        · by_cases hjl : j < ys.length * k'
          · rw [List.getElem?_map, List.getElem?_range hjl] at hj
            simp at hj; subst hj
            have hadd : (⟨b, q, none⟩ : Addr).add j = ⟨b, q + j, none⟩ := by
              by_cases e : j = 0
              · subst e; simp [Addr.add]
              · simp [Addr.add, e]
            rw [hadd, cell_of_row w b (q + j) cs E zz hb, hget j hjl]; simp
          · rw [List.getElem?_eq_none (by simp; omega)] at hj; cases hj
        · simp at hu
          obtain ⟨p, hp, rfl⟩ := hu
          have h1 : p / k' < ys.length := by rw [Nat.div_lt_iff_lt_mul hk0]; exact hp
          obtain ⟨u, hu, hr⟩ := hc (p / k') (p % k') h1 (Nat.mod_lt _ hk0)
          have e1 : q + p / k' * k' + p % k' = q + p := by have := Nat.div_add_mod p k'; rw [Nat.mul_comm (p / k')]; omega
          rw [e1] at hu
          have : cs.getD (q + p) undef = u := by rw [Array.getD_eq_getD_getElem?, hu]; rfl
          rw [← Array.getD_eq_getD_getElem?, this]; exact hr.one
        · obtain ⟨u, hu, hr⟩ := hc i j hi hj
          have hlt : i * k' + j < ys.length * k' := by
            have : (i + 1) * k' ≤ ys.length * k' := Nat.mul_le_mul_right _ (by omega)
            rw [Nat.add_mul] at this; omega
          refine ⟨u, ?_, hr⟩
          rw [List.getElem?_map, List.getElem?_range hlt]
          simp only [Option.map_some, ← Nat.add_assoc]
          rw [Array.getD_eq_getD_getElem?, hu]; rfl
    -- what is made of it, whatever the first operand
    have fin : ∀ (t : Bool) (xs : List (List D)) (kl : List Nat) (px : Option Addr) (capx : Nat), (∀ el ∈ xs, el.length = k') → a.eval x = .slice px xs.length capx → xs.length ≤ capx →
        (((xs.length + ys.length : Nat) : Int) * bytes ≤ 140737488355328) →
        ((xs = [] ∧ capx = 0) ∨ ∃ (b q : Nat) (cur : Array Value) (E : TypeId), px = some ⟨b, q, none⟩ ∧ w.heap[b]? = some (.cells cur E (0, 0)) ∧ q + capx * k' ≤ cur.size ∧ g.I b = none ∧ (w0.heap.size ≤ b ∨ b ∈ F0) ∧
          (xs.length + ys.length ≤ capx → ∀ id o l1, look s.hp id = some o → id ∉ kl → o.live = true → g.inj id = some l1 → l1.b ≠ b) ∧ ∀ i j, i < xs.length → j < k' → ∃ u, cur[q + i * k' + j]? = some u ∧ DR (g.im t) u (cellD xs i j)) →
        K (.sr n 0 (xs.length + ys.length)) (kl.map (·, none) ++ [(n, some (.arr (t && t') k' (xs ++ ys)))]) (rs) ∨ (∃ rd, K (.sr n 0 (xs.length + ys.length)) (kl.map (·, none) ++ [(n, some (.arr (t && t') k' (xs ++ ys)))]) rd) →
        o.wp P a w next Q := by
      intro t xs kl px capx hxk hvx hxc hbd hplace hK
      obtain ⟨rd, hK⟩ : ∃ rd, K (.sr n 0 (xs.length + ys.length)) (kl.map (·, none) ++ [(n, some (.arr (t && t') k' (xs ++ ys)))]) rd := by
        rcases hK with h1 | h1
        · exact ⟨rs, h1⟩
        · exact h1
      obtain ⟨hk1, hk2⟩ := h.hp.kills kl
      have weakI : ∀ (g' : Env), (∀ b o, g'.J b = some o → g'.I b = some o) → ∀ (ta tb : Bool) {v : Value} {d : D}, DR (g'.im ta) v d → DR (g'.im (ta && tb)) v d := fun g' hJ ta tb v d hh => by
        cases ta <;> cases tb <;> first | exact hh | exact hh.mono (fun b o x => hJ b o x)
      have weakI' : ∀ (g' : Env), (∀ b o, g'.J b = some o → g'.I b = some o) → ∀ (ta tb : Bool) {v : Value} {d : D}, DR (g'.im tb) v d → DR (g'.im (ta && tb)) v d := fun g' hJ ta tb v d hh => by
        rw [Bool.and_comm]; exact weakI g' hJ tb ta hh
      have helen : ∀ el ∈ xs ++ ys, el.length = k' := fun el he => by
        rcases List.mem_append.1 he with he | he
        · exact hxk el he
        · exact hyk el he
      rw [hvx, hlen] at hexec
      have hbd2 : (xs.length + ys.length) * bytes ≤ 140737488355328 := Int.ofNat_le.1 (by rw [Int.natCast_mul]; exact hbd)
      have hbd3 : xs.length + ys.length ≤ 140737488355328 := Nat.le_trans (Nat.le_mul_of_pos_right _ hb0) hbd2
      -- a new row
      have newrow : ∀ (w1 : World) (cells : Array Value) (cap : Nat), HRel P A w0 F0 J0 g (upds s.hp (kl.map (·, none))) w1 → w1.heap.size = w.heap.size → xs.length + ys.length ≤ cap → cells.size = cap * k' →
          (∀ i j, i < xs.length + ys.length → j < k' → ∃ u, cells[i * k' + j]? = some u ∧ DR (g.im (t && t')) u (cellD (xs ++ ys) i j)) →
          (execOp a.eval o).run P w = .ok (.value (.slice (some ⟨w.heap.size, 0, none⟩) (xs.length + ys.length) cap)) (w1.alloc (.cells cells e (0, 0))) → o.wp P a w next Q := by
        intro w1 cells cap hr1 hsz hcap hcs hcells hrun
        have hinj := (hr1.avail n hA0).1
        have hle := Env.le_at (l := ⟨w.heap.size, 0, k', cap⟩) hinj
        refine wp_val hrun (hn _ _ _ (g.at n ⟨w.heap.size, 0, k', cap⟩) _ _ hK hle ?_ ?_)
        · have := RV.sr (P := P) (g := g.at n ⟨w.heap.size, 0, k', cap⟩) n 0 (xs.length + ys.length) cap ⟨w.heap.size, 0, k', cap⟩ (by simp [Env.at]) (by simp) hcap
          simpa using this
        · rw [upds_append]
          refine notin_weak (hr1.alloc hA0 hsz.symm (o := .cells cells e (0, 0)) (mo := .arr (t && t') k' (xs ++ ys)) ⟨helen, .inr ⟨⟨w.heap.size, 0, k', cap⟩, by simp [Env.at], rfl, cells, e, ?_, by simp [hcs], by simpa using hcap, fun i j hi' hj' => ?_⟩⟩)
          · rw [← hsz]; exact heap_alloc_new w1 _
          · obtain ⟨u, hu, hr⟩ := hcells i j (by simpa using hi') hj'
            exact ⟨u, by simpa using hu, hr.mono (hle.im _)⟩
      rcases hnews with hy0 | ⟨p, news, rfl, hnl, hncell, hn1, hnD⟩
      · -- nothing is appended
        subst hy0
        have hrun := run_append_none (P := P) (w := w) (ty := o.type) (px := px) (py := py) (c := capy) ht hi hxc
        simp only [List.length_nil, Nat.add_zero, List.append_nil] at hK hexec
        rcases hplace with ⟨rfl, rfl⟩ | ⟨b, q, cur, E, rfl, hb, hfit, hI, hfr, hfree, hcur⟩
        · refine wp_val (hexec hrun) (hn _ _ _ g _ _ hK (Env.le.refl g) (.sr0 _ _ _) ?_)
          rw [upds_append]
          exact notin_weak (hk1.ghost hA0 (t && t') k')
        · have hinj := (hk1.avail n hA0).1
          have hle := Env.le_at (l := ⟨b, q, k', capx⟩) hinj
          refine wp_val (hexec hrun) (hn _ _ _ (g.at n ⟨b, q, k', capx⟩) _ _ hK hle ?_ ?_)
          · have := RV.sr (P := P) (g := g.at n ⟨b, q, k', capx⟩) n 0 xs.length capx ⟨b, q, k', capx⟩ (by simp [Env.at]) (by simp) hxc
            simpa using this
          · rw [upds_append]
            refine notin_weak (hk1.adopt hA0 (fun id o l1 a1 a2 a3 => hfree (by simpa using hxc) id o l1 (hk2 id o a1).1 (hk2 id o a1).2 a2 a3) hI hfr (WExt.refl w _) (mo := .arr (t && t') k' xs)
              ⟨hxk, .inr ⟨⟨b, q, k', capx⟩, by simp [Env.at], rfl, cur, E, hb, by simpa using hfit, hxc, fun i j hi' hj' => ?_⟩⟩)
            obtain ⟨u, hu, hr⟩ := hcur i j hi' hj'
            exact ⟨u, hu, (weakI g h.hp.JI _ _ hr).mono (hle.im _)⟩
      · by_cases hroom : xs.length + ys.length ≤ capx
        · -- in place
          rcases hplace with ⟨rfl, rfl⟩ | ⟨b, q, cur, E, rfl, hb, hfit, hI, hfr, hfree, hcur⟩
          · have hy0 : ys = [] := List.eq_nil_of_length_eq_zero (by simp at hroom; simpa using hroom)
            subst hy0
            have hrun := run_append_none (P := P) (w := w) (ty := o.type) (px := px) (py := some p) (c := capy) ht hi hxc
            simp only [List.length_nil, Nat.add_zero, List.append_nil] at hK hexec
            refine wp_val (hexec hrun) (hn _ _ _ g _ _ hK (Env.le.refl g) (.sr0 _ _ _) ?_)
            rw [upds_append]
            exact notin_weak (hk1.ghost hA0 (t && t') k')
          · have hfit2 : q + xs.length * inf.size + news.length ≤ cur.size := by
              have : (xs.length + ys.length) * k' ≤ capx * k' := Nat.mul_le_mul_right _ hroom
              rw [Nat.add_mul] at this; rw [hnl, hk]; omega
            have hrun := run_append_in (P := P) (w := w) (ty := o.type) (c := capy) ht hi hb (by rw [hnl, hk]) hncell hn1 hroom hfit2
            have hinj := (hk1.avail n hA0).1
            have hle := Env.le_at (l := ⟨b, q, k', capx⟩) hinj
            have hw := WExt.setRow (w := w) (cs' := (splice cur.toList (q + xs.length * inf.size) news).toArray) hb (by simp [splice_length])
            refine wp_val (hexec hrun) (hn _ _ _ (g.at n ⟨b, q, k', capx⟩) _ _ hK hle ?_ ?_)
            · have := RV.sr (P := P) (g := g.at n ⟨b, q, k', capx⟩) n 0 (xs.length + ys.length) capx ⟨b, q, k', capx⟩ (by simp [Env.at]) (by simp) hroom
              simpa using this
            · rw [upds_append]
              refine notin_weak (hk1.adopt hA0 (fun id o l1 a1 a2 a3 => hfree hroom id o l1 (hk2 id o a1).1 (hk2 id o a1).2 a2 a3) hI hfr hw (mo := .arr (t && t') k' (xs ++ ys))
                ⟨helen, .inr ⟨⟨b, q, k', capx⟩, by simp [Env.at], rfl, _, E, setRow_heap w b cur _ E _ hb, by simp [splice_length]; exact hfit, by simpa using hroom, fun i j hi' hj' => ?_⟩⟩)
              simp at hi'
              dsimp only
              rw [List.getElem?_toArray, splice_get, hk, cellD_append]
              by_cases hix : i < xs.length
              · obtain ⟨u, hu, hr⟩ := hcur i j hix hj'
                have : (i + 1) * k' ≤ xs.length * k' := Nat.mul_le_mul_right _ (by omega)
                rw [Nat.add_mul] at this
                rw [if_neg (by omega), if_pos hix]
                exact ⟨u, by simpa using hu, (weakI g h.hp.JI _ _ hr).mono (hle.im _)⟩
              · obtain ⟨u, hu, hr⟩ := hnD (i - xs.length) j (by omega) hj'
                have e1 : i * k' = xs.length * k' + (i - xs.length) * k' := by rw [← Nat.add_mul]; congr 1; omega
                have e2 : (i - xs.length + 1) * k' ≤ ys.length * k' := Nat.mul_le_mul_right _ (by omega)
                rw [Nat.add_mul] at e2
                rw [hk] at hfit2
                rw [if_pos ⟨by omega, by omega, by simp; omega⟩, if_neg hix]
                refine ⟨u, ?_, (weakI' g h.hp.JI _ _ hr).mono (hle.im _)⟩
                rw [← hu]; congr 1; omega
        · -- a new row
          have hgrow := growslice_fits (bytes := bytes) (show capx < xs.length + ys.length by omega) hbd2
          have mix : ∀ (olds : List Value) (rest : Array Value), olds.length = xs.length * k' → (∀ i j, i < xs.length → j < k' → ∃ u, olds[i * k' + j]? = some u ∧ DR (g.im t) u (cellD xs i j)) →
              ∀ i j, i < xs.length + ys.length → j < k' → ∃ u, (olds.toArray ++ news.toArray ++ rest)[i * k' + j]? = some u ∧ DR (g.im (t && t')) u (cellD (xs ++ ys) i j) := by
            intro olds rest hol holds i j hi' hj'
            rw [cellD_append]
            by_cases hix : i < xs.length
            · obtain ⟨u, hu, hr⟩ := holds i j hix hj'
              have : (i + 1) * k' ≤ xs.length * k' := Nat.mul_le_mul_right _ (by omega)
              rw [Nat.add_mul] at this
              refine ⟨u, ?_, by rw [if_pos hix]; exact weakI g h.hp.JI _ _ hr⟩
              rw [Array.getElem?_append_left (by simp; omega), Array.getElem?_append_left (by simp; omega)]
              simpa using hu
            · obtain ⟨u, hu, hr⟩ := hnD (i - xs.length) j (by omega) hj'
              have e1 : i * k' = xs.length * k' + (i - xs.length) * k' := by rw [← Nat.add_mul]; congr 1; omega
              have e2 : (i - xs.length + 1) * k' ≤ ys.length * k' := Nat.mul_le_mul_right _ (by omega)
              rw [Nat.add_mul] at e2
              refine ⟨u, ?_, by rw [if_neg hix]; exact weakI' g h.hp.JI _ _ hr⟩
              rw [Array.getElem?_append_left (by simp; omega), Array.getElem?_append_right (by simp; omega)]
              rw [show i * k' + j - olds.toArray.size = (i - xs.length) * k' + j by simp; omega]
              simpa using hu
          have hge := grownCap_ge w (xs.length + ys.length) capx e
          have size : ∀ (olds : List Value), olds.length = xs.length * k' → (olds.toArray ++ news.toArray ++ Builtin.zeroCells z.cells (grownCap w (xs.length + ys.length) capx e - (xs.length + ys.length))).size = grownCap w (xs.length + ys.length) capx e * k' := by
            intro olds hol
            simp only [Array.size_append, List.size_toArray, size_zeroCells, hzl, hol, hnl, ← Nat.add_mul]
            congr 1; omega
          have hdrew : HRel P A w0 F0 J0 g (upds s.hp (kl.map (·, none))) w.drew := hk1.drew
          rcases hplace with ⟨rfl, rfl⟩ | ⟨b, q, cur, E, rfl, hb, hfit, hI, hfr, hfree, hcur⟩
          · have hg := mix [] (Builtin.zeroCells z.cells (grownCap w (0 + ys.length) 0 e - (0 + ys.length))) (by simp) (by simp)
            have hs := size [] (by simp)
            cases px with
            | none =>
              have hr := run_append_nil (P := P) w T o.type e inf z ht hi hz p ys.length capy news (by rw [hnl, hk]) hncell (by simp at hroom; exact List.length_pos_iff.2 hroom) (by simp at hbd3; omega) (by rw [hby]; simp at hbd2; omega)
              refine newrow w.drew _ _ hdrew rfl hge hs hg (hexec ?_)
              simpa using hr
            | some px =>
              have hr := run_append_grow (P := P) w T o.type e inf z ht hi hz px 0 0 [] (by simp) (by simp) p ys.length capy news (by rw [hnl, hk]) hncell (by omega) (by simp at hbd3 ⊢; omega) (by rw [hby]; simpa using hgrow)
              exact newrow w.drew _ _ hdrew rfl hge hs hg (hexec hr)
          · have hall := cells_chunks hk0 (cs := cur) (q := q) (m := xs.length) (fun i j hi hj => by obtain ⟨u, hu, _⟩ := hcur i j hi hj; exact ⟨u, hu⟩)
            have hget : ∀ p, p < xs.length * k' → cur[q + p]? = some (cur.getD (q + p) undef) := fun p hp => by
              obtain ⟨u, hu⟩ := hall p hp
              rw [hu, Array.getD_eq_getD_getElem?, hu]; rfl
            have hol : ((List.range (xs.length * k')).map (fun p => cur.getD (q + p) undef)).length = xs.length * k' := by simp
            have hr := run_append_grow (P := P) w T o.type e inf z ht hi hz ⟨b, q, none⟩ xs.length capx ((List.range (xs.length * k')).map (fun p => cur.getD (q + p) undef)) (by rw [hol, hk]) (fun j u hj => by
                by_cases hjl : j < xs.length * k'
                · rw [List.getElem?_map, List.getElem?_range hjl] at hj
                  simp at hj; subst hj
                  have hadd : (⟨b, q, none⟩ : Addr).add j = ⟨b, q + j, none⟩ := by
                    by_cases e : j = 0
                    · subst e; simp [Addr.add]
                    · simp [Addr.add, e]
                  rw [hadd, cell_of_row w b (q + j) cur E _ hb, hget j hjl]; simp
                · rw [List.getElem?_eq_none (by simp; omega)] at hj; cases hj) p ys.length capy news (by rw [hnl, hk]) hncell (by omega) (by omega) (by rw [hby]; exact hgrow)
            refine newrow w.drew _ _ hdrew rfl hge (size _ hol) (mix _ _ hol (fun i j hi hj => ?_)) (hexec hr)
            obtain ⟨u, hu, hrr⟩ := hcur i j hi hj
            have hlt : i * k' + j < xs.length * k' := by
              have : (i + 1) * k' ≤ xs.length * k' := Nat.mul_le_mul_right _ (by omega)
              rw [Nat.add_mul] at this; omega
            refine ⟨u, ?_, hrr⟩
            rw [List.getElem?_map, List.getElem?_range hlt]
            simp only [Option.map_some, ← Nat.add_assoc]
            rw [Array.getD_eq_getD_getElem?, hu]; rfl
    split at hm
    · rename_i k2 hb
      obtain ⟨hbd, hK⟩ := hm
      rw [hb] at rx
      generalize hv : a.eval x = v at rx
      cases rx with
      | nl p =>
        refine fin true [] (if drop then rs else []) p 0 (by simp) hv (Nat.zero_le _) (by simpa using hbd) (.inl ⟨rfl, rfl⟩) (.inr ⟨rs, ?_⟩)
        cases drop <;> simpa using hK
    · rename_i id off len hb
      rw [hb] at rx
      generalize hv : a.eval x = v at rx
      split at hm
      · rename_i t k2 es hob
        obtain ⟨rfl, hbd, hle, hK⟩ := hm
        have hlx : ((es.drop off).take len).length = len := by simp; omega
        obtain ⟨hek, hrep⟩ := h.hp.objs id _ hob
        have hxk : ∀ el ∈ (es.drop off).take len, el.length = k2 := fun el he => hek el (List.mem_of_mem_drop (List.mem_of_mem_take he))
        have hKK : ∃ rd, K (.sr n 0 (((es.drop off).take len).length + ys.length)) ((id :: (if drop then rs else [])).map (·, none) ++ [(n, some (.arr (t && t') k2 ((es.drop off).take len ++ ys)))]) rd := by
          refine ⟨id :: rs, ?_⟩
          cases drop
          · simpa using hK
          · simpa using hK
        cases rx with
        | sr0 p =>
          rw [List.take_zero] at hbd hKK
          rw [List.take_zero] at hxk
          exact fin t ([] : List (List D)) (id :: (if drop then rs else [])) p 0 (by simp) hv (Nat.zero_le _) (by simpa using hbd) (.inl ⟨rfl, rfl⟩) (.inr (by simpa using hKK))
        | sr _ _ _ cap l hl h1 h2 =>
          have hv' : a.eval x = .slice (some ⟨l.b, l.base + off * l.k, none⟩) ((es.drop off).take len).length cap := by rw [hlx]; exact hv
          refine fin t _ _ _ cap hxk hv' (by rw [hlx]; exact h2) hbd ?_ (.inr hKK)
          rcases hrep with ⟨he, h3⟩ | ⟨l', h3, hlk, cs, E, h4, h5, h6, h7⟩
          · rw [hl] at h3; cases h3
          · rw [hl] at h3; cases h3
            right
            refine ⟨l.b, l.base + off * l.k, cs, E, rfl, h4, ?_, h.hp.disj id _ l hob rfl hl, h.hp.fresh id _ l hob rfl hl, fun _ i o l1 a1 a2 a3 a4 e => ?_, fun i j hi' hj' => ?_⟩
            · have : (off + cap) * k2 ≤ l.C * k2 := Nat.mul_le_mul_right _ (Nat.le_of_eq h1)
              rw [Nat.add_mul] at this; rw [hlk]; omega
            · have := h.hp.sep i id o _ l1 l a1 hob a3 rfl a4 hl e
              subst this; simp at a2
            · rw [hlx] at hi'
              obtain ⟨u, hu, hr⟩ := h7 (off + i) j (by omega) hj'
              refine ⟨u, ?_, ?_⟩
              · rw [← hu, hlk, Nat.add_mul]; congr 1; omega
              · have e1 : cellD ((es.drop off).take len) i j = cellD es (off + i) j := by simp [cellD, List.getD, List.getElem?_take_of_lt hi']
                rw [e1]; exact hr
      · rename_i t k2 es C hob
        obtain ⟨rfl, hbd, hle, hgr, hK⟩ := hm
        have hlx : ((es.drop off).take len).length = len := by simp; omega
        obtain ⟨hek, l, h3, hC, hlk, cs, E, h4, h5, h6, h7⟩ := h.hp.objs id _ hob
        have hxk : ∀ el ∈ (es.drop off).take len, el.length = k2 := fun el he => hek el (List.mem_of_mem_drop (List.mem_of_mem_take he))
        have hKK : ∃ rd, K (.sr n 0 (((es.drop off).take len).length + ys.length)) ((if drop then rs else []).map (·, none) ++ [(n, some (.arr (t && t') k2 ((es.drop off).take len ++ ys)))]) rd := by
          refine ⟨id :: rs, ?_⟩
          cases drop
          · simpa using hK
          · simpa using hK
        cases rx with
        | sr0 p =>
          rw [List.take_zero] at hbd hKK
          rw [List.take_zero] at hxk
          exact fin t ([] : List (List D)) (if drop then rs else []) p 0 (by simp) hv (Nat.zero_le _) (by simpa using hbd) (.inl ⟨rfl, rfl⟩) (.inr (by simpa using hKK))
        | sr _ _ _ cap lq hl h1 h2 =>
          obtain rfl : l = lq := by rw [hl] at h3; exact (Option.some.inj h3).symm
          have hv' : a.eval x = .slice (some ⟨l.b, l.base + off * l.k, none⟩) ((es.drop off).take len).length cap := by rw [hlx]; exact hv
          refine fin t _ _ _ cap hxk hv' (by rw [hlx]; exact h2) hbd ?_ (.inr hKK)
          right
          refine ⟨l.b, l.base + off * l.k, cs, E, rfl, h4, ?_, h.hp.disj id _ l hob rfl hl, h.hp.fresh id _ l hob rfl hl, fun hroom => ?_, fun i j hi' hj' => ?_⟩
          · have : (off + cap) * k2 ≤ l.C * k2 := Nat.mul_le_mul_right _ (Nat.le_of_eq h1)
            rw [Nat.add_mul] at this; rw [hlk]; omega
          · exfalso; rw [hlx] at hroom; omega
          · rw [hlx] at hi'
            obtain ⟨u, hu, hr⟩ := h7 (off + i) j (by omega) hj'
            refine ⟨u, ?_, ?_⟩
            · rw [← hu, hlk, Nat.add_mul]; congr 1; omega
            · have e1 : cellD ((es.drop off).take len) i j = cellD es (off + i) j := by simp [cellD, List.getD, List.getElem?_take_of_lt hi']
              rw [e1]; exact hr
      · exact hm.elim
    · exact hm.elim
  · exact hm.elim
end
end Go.Fw
