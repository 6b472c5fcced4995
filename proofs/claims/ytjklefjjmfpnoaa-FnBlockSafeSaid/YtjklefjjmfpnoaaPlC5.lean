/-
  Cut nodes and round chains: a graph is one block if it is safe and only its first chain is round. No program in sight.
-/
import Derived.Test.YtjklefjjmfpnoaaPlC4
import Derived.Test.YtjklefjjmfpnoaaPlN
namespace Go.Pl
set_option linter.unusedVariables false
set_option linter.unusedSimpArgs false
section
variable {n : Int} {es : List Ed} {s : Sr}

theorem adj_alo {x y z : Int} : Adj (aloL es x) y z ↔ Adj es y z ∧ y ≠ x ∧ z ≠ x := by
  have m : ∀ e : Ed, e ∈ aloL es x ↔ e ∈ es ∧ e.1 ≠ x ∧ e.2 ≠ x := fun e => by
    unfold aloL aloP
    rw [List.mem_filter]; simp
  unfold Adj
  rw [m, m]
  constructor
  · rintro (⟨a, b, c⟩ | ⟨a, b, c⟩)
    · exact ⟨.inl a, b, c⟩
    · exact ⟨.inr a, c, b⟩
  · rintro ⟨a | a, b, c⟩
    · exact .inl ⟨a, b, c⟩
    · exact .inr ⟨a, c, b⟩
theorem alo_sub {x : Int} {d : Ed} (h : d ∈ aloL es x) : d ∈ es ∧ d.1 ≠ x ∧ d.2 ≠ x := by
  unfold aloL aloP at h
  rw [List.mem_filter] at h; simpa using h
theorem edn_alo {x w p : Int} (h : edn w p ∈ es) (h1 : w ≠ x) (h2 : p ≠ x) : edn w p ∈ aloL es x := by
  unfold aloL aloP
  rw [List.mem_filter]
  refine ⟨h, ?_⟩
  unfold edn
  simp only [Bool.not_eq_true', Bool.or_eq_false_iff, decide_eq_false_iff_not]
  constructor <;> omega
/-- No edge leads from below `c` over `x`. -/
def Low (n : Int) (es : List Ed) (s : Sr) (c x : Int) : Prop := ∀ b ∈ backL n es s, Anc s c b.2 → Anc s b.1 x → b.1 = x
theorem NF.sub_closed (h : NF n es s) (hE : ∀ e ∈ es, EIn n e) {c x : Int} (c0 : 0 ≤ c) (c1 : c < n) (hp : nth s.par c = x) (hx : 0 ≤ x) (hno : Low n es s c x) {y : Int} (r : Rch (aloL es x) c y) : Anc s c y ∧ 0 ≤ y ∧ y < n := by
  induction r with
  | refl => exact ⟨.refl, c0, c1⟩
  | @step y z r k ih =>
    obtain ⟨ih, y0, y1⟩ := ih
    obtain ⟨a, ny, nz⟩ := adj_alo.1 k
    have rz := nbr_rng hE a
    refine ⟨?_, rz.2.2.1, rz.2.2.2.1⟩
    rcases h.cmp _ _ a with q | q
    · exact ih.trans q
    · rcases ih.two q with k1 | k1
      · exact k1
      · by_cases e : z = c
        · subst e; exact .refl
        · exfalso
          have st := (k1.step e).2
          rw [hp] at st
          have pc := h.up_par c0 c1 (by omega)
          rw [hp] at pc
          have l1 := h.lt st hx pc.1 nz
          have l2 := h.le ih y0 y1
          refine nz (hno (z, y) ((h.mem_back hE).2 ⟨a.symm, by simp only; omega, fun q2 => ?_⟩) ih st)
          simp only at q2
          by_cases e2 : c = y
          · subst e2; rw [hp] at q2; exact nz q2.symm
          · have st2 := (ih.step e2).2
            rw [q2] at st2
            have := h.le st2 rz.2.2.1 rz.2.2.2.1
            omega
theorem Up.last {ws : List Int} {v e : Int} (u : Up s ws v e) : (ws = [] ∧ v = e) ∨ ∃ c ∈ ws, nth s.par c = e ∧ 0 ≤ nth s.par c := by
  induction u with
  | nil => exact .inl ⟨rfl, rfl⟩
  | @cons ws v e h0 u ih =>
    rcases ih with ⟨_, q⟩ | ⟨c, hc, q⟩
    · exact .inr ⟨v, by simp, q, h0⟩
    · exact .inr ⟨c, by simp [hc], q⟩
/-- A round chain: the child under its first node. -/
theorem NF.round_child (h : NF n es s) (hE : ∀ e ∈ es, EIn n e) {j : Nat} {b : Ed} (hb : (backL n es s)[j]? = some b) {ws : List Int} (ch : CH s ((backL n es s).take j) b ws b.1) :
    ∃ c ∈ ws, 0 ≤ c ∧ c < n ∧ nth s.par c = b.1 ∧ Low n es s c b.1 := by
  have hm := List.mem_of_getElem? hb
  obtain ⟨b1, b2, ba, bn⟩ := h.back_ok hE hm
  have u := h.up ch.up b2.1 b2.2
  rcases ch.up.last with ⟨_, q⟩ | ⟨c, hc, hp, p0⟩
  · exact absurd q.symm bn
  · have cc := u.2.1 c hc
    have pc := h.up_par cc.1 cc.2.1 p0
    refine ⟨c, hc, cc.1, cc.2.1, hp, fun b' hb' r1 r2 => Classical.byContradiction fun ne => ?_⟩
    have lt := h.lt r2 b1.1 b1.2 ne
    have bx : Anc s b.1 c := h.mkA cc.1 cc.2.1 p0 (by rw [hp]; exact .refl)
    rw [hp] at pc
    refine ch.fre c hc (.inl ⟨b', h.ahead hb hb' lt, r2.trans bx, fun e => ?_, r1⟩)
    rw [e] at lt; omega
/-- A second round chain begins at a cut node. -/
theorem NF.round_cut (h : NF n es s) (hE : ∀ e ∈ es, EIn n e) (hS : Safe n es s) {j : Nat} (hj : 0 < j) {b : Ed} (hb : (backL n es s)[j]? = some b) {ws : List Int} (ch : CH s ((backL n es s).take j) b ws b.1) :
    ∃ y z, Adj es b.1 y ∧ Adj es b.1 z ∧ ¬ Rch (aloL es b.1) y z := by
  have hm := List.mem_of_getElem? hb
  obtain ⟨b1, b2, ba, bn⟩ := h.back_ok hE hm
  obtain ⟨c, hc, c0, c1, hp, hno⟩ := h.round_child hE hb ch
  have pc := h.up_par c0 c1 (by omega)
  rw [hp] at pc
  have fin : ∀ z, Adj es b.1 z → ¬ Anc s c z → ∃ y z, Adj es b.1 y ∧ Adj es b.1 z ∧ ¬ Rch (aloL es b.1) y z := fun z az nz =>
    ⟨c, z, pc.2.2, az, fun r => nz (h.sub_closed hE c0 c1 hp b1.1 hno r).1⟩
  by_cases q : 0 ≤ nth s.par b.1
  · have pb := h.up_par b1.1 b1.2 q
    refine fin (nth s.par b.1) pb.2.2.symm fun r => ?_
    have := h.le r q pb.1
    omega
  · have e1 := hS.one b.1 b1.1 b1.2 (by omega)
    have lj := (List.getElem?_eq_some_iff.1 hb).1
    obtain ⟨d, hd⟩ : ∃ d, (backL n es s)[0]? = some d := ⟨_, List.getElem?_eq_getElem (by omega)⟩
    have dm := List.mem_of_getElem? hd
    obtain ⟨d1, d2, da, dn⟩ := h.back_ok hE dm
    have f := h.first hE hS hd
    have ed : d.1 = b.1 := h.inj _ _ d1.1 d1.2 b1.1 b1.2 (by omega)
    obtain ⟨ws0, e0, _, ch0⟩ := (h.chains hE).2 0 d hd
    have ee : e0 = d.1 := by
      rcases ch0.mkd with m | m
      · rw [List.take_zero] at m
        rcases m with ⟨_, hx, _⟩ | ⟨_, hx, _⟩ <;> simp at hx
      · exact m
    subst ee
    obtain ⟨c', hc', c0', c1', hp', _⟩ := h.round_child hE hd ch0
    rw [ed] at hp'
    have pc' := h.up_par c0' c1' (by omega)
    rw [hp'] at pc'
    have u' := (h.up ch0.up d2.1 d2.2).2.1 c' hc'
    refine fin c' pc'.2.2 fun r => ?_
    by_cases ec : c = c'
    · subst ec
      have bl := ch0.bel c hc'
      exact ch.fre c hc (.inl ⟨d, List.mem_of_getElem? (i := 0) (by rw [List.getElem?_take_of_lt hj]; exact hd), bl.1, fun e => bl.2 e.symm, u'.2.2.1⟩)
    · have st := (r.step ec).2
      rw [hp'] at st
      have := h.le st b1.1 b1.2
      omega

/-! From cut nodes to round chains. -/
theorem NF.child (h : NF n es s) {x y : Int} (r : Anc s x y) : x ≠ y → 0 ≤ y → y < n → ∃ c, 0 ≤ c ∧ c < n ∧ nth s.par c = x ∧ 0 ≤ nth s.par c ∧ Anc s c y := by
  induction r with
  | refl => intro q; exact absurd rfl q
  | @up y hy h0 hv r ih =>
    intro _ y0 y1
    have p := h.up_par y0 y1 h0
    by_cases q : x = nth s.par y
    · exact ⟨y, y0, y1, q.symm, h0, .refl⟩
    · obtain ⟨c, a1, a2, a3, a4, a5⟩ := ih q h0 p.1
      exact ⟨c, a1, a2, a3, a4, h.mkA y0 y1 h0 a5⟩
theorem NF.down (h : NF n es s) (hE : ∀ e ∈ es, EIn n e) {c x y : Int} (c0 : 0 ≤ c) (c1 : c < n) (hp : nth s.par c = x) (hx : 0 ≤ x) (r : Anc s c y) (y0 : 0 ≤ y) (y1 : y < n) : Rch (aloL es x) c y := by
  have pc := h.up_par c0 c1 (by omega)
  rw [hp] at pc
  refine h.path r y0 y1 fun w w0 w1 r1 n1 r2 => ?_
  have st := r1.step n1
  have pw := h.up_par w0 w1 st.1
  have l1 := h.le st.2 st.1 pw.1
  exact edn_alo (h.te_mem hE w0 w1 st.1) (fun e => by rw [e] at pw l1; omega) (fun e => by rw [e] at l1; omega)
theorem NF.over (h : NF n es s) (hE : ∀ e ∈ es, EIn n e) {x w : Int} (x0 : 0 ≤ x) (x1 : x < n) (hp : 0 ≤ nth s.par x) (r : Anc s w x) (ne : w ≠ x) : Rch (aloL es x) w (nth s.par x) := by
  have px := h.up_par x0 x1 hp
  refine h.path (r.step ne).2 hp px.1 fun v v0 v1 r1 n1 r2 => ?_
  have st := r1.step n1
  have pv := h.up_par v0 v1 st.1
  have l1 := h.le r2 hp px.1
  exact edn_alo (h.te_mem hE v0 v1 st.1) (fun e => by rw [e] at l1; omega) (fun e => by rw [e] at pv; omega)
/-- The chain that goes up to a child from below which no edge leads over its parent is round. -/
theorem NF.low_round (h : NF n es s) (hE : ∀ e ∈ es, EIn n e) (hS : Safe n es s) {c x : Int} (c0 : 0 ≤ c) (c1 : c < n) (hp : nth s.par c = x) (hx : 0 ≤ x) (hno : Low n es s c x) :
    ∃ (j : Nat) (b : Ed) (ws : List Int), (backL n es s)[j]? = some b ∧ (chainsL n es s)[j]? = some (b.1 :: (ws ++ [b.1])) ∧ b.1 = x ∧ c ∈ ws ∧ Anc s c b.2 := by
  have cv := hS.cov c c0 c1 (by omega)
  obtain ⟨j, b, ws, e, _, hb, hc, ch, hw⟩ := h.walked hE (backL n es s).length (Nat.le_refl _) (by rw [List.take_length]; exact cv)
  have hm := List.mem_of_getElem? hb
  obtain ⟨b1, b2, ba, bn⟩ := h.back_ok hE hm
  have u := h.up ch.up b2.1 b2.2
  have uc := u.2.1 c hw
  have bl := ch.bel c hw
  have st := (bl.1.step (fun q => bl.2 q.symm)).2
  rw [hp] at st
  have e1 := hno b hm uc.2.2.1 st
  have st2 := (uc.2.2.2.1.step uc.2.2.2.2.1).2
  rw [hp] at st2
  have tp := ch.top
  rw [e1] at tp
  have pc := h.up_par c0 c1 (by omega)
  rw [hp] at pc
  have e2 : e = x := h.anti st2 tp hx pc.1
  subst e2
  exact ⟨j, b, ws, hb, by rw [hc, e1], e1, hw, uc.2.2.1⟩
/-- In a safe graph a cut node begins a round chain that is not the first. -/
theorem NF.cut_round (h : NF n es s) (hE : ∀ e ∈ es, EIn n e) (hS : Safe n es s) {x y z : Int} (ay : Adj es x y) (az : Adj es x z) (nr : ¬ Rch (aloL es x) y z) :
    ∃ (j : Nat) (b : Ed) (ws : List Int), 0 < j ∧ (backL n es s)[j]? = some b ∧ (chainsL n es s)[j]? = some (b.1 :: (ws ++ [b.1])) := by
  have ry := nbr_rng hE ay
  have rz := nbr_rng hE az
  obtain ⟨x0, x1⟩ : 0 ≤ x ∧ x < n := ⟨ry.1, ry.2.1⟩
  by_cases q : 0 ≤ nth s.par x
  · have px := h.up_par x0 x1 q
    have key : ∃ c, 0 ≤ c ∧ c < n ∧ nth s.par c = x ∧ Low n es s c x := Classical.byContradiction fun nk => by
      have go : ∀ w, Adj es x w → Rch (aloL es x) w (nth s.par x) := fun w aw => by
        have rw' := nbr_rng hE aw
        rcases h.cmp _ _ aw with k | k
        · obtain ⟨c, c0, c1, hp, p0, r⟩ := h.child k rw'.2.2.2.2 rw'.2.2.1 rw'.2.2.2.1
          have nl : ¬ Low n es s c x := fun l => nk ⟨c, c0, c1, hp, l⟩
          obtain ⟨b, hb, r1, r2, ne⟩ : ∃ b, b ∈ backL n es s ∧ Anc s c b.2 ∧ Anc s b.1 x ∧ b.1 ≠ x := Classical.byContradiction fun nb => nl fun b hb r1 r2 => Classical.byContradiction fun ne => nb ⟨b, hb, r1, r2, ne⟩
          obtain ⟨b1, b2, ba, bn⟩ := h.back_ok hE hb
          have d1 := h.down hE c0 c1 hp x0 r rw'.2.2.1 rw'.2.2.2.1
          have d2 := h.down hE c0 c1 hp x0 r1 b2.1 b2.2
          have pc := h.up_par c0 c1 p0
          rw [hp] at pc
          have l2 := h.le r1 b2.1 b2.2
          have a := ((h.mem_back hE).1 hb).1
          have d3 : Rch (aloL es x) b.2 b.1 := .one (adj_alo.2 ⟨a.symm, fun e => by rw [e] at l2; omega, ne⟩)
          exact ((d1.symm.trans d2).trans d3).trans (h.over hE x0 x1 q r2 ne)
        · exact h.over hE x0 x1 q k (fun e => rw'.2.2.2.2 e.symm)
      exact nr ((go y ay).trans (go z az).symm)
    obtain ⟨c, c0, c1, hp, hno⟩ := key
    obtain ⟨j, b, ws, hb, hc, e1, _, _⟩ := h.low_round hE hS c0 c1 hp x0 hno
    refine ⟨j, b, ws, ?_, hb, hc⟩
    refine Nat.pos_of_ne_zero fun e => ?_
    subst e
    have f := h.first hE hS hb
    rw [e1] at f
    have := h.num _ q px.1
    omega
  · have low : ∀ c, Low n es s c x := fun c b hb r1 r2 => Classical.byContradiction fun ne => by
      have := (r2.step ne).1; omega
    have sub : ∀ w, Adj es x w → ∃ c, 0 ≤ c ∧ c < n ∧ nth s.par c = x ∧ Rch (aloL es x) c w := fun w aw => by
      have rw' := nbr_rng hE aw
      rcases h.cmp _ _ aw with k | k
      · obtain ⟨c, c0, c1, hp, p0, r⟩ := h.child k rw'.2.2.2.2 rw'.2.2.1 rw'.2.2.2.1
        exact ⟨c, c0, c1, hp, h.down hE c0 c1 hp x0 r rw'.2.2.1 rw'.2.2.2.1⟩
      · have := (k.step (fun e => rw'.2.2.2.2 e.symm)).1; omega
    obtain ⟨c, c0, c1, hp, rc⟩ := sub y ay
    obtain ⟨d, d0, d1, hq, rd⟩ := sub z az
    have ne : c ≠ d := fun e => by subst e; exact nr (rc.symm.trans rd)
    obtain ⟨j, b, ws, hb, hc, e1, hw, r1⟩ := h.low_round hE hS c0 c1 hp x0 (low c)
    obtain ⟨j', b', ws', hb', hc', e1', hw', r1'⟩ := h.low_round hE hS d0 d1 hq x0 (low d)
    by_cases z1 : 0 < j
    · exact ⟨j, b, ws, z1, hb, hc⟩
    by_cases z2 : 0 < j'
    · exact ⟨j', b', ws', z2, hb', hc'⟩
    exfalso
    obtain rfl : j = 0 := by omega
    obtain rfl : j' = 0 := by omega
    rw [hb] at hb'; cases hb'
    have pc := h.up_par c0 c1 (by omega)
    rw [hp] at pc
    have pd := h.up_par d0 d1 (by omega)
    rw [hq] at pd
    rcases r1.two r1' with k | k
    · have st := (k.step ne).2
      rw [hq] at st
      have := h.le st x0 x1; omega
    · have st := (k.step (fun e => ne e.symm)).2
      rw [hp] at st
      have := h.le st x0 x1; omega
/-- Where there are three nodes, an end of a bridge is a cut node. -/
theorem no_bridge (hE : ∀ e ∈ es, EIn n e) (hn : 3 ≤ n) (hc : ∀ x y, 0 ≤ x → x < n → 0 ≤ y → y < n → Rch es x y) (hcut : ∀ x y z, Adj es x y → Adj es x z → Rch (aloL es x) y z) : ∀ e ∈ es, Rch (butE es e) e.1 e.2 := fun e he => Classical.byContradiction fun nb => by
  have ee := hE e he
  unfold EIn at ee
  have a0 : Adj es e.1 e.2 := .inl he
  -- a neighbour of an end that is not the other end
  have one : ∀ z, Adj es e.1 z → z ≠ e.2 → False := fun z az nz => by
    have r := (hcut e.1 e.2 z a0 az).mono (fs := butE es e) fun d hd => by
      have q := alo_sub hd
      exact mem_but.2 ⟨q.1, fun k => q.2.1 (by rw [k])⟩
    have k : Adj (butE es e) z e.1 := by
      rcases az with az | az
      · exact .inr (mem_but.2 ⟨az, fun q => nz (by rw [← q])⟩)
      · exact .inl (mem_but.2 ⟨az, fun q => by have q1 := congrArg Prod.fst q; have q2 := congrArg Prod.snd q; simp only at q1 q2; omega⟩)
    exact nb (r.step k).symm
  have two : ∀ z, Adj es e.2 z → z ≠ e.1 → False := fun z az nz => by
    have r := (hcut e.2 e.1 z a0.symm az).mono (fs := butE es e) fun d hd => by
      have q := alo_sub hd
      exact mem_but.2 ⟨q.1, fun k => q.2.2 (by rw [k])⟩
    have k : Adj (butE es e) z e.2 := by
      rcases az with az | az
      · exact .inr (mem_but.2 ⟨az, fun q => by have q1 := congrArg Prod.fst q; have q2 := congrArg Prod.snd q; simp only at q1 q2; omega⟩)
      · exact .inl (mem_but.2 ⟨az, fun q => nz (by rw [← q])⟩)
    exact nb (r.step k)
  have cl : ∀ y, Rch es e.1 y → y = e.1 ∨ y = e.2 := fun y r => by
    induction r with
    | refl => exact .inl rfl
    | @step y z r k ih =>
      rcases ih with rfl | rfl
      · exact .inr (Classical.byContradiction fun q => one z k q)
      · exact .inl (Classical.byContradiction fun q => two z k q)
  obtain ⟨w, w0, w1, n1, n2⟩ : ∃ w, 0 ≤ w ∧ w < n ∧ w ≠ e.1 ∧ w ≠ e.2 := by
    by_cases q0 : e.1 = 0
    · by_cases q1 : e.2 = 1
      · exact ⟨2, by omega, by omega, by omega, by omega⟩
      · exact ⟨1, by omega, by omega, by omega, by omega⟩
    · exact ⟨0, by omega, by omega, by omega, by omega⟩
  rcases cl w (hc e.1 w (by omega) (by omega) w0 w1) with k | k
  · exact n1 k
  · exact n2 k
/-- The first chain is round. -/
theorem NF.first_round (h : NF n es s) (hE : ∀ e ∈ es, EIn n e) {b : Ed} (hb : (backL n es s)[0]? = some b) : ∃ ws, (chainsL n es s)[0]? = some (b.1 :: (ws ++ [b.1])) := by
  obtain ⟨ws, e, h1, ch⟩ := (h.chains hE).2 0 b hb
  rcases ch.mkd with m | m
  · rw [List.take_zero] at m
    rcases m with ⟨_, hx, _⟩ | ⟨_, hx, _⟩ <;> simp at hx
  · subst m; exact ⟨ws, h1⟩
theorem NF.some_back (h : NF n es s) (hS : Safe n es s) (hn : 2 ≤ n) : ∃ b, (backL n es s)[0]? = some b := by
  obtain ⟨w, w0, w1, wn⟩ := h.sur 2 (by omega) hn
  have wp : 0 ≤ nth s.par w := Classical.byContradiction fun q => by
    have := hS.one w w0 w1 (by omega); omega
  obtain ⟨c, hc, _⟩ := hS.cov w w0 w1 wp
  have := List.length_pos_of_mem hc
  exact ⟨_, List.getElem?_eq_getElem this⟩
end
end Go.Pl
