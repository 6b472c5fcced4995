/-
  Graphs with levels: what the program looks at, and what stays.
-/
import Derived.Test.YtfjekgjhhmkgoaaCtZ8
import Derived.Test.YtfjekgjhhmkgoaaCtZ2
namespace Go.Fw
set_option linter.unusedSimpArgs false
set_option linter.unusedVariables false
set_option maxRecDepth 100000
set_option maxHeartbeats 4000000
open Go.Pl

theorem hlf_eq {n : Int} (h : 0 ≤ n) : ∀ k, hlf n k = ((n.toNat / 2 ^ k : Nat) : Int)
  | 0 => by simp [hlf]; omega
  | k + 1 => by
    rw [hlf, hlf_eq h k, Nat.pow_succ, ← Nat.div_div_eq_div_mul]
    generalize n.toNat / 2 ^ k = m
    rw [Int.tdiv_eq_ediv_of_nonneg (by omega)]; omega
theorem smlB_iff {n : Int} {es : List E} {k : Nat} (hn : 0 ≤ n) : smlB (labL n es) (hlf n k) = true ↔ ∀ x, 0 ≤ x → x < n → 1 < cnt n es x → cnt n es x ≤ n.toNat / 2 ^ k := by
  have hl := labL_length n es
  unfold smlB
  rw [List.all_eq_true]
  constructor
  · intro h x h0 h1 hc
    rw [cnt_count hn] at hc ⊢
    have hm : nth (labL n es) x ∈ labL n es := List.mem_of_getElem? (nth_some ⟨h0, by omega⟩)
    have := h _ hm
    unfold smlP at this
    rw [hlf_eq hn] at this
    simp only [Bool.not_eq_true', Bool.and_eq_false_iff, decide_eq_false_iff_not] at this
    omega
  · intro h v hv
    obtain ⟨i, hi⟩ := List.mem_iff_getElem?.1 hv
    have hil := (List.getElem?_eq_some_iff.1 hi).1
    have e : nth (labL n es) (i : Int) = v := nth_get (by simpa using hi)
    have := h i (by omega) (by omega)
    rw [cnt_count hn, e] at this
    unfold smlP
    rw [hlf_eq hn]
    simp only [Bool.not_eq_true', Bool.and_eq_false_iff, decide_eq_false_iff_not]
    omega
theorem lok_iff {n : Int} {T : List Lv1} (hv : GV n (tE T)) : lvB n (tE T) (tL T) (tF T) = true ↔ LOK n T := by
  have hn : 0 ≤ n := by have := hv.1; omega
  have hE : ∀ d ∈ tE T, EIn n d := hv.2.2.2.1
  have hU : ∀ (k : Int) (b : Bool), ∀ d ∈ up T k b, EIn n d := fun k b d hd => hE d (up_fst hd)
  have one : ∀ k : Nat, okL n (tE T) (tL T) (tF T) k = true ↔ Acy n (up T k true) ∧ (∀ x y, Rch (up T k false) x y → Rch (up T k true) x y) ∧ ∀ x, 0 ≤ x → x < n → 1 < cnt n (up T k false) x → cnt n (up T k false) x ≤ n.toNat / 2 ^ k := fun k => by
    unfold okL
    rw [upL_up, upL_up, Bool.and_eq_true, Bool.and_eq_true, decide_eq_true_eq, decide_eq_true_eq, smlB_iff hn]
    have a : (((forest n (up T k true)).length : Int) = (up T k true).length) ↔ Acy n (up T k true) := by
      rw [← acy_iff hn (hU k true)]; omega
    rw [a]
    constructor
    · rintro ⟨h1, h2, h3⟩
      exact ⟨h1, fun x y r => (labL_inj2 hn (hU k false) (hU k true) h2).1 r, h3⟩
    · rintro ⟨h1, h2, h3⟩
      exact ⟨h1, labL_congr hn (hU k false) (hU k true) fun x y => ⟨h2 x y, fun r => r.mono fun d hd => up_tree hd⟩, h3⟩
  unfold lvB
  rw [gvB_iff.2 hv, tL_length, tF_length, tE_length]
  simp only [Bool.true_and, decide_true, Bool.and_eq_true, List.all_eq_true, List.mem_range]
  constructor
  · rintro ⟨h1, h2⟩
    have h := fun j (hj : j ≤ 4) => (one j).1 (h2 j (by omega))
    refine ⟨⟨hv.1, hv.2.1⟩, hE, srt_nodup hv.2.2.2.2, fun x hx => ?_, fun j hj => (h j hj).1, fun j hj => (h j hj).2.1, fun j hj => (h j hj).2.2⟩
    have := h1 x.2.1 (List.mem_map.2 ⟨x, hx, rfl⟩)
    simpa [lvK] using this
  · intro h
    refine ⟨fun l hl => ?_, fun k hk => (one k).2 ⟨h.acy k (by omega), h.con k (by omega), h.siz k (by omega)⟩⟩
    obtain ⟨x, hx, rfl⟩ := List.mem_map.1 hl
    have := h.lev x hx
    simp [lvK]; omega
theorem lok_zip {n : Int} {es : List E} {ls : List Int} {fs : List Bool} (h : lvB n es ls fs = true) : LOK n (zipT es ls fs) := by
  obtain ⟨h1, h2, h3, h4⟩ := lvB_get h
  refine (lok_iff (by rw [tE_zip h2 h3]; exact h1)).1 ?_
  rw [tE_zip h2 h3, tL_zip h2 h3, tF_zip h2 h3]; exact h
/-- The parts of a list at an edge. -/
theorem split_at {T : List Lv1} {i : Nat} {x : Lv1} (h : T[i]? = some x) : T = T.take i ++ x :: T.drop (i + 1) := by
  obtain ⟨hi, e⟩ := List.getElem?_eq_some_iff.1 h
  rw [← e, ← List.drop_eq_getElem_cons hi, List.take_append_drop]
theorem erase_split {T : List Lv1} {i : Nat} : T.eraseIdx i = T.take i ++ T.drop (i + 1) := List.eraseIdx_eq_take_drop_succ _ _

/-- What is left when an edge is cut is valid; levels. -/
theorem cl_ok {n : Int} {es : List E} {ls : List Int} {fs : List Bool} {e : E} (hb : clB n es ls fs e = true) :
    LOK n (clR n es ls fs e).1 ∧ tE (clR n es ls fs e).1 = es.filter (fun x => !decide (x = e)) ∧ GV n (tE (clR n es ls fs e).1) ∧ clN n es ls fs e = n ∧
    ∃ a v t, es[a]? = some e ∧ ls[a]? = some v ∧ fs[a]? = some t ∧ a < es.length ∧ sumL (zipT es ls fs) = sumL (clT es ls fs e) + v ∧ clS n es ls fs e = sumL (clR n es ls fs e).1 - sumL (clT es ls fs e) ∧ (clT es ls fs e).length + 1 = es.length ∧ (clR n es ls fs e).1.length + 1 = es.length ∧ (0 ≤ v ∧ v ≤ 4) ∧ 0 ≤ clS n es ls fs e := by
  have hb' := hb
  simp only [clB, Bool.and_eq_true, decide_eq_true_eq] at hb'
  obtain ⟨hl, he⟩ := hb'
  obtain ⟨h1, h2, h3, h4⟩ := lvB_get hl
  have z := cl_get hl he
  have lk := lok_zip hl
  have hn := srt_nodup h1.2.2.2.2
  have hR : clR n es ls fs e = clD n es ls fs e := by unfold clR; rw [if_pos hb]
  have hS : clS n es ls fs e = sumL (clD n es ls fs e).1 - sumL (clT es ls fs e) := by unfold clS; rw [if_pos hb]
  have hN : clN n es ls fs e = n := by unfold clN; rw [if_pos hb]
  generalize hat : clAt es e = a at z
  obtain ⟨v, hv⟩ : ∃ v, ls[a]? = some v := ⟨_, List.getElem?_eq_getElem (by have := z.a0; omega)⟩
  obtain ⟨t, ht⟩ : ∃ t, fs[a]? = some t := ⟨_, List.getElem?_eq_getElem (by have := z.a0; omega)⟩
  have hx : (zipT es ls fs)[a]? = some (e, v, t) := by
    unfold zipT
    rw [List.getElem?_zip_eq_some, List.getElem?_zip_eq_some]; exact ⟨z.at', hv, ht⟩
  have hv4 := h4 v (List.mem_of_getElem? hv)
  have sp := split_at hx
  have er : clT es ls fs e = (zipT es ls fs).take a ++ (zipT es ls fs).drop (a + 1) := by unfold clT; rw [hat, erase_split]
  have hD : clD n es ls fs e = if t then dwn n e (v.toNat + 1) (clT es ls fs e) else (clT es ls fs e, false) := by unfold clD; rw [hat, hv, ht]; rfl
  have lk2 : LOK n (clD n es ls fs e).1 := by
    rw [hD]
    rw [sp] at lk
    have e1 : v = ((v.toNat : Nat) : Int) := by omega
    cases t with
    | true =>
      rw [if_pos rfl, er]
      rw [e1] at lk
      exact (LOK.cut_tree lk).down
    | false =>
      rw [if_neg (by simp), er]
      exact LOK.cut_other lk
  have tD : tE (clD n es ls fs e).1 = tE (clT es ls fs e) := by
    rw [hD]
    cases t with
    | true => rw [if_pos rfl]; exact dwn_fst
    | false => rw [if_neg (by simp)]
  have tl : (clD n es ls fs e).1.length = (clT es ls fs e).length := by rw [← tE_length, tD, tE_length]
  have ll : (clT es ls fs e).length + 1 = es.length := by
    rw [← tE_length, z.t0, List.length_eraseIdx_of_lt z.a0]; have := z.a0; omega
  have sg : 0 ≤ sumL (clD n es ls fs e).1 - sumL (clT es ls fs e) := by
    rw [hD]
    cases t with
    | true => rw [if_pos rfl]; exact dwn_sum.1
    | false => rw [if_neg (by simp)]; simp
  rw [hR, hS]
  refine ⟨lk2, by rw [tD, z.t0, filter_erase hn z.at'], by rw [tD]; exact z.ge, hN, a, v, t, z.at', hv, ht, z.a0, ?_, rfl, ll, by omega, hv4, sg⟩
  rw [er]
  conv => lhs; rw [sp]
  rw [sumL_app, sumL_app, sumL]; simp only; omega
theorem sumI_eq : ∀ T : List Lv1, sumI (tL T) = sumL T
  | [] => rfl
  | x :: T => by
    have := sumI_eq T
    unfold tL at this ⊢
    rw [List.map_cons, sumI, sumL, this]
/-- An edge is put in: still valid; levels. -/
theorem pv_ok {n : Int} {es : List E} {ls : List Int} {fs : List Bool} {e : E} (hb : pvB n es ls fs e = true) :
    lvB (pvN n es ls fs e) (pvE n es ls fs e) (pvL n es ls fs e) (pvT n es ls fs e) = true ∧ pvN n es ls fs e = n ∧ pvE n es ls fs e = putE es e ∧ sumI (pvL n es ls fs e) = sumI ls := by
  have hN : pvN n es ls fs e = n := by unfold pvN; rw [if_pos hb]
  have hE : pvE n es ls fs e = putE es e := by unfold pvE; rw [if_pos hb]
  have hL : pvL n es ls fs e = insL ls (posE es e) 0 := by unfold pvL; rw [if_pos hb]
  have hT : pvT n es ls fs e = insL fs (posE es e) (!jn n es e.1 e.2) := by unfold pvT; rw [if_pos hb]
  simp only [pvB, Bool.and_eq_true] at hb
  obtain ⟨h1, h2, h3, h4⟩ := lvB_get hb.1
  obtain ⟨k1, k2, k3, k4⟩ := putOK_get hb.2
  have lk := lok_zip hb.1
  have hp := posE_le es e
  generalize hpp : posE es e = p at *
  have z0 := tE_zip (es := es) h2 h3
  have z1 := tL_zip (es := es) h2 h3
  have z2 := tF_zip (es := es) h2 h3
  generalize zipT es ls fs = T at lk z0 z1 z2
  have tl : T.length = es.length := by rw [← tE_length, z0]
  have sp : T.take p ++ T.drop p = T := List.take_append_drop p T
  have eE : tE (T.take p ++ (e, 0, !jn n es e.1 e.2) :: T.drop p) = putE es e := by
    unfold putE; rw [hpp, ← z0]; unfold tE; simp [List.map_take, List.map_drop]
  have eL : tL (T.take p ++ (e, 0, !jn n es e.1 e.2) :: T.drop p) = insL ls p 0 := by
    unfold insL; rw [← z1]; unfold tL; simp [List.map_take, List.map_drop]
  have eT : tF (T.take p ++ (e, 0, !jn n es e.1 e.2) :: T.drop p) = insL fs p (!jn n es e.1 e.2) := by
    unfold insL; rw [← z2]; unfold tF; simp [List.map_take, List.map_drop]
  have he : EIn n e := k4
  have he' := he
  unfold EIn at he'
  have lk2 : LOK n (T.take p ++ (e, 0, !jn n es e.1 e.2) :: T.drop p) := by
    refine LOK.put (by rw [sp]; exact lk) he (by rw [sp]; exact fun q => k2 (by rw [← z0]; exact q)) ?_
    rw [sp]
    have : T.map (·.1) = es := z0
    rw [this, Bool.not_eq_true', jn_no h1.2.2.2.1 (by omega) (by omega)]
  have hv : GV n (tE (T.take p ++ (e, 0, !jn n es e.1 e.2) :: T.drop p)) := by rw [eE]; exact k3
  have := (lok_iff hv).2 lk2
  rw [eE, eL, eT] at this
  refine ⟨by rw [hN, hE, hL, hT]; exact this, hN, hE, ?_⟩
  rw [hL, ← eL, sumI_eq, sumL_app, sumL, ← z1, sumI_eq]
  conv => rhs; rw [← sp]
  rw [sumL_app]; simp only; omega
end Go.Fw
