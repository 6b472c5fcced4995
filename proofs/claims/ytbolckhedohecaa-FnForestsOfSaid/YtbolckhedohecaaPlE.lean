/-
  Events: what is there, replayed. No program in sight.
-/
import Derived.Test.YtbolckhedohecaaPlT
namespace Go.Pl
set_option linter.unusedVariables false
set_option linter.unusedSimpArgs false

/-- A turn, an edge, whether it begins. -/
abbrev Ev := Int × Ed × Bool
def rpS (es : List Ed) (v : Ev) : List Ed := if v.2.1 ∈ es then cutE es v.2.1 else putE es v.2.1
def rpE : List Ed → List Ev → List Ed × Bool
  | es, [] => (es, true)
  | es, v :: r => if decide (v.2.1 ∈ es) = v.2.2 then ([], false) else rpE (rpS es v) r
def srtB (es : List Ed) : Bool := decide (es.Pairwise eLt)
instance (es : List Ed) : Decidable (es.Pairwise eLt) := inferInstance
def replayB (es : List Ed) : Bool := decide (es.length ≤ 40) && srtB es
def replay (es : List Ed) (vs : List Ev) : List Ed × Bool := if replayB es then rpE es vs else ([], false)
theorem rpS_sorted {es : List Ed} {v : Ev} (h : es.Pairwise eLt) : (rpS es v).Pairwise eLt := by
  unfold rpS
  split
  · exact h.filter _
  · exact putE_sorted h (by assumption)
theorem rpS_len {es : List Ed} {v : Ev} : (rpS es v).length ≤ es.length + 1 := by
  unfold rpS
  split
  · have := List.length_filter_le (fun x => !decide (x = v.2.1)) es
    unfold cutE; omega
  · rw [putE_length]; omega
theorem rpE_len : ∀ {vs : List Ev} {es : List Ed}, (rpE es vs).1.length ≤ es.length + vs.length
  | [], es => by simp [rpE]
  | v :: r, es => by
    rw [rpE]
    split
    · simp
    · have := rpE_len (vs := r) (es := rpS es v)
      have := rpS_len (es := es) (v := v)
      simp; omega
theorem replay_len {es : List Ed} {vs : List Ev} : (replay es vs).1.length ≤ 40 + vs.length := by
  unfold replay
  split
  · rename_i h
    simp only [replayB, Bool.and_eq_true, decide_eq_true_eq] at h
    have := rpE_len (vs := vs) (es := es)
    omega
  · simp
theorem rpE_ok : ∀ {vs : List Ev} {es : List Ed}, es.Pairwise eLt → (rpE es vs).2 = true → (rpE es vs).1.Pairwise eLt
  | [], es, h, _ => h
  | v :: r, es, h, k => by
    rw [rpE] at k ⊢
    split at k
    · cases k
    · rename_i c; rw [if_neg c]; exact rpE_ok (rpS_sorted h) k
theorem rpE_app : ∀ {a b : List Ev} {es : List Ed}, rpE es (a ++ b) = if (rpE es a).2 then rpE (rpE es a).1 b else ([], false)
  | [], b, es => by simp [rpE]
  | v :: r, b, es => by
    rw [List.cons_append, rpE, rpE]
    split
    · simp
    · exact rpE_app
/-- The place of an edge that is there. -/
theorem posE_del {es : List Ed} {e : Ed} (hs : es.Pairwise eLt) (he : e ∈ es) : posE es e < es.length ∧ es.take (posE es e) ++ es.drop (posE es e + 1) = cutE es e := by
  obtain ⟨h1, h2⟩ := posE_split hs e
  have hd : es.drop (posE es e) ≠ [] := fun q => by
    have hm : e ∈ es.take (posE es e) ∨ e ∈ es.drop (posE es e) := by rw [← List.mem_append, List.take_append_drop]; exact he
    rw [q] at hm
    exact eLt_irrefl _ (h1 e (hm.resolve_right (by simp)))
  have hlt : posE es e < es.length := by
    have := List.length_pos_iff.2 hd
    rw [List.length_drop] at this; omega
  refine ⟨hlt, sorted_ext ?_ (hs.filter _) fun x => ?_⟩
  · refine hs.sublist ?_
    conv => rhs; rw [← List.take_append_drop (posE es e) es]
    refine List.Sublist.append (List.Sublist.refl _) ?_
    rw [List.drop_eq_getElem_cons hlt]; exact List.sublist_cons_self _ _
  · have hp := hs
    rw [← List.take_append_drop (posE es e) es, List.drop_eq_getElem_cons hlt, List.pairwise_append, List.pairwise_cons] at hp
    have hm : e = es[posE es e] := by
      have : e ∈ es.take (posE es e) ++ es.drop (posE es e) := by rw [List.take_append_drop]; exact he
      rw [List.drop_eq_getElem_cons hlt, List.mem_append, List.mem_cons] at this
      rcases this with q | q | q
      · exact absurd (h1 e q) (eLt_irrefl _)
      · exact q
      · have a := hp.2.1.1 e q
        exact absurd a (h2 _ (by rw [List.drop_eq_getElem_cons hlt]; exact List.mem_cons_self))
    have hx : x ∈ es ↔ x ∈ es.take (posE es e) ∨ x = e ∨ x ∈ es.drop (posE es e + 1) := by
      conv => lhs; rw [← List.take_append_drop (posE es e) es, List.drop_eq_getElem_cons hlt, List.mem_append, List.mem_cons, ← hm]
    rw [List.mem_append]
    simp only [cutE, List.mem_filter, Bool.not_eq_true', decide_eq_false_iff_not]
    rw [hx]
    constructor
    · rintro (q | q)
      · exact ⟨.inl q, fun w => by subst w; exact eLt_irrefl _ (h1 _ q)⟩
      · exact ⟨.inr (.inr q), fun w => by
          subst w
          have := hp.2.1.1 x q
          rw [← hm] at this; exact eLt_irrefl _ this⟩
    · rintro ⟨q | q | q, w⟩
      · exact .inl q
      · exact absurd q w
      · exact .inr q

/-- All that is there meanwhile is small. -/
def small : List Ed → List Ev → Prop
  | es, [] => es.length ≤ 40
  | es, v :: r => es.length ≤ 40 ∧ small (rpS es v) r
theorem small_now : ∀ {vs : List Ev} {es : List Ed}, small es vs → es.length ≤ 40
  | [], _, h => h
  | _ :: _, _, h => h.1
theorem small_part : ∀ {a b : List Ev} {es : List Ed}, small es (a ++ b) → (rpE es a).2 = true → small (rpE es a).1 b
  | [], b, es, h, _ => h
  | v :: r, b, es, h, k => by
    rw [rpE] at k ⊢
    split at k
    · cases k
    · rename_i c; rw [if_neg c]; exact small_part h.2 k
/-- What ends. -/
theorem rp_ends {i : Int} {rest : List Ev} : ∀ {R B : List Ed}, R.Nodup → (∀ e ∈ R, e ∈ B) → rpE B (R.map (fun e => (i, e, false)) ++ rest) = rpE (B.filter fun x => !decide (x ∈ R)) rest ∧
    (B.length ≤ 40 → small (B.filter fun x => !decide (x ∈ R)) rest → small B (R.map (fun e => (i, e, false)) ++ rest))
  | [], B, _, _ => by
    have : (B.filter fun x => !decide (x ∈ ([] : List Ed))) = B := List.filter_eq_self.2 (by simp)
    rw [this]; exact ⟨rfl, fun _ h => h⟩
  | e :: R, B, hn, hs => by
    rw [List.nodup_cons] at hn
    have he := hs e (by simp)
    have hst : rpS B (i, e, false) = cutE B e := by simp [rpS, he]
    have ih := rp_ends (i := i) (rest := rest) (R := R) (B := cutE B e) hn.2 fun x hx => by
      simp only [cutE, List.mem_filter, Bool.not_eq_true', decide_eq_false_iff_not]
      exact ⟨hs x (List.mem_cons_of_mem _ hx), fun q => hn.1 (q ▸ hx)⟩
    have hf : ((cutE B e).filter fun x => !decide (x ∈ R)) = B.filter fun x => !decide (x ∈ e :: R) := by
      unfold cutE; rw [List.filter_filter]
      refine List.filter_congr fun x _ => ?_
      rw [Bool.eq_iff_iff]; simp; rw [and_comm]
    rw [hf] at ih
    refine ⟨?_, fun h1 h2 => ?_⟩
    · rw [List.map_cons, List.cons_append, rpE, hst, if_neg (by simp [he])]; exact ih.1
    · rw [List.map_cons, List.cons_append, small, hst]
      exact ⟨h1, ih.2 (Nat.le_trans (List.length_filter_le _ _) h1) h2⟩
/-- What begins. -/
theorem rp_begins {i : Int} {rest : List Ev} : ∀ {A B : List Ed}, A.Nodup → (∀ e ∈ A, e ∉ B) → B.Pairwise eLt → ∃ D : List Ed, D.Pairwise eLt ∧ (∀ x, x ∈ D ↔ x ∈ A ∨ x ∈ B) ∧ rpE B (A.map (fun e => (i, e, true)) ++ rest) = rpE D rest ∧
    (A.length + B.length ≤ 40 → small D rest → small B (A.map (fun e => (i, e, true)) ++ rest))
  | [], B, _, _, hB => ⟨B, hB, by simp, rfl, fun _ h => h⟩
  | e :: A, B, hn, hs, hB => by
    rw [List.nodup_cons] at hn
    have he := hs e (by simp)
    have hst : rpS B (i, e, true) = putE B e := by simp [rpS, he]
    obtain ⟨D, d1, d2, d3, d4⟩ := rp_begins (i := i) (rest := rest) (A := A) (B := putE B e) hn.2 (fun x hx q => by
      rcases mem_putE.1 q with q | q
      · exact hn.1 (q ▸ hx)
      · exact hs x (List.mem_cons_of_mem _ hx) q) (putE_sorted hB he)
    refine ⟨D, d1, fun x => ?_, ?_, fun h1 h2 => ?_⟩
    · rw [d2 x, mem_putE, List.mem_cons]
      constructor
      · rintro (q | q | q) <;> simp [q]
      · rintro ((q | q) | q) <;> simp [q]
    · rw [List.map_cons, List.cons_append, rpE, hst, if_neg (by simp [he])]; exact d3
    · rw [List.map_cons, List.cons_append, small, hst]
      refine ⟨by simp at h1; omega, d4 ?_ h2⟩
      rw [putE_length]; simp at h1; omega

/-- What happens from one list to the other. -/
def ev1 (i : Int) (B C : List Ed) : List Ev := (B.filter fun x => !decide (x ∈ C)).map (fun e => (i, e, false)) ++ (C.filter fun x => !decide (x ∈ B)).map (fun e => (i, e, true))
theorem sorted_nodup {es : List Ed} (h : es.Pairwise eLt) : es.Nodup := by
  rw [List.nodup_iff_pairwise_ne]
  exact h.imp fun hab e => by subst e; exact eLt_irrefl _ hab
theorem filter_two (p : Ed → Bool) : ∀ l : List Ed, (l.filter fun x => !p x).length + (l.filter p).length = l.length
  | [] => rfl
  | a :: l => by
    have := filter_two p l
    cases h : p a <;> simp [List.filter_cons, h] <;> omega
theorem rp_ev1 {i : Int} {B C : List Ed} {rest : List Ev} (hB : B.Pairwise eLt) (hC : C.Pairwise eLt) (lB : B.length ≤ 40) (lC : C.length ≤ 40) :
    rpE B (ev1 i B C ++ rest) = rpE C rest ∧ (small C rest → small B (ev1 i B C ++ rest)) := by
  have h1 := rp_ends (i := i) (rest := (C.filter fun x => !decide (x ∈ B)).map (fun e => (i, e, true)) ++ rest) (R := B.filter fun x => !decide (x ∈ C)) (B := B) (sorted_nodup (hB.filter _)) (fun e he => (List.mem_filter.1 he).1)
  have hK : (B.filter fun x => !decide (x ∈ B.filter fun x => !decide (x ∈ C))) = B.filter fun x => decide (x ∈ C) := List.filter_congr fun x hx => by
    rw [Bool.eq_iff_iff]; simp [hx]
  rw [hK] at h1
  obtain ⟨D, d1, d2, d3, d4⟩ := rp_begins (i := i) (rest := rest) (A := C.filter fun x => !decide (x ∈ B)) (B := B.filter fun x => decide (x ∈ C)) (sorted_nodup (hC.filter _)) (fun e he q => by
    have a := (List.mem_filter.1 he).2
    have b := (List.mem_filter.1 q).1
    simp at a; exact a b) (hB.filter _)
  have hD : D = C := sorted_ext d1 hC fun x => by
    rw [d2 x]; simp only [List.mem_filter, Bool.not_eq_true', decide_eq_false_iff_not, decide_eq_true_eq]
    constructor
    · rintro (q | q)
      · exact q.1
      · exact q.2
    · intro q
      by_cases w : x ∈ B
      · exact .inr ⟨w, q⟩
      · exact .inl ⟨q, w⟩
  subst hD
  have hcount : (D.filter fun x => !decide (x ∈ B)).length + (B.filter fun x => decide (x ∈ D)).length = D.length := by
    have e1 : (B.filter fun x => decide (x ∈ D)) = D.filter fun x => decide (x ∈ B) := sorted_ext (hB.filter _) (hC.filter _) fun x => by simp [and_comm]
    rw [e1]
    exact filter_two _ D
  unfold ev1
  rw [List.append_assoc]
  exact ⟨h1.1.trans d3, fun h => h1.2 lB (d4 (by omega) h)⟩
/-- What happens through turns. -/
def evs (n : Int) (br : List Ed → List Ed) : Nat → List Ed → List Ed → List Ev
  | _, _, [] => []
  | i, es, t :: r => ev1 i (br es) (br (turnE n es t)) ++ evs n br (i + 1) (turnE n es t) r
theorem rp_evs {n : Int} {br : List Ed → List Ed} (hb : ∀ es, gvB n es = true → (br es).Pairwise eLt ∧ (br es).length ≤ 40) : ∀ {ts es : List Ed} {i : Nat}, gvB n es = true → trT n es ts = true →
    rpE (br es) (evs n br i es ts) = (br (trG n es ts), true) ∧ small (br es) (evs n br i es ts)
  | [], es, i, h, _ => ⟨rfl, (hb es h).2⟩
  | t :: r, es, i, h, k => by
    simp only [trT, Bool.and_eq_true] at k
    have g := (turnOK_gv k.1).2.1
    have ih := rp_evs hb (ts := r) (es := turnE n es t) (i := i + 1) g k.2
    have h1 := rp_ev1 (i := i) (rest := evs n br (i + 1) (turnE n es t) r) (hb es h).1 (hb _ g).1 (hb es h).2 (hb _ g).2
    rw [evs, trG]
    exact ⟨h1.1.trans ih.1, h1.2 ih.2⟩
theorem ev1_len {i : Int} {B C : List Ed} : (ev1 i B C).length ≤ B.length + C.length := by
  have a := List.length_filter_le (fun x => !decide (x ∈ C)) B
  have b := List.length_filter_le (fun x => !decide (x ∈ B)) C
  unfold ev1; simp only [List.length_append, List.length_map]; omega
theorem evs_len {n : Int} {br : List Ed → List Ed} (hb : ∀ es, gvB n es = true → (br es).Pairwise eLt ∧ (br es).length ≤ 40) : ∀ {ts es : List Ed} {i : Nat}, gvB n es = true → trT n es ts = true → (evs n br i es ts).length ≤ 80 * ts.length
  | [], es, i, h, _ => by simp [evs]
  | t :: r, es, i, h, k => by
    simp only [trT, Bool.and_eq_true] at k
    have g := (turnOK_gv k.1).2.1
    have ih := evs_len hb (ts := r) (es := turnE n es t) (i := i + 1) g k.2
    have h1 := ev1_len (i := i) (B := br es) (C := br (turnE n es t))
    have a := (hb es h).2
    have b := (hb _ g).2
    rw [evs, List.length_append, List.length_cons]; omega
theorem evs_snoc {n : Int} {br : List Ed → List Ed} : ∀ {a es : List Ed} {i : Nat} {t : Ed}, evs n br i es (a ++ [t]) = evs n br i es a ++ ev1 ((i + a.length : Nat) : Int) (br (trG n es a)) (br (turnE n (trG n es a) t))
  | [], es, i, t => by simp [evs, trG]
  | x :: r, es, i, t => by
    rw [List.cons_append, evs, evs, trG, evs_snoc (a := r), List.append_assoc, List.length_cons]
    congr 4; omega
theorem evs_next {n : Int} {br : List Ed → List Ed} {a es : List Ed} {i : Nat} {t : Ed} (ht : a[i]? = some t) : evs n br 0 es (a.take (i + 1)) = evs n br 0 es (a.take i) ++ ev1 (i : Int) (br (trG n es (a.take i))) (br (trG n es (a.take (i + 1)))) := by
  have hi := (List.getElem?_eq_some_iff.1 ht).1
  rw [trG_next ht, take_snoc ht, evs_snoc]
  simp; congr 2; omega
end Go.Pl
