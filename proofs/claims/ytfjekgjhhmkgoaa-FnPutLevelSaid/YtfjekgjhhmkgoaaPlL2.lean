/-
  Graphs with levels: an edge is put in, an edge is cut out. No program in sight.
-/
import Derived.Test.YtfjekgjhhmkgoaaPlL
namespace Go.Pl
set_option linter.unusedVariables false
set_option linter.unusedSimpArgs false

theorem up_mid {A B : List Lv1} {x : Lv1} {j : Int} {b : Bool} : up (A ++ x :: B) j b = up A j b ++ ((if upP j b x then [x.1] else []) ++ up B j b) := by
  simp only [up, List.filter_append, List.filter_cons, List.map_append]
  split <;> simp
theorem up_app {A B : List Lv1} {j : Int} {b : Bool} : up (A ++ B) j b = up A j b ++ up B j b := by simp [up, List.filter_append]
theorem up_in {A B : List Lv1} {x : Lv1} {j : Int} {b : Bool} (h : upP j b x = true) : (∀ d, d ∈ up (A ++ x :: B) j b ↔ d = x.1 ∨ d ∈ up (A ++ B) j b) ∧ (up (A ++ x :: B) j b).length = (up (A ++ B) j b).length + 1 := by
  rw [up_mid, up_app, if_pos h]
  refine ⟨fun d => ?_, by simp; omega⟩
  simp only [List.mem_append, List.mem_singleton, List.mem_cons, List.not_mem_nil, or_false]
  constructor
  · rintro (q | q | q) <;> simp [q]
  · rintro (q | q | q) <;> simp [q]
theorem up_out {A B : List Lv1} {x : Lv1} {j : Int} {b : Bool} (h : upP j b x = false) : up (A ++ x :: B) j b = up (A ++ B) j b := by
  rw [up_mid, up_app, if_neg (by simp [h])]; simp
theorem fst_mid {A B : List Lv1} {x : Lv1} {d : Ed} (h : d ∈ (A ++ B).map (·.1)) : d ∈ (A ++ x :: B).map (·.1) := by
  simp only [List.map_append, List.mem_append, List.map_cons, List.mem_cons] at h ⊢
  rcases h with h | h
  · exact .inl h
  · exact .inr (.inr h)
theorem nd_mid {A B : List Lv1} {x : Lv1} (h : ((A ++ x :: B).map (·.1)).Nodup) : ((A ++ B).map (·.1)).Nodup ∧ x.1 ∉ (A ++ B).map (·.1) := by
  have e : ((A ++ x :: B).map (·.1)).Perm (x.1 :: (A ++ B).map (·.1)) := by
    simp only [List.map_append, List.map_cons]; exact List.perm_middle
  have := e.nodup_iff.1 h
  rw [List.nodup_cons] at this
  exact ⟨this.2, this.1⟩

/-- An edge of the forest is cut. -/
theorem LOK.cut_tree {n : Int} {A B : List Lv1} {e : Ed} {le : Nat} (h : LOK n (A ++ (e, (le : Int), true) :: B)) : LIV n (A ++ B) e (le + 1) := by
  have hle : le ≤ 4 := by have := (h.lev (e, (le : Int), true) (by simp)).2; simp at this; omega
  have he : EIn n e := h.ein e (by simp)
  have hn0 : 0 ≤ n := by have := h.hn; omega
  have hE : ∀ d ∈ (A ++ B).map (·.1), EIn n d := fun d hd => h.ein d (fst_mid hd)
  have hU : ∀ {j : Int} {b : Bool}, ∀ d ∈ up (A ++ B) j b, EIn n d := fun d hd => hE d (up_fst hd)
  have hU0 : ∀ {j : Int} {b : Bool}, ∀ d ∈ up (A ++ (e, (le : Int), true) :: B) j b, EIn n d := fun d hd => h.ein d (up_fst hd)
  have hEE : ∀ {j : Int} {b : Bool}, ∀ d ∈ e :: up (A ++ B) j b, EIn n d := fun d hd => by
    rcases List.mem_cons.1 hd with rfl | hd
    · exact he
    · exact hU d hd
  have hi : ∀ (j : Nat) (b : Bool), le < j → up (A ++ (e, (le : Int), true) :: B) (j : Int) b = up (A ++ B) j b := fun j b hj => up_out (by
    have : ¬ (j : Int) ≤ le := by omega
    simp [upP, this])
  have lo : ∀ (j : Nat) (b : Bool), j ≤ le → (∀ d, d ∈ up (A ++ (e, (le : Int), true) :: B) (j : Int) b ↔ d = e ∨ d ∈ up (A ++ B) j b) ∧ (up (A ++ (e, (le : Int), true) :: B) (j : Int) b).length = (up (A ++ B) j b).length + 1 := fun j b hj => up_in (by
    have : (j : Int) ≤ le := by omega
    simp [upP, this])
  have cg : ∀ (j : Nat), j ≤ le → ∀ x y, Rch (up (A ++ (e, (le : Int), true) :: B) (j : Int) true) x y ↔ Rch (e :: up (A ++ B) j true) x y := fun j hj x y => Rch.congr fun d => by rw [(lo j true hj).1 d]; simp
  refine ⟨h.hn, hE, (nd_mid h.nd).1, fun x hx => h.lev x ?_, he, by omega, fun j h1 h2 => ?_, fun j hj => ?_, fun j h1 h2 => ?_, fun j hj => ?_, fun j h1 h2 => ?_, fun j hj => ?_⟩
  · simp only [List.mem_append, List.mem_cons] at hx ⊢
    rcases hx with q | q
    · exact .inl q
    · exact .inr (.inr q)
  · rw [← hi j true (by omega)]; exact h.acy j h2
  · have l := lo j true (by omega)
    exact acy_mem hn0 hU0 (fun d => by rw [l.1 d]; simp) (by rw [l.2]; simp) (h.acy j (by omega))
  · rw [← hi j true (by omega), ← hi j false (by omega)]; exact h.con j h2
  · intro x y r
    refine (cg j (by omega) x y).1 (h.con j (by omega) x y (r.mono fun d hd => ?_))
    exact ((lo j false (by omega)).1 d).2 (.inr hd)
  · rw [← hi j false (by omega)]; exact h.siz j h2
  · intro x h0 hx hc
    have e1 : cnt n (e :: up (A ++ B) j true) x ≤ cnt n (up (A ++ (e, (le : Int), true) :: B) (j : Int) false) x :=
      cnt_le hEE hU0 ⟨h0, hx⟩ fun y r => ((cg j (by omega) x y).2 r).mono fun d hd => up_tree hd
    exact Nat.le_trans e1 (h.siz j (by omega) x h0 hx (by omega))
/-- Another edge is cut. -/
theorem LOK.cut_other {n : Int} {A B : List Lv1} {e : Ed} {l : Int} (h : LOK n (A ++ (e, l, false) :: B)) : LOK n (A ++ B) := by
  have hE : ∀ d ∈ (A ++ B).map (·.1), EIn n d := fun d hd => h.ein d (fst_mid hd)
  have hU : ∀ {j : Int} {b : Bool}, ∀ d ∈ up (A ++ B) j b, EIn n d := fun d hd => hE d (up_fst hd)
  have hU0 : ∀ {j : Int} {b : Bool}, ∀ d ∈ up (A ++ (e, l, false) :: B) j b, EIn n d := fun d hd => h.ein d (up_fst hd)
  have tr : ∀ j : Int, up (A ++ (e, l, false) :: B) j true = up (A ++ B) j true := fun j => up_out (by simp [upP])
  have al : ∀ {j : Int} {d}, d ∈ up (A ++ B) j false → d ∈ up (A ++ (e, l, false) :: B) j false := fun {j d} hd => by
    rw [up_mid]; rw [up_app] at hd
    simp only [List.mem_append] at hd ⊢
    rcases hd with q | q
    · exact .inl q
    · exact .inr (.inr q)
  refine ⟨h.hn, hE, (nd_mid h.nd).1, fun x hx => h.lev x ?_, fun j hj => ?_, fun j hj x y r => ?_, fun j hj x h0 hx hc => ?_⟩
  · simp only [List.mem_append, List.mem_cons] at hx ⊢
    rcases hx with q | q
    · exact .inl q
    · exact .inr (.inr q)
  · rw [← tr]; exact h.acy j hj
  · rw [← tr]; exact h.con j hj x y (r.mono fun d hd => al hd)
  · have e1 : cnt n (up (A ++ B) j false) x ≤ cnt n (up (A ++ (e, l, false) :: B) j false) x := cnt_le hU hU0 ⟨h0, hx⟩ fun y r => r.mono fun d hd => al hd
    exact Nat.le_trans e1 (h.siz j hj x h0 hx (by omega))
theorem cnt_top {n : Int} {es : List Ed} {x : Int} : cnt n es x ≤ n.toNat := by
  have := List.countP_le_length (p := fun i : Nat => decide (nth (labL n es) (i : Int) = nth (labL n es) x)) (l := List.range n.toNat)
  simpa [cnt] using this
/-- An edge is put in. -/
theorem LOK.put {n : Int} {A B : List Lv1} {e : Ed} {t : Bool} (h : LOK n (A ++ B)) (he : EIn n e) (hm : e ∉ (A ++ B).map (·.1)) (ht : t = true ↔ ¬ Rch ((A ++ B).map (·.1)) e.1 e.2) : LOK n (A ++ (e, 0, t) :: B) := by
  have hE : ∀ d ∈ (A ++ (e, 0, t) :: B).map (·.1), EIn n d := fun d hd => by
    simp only [List.map_append, List.mem_append, List.map_cons, List.mem_cons] at hd
    rcases hd with q | rfl | q
    · exact h.ein d (by simp only [List.map_append, List.mem_append]; exact .inl q)
    · exact he
    · exact h.ein d (by simp only [List.map_append, List.mem_append]; exact .inr q)
  have hU0 : ∀ {j : Int} {b : Bool}, ∀ d ∈ up (A ++ B) j b, EIn n d := fun d hd => h.ein d (up_fst hd)
  have hU : ∀ {j : Int} {b : Bool}, ∀ d ∈ up (A ++ (e, 0, t) :: B) j b, EIn n d := fun d hd => hE d (up_fst hd)
  have hn0 : 0 ≤ n := by have := h.hn; omega
  have hi : ∀ (j : Nat) (b : Bool), 0 < j → up (A ++ (e, 0, t) :: B) (j : Int) b = up (A ++ B) j b := fun j b hj => up_out (by
    have : j ≠ 0 := by omega
    simp [upP, this])
  have mem0 : ∀ d, d ∈ up (A ++ B) 0 false ↔ d ∈ (A ++ B).map (·.1) := fun d => by
    refine ⟨up_fst, fun hd => ?_⟩
    obtain ⟨x, hx, rfl⟩ := List.mem_map.1 hd
    exact mem_up.2 ⟨x.2.1, x.2.2, hx, (h.lev x hx).1, fun q => by cases q⟩
  have r0 : t = true ↔ ¬ Rch (up (A ++ B) 0 false) e.1 e.2 := ht.trans (not_congr (Rch.congr fun d => (mem0 d).symm))
  have al := up_in (A := A) (B := B) (x := (e, 0, t)) (j := 0) (b := false) (by simp [upP])
  have hc0 := h.con 0 (by omega)
  have hnd : ((A ++ (e, 0, t) :: B).map (·.1)).Nodup := by
    have p : ((A ++ (e, 0, t) :: B).map (·.1)).Perm (e :: (A ++ B).map (·.1)) := by
      simp only [List.map_append, List.map_cons]; exact List.perm_middle
    exact p.nodup_iff.2 (List.nodup_cons.2 ⟨hm, h.nd⟩)
  refine ⟨h.hn, hE, hnd, fun x hx => ?_, fun j hj => ?_, fun j hj => ?_, fun j hj => ?_⟩
  · simp only [List.mem_append, List.mem_cons] at hx
    rcases hx with q | rfl | q
    · exact h.lev x (by simp [q])
    · exact ⟨by simp, by simp⟩
    · exact h.lev x (by simp [q])
  · by_cases q : j = 0
    · subst q
      cases t
      · rw [up_out (by simp [upP])]; exact h.acy 0 hj
      · have tr := up_in (A := A) (B := B) (x := (e, 0, true)) (j := 0) (b := true) (by simp [upP])
        refine acy_mem hn0 (es := e :: up (A ++ B) 0 true) (fun d hd => ?_) (fun d => by rw [show ((0 : Nat) : Int) = 0 from rfl, tr.1 d]; simp) (by rw [show ((0 : Nat) : Int) = 0 from rfl, tr.2]; simp) (acy_cons hU0 he (h.acy 0 hj) fun r => r0.1 rfl (r.mono fun d hd => up_tree hd))
        rcases List.mem_cons.1 hd with rfl | hd
        · exact he
        · exact hU0 d hd
    · rw [hi j true (by omega)]; exact h.acy j hj
  · by_cases q : j = 0
    · subst q
      intro x y r
      cases t
      · rw [up_out (by simp [upP])]
        refine r.of_adj fun d hd => hc0 _ _ ?_
        rcases (al.1 d).1 hd with rfl | q
        · exact Classical.byContradiction fun w => by have := r0.2 w; cases this
        · exact .one (.inl q)
      · have tr := up_in (A := A) (B := B) (x := (e, 0, true)) (j := 0) (b := true) (by simp [upP])
        refine r.of_adj fun d hd => ?_
        rcases (al.1 d).1 hd with rfl | q
        · exact .one (.inl ((tr.1 _).2 (.inl rfl)))
        · exact (hc0 _ _ (.one (.inl q))).mono fun d hd => (tr.1 d).2 (.inr hd)
    · rw [hi j true (by omega), hi j false (by omega)]; exact h.con j hj
  · by_cases q : j = 0
    · subst q
      intro x h0 hx hc
      simpa using cnt_top
    · rw [hi j false (by omega)]; exact h.siz j hj
end Go.Pl
