/-
  The draws: a source of numbers over bytes.
-/
import Derived.Test.YtjklefjjmfpnoaaCtK
import Derived.Test.YtjklefjjmfpnoaaCe
namespace Go.Fw
set_option linter.unusedSimpArgs false
set_option linter.unusedVariables false
set_option maxRecDepth 100000
set_option maxHeartbeats 4000000
open Go.Proofs.Try (prog)

/-- Bytes. -/
def Byt (b : List Int) : Prop := ∀ x ∈ b, 0 ≤ x ∧ x ≤ 255

def pickX (b : List Int) (p : Int) : Int :=
  (b[(p.tmod b.length).toNat]?.getD 0) * 131 + (b[((p * 7 + 3).tmod b.length).toNat]?.getD 0) * 1117 + p * 29 + (p.tdiv b.length) * 53
def pickM (b : List Int) (p n : Int) : Int :=
  if n < 1 ∨ b = [] then 0
  else if p < b.length then (b[p.toNat]?.getD 0).tmod n
  else (ibits .xor .i64 (pickX b p) ((pickX b p).tdiv 64)).tmod n

theorem l14Open_is (b : List Int) : Is prog fid_spec_l14Open [.s true 1 (encB b)] (.pw [.s true 1 (encB (b.take 2000)), .i .i64 0]) := by
  refine MCall.run mixed get_spec_l14Open ok_spec_l14Open (Nat.le_of_ble_eq_true rfl) (by decide) ?_
  unfold mc_spec_l14Open
  simp (maxSteps := 9999999) -implicitDefEqProofs only [go_sem, mwp_draw, encB_length, encB_take]
  refine ⟨fun h => ⟨by omega, by omega, by omega, ?_⟩, fun h => ?_⟩
  · rfl
  · rw [List.take_of_length_le (by omega)]

/-- What a source hands on. -/
abbrev PickOut (b : List Int) (p : Int) : List MV := [.pw [.s true 1 (encB b), .i .i64 (p + 1)], .u]

theorem tmod_rng {a b : Int} (h : 0 ≤ a) (hb : 0 < b) : 0 ≤ a.tmod b ∧ a.tmod b < b := ⟨Int.tmod_nonneg _ h, Int.tmod_lt_of_pos _ hb⟩
theorem byt_get {b : List Int} (hb : Byt b) {i : Nat} {x : Int} (h : b[i]? = some x) : 0 ≤ x ∧ x ≤ 255 := hb x (List.mem_of_getElem? h)
theorem pickX_rng {b : List Int} {p : Int} (hb : Byt b) (hne : b ≠ []) (hl : b.length ≤ 2000) (hp : 0 ≤ p ∧ p ≤ 1000000000) : 0 ≤ pickX b p ∧ pickX b p ≤ 100000000000 := by
  have hlen : 0 < (b.length : Int) := by have := List.length_pos_iff.2 hne; omega
  have g : ∀ i : Nat, 0 ≤ b[i]?.getD 0 ∧ b[i]?.getD 0 ≤ 255 := fun i => by
    cases h : b[i]? with
    | none => simp
    | some x => simpa using byt_get hb h
  have h1 := g (p.tmod b.length).toNat
  have h2 := g ((p * 7 + 3).tmod b.length).toNat
  have h3 : 0 ≤ p.tdiv b.length := Int.tdiv_nonneg hp.1 (by omega)
  have h4 : p.tdiv b.length ≤ p := by
    rw [Int.tdiv_eq_ediv_of_nonneg hp.1]
    exact Int.ediv_le_self _ hp.1
  unfold pickX
  omega

theorem pick_is (b : List Int) (p n : Int) (hb : Byt b) (hl : b.length ≤ 2000) (hp : 0 ≤ p ∧ p ≤ 1000000000) (hn : -1000000 ≤ n ∧ n ≤ 1000000) :
    MCall prog fid_p_spec_l14Rd_pick [.pw [.s true 1 (encB b), .i .i64 p], .i .i64 n] (fun o r => o = PickOut b p ∧ r = .i .i64 (pickM b p n)) := by
  refine MCall.run mixed get_p_spec_l14Rd_pick ok_p_spec_l14Rd_pick (Nat.le_of_ble_eq_true rfl) (by decide) ?_
  unfold mc_p_spec_l14Rd_pick
  simp (maxSteps := 9999999) -implicitDefEqProofs only [go_sem, mwp_draw, encB_length, getK_encB, Int.add_sub_cancel]
  refine ⟨fits64 (by omega) (by omega), fun h1 => ⟨fun h2 => ?_, fun h2 => ⟨fits64 (by omega) (by omega), fun h3 => ⟨by omega, by omega, fun x hx => ⟨?_, by omega, ?_⟩⟩, fun h3 => ?_⟩⟩, fun h1 => ?_⟩
  · have : b = [] := List.eq_nil_of_length_eq_zero (by omega)
    simp [pickM, this]
  · have := byt_get hb hx; exact fits64 (by omega) (by omega)
  · have : b ≠ [] := fun e => h2 (by simp [e])
    simp [pickM, h1, this, h3, hx]
  · have hne : b ≠ [] := fun e => h2 (by simp [e])
    have r0 := pickX_rng hb hne hl hp
    have hlen : 0 < (b.length : Int) := by omega
    have r1 := tmod_rng hp.1 hlen
    have r2 := tmod_rng (a := p * 7 + 3) (by omega) hlen
    have h7 : 0 ≤ p.tdiv b.length := Int.tdiv_nonneg hp.1 (by omega)
    have h4 : p.tdiv b.length ≤ p := by rw [Int.tdiv_eq_ediv_of_nonneg hp.1]; exact Int.ediv_le_self _ hp.1
    have h3' : ¬ p < b.length := by omega
    refine ⟨by omega, r1.1, r1.2, fun x hx => ?_⟩
    have hx' := byt_get hb hx
    refine ⟨fits64 (by omega) (by omega), fits64 (by omega) (by omega), fits64 (by omega) (by omega), fits64 (by omega) (by omega), by omega, r2.1, r2.2, fun y hy => ?_⟩
    have hy' := byt_get hb hy
    have eX : x * 131 + y * 1117 + p * 29 + (p.tdiv b.length) * 53 = pickX b p := by simp [pickX, hx, hy]
    rw [eX]
    refine ⟨fits64 (by omega) (by omega), fits64 (by omega) (by omega), fits64 (by omega) (by omega), fits64 (by omega) (by omega), fits64 (by omega) (by omega), by omega, fits64 (by omega) (by omega), fits64 (by omega) (by omega), fits64 (by omega) (by omega), by kernel_rfl, ?_⟩
    have : (pickX b p).tdiv 64 ≤ pickX b p := by rw [Int.tdiv_eq_ediv_of_nonneg r0.1]; exact Int.ediv_le_self _ r0.1
    have : 0 ≤ (pickX b p).tdiv 64 := Int.tdiv_nonneg r0.1 (by omega)
    refine ⟨by omega, fits64 (by omega) (by omega), by omega, ?_⟩
    simp [pickM, h1, hne, h3']
  · simp [pickM, h1]

theorem ixor_nonneg {x y : Int} (hx : 0 ≤ x ∧ x ≤ 1000000000000) (hy : 0 ≤ y ∧ y ≤ 1000000000000) : 0 ≤ ibits .xor .i64 x y := by
  obtain ⟨a, rfl⟩ := Int.eq_ofNat_of_zero_le hx.1
  obtain ⟨c, rfl⟩ := Int.eq_ofNat_of_zero_le hy.1
  have e : ibits .xor .i64 (a : Int) (c : Int) = IntKind.i64.wrap ((BitVec.ofInt 64 (a : Int) ^^^ BitVec.ofInt 64 (c : Int)).toNat : Int) := rfl
  have h1 : (BitVec.ofInt 64 (a : Int)).toNat = a := by simp [BitVec.toNat_ofInt]; omega
  have h2 : (BitVec.ofInt 64 (c : Int)).toNat = c := by simp [BitVec.toNat_ofInt]; omega
  rw [e, BitVec.toNat_xor, h1, h2]
  have h3 : a ^^^ c < 2 ^ 62 := Nat.xor_lt_two_pow (by omega) (by omega)
  have h4 : Fits .i64 ((a ^^^ c : Nat) : Int) := fits64 (by omega) (by omega)
  rw [h4]; omega

theorem pick_rng {b : List Int} {p : Int} (n : Int) (hb : Byt b) (hl : b.length ≤ 2000) (hp : 0 ≤ p ∧ p ≤ 1000000000) : 0 ≤ pickM b p n ∧ (1 ≤ n → pickM b p n < n) := by
  unfold pickM
  split
  · exact ⟨by omega, fun h => by omega⟩
  · rename_i h
    have h1 : ¬ n < 1 := fun e => h (.inl e)
    have hne : b ≠ [] := fun e => h (.inr e)
    have h0 : (0 : Int) < n := by omega
    split
    · have g : 0 ≤ b[p.toNat]?.getD 0 := by
        cases h : b[p.toNat]? with
        | none => simp
        | some x => simpa using (byt_get hb h).1
      exact ⟨(tmod_rng g h0).1, fun _ => (tmod_rng g h0).2⟩
    · have r0 := pickX_rng hb hne hl hp
      have h5 : (pickX b p).tdiv 64 ≤ pickX b p := by rw [Int.tdiv_eq_ediv_of_nonneg r0.1]; exact Int.ediv_le_self _ r0.1
      have h6 : 0 ≤ (pickX b p).tdiv 64 := Int.tdiv_nonneg r0.1 (by omega)
      have g := ixor_nonneg (x := pickX b p) (y := (pickX b p).tdiv 64) (by omega) (by omega)
      exact ⟨(tmod_rng g h0).1, fun _ => (tmod_rng g h0).2⟩

def numM (b : List Int) (p : Int) (l : List Int) : Int := l[(pickM b p l.length).toNat]?.getD 0

theorem num_is (tt : Bool) (b : List Int) (p : Int) (l : List Int) (hb : Byt b) (hl : b.length ≤ 2000) (hp : 0 ≤ p ∧ p ≤ 1000000000) (hn : 0 < l.length ∧ l.length ≤ 1000) :
    MCall prog fid_p_spec_l14Rd_num [.pw [.s true 1 (encB b), .i .i64 p], .s tt 1 (encI l)] (fun o r => o = PickOut b p ∧ r = .i .i64 (numM b p l)) := by
  refine MCall.run mixed get_p_spec_l14Rd_num ok_p_spec_l14Rd_num (Nat.le_of_ble_eq_true rfl) (by decide) ?_
  unfold mc_p_spec_l14Rd_num
  simp (maxSteps := 9999999) -implicitDefEqProofs only [go_sem, mwp_draw, encI_length, getK_encI]
  refine callK_det (pick_is b p l.length hb hl hp (by omega)) ?_
  have r := pick_rng (b := b) (p := p) l.length hb hl hp
  simp (maxSteps := 9999999) -implicitDefEqProofs only [go_sem, mwp_draw, encI_length, getK_encI]
  exact ⟨r.1, r.2 (by omega), fun x hx => by simp [numM, hx]⟩

theorem num_mem {b : List Int} {p : Int} {l : List Int} (hb : Byt b) (hl : b.length ≤ 2000) (hp : 0 ≤ p ∧ p ≤ 1000000000) (hn : 0 < l.length) : numM b p l ∈ l := by
  have r := pick_rng (b := b) (p := p) l.length hb hl hp
  have : (pickM b p l.length).toNat < l.length := by omega
  unfold numM
  rw [List.getElem?_eq_getElem this]
  exact List.getElem_mem _
end Go.Fw
