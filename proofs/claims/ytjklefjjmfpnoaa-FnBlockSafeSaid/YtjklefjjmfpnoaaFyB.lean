/-
  The head of a translation, read word by word from the front: so that the kernel need not read it to its end.
-/
import Derived.WalkKit
import Derived.ProofKit
import Derived.OpenShut
namespace Go.Fw
set_option linter.unusedVariables false

def wordsGo : List Char → List Char → List (List Char)
  | acc, [] => [acc.reverse]
  | acc, x :: r => if x = Char.ofNat 32 then acc.reverse :: wordsGo [] r else wordsGo (x :: acc) r
theorem words_ne (l : List Char) : ∃ w ws, wordsSigns l = w :: ws := by
  cases l with
  | nil => exact ⟨[], [], rfl⟩
  | cons x r =>
    unfold wordsSigns
    split
    · rename_i h; cases h
    · exact ⟨_, _, rfl⟩
    · split <;> exact ⟨_, _, rfl⟩
theorem words_blank (r : List Char) : wordsSigns (Char.ofNat 32 :: r) = [] :: wordsSigns r := rfl
theorem words_sign {x : Char} (h : x ≠ Char.ofNat 32) {r : List Char} {w : List Char} {ws : List (List Char)} (e : wordsSigns r = w :: ws) : wordsSigns (x :: r) = (x :: w) :: ws := by
  rw [wordsSigns.eq_def]
  split
  · rename_i h'; cases h'
  · rename_i h'; cases h'; exact absurd rfl h
  · rename_i h'; cases h'; rw [e]
theorem wordsGo_eq : ∀ (l acc : List Char) (w : List Char) (ws : List (List Char)), wordsSigns l = w :: ws → wordsGo acc l = (acc.reverse ++ w) :: ws
  | [], acc, w, ws, h => by
    have : wordsSigns [] = [[]] := rfl
    rw [this] at h; cases h; simp [wordsGo]
  | x :: r, acc, w, ws, h => by
    obtain ⟨w1, ws1, e1⟩ := words_ne r
    by_cases e : x = Char.ofNat 32
    · subst e
      rw [words_blank] at h; cases h
      simp only [wordsGo, if_true]
      rw [wordsGo_eq r [] w1 ws1 e1, e1]; simp
    · rw [words_sign e e1] at h
      have h1 := (List.cons.inj h).1
      have h2 := (List.cons.inj h).2
      simp only [wordsGo, if_neg e]
      rw [wordsGo_eq r (x :: acc) w1 ws1 e1, ← h1, ← h2]; simp
theorem words_front (l : List Char) : wordsSigns l = wordsGo [] l := by
  obtain ⟨w, ws, e⟩ := words_ne l
  rw [wordsGo_eq l [] w ws e, e]; simp
abbrev sg (n : Nat) : Char := Char.ofNat n
theorem make_of (P : Program) (w : List (List Char)) (h : behindMainWord (wordsSigns P.initOrder.toList) = [sg 99, sg 117, sg 116] :: w) : P.make = some .cut := by unfold Program.make; rw [h]; rfl
theorem lifts_of (P : Program) (w : List (List Char)) (h : behindMainWord (wordsSigns P.initOrder.toList) = [sg 99, sg 117, sg 116] :: w) : P.liftsFinal = false := by
  unfold Program.liftsFinal Program.headLifts; rw [h]; rfl
theorem enter_of (P : Program) (w : List (List Char)) (h : behindMainWord (wordsSigns P.initOrder.toList) = [sg 99, sg 117, sg 116] :: w) (h1 : P.laysLater = false) (h2 : P.bearsReflect = false) (h3 : P.doorFits [] = true) : P.mayEnter = true := by
  have e : stripLifts liftWords ([sg 99, sg 117, sg 116] :: w) = ([], [sg 99, sg 117, sg 116] :: w) := rfl
  unfold Program.mayEnter; rw [h]; simp only [e, h1, h2, h3]; rfl
end Go.Fw
