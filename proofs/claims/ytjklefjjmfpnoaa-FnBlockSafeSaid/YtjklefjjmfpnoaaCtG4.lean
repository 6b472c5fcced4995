/-
  Graphs: edges put in, cut out.
-/
import Derived.Test.YtjklefjjmfpnoaaCtG3
import Derived.Test.YtjklefjjmfpnoaaCtGv
namespace Go.Fw
set_option linter.unusedSimpArgs false
set_option linter.unusedVariables false
set_option maxRecDepth 100000
set_option maxHeartbeats 4000000
open Go.Proofs.Try (prog)
open Go.Pl

/-- Elements put over others from a place on. -/
def overL {α : Type} (a : List α) (i : Nat) (b : List α) : List α := a.take i ++ b ++ a.drop (i + b.length)
theorem overR_encE (a b : List E) (i : Nat) : overR (encE a) i (encE b) = encE (overL a i b) := by
  simp only [overR, overL, encE_take, encE_drop, encE_length, encE_app]
theorem overL_length {α : Type} {a b : List α} {i : Nat} (h : i ≤ a.length) : (overL a i b).length = max a.length (i + b.length) := by simp [overL]; omega
theorem overL_mid {α : Type} {x y b : List α} {i : Nat} {z : List α} (hx : x.length = i) (hz : z.length = b.length) : overL (x ++ (z ++ y)) i b = x ++ (b ++ y) := by
  subst hx
  simp only [overL, List.take_left', List.append_assoc]
  rw [← hz, ← List.drop_drop, List.drop_left, List.drop_left]
theorem ins_new {l : List E} {i : Nat} (e : E) (hi : i < l.length) : overL (overL (l.take i ++ List.replicate (l.length + 1 - i) (0, 0)) i [e]) (i + 1) (l.drop i) = l.take i ++ e :: l.drop i := by
  have h1 : (l.take i).length = i := by simp; omega
  have e1 : List.replicate (l.length + 1 - i) ((0, 0) : E) = [(0, 0)] ++ List.replicate (l.length - i) (0, 0) := by
    rw [show l.length + 1 - i = (l.length - i) + 1 by omega, List.replicate_succ]; rfl
  rw [e1, overL_mid (b := [e]) (z := [(0, 0)]) h1 rfl]
  have e2 : l.take i ++ ([e] ++ List.replicate (l.length - i) ((0, 0) : E)) = (l.take i ++ [e]) ++ (List.replicate (l.length - i) (0, 0) ++ []) := by simp
  rw [e2, overL_mid (by simp; omega) (by simp)]
  simp
theorem ins_old {l : List E} {i : Nat} (e : E) (hi : i < l.length) : overL (overL l (i + 1) (l.drop i)) i [e] = l.take i ++ e :: l.drop i := by
  have h1 : (l.take i).length = i := by simp; omega
  have e1 : overL l (i + 1) (l.drop i) = l.take i ++ ([l[i]] ++ l.drop i) := by
    unfold overL
    rw [List.drop_eq_nil_of_le (show l.length ≤ i + 1 + (l.drop i).length by simp; omega), List.append_nil, take_snoc (List.getElem?_eq_getElem hi), List.append_assoc]
  rw [e1, overL_mid (b := [e]) (z := [l[i]]) h1 rfl]; rfl
theorem ins_length {l : List E} {i : Nat} (e : E) (hi : i ≤ l.length) : (l.take i ++ e :: l.drop i).length = l.length + 1 := by simp; omega
theorem fitsU64 {n : Int} (h1 : 0 ≤ n) (h2 : n ≤ 9223372036854775807) : Fits .u64 n := by
  have e1 : (2 : Int) ^ (64 : Nat) = 18446744073709551616 := by decide
  simp only [Fits, IntKind.wrap, IntKind.bits, IntKind.signed, e1, Bool.false_and, Bool.false_eq_true, if_false]
  omega
theorem sorted_take {l : List E} (hs : l.Pairwise eLt) {m : Nat} {x : E} (hx : l[m]? = some x) : ∀ y ∈ l.take (m + 1), y = x ∨ eLt y x := by
  intro y hy
  obtain ⟨hm, rfl⟩ := List.getElem?_eq_some_iff.1 hx
  obtain ⟨k, hk, rfl⟩ := List.mem_iff_getElem.1 hy
  simp at hk
  by_cases e : k = m
  · subst e; left; simp
  · right; simp only [List.getElem_take]; exact List.pairwise_iff_getElem.1 hs k m (by omega) hm (by omega)
theorem sorted_drop {l : List E} (hs : l.Pairwise eLt) {m : Nat} {x : E} (hx : l[m]? = some x) : ∀ y ∈ l.drop m, y = x ∨ eLt x y := by
  intro y hy
  obtain ⟨hm, rfl⟩ := List.getElem?_eq_some_iff.1 hx
  obtain ⟨k, hk, rfl⟩ := List.mem_iff_getElem.1 hy
  simp at hk
  simp only [List.getElem_drop]
  by_cases e : k = 0
  · subst e; left; simp
  · right; exact List.pairwise_iff_getElem.1 hs m (m + k) hm (by omega) (by omega)
/-- The comparison of edges as a function value. -/
def cmpD (xs : List FV) : Prop := ∃ a b : E, xs = [.g [.i .i64 a.1, .i .i64 a.2], .g [.i .i64 b.1, .i .i64 b.2]]
def cmpF : List FV → FV
  | [.g [.i _ a, .i _ b], .g [.i _ c, .i _ d]] => .c (.i .i64 (cmpE (a, b) (c, d)))
  | _ => default
theorem fnOk_cmp {s : MS} : FnOk prog s fid_impl_compareEdges [] [] cmpD cmpF := by
  refine ⟨⟨_, get_impl_compareEdges, by kernel_rfl, by kernel_rfl⟩, fun xs hx ⟨a, b, hxs⟩ => ?_⟩
  subst hxs
  refine (compareEdges_is a b).mono fun o r hr => ?_
  rw [hr.2]
  exact ⟨rfl, rfl⟩
end Go.Fw
