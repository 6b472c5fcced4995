/-
  slices.SortFunc on edges: the library's contract, as a call's outcome: edges that all differ come out in order.
-/
import Derived.Test.YtjklefjjmfpnoaaCtG4
import Derived.Test.YtjklefjjmfpnoaaSl
import Derived.Shelf.SlSortCmp.NoneTotal
namespace Go.Fw
set_option linter.unusedSimpArgs false
set_option linter.unusedVariables false
set_option maxRecDepth 100000
set_option maxHeartbeats 4000000
open Go.Proofs.Try (prog)
open Go.Pl Go.Sort Go.Proofs

theorem WExt.grown {w w' : World} (h : WExt w [] w') : ∃ q os, w' = grow (w.drewN q) os := by
  refine ⟨w'.drawn - w.drawn, w'.heap.extract w.heap.size w'.heap.size, ?_⟩
  have e : w'.heap = w.heap ++ w'.heap.extract w.heap.size w'.heap.size := by
    apply Array.ext_getElem?
    intro i
    rw [Array.getElem?_append]
    split
    · rename_i hi; exact h.block i hi (by simp)
    · rename_i hi
      rw [Array.getElem?_extract]
      have := h.size
      split
      · congr 1; omega
      · exact Array.getElem?_eq_none (by omega)
  have d := h.drawn
  have e1 := h.os
  have e2 := h.tape
  have e3 := h.output
  cases w'; cases w
  simp only [grow, World.drewN] at *
  subst e1 e2 e3
  congr 1
  omega

/-- An edge's two cells. -/
def vE (e : E) : List Value := [.int .i64 e.1, .int .i64 e.2]
theorem flatE_get (l : List E) {i : Nat} {e : E} (he : l[i]? = some e) : (flatK vE 2 l.toArray)[2 * i]! = .int .i64 e.1 ∧ (flatK vE 2 l.toArray)[2 * i + 1]! = .int .i64 e.2 := by
  have hi : i < l.length := (List.getElem?_eq_some_iff.1 he).1
  have ge : l.toArray[i]! = e := by simp [hi, List.getElem_of_getElem? he] at *; first | exact (List.getElem?_eq_some_iff.1 he).2 | simp [he]
  constructor
  · rw [get_flatK _ _ _ _ (by simp; omega), show 2 * i / 2 = i by omega, show 2 * i % 2 = 0 by omega, ge]; rfl
  · rw [get_flatK _ _ _ _ (by simp; omega), show (2 * i + 1) / 2 = i by omega, show (2 * i + 1) % 2 = 1 by omega, ge]; rfl
theorem cellE (l : List E) {i : Nat} {e : E} (he : l[i]? = some e) : cellD (encE l) i 0 = .i .i64 e.1 ∧ cellD (encE l) i 1 = .i .i64 e.2 := by
  constructor <;> simp [cellD, encE, List.getD, he]
theorem holds_of {I : Imm} {w : World} {lc : Loc} {l : List E} (h : BRep I w lc 2 (encE l)) : HoldsK vE 2 w lc.b lc.base l.toArray := by
  obtain ⟨hk, cs, E0, hb, h1, h2, h3⟩ := h
  intro j hj
  have hj' : j < l.length * 2 := by simpa using hj
  have hi : j / 2 < l.length := by omega
  obtain ⟨e, he⟩ : ∃ e, l[j / 2]? = some e := ⟨_, List.getElem?_eq_getElem hi⟩
  obtain ⟨c0, c1⟩ := cellE l he
  obtain ⟨f0, f1⟩ := flatE_get l he
  have fr : w.frozen? ⟨lc.b, lc.base + j, none⟩ = false := by
    unfold World.frozen?; rw [hb]; simp
  refine ⟨?_, fr⟩
  have cell : ∀ (c : Nat) (v : Value), cs[lc.base + c]? = some v → w.cell? ⟨lc.b, lc.base + c, none⟩ = some v := fun c v hv => by
    unfold World.cell?; rw [hb]; simpa using hv
  rcases Nat.mod_two_eq_zero_or_one j with q | q
  · obtain ⟨v, hv, hr⟩ := h3 (j / 2) 0 (by rw [encE_length]; exact hi) (by omega)
    rw [c0] at hr
    cases hr
    have ej : j / 2 * 2 + 0 = j := by omega
    rw [Nat.add_assoc, ej] at hv
    rw [cell _ _ hv]
    have : (flatK vE 2 l.toArray)[j]! = .int .i64 e.1 := by rw [← f0]; congr 1; omega
    rw [this]; rfl
  · obtain ⟨v, hv, hr⟩ := h3 (j / 2) 1 (by rw [encE_length]; exact hi) (by omega)
    rw [c1] at hr
    cases hr
    have ej : j / 2 * 2 + 1 = j := by omega
    rw [Nat.add_assoc, ej] at hv
    rw [cell _ _ hv]
    have : (flatK vE 2 l.toArray)[j]! = .int .i64 e.2 := by rw [← f1]; congr 1; omega
    rw [this]; rfl
theorem of_holds {I : Imm} {w : World} {lc : Loc} {l : List E} {cs : Array Value} {E0 : TypeId} (hk : lc.k = 2) (hb : w.heap[lc.b]? = some (.cells cs E0 (0, 0))) (h1 : lc.base + lc.C * 2 ≤ cs.size) (h2 : l.length ≤ lc.C)
    (h : HoldsK vE 2 w lc.b lc.base l.toArray) : BRep I w lc 2 (encE l) := by
  refine ⟨hk, cs, E0, hb, h1, by rw [encE_length]; exact h2, fun i j hi hj => ?_⟩
  rw [encE_length] at hi
  obtain ⟨e, he⟩ : ∃ e, l[i]? = some e := ⟨_, List.getElem?_eq_getElem hi⟩
  obtain ⟨c0, c1⟩ := cellE l he
  obtain ⟨f0, f1⟩ := flatE_get l he
  have cell : ∀ (c : Nat) (v : Value), w.cell? ⟨lc.b, lc.base + c, none⟩ = some v → cs[lc.base + c]? = some v := fun c v hv => by
    unfold World.cell? at hv; rw [hb] at hv; simpa using hv
  have hj2 : j = 0 ∨ j = 1 := by omega
  rcases hj2 with rfl | rfl
  · have := (h (2 * i) (by simp; omega)).1
    rw [f0] at this
    exact ⟨_, by rw [show lc.base + i * 2 + 0 = lc.base + 2 * i by omega]; exact cell _ _ this, by rw [c0]; exact .i _ _⟩
  · have := (h (2 * i + 1) (by simp; omega)).1
    rw [f1] at this
    exact ⟨_, by rw [show lc.base + i * 2 + 1 = lc.base + (2 * i + 1) by omega]; exact cell _ _ this, by rw [c1]; exact .i _ _⟩

theorem swoE : SWO (ltOf cmpE) where
  irrefl x := by simp only [ltOf, decide_eq_false_iff_not]; exact fun h => eLt_irrefl x (cmpE_lt.1 h)
  trans x y z h1 h2 := by
    simp only [ltOf, decide_eq_true_eq] at *
    exact cmpE_lt.2 (eLt_trans (cmpE_lt.1 h1) (cmpE_lt.1 h2))
  ntrans x y z h1 h2 := by
    simp only [ltOf, decide_eq_false_iff_not, cmpE_lt] at *
    unfold eLt at *; omega

theorem cmpLays (blk off size : Nat) (w : World) : CmpLays prog fid_impl_compareEdges #[] vE 2 cmpE blk off size w := by
  intro m os dk _ x y
  have h := compareEdges_is x y (sortWorldK vE 2 w blk off m dk os) (fun _ => none) #[.agg (vE x).toArray, .agg (vE y).toArray] [] (fun b o hb => by cases hb) List.nodup_nil ?_
  · refine h.mono ?_
    rintro e w' ⟨v, outs, r, J', G, rfl, ⟨_, rfl⟩, hx, _, _, _, _, ho⟩
    refine ⟨?_, hx.grown⟩
    cases ho with
    | cons _ _ _ _ _ _ h _ =>
      cases h with
      | imm _ _ hr => cases hr; rfl
  · have one : ∀ z : E, Own prog (heapBut (sortWorldK vE 2 w blk off m dk os) []) (fun _ => none) (sortWorldK vE 2 w blk off m dk os) (.agg (vE z).toArray) (Ed1 z) [] := fun z =>
      .imm _ _ (.agg _ _ (.cons _ _ _ _ (.i _ _) (.cons _ _ _ _ (.i _ _) .nil)) (by intro v hv; simp [vE] at hv; rcases hv with rfl | rfl <;> rfl))
    exact .cons _ _ _ _ [] [] (one x) (.cons _ _ _ _ [] [] (one y) .nil)

theorem sorted_is {l m : List E} {d : Array E} (hp : m.Perm l) (hs : m.Pairwise eLt) (h1 : PermIn 0 l.toArray.size l.toArray d) (h2 : SortedIn (ltOf cmpE) 0 l.toArray.size d) : d = m.toArray := by
  obtain ⟨hz, _, hpd⟩ := h1
  have e1 : d.extract 0 l.toArray.size = d := by rw [← hz]; simp
  have e2 : l.toArray.extract 0 l.toArray.size = l.toArray := by simp
  rw [e1, e2] at hpd
  have hpd' : d.toList.Perm m := hpd.trans hp.symm
  have nd : m.Nodup := List.nodup_iff_pairwise_ne.2 (hs.imp fun {a b} hab (e : a = b) => eLt_irrefl a (by rw [← e] at hab; exact hab))
  have nd' : d.toList.Nodup := hpd'.nodup_iff.2 nd
  have hsd : d.toList.Pairwise eLt := by
    rw [List.pairwise_iff_getElem]
    intro i j hi hj hij
    have hj' : j < l.toArray.size := by rw [← hz]; simpa using hj
    have q := h2 i j (Nat.zero_le _) hij hj'
    simp only [ltOf, decide_eq_false_iff_not, cmpE_lt] at q
    have hi2 : i < d.size := by simpa using hi
    have hj2 : j < d.size := by simpa using hj
    rw [getElem!_pos d i hi2, getElem!_pos d j hj2] at q
    have ne : d.toList[i] ≠ d.toList[j] := fun c => by
      exact List.pairwise_iff_getElem.1 (List.nodup_iff_pairwise_ne.1 nd') i j hi hj hij c
    simp only [Array.getElem_toList] at ne ⊢
    exact Classical.byContradiction fun c => ne (eLt_total c q)
  have : d.toList = m := sorted_ext hsd hs fun x => hpd'.mem_iff
  rw [← this]

theorem WExt.sortWorld {α : Type} [Inhabited α] (enc : α → List Value) (k : Nat) (w : World) (blk off n : Nat) (d : Array α) (os : Array Obj) : WExt w [blk] (sortWorldK enc k w blk off n d os) := by
  refine ⟨rfl, rfl, rfl, by simp [sortWorldK, grow, putRowK, putRow, mapBlock, Sort.ahead], fun b hb hn => ?_, fun b cs E z h => ?_, by simp [sortWorldK, grow, putRowK, putRow, mapBlock, Sort.ahead]⟩
  · have hne : blk ≠ b := fun e => hn (by simp [e])
    simp only [sortWorldK, grow, putRowK, putRow, mapBlock, Sort.ahead]
    rw [Array.getElem?_append_left (by simpa using hb), Array.getElem?_modify, if_neg hne]
  · have hb := (Array.getElem?_eq_some_iff.1 h).1
    simp only [sortWorldK, grow, putRowK, putRow, mapBlock, Sort.ahead]
    rw [Array.getElem?_append_left (by simpa using hb), Array.getElem?_modify]
    by_cases e : blk = b
    · subst e
      rw [if_pos rfl, h]
      exact ⟨_, rfl, by simp [putCells]⟩
    · rw [if_neg e]; exact ⟨cs, h, rfl⟩

theorem SortFunc_is (t : Bool) (l m : List E) (hp : m.Perm l) (hs : m.Pairwise eLt) (hl : l.length ≤ 1048576) :
    MCall prog fid_slices_SortFunc_impl_Edge_impl_Edge [.ow t 2 (encE l), .clo fid_impl_compareEdges [] []] (fun o r => o = [.ow true 2 (encE m), .u] ∧ r = .tup []) := by
  intro w J vs F hJ hnd ho
  obtain ⟨vs⟩ := vs
  change OwnL prog (heapBut w F) J w vs _ F at ho
  cases ho with
  | cons v1 vs1 _ _ F1 F2 o1 ho =>
    cases ho with
    | cons v2 vs2 _ _ F3 F4 o2 ho =>
      cases ho with
      | nil =>
        cases o2 with
        | imm _ _ hr =>
          cases hr with
          | clo _ fv cv _ _ c1 c2 =>
            obtain ⟨fv⟩ := fv
            obtain ⟨cv⟩ := cv
            cases c1
            cases c2
            have enters : ∀ args w, (callFunc fid_impl_compareEdges args).run prog w = .ok (.enter fid_impl_compareEdges args) w := enters_of get_impl_compareEdges (by kernel_rfl) rfl
            generalize he : encE l = es at o1
            cases o1 with
            | imm _ _ hr => cases hr
            | ow0 p _ _ =>
              have e0 : l = [] := by
                cases l with
                | nil => rfl
                | cons x l => simp [encE] at he
              subst e0
              have e1 : m = [] := List.perm_nil.1 hp
              subst e1
              refine (AnyF.slices_SortFunc_none { Try.sortE with } p 0 _ w).mono ?_
              rintro e w' ⟨rfl, rfl⟩
              exact ⟨_, _, _, J, [], rfl, ⟨rfl, rfl⟩, WExt.refl _ _, fun _ _ h => h, fun b o h => ⟨(hJ b o h).1, by simp, .inl h⟩, List.nodup_nil, by simp,
                .cons _ _ _ _ [] [] (.imm _ _ (.tup _ _ .nil)) (.cons _ _ _ _ [] [] (.ow0 _ _ _) (.cons _ _ _ _ [] [] (.imm _ _ (.u _)) .nil))⟩
            | ow lc _ _ _ cap len hlen hcap hC hk hb =>
              subst he
              rw [encE_length] at hlen
              subst hlen
              have hH := holds_of hb
              obtain ⟨hlk, cs, E0, hcs, hsz, hle, _⟩ := hb
              have hblk : lc.b < w.heap.size := (Array.getElem?_eq_some_iff.1 hcs).1
              have key := AnyQ.slices_SortFunc Try.sortE 2 Try.isAgg33 Try.sizeOf33 vE (fun _ => rfl) (fun x v hv => by simp [vE] at hv; rcases hv with rfl | rfl <;> rfl) cmpE swoE
                fid_impl_compareEdges #[] lc.b lc.base cap l.toArray w enters (cmpLays _ _ _ _) hH hblk (by simp; omega)
              refine Calls.mono key ?_
              rintro e w' ⟨rfl, d, n, os, h1, h2, hw⟩
              obtain rfl := sorted_is hp hs h1 h2
              have hz : m.toArray.size = l.toArray.size := h1.1
              have hH' : HoldsK vE 2 w' lc.b lc.base m.toArray := by rw [hw]; exact holdsK_sortWorldK_c vE 2 w lc.b lc.base l.toArray m.toArray n os hH hblk hz
              have hW : WExt w [lc.b] w' := by rw [hw]; exact WExt.sortWorld _ _ _ _ _ _ _ _
              obtain ⟨cs', hcs', hsz'⟩ := hW.shape _ _ _ _ hcs
              refine ⟨_, _, _, J, [lc.b], rfl, ⟨rfl, rfl⟩, hW, fun _ _ h => h, fun b o h => ?_, by simp, by simp, ?_⟩
              · obtain ⟨a1, a2⟩ := hJ b o h
                have a2' : b ∉ [lc.b] := by simpa using a2
                exact ⟨by rw [hW.block b (Array.getElem?_eq_some_iff.1 a1).1 a2']; exact a1, a2', .inl h⟩
              · have hml : m.length = l.length := hp.length_eq
                refine .cons _ _ _ _ [] [lc.b] (.imm _ _ (.tup _ _ .nil)) (.cons _ _ _ _ [lc.b] [] ?_ (.cons _ _ _ _ [] [] (.imm _ _ (.u _)) .nil))
                exact .ow lc true 2 (encE m) cap l.length (by rw [encE_length, hml]) hcap hC (fun e he => by simp [encE] at he; obtain ⟨a, b, _, rfl⟩ := he; rfl)
                  (of_holds hlk hcs' (by rw [hsz']; exact hsz) (by rw [encE_length] at hle; omega) hH')
end Go.Fw
