/-
  Data as the contracts spell them: whole numbers, bytes, truth values, pairs and lists of them, in slices.
-/
import Derived.Test.YtjklefjjmfpnoaaCd
import Derived.Test.YtjklefjjmfpnoaaFxC
namespace Go.Fw
set_option linter.unusedSimpArgs false
set_option linter.unusedVariables false
set_option maxRecDepth 100000
set_option maxHeartbeats 4000000
open Go.Proofs.Try (prog)
theorem mixed : prog.follows .mixedOrders = true := by rfl

def encI (l : List Int) : List (List D) := l.map fun n => [D.i .i64 n]
theorem getK_encI {l : List Int} {i : Nat} {K : List D → Prop} : getK (encI l) i K = ∀ x, l[i]? = some x → K [D.i .i64 x] := getK_map
theorem encI_length (l : List Int) : (encI l).length = l.length := by simp [encI]
theorem encI_take (l : List Int) (n : Nat) : (encI l).take n = encI (l.take n) := by simp [encI]
theorem encI_drop (l : List Int) (n : Nat) : (encI l).drop n = encI (l.drop n) := by simp [encI]
theorem encI_app (l m : List Int) : encI l ++ encI m = encI (l ++ m) := by simp [encI]
theorem encI_snoc (l : List Int) (n : Int) : encI l ++ [[D.i .i64 n]] = encI (l ++ [n]) := by simp [encI]
theorem encI_set (l : List Int) (i : Nat) (n : Int) : (encI l).set i [D.i .i64 n] = encI (l.set i n) := by simp [encI, List.map_set]
theorem encI_rep (k : Nat) (n : Int) : List.replicate k [D.i .i64 n] = encI (List.replicate k n) := by simp [encI]
theorem encI_nil : encI [] = [] := rfl
theorem encI_cons (n : Int) (l : List Int) : [D.i .i64 n] :: encI l = encI (n :: l) := rfl
theorem encI_one (n : Int) : [[D.i .i64 n]] = encI [n] := rfl

def encB (l : List Int) : List (List D) := l.map fun n => [D.i .u8 n]
theorem getK_encB {l : List Int} {i : Nat} {K : List D → Prop} : getK (encB l) i K = ∀ x, l[i]? = some x → K [D.i .u8 x] := getK_map
theorem encB_length (l : List Int) : (encB l).length = l.length := by simp [encB]
theorem encB_take (l : List Int) (n : Nat) : (encB l).take n = encB (l.take n) := by simp [encB]
theorem encB_drop (l : List Int) (n : Nat) : (encB l).drop n = encB (l.drop n) := by simp [encB]

/-- Truth values. -/
def encT (l : List Bool) : List (List D) := l.map fun n => [D.b n]
theorem getK_encT {l : List Bool} {i : Nat} {K : List D → Prop} : getK (encT l) i K = ∀ x, l[i]? = some x → K [D.b x] := getK_map
theorem encT_length (l : List Bool) : (encT l).length = l.length := by simp [encT]
theorem encT_take (l : List Bool) (n : Nat) : (encT l).take n = encT (l.take n) := by simp [encT]
theorem encT_drop (l : List Bool) (n : Nat) : (encT l).drop n = encT (l.drop n) := by simp [encT]
theorem encT_app (l m : List Bool) : encT l ++ encT m = encT (l ++ m) := by simp [encT]
theorem encT_snoc (l : List Bool) (n : Bool) : encT l ++ [[D.b n]] = encT (l ++ [n]) := by simp [encT]
theorem encT_set (l : List Bool) (i : Nat) (n : Bool) : (encT l).set i [D.b n] = encT (l.set i n) := by simp [encT, List.map_set]
theorem encT_rep (k : Nat) (n : Bool) : List.replicate k [D.b n] = encT (List.replicate k n) := by simp [encT]

/-- Edges. -/
abbrev E := Int × Int
def encE (l : List E) : List (List D) := l.map fun e => [D.i .i64 e.1, D.i .i64 e.2]
theorem getK_encE {l : List E} {i : Nat} {K : List D → Prop} : getK (encE l) i K = ∀ x, l[i]? = some x → K [D.i .i64 x.1, D.i .i64 x.2] := getK_map
theorem encE_length (l : List E) : (encE l).length = l.length := by simp [encE]
theorem encE_take (l : List E) (n : Nat) : (encE l).take n = encE (l.take n) := by simp [encE]
theorem encE_drop (l : List E) (n : Nat) : (encE l).drop n = encE (l.drop n) := by simp [encE]
theorem encE_app (l m : List E) : encE l ++ encE m = encE (l ++ m) := by simp [encE]
theorem encE_snoc (l : List E) (a b : Int) : encE l ++ [[D.i .i64 a, D.i .i64 b]] = encE (l ++ [(a, b)]) := by simp [encE]
theorem encE_set (l : List E) (i : Nat) (a b : Int) : (encE l).set i [D.i .i64 a, D.i .i64 b] = encE (l.set i (a, b)) := by simp [encE, List.map_set]
theorem encE_rep (k : Nat) (a b : Int) : List.replicate k [D.i .i64 a, D.i .i64 b] = encE (List.replicate k (a, b)) := by simp [encE]

/-- Spans of time (with an edge). -/
abbrev L4 := Int × Int × Int × Int
def encL (l : List L4) : List (List D) := l.map fun e => [D.i .i64 e.1, D.i .i64 e.2.1, D.i .i64 e.2.2.1, D.i .i64 e.2.2.2]
theorem getK_encL {l : List L4} {i : Nat} {K : List D → Prop} : getK (encL l) i K = ∀ x, l[i]? = some x → K [D.i .i64 x.1, D.i .i64 x.2.1, D.i .i64 x.2.2.1, D.i .i64 x.2.2.2] := getK_map
theorem encL_length (l : List L4) : (encL l).length = l.length := by simp [encL]
theorem encL_take (l : List L4) (n : Nat) : (encL l).take n = encL (l.take n) := by simp [encL]
theorem encL_drop (l : List L4) (n : Nat) : (encL l).drop n = encL (l.drop n) := by simp [encL]
theorem encL_app (l m : List L4) : encL l ++ encL m = encL (l ++ m) := by simp [encL]
theorem encL_snoc (l : List L4) (a b c d : Int) : encL l ++ [[D.i .i64 a, D.i .i64 b, D.i .i64 c, D.i .i64 d]] = encL (l ++ [(a, b, c, d)]) := by simp [encL]
theorem encL_set (l : List L4) (i : Nat) (a b c d : Int) : (encL l).set i [D.i .i64 a, D.i .i64 b, D.i .i64 c, D.i .i64 d] = encL (l.set i (a, b, c, d)) := by simp [encL, List.map_set]
theorem encL_one (a b c d : Int) : [[D.i .i64 a, D.i .i64 b, D.i .i64 c, D.i .i64 d]] = encL [(a, b, c, d)] := rfl

/-- Events: a turn, a bridge, whether it begins. -/
abbrev V3 := Int × E × Bool
def encV (l : List V3) : List (List D) := l.map fun e => [D.i .i64 e.1, D.i .i64 e.2.1.1, D.i .i64 e.2.1.2, D.b e.2.2]
theorem getK_encV {l : List V3} {i : Nat} {K : List D → Prop} : getK (encV l) i K = ∀ x, l[i]? = some x → K [D.i .i64 x.1, D.i .i64 x.2.1.1, D.i .i64 x.2.1.2, D.b x.2.2] := getK_map
theorem encV_length (l : List V3) : (encV l).length = l.length := by simp [encV]
theorem encV_take (l : List V3) (n : Nat) : (encV l).take n = encV (l.take n) := by simp [encV]
theorem encV_drop (l : List V3) (n : Nat) : (encV l).drop n = encV (l.drop n) := by simp [encV]
theorem encV_app (l m : List V3) : encV l ++ encV m = encV (l ++ m) := by simp [encV]
theorem encV_snoc (l : List V3) (a b c : Int) (d : Bool) : encV l ++ [[D.i .i64 a, D.i .i64 b, D.i .i64 c, D.b d]] = encV (l ++ [(a, (b, c), d)]) := by simp [encV]
theorem encV_set (l : List V3) (i : Nat) (a b c : Int) (d : Bool) : (encV l).set i [D.i .i64 a, D.i .i64 b, D.i .i64 c, D.b d] = encV (l.set i (a, (b, c), d)) := by simp [encV, List.map_set]

/-- Graphs with so many nodes; lists of edges. -/
def encG (n : Int) (l : List (List E)) : List (List D) := l.map fun es => [D.i .i64 n, D.a 2 (encE es)]
theorem getK_encG {n : Int} {l : List (List E)} {i : Nat} {K : List D → Prop} : getK (encG n l) i K = ∀ x, l[i]? = some x → K [D.i .i64 n, D.a 2 (encE x)] := getK_map
theorem encG_length (n : Int) (l : List (List E)) : (encG n l).length = l.length := by simp [encG]
theorem encG_take (n : Int) (l : List (List E)) (m : Nat) : (encG n l).take m = encG n (l.take m) := by simp [encG]
theorem encG_drop (n : Int) (l : List (List E)) (m : Nat) : (encG n l).drop m = encG n (l.drop m) := by simp [encG]
theorem encG_snoc (n : Int) (l : List (List E)) (es : List E) : encG n l ++ [[D.i .i64 n, D.a 2 (encE es)]] = encG n (l ++ [es]) := by simp [encG]
theorem encG_one (n : Int) (es : List E) : [[D.i .i64 n, D.a 2 (encE es)]] = encG n [es] := rfl
def encF (l : List (List E)) : List (List D) := l.map fun es => [D.a 2 (encE es)]
theorem getK_encF {l : List (List E)} {i : Nat} {K : List D → Prop} : getK (encF l) i K = ∀ x, l[i]? = some x → K [D.a 2 (encE x)] := getK_map
theorem encF_length (l : List (List E)) : (encF l).length = l.length := by simp [encF]
theorem encF_take (l : List (List E)) (m : Nat) : (encF l).take m = encF (l.take m) := by simp [encF]
theorem encF_drop (l : List (List E)) (m : Nat) : (encF l).drop m = encF (l.drop m) := by simp [encF]
theorem encF_snoc (l : List (List E)) (es : List E) : encF l ++ [[D.a 2 (encE es)]] = encF (l ++ [es]) := by simp [encF]

theorem take_set_next {α : Type} {m l : List α} {i : Nat} {x : α} (h2 : m.length = l.length) (h3 : m.take i = l.take i) (hx : l[i]? = some x) : (m.set i x).take (i + 1) = l.take (i + 1) := by
  have hlt : i < l.length := (List.getElem?_eq_some_iff.1 hx).1
  apply List.ext_getElem?
  intro j
  have h4 : ∀ j, j < i → m[j]? = l[j]? := fun j hj => by
    have := congrArg (·[j]?) h3
    simpa [List.getElem?_take, hj] using this
  by_cases hj : j < i + 1
  · simp only [List.getElem?_take, hj, if_true]
    by_cases e : i = j
    · subst e; rw [List.getElem?_set_self (by omega), hx]
    · rw [List.getElem?_set_ne e, h4 j (by omega)]
  · simp [List.getElem?_take, hj]
theorem flat_map {α : Type} {f : α → List D} (hf : ∀ a, ∀ d ∈ f a, d.isFlat = true) (l : List α) : Flat (l.map f) := by
  intro e he d hd
  obtain ⟨a, _, rfl⟩ := List.mem_map.1 he
  exact hf a d hd
theorem flat_encI (l : List Int) : Flat (encI l) = True := eq_true (flat_map (by simp [D.isFlat]) l)
theorem flat_encB (l : List Int) : Flat (encB l) = True := eq_true (flat_map (by simp [D.isFlat]) l)
theorem flat_encT (l : List Bool) : Flat (encT l) = True := eq_true (flat_map (by simp [D.isFlat]) l)
theorem flat_encE (l : List E) : Flat (encE l) = True := eq_true (flat_map (by simp [D.isFlat]) l)
theorem flat_encV (l : List V3) : Flat (encV l) = True := eq_true (flat_map (by simp [D.isFlat]) l)
theorem flat_encL (l : List L4) : Flat (encL l) = True := eq_true (flat_map (by simp [D.isFlat]) l)
theorem take_app {α : Type} (l m : List α) : (l ++ m).take (l.length + m.length) = l ++ m := by rw [← List.length_append, List.take_length]
theorem take_app3 {α : Type} (l m k : List α) : (l ++ (m ++ k)).take (l.length + (m.length + k.length)) = l ++ (m ++ k) := by rw [← List.length_append, ← List.length_append, List.take_length]
theorem take_set_len {α : Type} (l : List α) (i : Nat) (x : α) : (l.set i x).take l.length = l.set i x := List.take_of_length_le (by simp)
theorem take_snoc1 {α : Type} (l : List α) (x : α) : (l ++ [x]).take (l.length + 1) = l ++ [x] := by rw [show l.length + 1 = (l ++ [x]).length by simp, List.take_length]
theorem byt_take {b : List Int} (h : ∀ x ∈ b, 0 ≤ x ∧ x ≤ (255 : Int)) (n : Nat) : ∀ x ∈ b.take n, 0 ≤ x ∧ x ≤ (255 : Int) := fun x hx => h x (List.mem_of_mem_take hx)
theorem eq_step {α : Type} {l m : List α} {i : Nat} {x y : α} (h : l.take i = m.take i) (hx : l[i]? = some x) (hy : m[i]? = some y) (e : x = y) : l.take (i + 1) = m.take (i + 1) := by
  rw [List.take_add_one, List.take_add_one, h, hx, hy, e]
theorem eq_ne {α : Type} [DecidableEq α] {l m : List α} {i : Nat} {x y : α} (hx : l[i]? = some x) (hy : m[i]? = some y) (e : x ≠ y) : decide (l = m) = false := by
  refine decide_eq_false fun h => e ?_
  subst h; rw [hx] at hy; exact Option.some.inj hy
theorem eq_end {α : Type} [DecidableEq α] {l m : List α} (h : l.length = m.length) (h2 : l.take l.length = m.take l.length) : decide (l = m) = true := by
  rw [List.take_length, h, List.take_length] at h2; exact decide_eq_true h2
theorem eq_len {α : Type} [DecidableEq α] {l m : List α} (h : ¬ (l.length : Int) = m.length) : decide (l = m) = false := decide_eq_false fun e => h (by rw [e])
theorem mvb {a b : Bool} (h : a = b) : MV.b a = MV.b b := by rw [h]
theorem mvi {a b : Int} {k : IntKind} (h : a = b) : MV.i k a = MV.i k b := by rw [h]
theorem getset {α : Type} {l : List α} {i : Nat} {v y : α} : ((l.set i v)[i]? = some y) = (i < l.length ∧ v = y) := by
  by_cases h : i < l.length
  · simp [h]
  · simp [h]
theorem cst0 : ((0 : Nat) : Int) = 0 := rfl
theorem cst1 : ((1 : Nat) : Int) = 1 := rfl
theorem cst2 : ((2 : Nat) : Int) = 2 := rfl
theorem cst3 : ((3 : Nat) : Int) = 3 := rfl
theorem dec_P {α β : Type} {x y : α × β} [Decidable (x.1 = y.1)] [Decidable (x.2 = y.2)] [Decidable (x = y)] : (decide (x.1 = y.1) && decide (x.2 = y.2)) = decide (x = y) := by
  rw [Bool.eq_iff_iff]; simp [Prod.ext_iff]

/- The rules of walking, as a set. -/
attribute [go_sem] zz_eq mwp_skip mwp_reg mwp_draws mwp_seq mwp_cond mwp_block mwp_exit mwp_ret thenM_n thenM_e thenM_r inBlockM_n inBlockM_e inBlockM_r retQ_n retQ_r mops_nil mops_cons mops_guard mopR_mov mopR_pick mopR_box mopR_alloc mopR_build mopR_buildSlice mopR_load mopR_store mopR_nilCheck mopR_bin mopR_binb mopR_nilq mopR_eqAgg mopR_un mopR_conv mopR_makeSlice mopR_slice mopR_fieldAddr mopR_field mopR_indexAddr mopR_arrAddr mopR_arrIndex mopR_extract mopR_len mopR_append mopR_minmax mopR_call mopR_callv mopR_mkfn mopR_cap mopR_copy mopR_clear mopR_overlaps mopR_appendMk mopR_sliceHd mopR_sliceUp mopR_slice3 mopR_strIdx mopR_sliceTr mopR_dead mopR_nestNil mopR_boxRow mopR_appendRow mopR_rowAddr mopR_rowLoad mopR_callRow mopR_appendIn prefOf lenV hasRow FV.mv MS.val MS.obj app_nil app_none app_put app_del set_some set_none know_t know_v keep_mk look put del upds keepFr chunkVal splice MV.cells ofD toD toDs sliceOf intBin bound buildC rowsV srs argsK argK closeM closeC closeD takeC takeL lendC lendL flatI flatO cellsO mapO flatM flatD outK imp impL readsA readsC readsD readsM retK exMs exM exC exL exO Int.toNat_natCast resV oneOr entry enumFr somes eqCells sigOK mtrace_nil mtrace_cons mtrace_guard did_mk MOp.slots Opd.slots ooSlots norm normWith reach addIds boxIds frIds renFr hpOf idx MV.ids idsL MV.ren renL MO.ren false_implies Option.getD_some Option.getD_none Option.map_some Option.map_none List.map_cons List.map_nil List.append_nil List.nil_append List.cons_append List.flatMap_cons List.flatMap_nil List.length_cons List.length_nil List.getD_cons_zero List.getD_cons_succ List.getD_nil List.drop_zero List.drop_succ_cons List.take_zero List.take_succ_cons List.drop_nil List.take_nil List.set_cons_zero List.set_cons_succ and_true true_and and_self implies_true true_implies forall_const not_false_eq_true or_true true_or or_false false_or Bool.true_and Bool.and_true Bool.not_true Bool.not_false Bool.false_and Bool.and_false Bool.or_true Bool.or_false Bool.true_or Bool.false_or Bool.true_eq_false Bool.false_eq_true forall_eq List.nodup_nil List.nodup_cons List.not_mem_nil List.mem_cons List.contains_nil List.contains_cons Nat.sub_zero Nat.zero_add Nat.add_zero List.any_nil List.any_cons List.getD_eq_getElem?_getD List.getElem?_cons_zero List.getElem?_cons_succ List.getElem?_nil beq_iff_eq Nat.le_refl beq_self_eq_true Option.some_beq_some Option.some.injEq List.set_nil decide_eq_true_eq decide_eq_false_iff_not Option.none_beq_some Option.some_beq_none getK_encI encI_length encI_take encI_drop flat_encI getK_encB encB_length encB_take encB_drop flat_encB getK_encT encT_length encT_take encT_drop flat_encT getK_encE encE_length encE_take encE_drop flat_encE getK_encL encL_length encL_take encL_drop flat_encL getK_encV encV_length encV_take encV_drop flat_encV encI_app encI_snoc encI_set encT_app encT_snoc encT_set encE_app encE_snoc encE_set encL_app encL_snoc encL_set encV_app encV_snoc encV_set getK_encG encG_length encG_take encG_drop encG_snoc getK_encF encF_length encF_take encF_drop encF_snoc decide_true decide_false cst0 cst1 cst2 cst3 not_true_eq_false not_false_eq_true getset List.set_set List.length_set forall_eq' encI_rep encT_rep encE_rep List.take_length List.append_assoc dec_P Int.add_sub_cancel take_app take_app3 take_set_len take_snoc1 List.drop_length Nat.sub_self List.length_append Int.toNat_zero
attribute [go_sem ↓] guardK_tt guardK_ff guardK_tf guardK_ft guardK_dt guardK_df guardK_nt guardK_nf
attribute [go_sem_proc] Nat.reduceAdd Nat.reduceMul Nat.reduceEqDiff Nat.reduceSub Nat.reduceLT reduceCtorEq Nat.reduceLeDiff Nat.reduceBEq
attribute [go_sem_proc ↓] reduceIte
end Go.Fw
