/-
  No cell of these rows narrows 'for every input' (looked for: loops, veiled, ifaces, maps, wideKeys, modest, calm, conditions, laid).
  DERIVED. THE GIVEN ROWS OF THIS SEAT. 6 by the template 'for every input the law returns true; each argument reads behind the call as it read before'; 0 by the template 'total and deterministic' (their statements: YtfjekgjhhmkgoaaTotals.lean).
  GIVEN WITH THE SEED: the statements are not yours to turn. If you find one false, say at which input.
  Laid BY PROGRAM, IN A SANDBOX (cutbox-rows.mjs): the forced cells as the released guide's own fill.sh prints them over the translation c7e676e97db3297b… (all of the seat's roots in one cut). By AI agents, Wed Nov 11 2026. No macro, syntax, notation, axiom, sorry.
-/
import Derived.Test.YtfjekgjhhmkgoaaChecked
import GoSem.Claim
import GoSem.ClaimJoined
import GoSem.ClaimMapViews
import Derived.JoinedTies
import Derived.KernelRfl
namespace Go.Proofs.Ytfjekgjhhmkgoaa
/- THE CELL 'sum', in the pinned program and in every row, IS THE sha256 OF THE DUMP (.gsa) THAT YtfjekgjhhmkgoaaProg.lean LOADS. Nothing in Lean hashes anything: it is a label: what it is worth is what the hold of that sum in a sandbox is worth. -/
noncomputable def Try.pinned : Pinned := { name := "ytfjekgjhhmkgoaa", sum := "c7e676e97db3297b71988ee40286edda30fba4777e7ebbdbbca7ca4a1a430c99", checked := Try.checked }
namespace Rows
def none {H : Type} : Left H := { results := [], args := [] }

/-- 'laws.FnExactCutLevel': WHATEVER THE INPUT: true; the input reads as it did. -/
def fnExactCutLevelSpec : ChangeSpec := { name := "fnExactCutLevel", fn := fun _ => fun
  | [d1, d2] => { results := [.lit (.bool true)], args := [d1, d2] }
  | _ => none }
def fnExactCutLevelRow : OpenClaim := { program := "ytfjekgjhhmkgoaa", sum := "c7e676e97db3297b71988ee40286edda30fba4777e7ebbdbbca7ca4a1a430c99", func := "loop.example/dynamicbridges/laws.FnExactCutLevel", spec := "fnExactCutLevel", unfollowed := true, recurses := true, apart := false }
def FnExactCutLevelSaid : Prop := fnExactCutLevelRow.holds Try.pinned (OpenSpec.ofChange fnExactCutLevelSpec)

/-- ITS FALSE NEIGHBOUR: 'it returns false'. Refute it at one input. -/
def fnExactCutLevelWrong : ChangeSpec := { name := "fnExactCutLevel", fn := fun _ => fun
  | [d1, d2] => { results := [.lit (.bool false)], args := [d1, d2] }
  | _ => none }
def FnExactCutLevelWrongFalsely : Prop := fnExactCutLevelRow.holds Try.pinned (OpenSpec.ofChange fnExactCutLevelWrong)

/-- 'laws.FnPutLevel': WHATEVER THE INPUT: true; the input reads as it did. -/
def fnPutLevelSpec : ChangeSpec := { name := "fnPutLevel", fn := fun _ => fun
  | [d] => { results := [.lit (.bool true)], args := [d] }
  | _ => none }
def fnPutLevelRow : OpenClaim := { program := "ytfjekgjhhmkgoaa", sum := "c7e676e97db3297b71988ee40286edda30fba4777e7ebbdbbca7ca4a1a430c99", func := "loop.example/dynamicbridges/laws.FnPutLevel", spec := "fnPutLevel", inPlace := ["slices.overlaps[loop.example/dynamicbridges/impl.Edge]", "slices.overlaps[int]", "slices.overlaps[bool]"], unfollowed := true, recurses := true, apart := false }
def FnPutLevelSaid : Prop := fnPutLevelRow.holds Try.pinned (OpenSpec.ofChange fnPutLevelSpec)

/-- ITS FALSE NEIGHBOUR: 'it returns false'. Refute it at one input. -/
def fnPutLevelWrong : ChangeSpec := { name := "fnPutLevel", fn := fun _ => fun
  | [d] => { results := [.lit (.bool false)], args := [d] }
  | _ => none }
def FnPutLevelWrongFalsely : Prop := fnPutLevelRow.holds Try.pinned (OpenSpec.ofChange fnPutLevelWrong)

/-- 'laws.FnCutLevel': WHATEVER THE INPUT: true; the input reads as it did. -/
def fnCutLevelSpec : ChangeSpec := { name := "fnCutLevel", fn := fun _ => fun
  | [d] => { results := [.lit (.bool true)], args := [d] }
  | _ => none }
def fnCutLevelRow : OpenClaim := { program := "ytfjekgjhhmkgoaa", sum := "c7e676e97db3297b71988ee40286edda30fba4777e7ebbdbbca7ca4a1a430c99", func := "loop.example/dynamicbridges/laws.FnCutLevel", spec := "fnCutLevel", unfollowed := true, recurses := true, apart := false }
def FnCutLevelSaid : Prop := fnCutLevelRow.holds Try.pinned (OpenSpec.ofChange fnCutLevelSpec)

/-- ITS FALSE NEIGHBOUR: 'it returns false'. Refute it at one input. -/
def fnCutLevelWrong : ChangeSpec := { name := "fnCutLevel", fn := fun _ => fun
  | [d] => { results := [.lit (.bool false)], args := [d] }
  | _ => none }
def FnCutLevelWrongFalsely : Prop := fnCutLevelRow.holds Try.pinned (OpenSpec.ofChange fnCutLevelWrong)

/-- 'laws.FnCutAll': WHATEVER THE INPUT: true; the input reads as it did. -/
def fnCutAllSpec : ChangeSpec := { name := "fnCutAll", fn := fun _ => fun
  | [d] => { results := [.lit (.bool true)], args := [d] }
  | _ => none }
def fnCutAllRow : OpenClaim := { program := "ytfjekgjhhmkgoaa", sum := "c7e676e97db3297b71988ee40286edda30fba4777e7ebbdbbca7ca4a1a430c99", func := "loop.example/dynamicbridges/laws.FnCutAll", spec := "fnCutAll", unfollowed := true, recurses := true, apart := false }
def FnCutAllSaid : Prop := fnCutAllRow.holds Try.pinned (OpenSpec.ofChange fnCutAllSpec)

/-- ITS FALSE NEIGHBOUR: 'it returns false'. Refute it at one input. -/
def fnCutAllWrong : ChangeSpec := { name := "fnCutAll", fn := fun _ => fun
  | [d] => { results := [.lit (.bool false)], args := [d] }
  | _ => none }
def FnCutAllWrongFalsely : Prop := fnCutAllRow.holds Try.pinned (OpenSpec.ofChange fnCutAllWrong)

/-- 'laws.FnSumLevels': WHATEVER THE INPUT: true; the input reads as it did. -/
def fnSumLevelsSpec : ChangeSpec := { name := "fnSumLevels", fn := fun _ => fun
  | [d] => { results := [.lit (.bool true)], args := [d] }
  | _ => none }
def fnSumLevelsRow : OpenClaim := { program := "ytfjekgjhhmkgoaa", sum := "c7e676e97db3297b71988ee40286edda30fba4777e7ebbdbbca7ca4a1a430c99", func := "loop.example/dynamicbridges/laws.FnSumLevels", spec := "fnSumLevels", unfollowed := true, recurses := true, apart := false }
def FnSumLevelsSaid : Prop := fnSumLevelsRow.holds Try.pinned (OpenSpec.ofChange fnSumLevelsSpec)

/-- ITS FALSE NEIGHBOUR: 'it returns false'. Refute it at one input. -/
def fnSumLevelsWrong : ChangeSpec := { name := "fnSumLevels", fn := fun _ => fun
  | [d] => { results := [.lit (.bool false)], args := [d] }
  | _ => none }
def FnSumLevelsWrongFalsely : Prop := fnSumLevelsRow.holds Try.pinned (OpenSpec.ofChange fnSumLevelsWrong)

/-- 'laws.FnLevelForest': WHATEVER THE INPUT: true; the input reads as it did. -/
def fnLevelForestSpec : ChangeSpec := { name := "fnLevelForest", fn := fun _ => fun
  | [d] => { results := [.lit (.bool true)], args := [d] }
  | _ => none }
def fnLevelForestRow : OpenClaim := { program := "ytfjekgjhhmkgoaa", sum := "c7e676e97db3297b71988ee40286edda30fba4777e7ebbdbbca7ca4a1a430c99", func := "loop.example/dynamicbridges/laws.FnLevelForest", spec := "fnLevelForest", unfollowed := true, recurses := true, apart := false }
def FnLevelForestSaid : Prop := fnLevelForestRow.holds Try.pinned (OpenSpec.ofChange fnLevelForestSpec)

/-- ITS FALSE NEIGHBOUR: 'it returns false'. Refute it at one input. -/
def fnLevelForestWrong : ChangeSpec := { name := "fnLevelForest", fn := fun _ => fun
  | [d] => { results := [.lit (.bool false)], args := [d] }
  | _ => none }
def FnLevelForestWrongFalsely : Prop := fnLevelForestRow.holds Try.pinned (OpenSpec.ofChange fnLevelForestWrong)

/- THE SECOND FORM. 'bulk': how many values and letters a reading holds, each counted each time it is reached (what is shared counts as often as it is met; a slice's spare places count too). A statement '..UptoSaid' is the law's where the arguments, and the package variables that the reading takes, are together of bulk at most 1048576: NARROWER than '..Said'. Prove '..Said' where nothing that the law and all that it calls make is longer than what came in: it says more and counts as full. Else prove '..UptoSaid'. A law counts once. -/
mutual
def uptoBulk {H : Type} : DataW H → Nat
  | .lit (.string bytes) => bytes.length + 1
  | .lit _ => 1
  | .nil => 1
  | .ptr d => uptoBulk d + 1
  | .slice elems spare => uptoBulkAll elems + uptoBulkAll spare + 1
  | .agg parts => uptoBulkAll parts + 1
  | .iface _ d => uptoBulk d + 1
  | .map entries => uptoBulkEntries entries + 1
  | .held _ => 1
def uptoBulkAll {H : Type} : List (DataW H) → Nat
  | [] => 0
  | d :: r => uptoBulk d + uptoBulkAll r
def uptoBulkEntries {H : Type} : List (Lit × DataW H) → Nat
  | [] => 0
  | x :: r => uptoBulkEntry x + uptoBulkEntries r
def uptoBulkEntry {H : Type} : Lit × DataW H → Nat
  | (.string bytes, d) => bytes.length + uptoBulk d + 1
  | (_, d) => uptoBulk d + 1
 end
def uptoSmall : (H : Type) → List (DataW H) → Bool := fun _ ds => decide (uptoBulkAll ds ≤ 1048576)
def OpenSpec.upto (s : _root_.Go.ChangeSpec) : _root_.Go.OpenSpec := { _root_.Go.OpenSpec.ofChange s with cond := some uptoSmall }

/-- 'laws.FnExactCutLevel', WHERE WHAT IT READS IS OF BULK AT MOST 1048576: true; the input reads as it did. -/
def fnExactCutLevelUptoRow : OpenClaim := { program := "ytfjekgjhhmkgoaa", sum := "c7e676e97db3297b71988ee40286edda30fba4777e7ebbdbbca7ca4a1a430c99", func := "loop.example/dynamicbridges/laws.FnExactCutLevel", spec := "fnExactCutLevel", unfollowed := true, recurses := true, apart := false, narrowed := true }
def FnExactCutLevelUptoSaid : Prop := fnExactCutLevelUptoRow.holds Try.pinned (OpenSpec.upto fnExactCutLevelSpec)

/-- 'laws.FnPutLevel', WHERE WHAT IT READS IS OF BULK AT MOST 1048576: true; the input reads as it did. -/
def fnPutLevelUptoRow : OpenClaim := { program := "ytfjekgjhhmkgoaa", sum := "c7e676e97db3297b71988ee40286edda30fba4777e7ebbdbbca7ca4a1a430c99", func := "loop.example/dynamicbridges/laws.FnPutLevel", spec := "fnPutLevel", inPlace := ["slices.overlaps[loop.example/dynamicbridges/impl.Edge]", "slices.overlaps[int]", "slices.overlaps[bool]"], unfollowed := true, recurses := true, apart := false, narrowed := true }
def FnPutLevelUptoSaid : Prop := fnPutLevelUptoRow.holds Try.pinned (OpenSpec.upto fnPutLevelSpec)

/-- 'laws.FnCutLevel', WHERE WHAT IT READS IS OF BULK AT MOST 1048576: true; the input reads as it did. -/
def fnCutLevelUptoRow : OpenClaim := { program := "ytfjekgjhhmkgoaa", sum := "c7e676e97db3297b71988ee40286edda30fba4777e7ebbdbbca7ca4a1a430c99", func := "loop.example/dynamicbridges/laws.FnCutLevel", spec := "fnCutLevel", unfollowed := true, recurses := true, apart := false, narrowed := true }
def FnCutLevelUptoSaid : Prop := fnCutLevelUptoRow.holds Try.pinned (OpenSpec.upto fnCutLevelSpec)

/-- 'laws.FnCutAll', WHERE WHAT IT READS IS OF BULK AT MOST 1048576: true; the input reads as it did. -/
def fnCutAllUptoRow : OpenClaim := { program := "ytfjekgjhhmkgoaa", sum := "c7e676e97db3297b71988ee40286edda30fba4777e7ebbdbbca7ca4a1a430c99", func := "loop.example/dynamicbridges/laws.FnCutAll", spec := "fnCutAll", unfollowed := true, recurses := true, apart := false, narrowed := true }
def FnCutAllUptoSaid : Prop := fnCutAllUptoRow.holds Try.pinned (OpenSpec.upto fnCutAllSpec)

/-- 'laws.FnSumLevels', WHERE WHAT IT READS IS OF BULK AT MOST 1048576: true; the input reads as it did. -/
def fnSumLevelsUptoRow : OpenClaim := { program := "ytfjekgjhhmkgoaa", sum := "c7e676e97db3297b71988ee40286edda30fba4777e7ebbdbbca7ca4a1a430c99", func := "loop.example/dynamicbridges/laws.FnSumLevels", spec := "fnSumLevels", unfollowed := true, recurses := true, apart := false, narrowed := true }
def FnSumLevelsUptoSaid : Prop := fnSumLevelsUptoRow.holds Try.pinned (OpenSpec.upto fnSumLevelsSpec)

/-- 'laws.FnLevelForest', WHERE WHAT IT READS IS OF BULK AT MOST 1048576: true; the input reads as it did. -/
def fnLevelForestUptoRow : OpenClaim := { program := "ytfjekgjhhmkgoaa", sum := "c7e676e97db3297b71988ee40286edda30fba4777e7ebbdbbca7ca4a1a430c99", func := "loop.example/dynamicbridges/laws.FnLevelForest", spec := "fnLevelForest", unfollowed := true, recurses := true, apart := false, narrowed := true }
def FnLevelForestUptoSaid : Prop := fnLevelForestUptoRow.holds Try.pinned (OpenSpec.upto fnLevelForestSpec)

end Rows
end Go.Proofs.Ytfjekgjhhmkgoaa
