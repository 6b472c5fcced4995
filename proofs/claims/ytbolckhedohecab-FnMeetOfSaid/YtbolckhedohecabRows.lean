/-
  No cell of these rows narrows 'for every input' (looked for: loops, veiled, ifaces, maps, wideKeys, modest, calm, conditions, laid).
  DERIVED. THE GIVEN ROWS OF THIS SEAT. 12 by the template 'for every input the law returns true; each argument reads behind the call as it read before'; 0 by the template 'total and deterministic' (their statements: YtbolckhedohecabTotals.lean).
  GIVEN WITH THE SEED: the statements are not yours to turn. If you find one false, say at which input.
  Laid BY PROGRAM, IN A SANDBOX (cutbox-rows.mjs): the forced cells as the released guide's own fill.sh prints them over the translation ecb8ac4239b59766… (all of the seat's roots in one cut). By AI agents, Wed Nov 11 2026. No macro, syntax, notation, axiom, sorry.
-/
import Derived.Test.YtbolckhedohecabChecked
import GoSem.Claim
import GoSem.ClaimJoined
import GoSem.ClaimMapViews
import Derived.JoinedTies
import Derived.KernelRfl
namespace Go.Proofs.Ytbolckhedohecab
/- THE CELL 'sum', in the pinned program and in every row, IS THE sha256 OF THE DUMP (.gsa) THAT YtbolckhedohecabProg.lean LOADS. Nothing in Lean hashes anything: it is a label: what it is worth is what the hold of that sum in a sandbox is worth. -/
noncomputable def Try.pinned : Pinned := { name := "ytbolckhedohecab", sum := "ecb8ac4239b59766047710dfdf3152c61b99aff0854e11ee3e2104f9930f587e", checked := Try.checked }
namespace Rows
def none {H : Type} : Left H := { results := [], args := [] }

/-- 'laws.FnExactLevelsValid': WHATEVER THE INPUT: true; the input reads as it did. -/
def fnExactLevelsValidSpec : ChangeSpec := { name := "fnExactLevelsValid", fn := fun _ => fun
  | [d] => { results := [.lit (.bool true)], args := [d] }
  | _ => none }
def fnExactLevelsValidRow : OpenClaim := { program := "ytbolckhedohecab", sum := "ecb8ac4239b59766047710dfdf3152c61b99aff0854e11ee3e2104f9930f587e", func := "loop.example/dynamicbridges/laws.FnExactLevelsValid", spec := "fnExactLevelsValid", unfollowed := true, recurses := true, apart := false }
def FnExactLevelsValidSaid : Prop := fnExactLevelsValidRow.holds Try.pinned (OpenSpec.ofChange fnExactLevelsValidSpec)

/-- ITS FALSE NEIGHBOUR: 'it returns false'. Refute it at one input. -/
def fnExactLevelsValidWrong : ChangeSpec := { name := "fnExactLevelsValid", fn := fun _ => fun
  | [d] => { results := [.lit (.bool false)], args := [d] }
  | _ => none }
def FnExactLevelsValidWrongFalsely : Prop := fnExactLevelsValidRow.holds Try.pinned (OpenSpec.ofChange fnExactLevelsValidWrong)

/-- 'laws.FnExactSumLevels': WHATEVER THE INPUT: true; the input reads as it did. -/
def fnExactSumLevelsSpec : ChangeSpec := { name := "fnExactSumLevels", fn := fun _ => fun
  | [d] => { results := [.lit (.bool true)], args := [d] }
  | _ => none }
def fnExactSumLevelsRow : OpenClaim := { program := "ytbolckhedohecab", sum := "ecb8ac4239b59766047710dfdf3152c61b99aff0854e11ee3e2104f9930f587e", func := "loop.example/dynamicbridges/laws.FnExactSumLevels", spec := "fnExactSumLevels", unfollowed := true, recurses := true, apart := false }
def FnExactSumLevelsSaid : Prop := fnExactSumLevelsRow.holds Try.pinned (OpenSpec.ofChange fnExactSumLevelsSpec)

/-- ITS FALSE NEIGHBOUR: 'it returns false'. Refute it at one input. -/
def fnExactSumLevelsWrong : ChangeSpec := { name := "fnExactSumLevels", fn := fun _ => fun
  | [d] => { results := [.lit (.bool false)], args := [d] }
  | _ => none }
def FnExactSumLevelsWrongFalsely : Prop := fnExactSumLevelsRow.holds Try.pinned (OpenSpec.ofChange fnExactSumLevelsWrong)

/-- 'laws.FnExactLevelForest': WHATEVER THE INPUT: true; the input reads as it did. -/
def fnExactLevelForestSpec : ChangeSpec := { name := "fnExactLevelForest", fn := fun _ => fun
  | [d1, d2] => { results := [.lit (.bool true)], args := [d1, d2] }
  | _ => none }
def fnExactLevelForestRow : OpenClaim := { program := "ytbolckhedohecab", sum := "ecb8ac4239b59766047710dfdf3152c61b99aff0854e11ee3e2104f9930f587e", func := "loop.example/dynamicbridges/laws.FnExactLevelForest", spec := "fnExactLevelForest", unfollowed := true, recurses := true, apart := false }
def FnExactLevelForestSaid : Prop := fnExactLevelForestRow.holds Try.pinned (OpenSpec.ofChange fnExactLevelForestSpec)

/-- ITS FALSE NEIGHBOUR: 'it returns false'. Refute it at one input. -/
def fnExactLevelForestWrong : ChangeSpec := { name := "fnExactLevelForest", fn := fun _ => fun
  | [d1, d2] => { results := [.lit (.bool false)], args := [d1, d2] }
  | _ => none }
def FnExactLevelForestWrongFalsely : Prop := fnExactLevelForestRow.holds Try.pinned (OpenSpec.ofChange fnExactLevelForestWrong)

/-- 'laws.FnSumLevels': WHATEVER THE INPUT: true; the input reads as it did. -/
def fnSumLevelsSpec : ChangeSpec := { name := "fnSumLevels", fn := fun _ => fun
  | [d] => { results := [.lit (.bool true)], args := [d] }
  | _ => none }
def fnSumLevelsRow : OpenClaim := { program := "ytbolckhedohecab", sum := "ecb8ac4239b59766047710dfdf3152c61b99aff0854e11ee3e2104f9930f587e", func := "loop.example/dynamicbridges/laws.FnSumLevels", spec := "fnSumLevels", unfollowed := true, recurses := true, apart := false }
def FnSumLevelsSaid : Prop := fnSumLevelsRow.holds Try.pinned (OpenSpec.ofChange fnSumLevelsSpec)

/-- ITS FALSE NEIGHBOUR: 'it returns false'. Refute it at one input. -/
def fnSumLevelsWrong : ChangeSpec := { name := "fnSumLevels", fn := fun _ => fun
  | [d] => { results := [.lit (.bool false)], args := [d] }
  | _ => none }
def FnSumLevelsWrongFalsely : Prop := fnSumLevelsRow.holds Try.pinned (OpenSpec.ofChange fnSumLevelsWrong)

/-- 'laws.FnLevelForest': WHATEVER THE INPUT: true; the input reads as it did. -/
def fnLevelForestSpec : ChangeSpec := { name := "fnLevelForest", fn := fun _ => fun
  | [d] => { results := [.lit (.bool true)], args := [d] }
  | _ => none }
def fnLevelForestRow : OpenClaim := { program := "ytbolckhedohecab", sum := "ecb8ac4239b59766047710dfdf3152c61b99aff0854e11ee3e2104f9930f587e", func := "loop.example/dynamicbridges/laws.FnLevelForest", spec := "fnLevelForest", unfollowed := true, recurses := true, apart := false }
def FnLevelForestSaid : Prop := fnLevelForestRow.holds Try.pinned (OpenSpec.ofChange fnLevelForestSpec)

/-- ITS FALSE NEIGHBOUR: 'it returns false'. Refute it at one input. -/
def fnLevelForestWrong : ChangeSpec := { name := "fnLevelForest", fn := fun _ => fun
  | [d] => { results := [.lit (.bool false)], args := [d] }
  | _ => none }
def FnLevelForestWrongFalsely : Prop := fnLevelForestRow.holds Try.pinned (OpenSpec.ofChange fnLevelForestWrong)

/-- 'laws.FnExactPutLevel': WHATEVER THE INPUT: true; the input reads as it did. -/
def fnExactPutLevelSpec : ChangeSpec := { name := "fnExactPutLevel", fn := fun _ => fun
  | [d1, d2] => { results := [.lit (.bool true)], args := [d1, d2] }
  | _ => none }
def fnExactPutLevelRow : OpenClaim := { program := "ytbolckhedohecab", sum := "ecb8ac4239b59766047710dfdf3152c61b99aff0854e11ee3e2104f9930f587e", func := "loop.example/dynamicbridges/laws.FnExactPutLevel", spec := "fnExactPutLevel", inPlace := ["slices.overlaps[loop.example/dynamicbridges/impl.Edge]", "slices.overlaps[int]", "slices.overlaps[bool]"], unfollowed := true, recurses := true, apart := false }
def FnExactPutLevelSaid : Prop := fnExactPutLevelRow.holds Try.pinned (OpenSpec.ofChange fnExactPutLevelSpec)

/-- ITS FALSE NEIGHBOUR: 'it returns false'. Refute it at one input. -/
def fnExactPutLevelWrong : ChangeSpec := { name := "fnExactPutLevel", fn := fun _ => fun
  | [d1, d2] => { results := [.lit (.bool false)], args := [d1, d2] }
  | _ => none }
def FnExactPutLevelWrongFalsely : Prop := fnExactPutLevelRow.holds Try.pinned (OpenSpec.ofChange fnExactPutLevelWrong)

/-- 'laws.FnExactCutLevel': WHATEVER THE INPUT: true; the input reads as it did. -/
def fnExactCutLevelSpec : ChangeSpec := { name := "fnExactCutLevel", fn := fun _ => fun
  | [d1, d2] => { results := [.lit (.bool true)], args := [d1, d2] }
  | _ => none }
def fnExactCutLevelRow : OpenClaim := { program := "ytbolckhedohecab", sum := "ecb8ac4239b59766047710dfdf3152c61b99aff0854e11ee3e2104f9930f587e", func := "loop.example/dynamicbridges/laws.FnExactCutLevel", spec := "fnExactCutLevel", unfollowed := true, recurses := true, apart := false }
def FnExactCutLevelSaid : Prop := fnExactCutLevelRow.holds Try.pinned (OpenSpec.ofChange fnExactCutLevelSpec)

/-- ITS FALSE NEIGHBOUR: 'it returns false'. Refute it at one input. -/
def fnExactCutLevelWrong : ChangeSpec := { name := "fnExactCutLevel", fn := fun _ => fun
  | [d1, d2] => { results := [.lit (.bool false)], args := [d1, d2] }
  | _ => none }
def FnExactCutLevelWrongFalsely : Prop := fnExactCutLevelRow.holds Try.pinned (OpenSpec.ofChange fnExactCutLevelWrong)

/-- 'laws.FnPutLevel': WHATEVER THE INPUT: true; the input reads as it did. -/
def fnPutLevelSpec : ChangeSpec := { name := "fnPutLevel", fn := fun _ => fun
  | [d] => { results := [.lit (.bool true)], args := [d] }
  | _ => none }
def fnPutLevelRow : OpenClaim := { program := "ytbolckhedohecab", sum := "ecb8ac4239b59766047710dfdf3152c61b99aff0854e11ee3e2104f9930f587e", func := "loop.example/dynamicbridges/laws.FnPutLevel", spec := "fnPutLevel", inPlace := ["slices.overlaps[loop.example/dynamicbridges/impl.Edge]", "slices.overlaps[int]", "slices.overlaps[bool]"], unfollowed := true, recurses := true, apart := false }
def FnPutLevelSaid : Prop := fnPutLevelRow.holds Try.pinned (OpenSpec.ofChange fnPutLevelSpec)

/-- ITS FALSE NEIGHBOUR: 'it returns false'. Refute it at one input. -/
def fnPutLevelWrong : ChangeSpec := { name := "fnPutLevel", fn := fun _ => fun
  | [d] => { results := [.lit (.bool false)], args := [d] }
  | _ => none }
def FnPutLevelWrongFalsely : Prop := fnPutLevelRow.holds Try.pinned (OpenSpec.ofChange fnPutLevelWrong)

/-- 'laws.FnCutLevel': WHATEVER THE INPUT: true; the input reads as it did. -/
def fnCutLevelSpec : ChangeSpec := { name := "fnCutLevel", fn := fun _ => fun
  | [d] => { results := [.lit (.bool true)], args := [d] }
  | _ => none }
def fnCutLevelRow : OpenClaim := { program := "ytbolckhedohecab", sum := "ecb8ac4239b59766047710dfdf3152c61b99aff0854e11ee3e2104f9930f587e", func := "loop.example/dynamicbridges/laws.FnCutLevel", spec := "fnCutLevel", unfollowed := true, recurses := true, apart := false }
def FnCutLevelSaid : Prop := fnCutLevelRow.holds Try.pinned (OpenSpec.ofChange fnCutLevelSpec)

/-- ITS FALSE NEIGHBOUR: 'it returns false'. Refute it at one input. -/
def fnCutLevelWrong : ChangeSpec := { name := "fnCutLevel", fn := fun _ => fun
  | [d] => { results := [.lit (.bool false)], args := [d] }
  | _ => none }
def FnCutLevelWrongFalsely : Prop := fnCutLevelRow.holds Try.pinned (OpenSpec.ofChange fnCutLevelWrong)

/-- 'laws.FnCutAll': WHATEVER THE INPUT: true; the input reads as it did. -/
def fnCutAllSpec : ChangeSpec := { name := "fnCutAll", fn := fun _ => fun
  | [d] => { results := [.lit (.bool true)], args := [d] }
  | _ => none }
def fnCutAllRow : OpenClaim := { program := "ytbolckhedohecab", sum := "ecb8ac4239b59766047710dfdf3152c61b99aff0854e11ee3e2104f9930f587e", func := "loop.example/dynamicbridges/laws.FnCutAll", spec := "fnCutAll", unfollowed := true, recurses := true, apart := false }
def FnCutAllSaid : Prop := fnCutAllRow.holds Try.pinned (OpenSpec.ofChange fnCutAllSpec)

/-- ITS FALSE NEIGHBOUR: 'it returns false'. Refute it at one input. -/
def fnCutAllWrong : ChangeSpec := { name := "fnCutAll", fn := fun _ => fun
  | [d] => { results := [.lit (.bool false)], args := [d] }
  | _ => none }
def FnCutAllWrongFalsely : Prop := fnCutAllRow.holds Try.pinned (OpenSpec.ofChange fnCutAllWrong)

/-- 'laws.FnWayUp': WHATEVER THE INPUT: true; the input reads as it did. -/
def fnWayUpSpec : ChangeSpec := { name := "fnWayUp", fn := fun _ => fun
  | [d] => { results := [.lit (.bool true)], args := [d] }
  | _ => none }
def fnWayUpRow : OpenClaim := { program := "ytbolckhedohecab", sum := "ecb8ac4239b59766047710dfdf3152c61b99aff0854e11ee3e2104f9930f587e", func := "loop.example/dynamicbridges/laws.FnWayUp", spec := "fnWayUp", apart := false }
def FnWayUpSaid : Prop := fnWayUpRow.holds Try.pinned (OpenSpec.ofChange fnWayUpSpec)

/-- ITS FALSE NEIGHBOUR: 'it returns false'. Refute it at one input. -/
def fnWayUpWrong : ChangeSpec := { name := "fnWayUp", fn := fun _ => fun
  | [d] => { results := [.lit (.bool false)], args := [d] }
  | _ => none }
def FnWayUpWrongFalsely : Prop := fnWayUpRow.holds Try.pinned (OpenSpec.ofChange fnWayUpWrong)

/-- 'laws.FnMeetOf': WHATEVER THE INPUT: true; the input reads as it did. -/
def fnMeetOfSpec : ChangeSpec := { name := "fnMeetOf", fn := fun _ => fun
  | [d] => { results := [.lit (.bool true)], args := [d] }
  | _ => none }
def fnMeetOfRow : OpenClaim := { program := "ytbolckhedohecab", sum := "ecb8ac4239b59766047710dfdf3152c61b99aff0854e11ee3e2104f9930f587e", func := "loop.example/dynamicbridges/laws.FnMeetOf", spec := "fnMeetOf", apart := false }
def FnMeetOfSaid : Prop := fnMeetOfRow.holds Try.pinned (OpenSpec.ofChange fnMeetOfSpec)

/-- ITS FALSE NEIGHBOUR: 'it returns false'. Refute it at one input. -/
def fnMeetOfWrong : ChangeSpec := { name := "fnMeetOf", fn := fun _ => fun
  | [d] => { results := [.lit (.bool false)], args := [d] }
  | _ => none }
def FnMeetOfWrongFalsely : Prop := fnMeetOfRow.holds Try.pinned (OpenSpec.ofChange fnMeetOfWrong)

/- THE SECOND FORM. 'bulk': how many values and letters a reading holds, each counted each time it is reached (what is shared counts as often as it is met; a slice's spare places count too). A statement '..UptoSaid' is the law's where the arguments, and the package variables that the reading takes, are together of bulk at most 1048576: NARROWER than '..Said'. Prove '..Said' where nothing that the law and all that it calls make is longer than what came in: it says more and counts as full. Else prove '..UptoSaid'. A law counts once. -/
mutual
def uptoBulk {H : Type} : DataW H → Nat
  | .lit (.string bytes) => bytes.length + 1
  | .lit _ => 1
  | .nil => 1
  | .ptr d => uptoBulk d + 1
  | .slice elems spare => uptoBulkAll elems + uptoBulkAll spare + 1
  | .agg parts => uptoBulkAll parts + 1
  | .iface _ d => uptoBulk d + 1
  | .map entries => uptoBulkEntries entries + 1
  | .held _ => 1
def uptoBulkAll {H : Type} : List (DataW H) → Nat
  | [] => 0
  | d :: r => uptoBulk d + uptoBulkAll r
def uptoBulkEntries {H : Type} : List (Lit × DataW H) → Nat
  | [] => 0
  | x :: r => uptoBulkEntry x + uptoBulkEntries r
def uptoBulkEntry {H : Type} : Lit × DataW H → Nat
  | (.string bytes, d) => bytes.length + uptoBulk d + 1
  | (_, d) => uptoBulk d + 1
 end
def uptoSmall : (H : Type) → List (DataW H) → Bool := fun _ ds => decide (uptoBulkAll ds ≤ 1048576)
def OpenSpec.upto (s : _root_.Go.ChangeSpec) : _root_.Go.OpenSpec := { _root_.Go.OpenSpec.ofChange s with cond := some uptoSmall }

/-- 'laws.FnExactLevelsValid', WHERE WHAT IT READS IS OF BULK AT MOST 1048576: true; the input reads as it did. -/
def fnExactLevelsValidUptoRow : OpenClaim := { program := "ytbolckhedohecab", sum := "ecb8ac4239b59766047710dfdf3152c61b99aff0854e11ee3e2104f9930f587e", func := "loop.example/dynamicbridges/laws.FnExactLevelsValid", spec := "fnExactLevelsValid", unfollowed := true, recurses := true, apart := false, narrowed := true }
def FnExactLevelsValidUptoSaid : Prop := fnExactLevelsValidUptoRow.holds Try.pinned (OpenSpec.upto fnExactLevelsValidSpec)

/-- 'laws.FnExactSumLevels', WHERE WHAT IT READS IS OF BULK AT MOST 1048576: true; the input reads as it did. -/
def fnExactSumLevelsUptoRow : OpenClaim := { program := "ytbolckhedohecab", sum := "ecb8ac4239b59766047710dfdf3152c61b99aff0854e11ee3e2104f9930f587e", func := "loop.example/dynamicbridges/laws.FnExactSumLevels", spec := "fnExactSumLevels", unfollowed := true, recurses := true, apart := false, narrowed := true }
def FnExactSumLevelsUptoSaid : Prop := fnExactSumLevelsUptoRow.holds Try.pinned (OpenSpec.upto fnExactSumLevelsSpec)

/-- 'laws.FnExactLevelForest', WHERE WHAT IT READS IS OF BULK AT MOST 1048576: true; the input reads as it did. -/
def fnExactLevelForestUptoRow : OpenClaim := { program := "ytbolckhedohecab", sum := "ecb8ac4239b59766047710dfdf3152c61b99aff0854e11ee3e2104f9930f587e", func := "loop.example/dynamicbridges/laws.FnExactLevelForest", spec := "fnExactLevelForest", unfollowed := true, recurses := true, apart := false, narrowed := true }
def FnExactLevelForestUptoSaid : Prop := fnExactLevelForestUptoRow.holds Try.pinned (OpenSpec.upto fnExactLevelForestSpec)

/-- 'laws.FnSumLevels', WHERE WHAT IT READS IS OF BULK AT MOST 1048576: true; the input reads as it did. -/
def fnSumLevelsUptoRow : OpenClaim := { program := "ytbolckhedohecab", sum := "ecb8ac4239b59766047710dfdf3152c61b99aff0854e11ee3e2104f9930f587e", func := "loop.example/dynamicbridges/laws.FnSumLevels", spec := "fnSumLevels", unfollowed := true, recurses := true, apart := false, narrowed := true }
def FnSumLevelsUptoSaid : Prop := fnSumLevelsUptoRow.holds Try.pinned (OpenSpec.upto fnSumLevelsSpec)

/-- 'laws.FnLevelForest', WHERE WHAT IT READS IS OF BULK AT MOST 1048576: true; the input reads as it did. -/
def fnLevelForestUptoRow : OpenClaim := { program := "ytbolckhedohecab", sum := "ecb8ac4239b59766047710dfdf3152c61b99aff0854e11ee3e2104f9930f587e", func := "loop.example/dynamicbridges/laws.FnLevelForest", spec := "fnLevelForest", unfollowed := true, recurses := true, apart := false, narrowed := true }
def FnLevelForestUptoSaid : Prop := fnLevelForestUptoRow.holds Try.pinned (OpenSpec.upto fnLevelForestSpec)

/-- 'laws.FnExactPutLevel', WHERE WHAT IT READS IS OF BULK AT MOST 1048576: true; the input reads as it did. -/
def fnExactPutLevelUptoRow : OpenClaim := { program := "ytbolckhedohecab", sum := "ecb8ac4239b59766047710dfdf3152c61b99aff0854e11ee3e2104f9930f587e", func := "loop.example/dynamicbridges/laws.FnExactPutLevel", spec := "fnExactPutLevel", inPlace := ["slices.overlaps[loop.example/dynamicbridges/impl.Edge]", "slices.overlaps[int]", "slices.overlaps[bool]"], unfollowed := true, recurses := true, apart := false, narrowed := true }
def FnExactPutLevelUptoSaid : Prop := fnExactPutLevelUptoRow.holds Try.pinned (OpenSpec.upto fnExactPutLevelSpec)

/-- 'laws.FnExactCutLevel', WHERE WHAT IT READS IS OF BULK AT MOST 1048576: true; the input reads as it did. -/
def fnExactCutLevelUptoRow : OpenClaim := { program := "ytbolckhedohecab", sum := "ecb8ac4239b59766047710dfdf3152c61b99aff0854e11ee3e2104f9930f587e", func := "loop.example/dynamicbridges/laws.FnExactCutLevel", spec := "fnExactCutLevel", unfollowed := true, recurses := true, apart := false, narrowed := true }
def FnExactCutLevelUptoSaid : Prop := fnExactCutLevelUptoRow.holds Try.pinned (OpenSpec.upto fnExactCutLevelSpec)

/-- 'laws.FnPutLevel', WHERE WHAT IT READS IS OF BULK AT MOST 1048576: true; the input reads as it did. -/
def fnPutLevelUptoRow : OpenClaim := { program := "ytbolckhedohecab", sum := "ecb8ac4239b59766047710dfdf3152c61b99aff0854e11ee3e2104f9930f587e", func := "loop.example/dynamicbridges/laws.FnPutLevel", spec := "fnPutLevel", inPlace := ["slices.overlaps[loop.example/dynamicbridges/impl.Edge]", "slices.overlaps[int]", "slices.overlaps[bool]"], unfollowed := true, recurses := true, apart := false, narrowed := true }
def FnPutLevelUptoSaid : Prop := fnPutLevelUptoRow.holds Try.pinned (OpenSpec.upto fnPutLevelSpec)

/-- 'laws.FnCutLevel', WHERE WHAT IT READS IS OF BULK AT MOST 1048576: true; the input reads as it did. -/
def fnCutLevelUptoRow : OpenClaim := { program := "ytbolckhedohecab", sum := "ecb8ac4239b59766047710dfdf3152c61b99aff0854e11ee3e2104f9930f587e", func := "loop.example/dynamicbridges/laws.FnCutLevel", spec := "fnCutLevel", unfollowed := true, recurses := true, apart := false, narrowed := true }
def FnCutLevelUptoSaid : Prop := fnCutLevelUptoRow.holds Try.pinned (OpenSpec.upto fnCutLevelSpec)

/-- 'laws.FnCutAll', WHERE WHAT IT READS IS OF BULK AT MOST 1048576: true; the input reads as it did. -/
def fnCutAllUptoRow : OpenClaim := { program := "ytbolckhedohecab", sum := "ecb8ac4239b59766047710dfdf3152c61b99aff0854e11ee3e2104f9930f587e", func := "loop.example/dynamicbridges/laws.FnCutAll", spec := "fnCutAll", unfollowed := true, recurses := true, apart := false, narrowed := true }
def FnCutAllUptoSaid : Prop := fnCutAllUptoRow.holds Try.pinned (OpenSpec.upto fnCutAllSpec)

/-- 'laws.FnWayUp', WHERE WHAT IT READS IS OF BULK AT MOST 1048576: true; the input reads as it did. -/
def fnWayUpUptoRow : OpenClaim := { program := "ytbolckhedohecab", sum := "ecb8ac4239b59766047710dfdf3152c61b99aff0854e11ee3e2104f9930f587e", func := "loop.example/dynamicbridges/laws.FnWayUp", spec := "fnWayUp", apart := false, narrowed := true }
def FnWayUpUptoSaid : Prop := fnWayUpUptoRow.holds Try.pinned (OpenSpec.upto fnWayUpSpec)

/-- 'laws.FnMeetOf', WHERE WHAT IT READS IS OF BULK AT MOST 1048576: true; the input reads as it did. -/
def fnMeetOfUptoRow : OpenClaim := { program := "ytbolckhedohecab", sum := "ecb8ac4239b59766047710dfdf3152c61b99aff0854e11ee3e2104f9930f587e", func := "loop.example/dynamicbridges/laws.FnMeetOf", spec := "fnMeetOf", apart := false, narrowed := true }
def FnMeetOfUptoSaid : Prop := fnMeetOfUptoRow.holds Try.pinned (OpenSpec.upto fnMeetOfSpec)

end Rows
end Go.Proofs.Ytbolckhedohecab
