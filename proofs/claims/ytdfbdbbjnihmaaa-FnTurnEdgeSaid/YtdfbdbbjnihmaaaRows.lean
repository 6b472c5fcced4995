/-
  No cell of these rows narrows 'for every input' (looked for: loops, veiled, ifaces, maps, wideKeys, modest, calm, conditions, laid).
  DERIVED. THE GIVEN ROWS OF THIS SEAT. 16 by the template 'for every input the law returns true; each argument reads behind the call as it read before'; 0 by the template 'total and deterministic' (their statements: YtdfbdbbjnihmaaaTotals.lean).
  GIVEN WITH THE SEED: the statements are not yours to turn. If you find one false, say at which input.
  Laid BY PROGRAM, IN A SANDBOX (cutbox-rows.mjs): the forced cells as the released guide's own fill.sh prints them over the translation 38ce7e7611d6725c… (all of the seat's roots in one cut). By AI agents, Wed Nov 11 2026. No macro, syntax, notation, axiom, sorry.
-/
import Derived.Test.YtdfbdbbjnihmaaaChecked
import GoSem.Claim
import GoSem.ClaimJoined
import GoSem.ClaimMapViews
import Derived.JoinedTies
import Derived.KernelRfl
namespace Go.Proofs.Ytdfbdbbjnihmaaa
/- THE CELL 'sum', in the pinned program and in every row, IS THE sha256 OF THE DUMP (.gsa) THAT YtdfbdbbjnihmaaaProg.lean LOADS. Nothing in Lean hashes anything: it is a label: what it is worth is what the hold of that sum in a sandbox is worth. -/
noncomputable def Try.pinned : Pinned := { name := "ytdfbdbbjnihmaaa", sum := "38ce7e7611d6725cbc251196626aec99525118aed5f40aab32e5a2cb640d5757", checked := Try.checked }
namespace Rows
def none {H : Type} : Left H := { results := [], args := [] }

/-- 'laws.FnExactChainEdges': WHATEVER THE INPUT: true; the input reads as it did. -/
def fnExactChainEdgesSpec : ChangeSpec := { name := "fnExactChainEdges", fn := fun _ => fun
  | [d] => { results := [.lit (.bool true)], args := [d] }
  | _ => none }
def fnExactChainEdgesRow : OpenClaim := { program := "ytdfbdbbjnihmaaa", sum := "38ce7e7611d6725cbc251196626aec99525118aed5f40aab32e5a2cb640d5757", func := "loop.example/dynamicbridges/laws.FnExactChainEdges", spec := "fnExactChainEdges", unfollowed := true, recurses := true, apart := false }
def FnExactChainEdgesSaid : Prop := fnExactChainEdgesRow.holds Try.pinned (OpenSpec.ofChange fnExactChainEdgesSpec)

/-- ITS FALSE NEIGHBOUR: 'it returns false'. Refute it at one input. -/
def fnExactChainEdgesWrong : ChangeSpec := { name := "fnExactChainEdges", fn := fun _ => fun
  | [d] => { results := [.lit (.bool false)], args := [d] }
  | _ => none }
def FnExactChainEdgesWrongFalsely : Prop := fnExactChainEdgesRow.holds Try.pinned (OpenSpec.ofChange fnExactChainEdgesWrong)

/-- 'laws.FnExactConnected': WHATEVER THE INPUT: true; the input reads as it did. -/
def fnExactConnectedSpec : ChangeSpec := { name := "fnExactConnected", fn := fun _ => fun
  | [d1, d2, d3] => { results := [.lit (.bool true)], args := [d1, d2, d3] }
  | _ => none }
def fnExactConnectedRow : OpenClaim := { program := "ytdfbdbbjnihmaaa", sum := "38ce7e7611d6725cbc251196626aec99525118aed5f40aab32e5a2cb640d5757", func := "loop.example/dynamicbridges/laws.FnExactConnected", spec := "fnExactConnected", apart := false }
def FnExactConnectedSaid : Prop := fnExactConnectedRow.holds Try.pinned (OpenSpec.ofChange fnExactConnectedSpec)

/-- ITS FALSE NEIGHBOUR: 'it returns false'. Refute it at one input. -/
def fnExactConnectedWrong : ChangeSpec := { name := "fnExactConnected", fn := fun _ => fun
  | [d1, d2, d3] => { results := [.lit (.bool false)], args := [d1, d2, d3] }
  | _ => none }
def FnExactConnectedWrongFalsely : Prop := fnExactConnectedRow.holds Try.pinned (OpenSpec.ofChange fnExactConnectedWrong)

/-- 'laws.FnExactCutSize': WHATEVER THE INPUT: true; the input reads as it did. -/
def fnExactCutSizeSpec : ChangeSpec := { name := "fnExactCutSize", fn := fun _ => fun
  | [d1, d2] => { results := [.lit (.bool true)], args := [d1, d2] }
  | _ => none }
def fnExactCutSizeRow : OpenClaim := { program := "ytdfbdbbjnihmaaa", sum := "38ce7e7611d6725cbc251196626aec99525118aed5f40aab32e5a2cb640d5757", func := "loop.example/dynamicbridges/laws.FnExactCutSize", spec := "fnExactCutSize", unfollowed := true, recurses := true, apart := false }
def FnExactCutSizeSaid : Prop := fnExactCutSizeRow.holds Try.pinned (OpenSpec.ofChange fnExactCutSizeSpec)

/-- ITS FALSE NEIGHBOUR: 'it returns false'. Refute it at one input. -/
def fnExactCutSizeWrong : ChangeSpec := { name := "fnExactCutSize", fn := fun _ => fun
  | [d1, d2] => { results := [.lit (.bool false)], args := [d1, d2] }
  | _ => none }
def FnExactCutSizeWrongFalsely : Prop := fnExactCutSizeRow.holds Try.pinned (OpenSpec.ofChange fnExactCutSizeWrong)

/-- 'laws.FnCutSizeOther': WHATEVER THE INPUT: true; the input reads as it did. -/
def fnCutSizeOtherSpec : ChangeSpec := { name := "fnCutSizeOther", fn := fun _ => fun
  | [d] => { results := [.lit (.bool true)], args := [d] }
  | _ => none }
def fnCutSizeOtherRow : OpenClaim := { program := "ytdfbdbbjnihmaaa", sum := "38ce7e7611d6725cbc251196626aec99525118aed5f40aab32e5a2cb640d5757", func := "loop.example/dynamicbridges/laws.FnCutSizeOther", spec := "fnCutSizeOther", unfollowed := true, recurses := true, apart := false }
def FnCutSizeOtherSaid : Prop := fnCutSizeOtherRow.holds Try.pinned (OpenSpec.ofChange fnCutSizeOtherSpec)

/-- ITS FALSE NEIGHBOUR: 'it returns false'. Refute it at one input. -/
def fnCutSizeOtherWrong : ChangeSpec := { name := "fnCutSizeOther", fn := fun _ => fun
  | [d] => { results := [.lit (.bool false)], args := [d] }
  | _ => none }
def FnCutSizeOtherWrongFalsely : Prop := fnCutSizeOtherRow.holds Try.pinned (OpenSpec.ofChange fnCutSizeOtherWrong)

/-- 'laws.FnExactIsSafeGraph': WHATEVER THE INPUT: true; the input reads as it did. -/
def fnExactIsSafeGraphSpec : ChangeSpec := { name := "fnExactIsSafeGraph", fn := fun _ => fun
  | [d] => { results := [.lit (.bool true)], args := [d] }
  | _ => none }
def fnExactIsSafeGraphRow : OpenClaim := { program := "ytdfbdbbjnihmaaa", sum := "38ce7e7611d6725cbc251196626aec99525118aed5f40aab32e5a2cb640d5757", func := "loop.example/dynamicbridges/laws.FnExactIsSafeGraph", spec := "fnExactIsSafeGraph", unfollowed := true, recurses := true, apart := false }
def FnExactIsSafeGraphSaid : Prop := fnExactIsSafeGraphRow.holds Try.pinned (OpenSpec.ofChange fnExactIsSafeGraphSpec)

/-- ITS FALSE NEIGHBOUR: 'it returns false'. Refute it at one input. -/
def fnExactIsSafeGraphWrong : ChangeSpec := { name := "fnExactIsSafeGraph", fn := fun _ => fun
  | [d] => { results := [.lit (.bool false)], args := [d] }
  | _ => none }
def FnExactIsSafeGraphWrongFalsely : Prop := fnExactIsSafeGraphRow.holds Try.pinned (OpenSpec.ofChange fnExactIsSafeGraphWrong)

/-- 'laws.FnExactLevelsValid': WHATEVER THE INPUT: true; the input reads as it did. -/
def fnExactLevelsValidSpec : ChangeSpec := { name := "fnExactLevelsValid", fn := fun _ => fun
  | [d] => { results := [.lit (.bool true)], args := [d] }
  | _ => none }
def fnExactLevelsValidRow : OpenClaim := { program := "ytdfbdbbjnihmaaa", sum := "38ce7e7611d6725cbc251196626aec99525118aed5f40aab32e5a2cb640d5757", func := "loop.example/dynamicbridges/laws.FnExactLevelsValid", spec := "fnExactLevelsValid", unfollowed := true, recurses := true, apart := false }
def FnExactLevelsValidSaid : Prop := fnExactLevelsValidRow.holds Try.pinned (OpenSpec.ofChange fnExactLevelsValidSpec)

/-- ITS FALSE NEIGHBOUR: 'it returns false'. Refute it at one input. -/
def fnExactLevelsValidWrong : ChangeSpec := { name := "fnExactLevelsValid", fn := fun _ => fun
  | [d] => { results := [.lit (.bool false)], args := [d] }
  | _ => none }
def FnExactLevelsValidWrongFalsely : Prop := fnExactLevelsValidRow.holds Try.pinned (OpenSpec.ofChange fnExactLevelsValidWrong)

/-- 'laws.FnTurnEdge': WHATEVER THE INPUT: true; the input reads as it did. -/
def fnTurnEdgeSpec : ChangeSpec := { name := "fnTurnEdge", fn := fun _ => fun
  | [d] => { results := [.lit (.bool true)], args := [d] }
  | _ => none }
def fnTurnEdgeRow : OpenClaim := { program := "ytdfbdbbjnihmaaa", sum := "38ce7e7611d6725cbc251196626aec99525118aed5f40aab32e5a2cb640d5757", func := "loop.example/dynamicbridges/laws.FnTurnEdge", spec := "fnTurnEdge", inPlace := ["slices.overlaps[loop.example/dynamicbridges/impl.Edge]"], unfollowed := true, recurses := true, apart := false }
def FnTurnEdgeSaid : Prop := fnTurnEdgeRow.holds Try.pinned (OpenSpec.ofChange fnTurnEdgeSpec)

/-- ITS FALSE NEIGHBOUR: 'it returns false'. Refute it at one input. -/
def fnTurnEdgeWrong : ChangeSpec := { name := "fnTurnEdge", fn := fun _ => fun
  | [d] => { results := [.lit (.bool false)], args := [d] }
  | _ => none }
def FnTurnEdgeWrongFalsely : Prop := fnTurnEdgeRow.holds Try.pinned (OpenSpec.ofChange fnTurnEdgeWrong)

/-- 'laws.FnExactSumLevels': WHATEVER THE INPUT: true; the input reads as it did. -/
def fnExactSumLevelsSpec : ChangeSpec := { name := "fnExactSumLevels", fn := fun _ => fun
  | [d] => { results := [.lit (.bool true)], args := [d] }
  | _ => none }
def fnExactSumLevelsRow : OpenClaim := { program := "ytdfbdbbjnihmaaa", sum := "38ce7e7611d6725cbc251196626aec99525118aed5f40aab32e5a2cb640d5757", func := "loop.example/dynamicbridges/laws.FnExactSumLevels", spec := "fnExactSumLevels", unfollowed := true, recurses := true, apart := false }
def FnExactSumLevelsSaid : Prop := fnExactSumLevelsRow.holds Try.pinned (OpenSpec.ofChange fnExactSumLevelsSpec)

/-- ITS FALSE NEIGHBOUR: 'it returns false'. Refute it at one input. -/
def fnExactSumLevelsWrong : ChangeSpec := { name := "fnExactSumLevels", fn := fun _ => fun
  | [d] => { results := [.lit (.bool false)], args := [d] }
  | _ => none }
def FnExactSumLevelsWrongFalsely : Prop := fnExactSumLevelsRow.holds Try.pinned (OpenSpec.ofChange fnExactSumLevelsWrong)

/-- 'laws.FnExactTurnEdge': WHATEVER THE INPUT: true; the input reads as it did. -/
def fnExactTurnEdgeSpec : ChangeSpec := { name := "fnExactTurnEdge", fn := fun _ => fun
  | [d1, d2] => { results := [.lit (.bool true)], args := [d1, d2] }
  | _ => none }
def fnExactTurnEdgeRow : OpenClaim := { program := "ytdfbdbbjnihmaaa", sum := "38ce7e7611d6725cbc251196626aec99525118aed5f40aab32e5a2cb640d5757", func := "loop.example/dynamicbridges/laws.FnExactTurnEdge", spec := "fnExactTurnEdge", inPlace := ["slices.overlaps[loop.example/dynamicbridges/impl.Edge]"], unfollowed := true, recurses := true, apart := false }
def FnExactTurnEdgeSaid : Prop := fnExactTurnEdgeRow.holds Try.pinned (OpenSpec.ofChange fnExactTurnEdgeSpec)

/-- ITS FALSE NEIGHBOUR: 'it returns false'. Refute it at one input. -/
def fnExactTurnEdgeWrong : ChangeSpec := { name := "fnExactTurnEdge", fn := fun _ => fun
  | [d1, d2] => { results := [.lit (.bool false)], args := [d1, d2] }
  | _ => none }
def FnExactTurnEdgeWrongFalsely : Prop := fnExactTurnEdgeRow.holds Try.pinned (OpenSpec.ofChange fnExactTurnEdgeWrong)

/-- 'laws.FnExactLevelForest': WHATEVER THE INPUT: true; the input reads as it did. -/
def fnExactLevelForestSpec : ChangeSpec := { name := "fnExactLevelForest", fn := fun _ => fun
  | [d1, d2] => { results := [.lit (.bool true)], args := [d1, d2] }
  | _ => none }
def fnExactLevelForestRow : OpenClaim := { program := "ytdfbdbbjnihmaaa", sum := "38ce7e7611d6725cbc251196626aec99525118aed5f40aab32e5a2cb640d5757", func := "loop.example/dynamicbridges/laws.FnExactLevelForest", spec := "fnExactLevelForest", unfollowed := true, recurses := true, apart := false }
def FnExactLevelForestSaid : Prop := fnExactLevelForestRow.holds Try.pinned (OpenSpec.ofChange fnExactLevelForestSpec)

/-- ITS FALSE NEIGHBOUR: 'it returns false'. Refute it at one input. -/
def fnExactLevelForestWrong : ChangeSpec := { name := "fnExactLevelForest", fn := fun _ => fun
  | [d1, d2] => { results := [.lit (.bool false)], args := [d1, d2] }
  | _ => none }
def FnExactLevelForestWrongFalsely : Prop := fnExactLevelForestRow.holds Try.pinned (OpenSpec.ofChange fnExactLevelForestWrong)

/-- 'laws.FnRunTurns': WHATEVER THE INPUT: true; the input reads as it did. -/
def fnRunTurnsSpec : ChangeSpec := { name := "fnRunTurns", fn := fun _ => fun
  | [d] => { results := [.lit (.bool true)], args := [d] }
  | _ => none }
def fnRunTurnsRow : OpenClaim := { program := "ytdfbdbbjnihmaaa", sum := "38ce7e7611d6725cbc251196626aec99525118aed5f40aab32e5a2cb640d5757", func := "loop.example/dynamicbridges/laws.FnRunTurns", spec := "fnRunTurns", inPlace := ["slices.overlaps[loop.example/dynamicbridges/impl.Edge]"], unfollowed := true, recurses := true, apart := false }
def FnRunTurnsSaid : Prop := fnRunTurnsRow.holds Try.pinned (OpenSpec.ofChange fnRunTurnsSpec)

/-- ITS FALSE NEIGHBOUR: 'it returns false'. Refute it at one input. -/
def fnRunTurnsWrong : ChangeSpec := { name := "fnRunTurns", fn := fun _ => fun
  | [d] => { results := [.lit (.bool false)], args := [d] }
  | _ => none }
def FnRunTurnsWrongFalsely : Prop := fnRunTurnsRow.holds Try.pinned (OpenSpec.ofChange fnRunTurnsWrong)

/-- 'laws.FnTurnsBack': WHATEVER THE INPUT: true; the input reads as it did. -/
def fnTurnsBackSpec : ChangeSpec := { name := "fnTurnsBack", fn := fun _ => fun
  | [d] => { results := [.lit (.bool true)], args := [d] }
  | _ => none }
def fnTurnsBackRow : OpenClaim := { program := "ytdfbdbbjnihmaaa", sum := "38ce7e7611d6725cbc251196626aec99525118aed5f40aab32e5a2cb640d5757", func := "loop.example/dynamicbridges/laws.FnTurnsBack", spec := "fnTurnsBack", inPlace := ["slices.overlaps[loop.example/dynamicbridges/impl.Edge]"], unfollowed := true, recurses := true, apart := false }
def FnTurnsBackSaid : Prop := fnTurnsBackRow.holds Try.pinned (OpenSpec.ofChange fnTurnsBackSpec)

/-- ITS FALSE NEIGHBOUR: 'it returns false'. Refute it at one input. -/
def fnTurnsBackWrong : ChangeSpec := { name := "fnTurnsBack", fn := fun _ => fun
  | [d] => { results := [.lit (.bool false)], args := [d] }
  | _ => none }
def FnTurnsBackWrongFalsely : Prop := fnTurnsBackRow.holds Try.pinned (OpenSpec.ofChange fnTurnsBackWrong)

/-- 'laws.FnExactBestEdge': WHATEVER THE INPUT: true; the input reads as it did. -/
def fnExactBestEdgeSpec : ChangeSpec := { name := "fnExactBestEdge", fn := fun _ => fun
  | [d] => { results := [.lit (.bool true)], args := [d] }
  | _ => none }
def fnExactBestEdgeRow : OpenClaim := { program := "ytdfbdbbjnihmaaa", sum := "38ce7e7611d6725cbc251196626aec99525118aed5f40aab32e5a2cb640d5757", func := "loop.example/dynamicbridges/laws.FnExactBestEdge", spec := "fnExactBestEdge", inPlace := ["slices.overlaps[loop.example/dynamicbridges/impl.Edge]"], unfollowed := true, recurses := true, apart := false }
def FnExactBestEdgeSaid : Prop := fnExactBestEdgeRow.holds Try.pinned (OpenSpec.ofChange fnExactBestEdgeSpec)

/-- ITS FALSE NEIGHBOUR: 'it returns false'. Refute it at one input. -/
def fnExactBestEdgeWrong : ChangeSpec := { name := "fnExactBestEdge", fn := fun _ => fun
  | [d] => { results := [.lit (.bool false)], args := [d] }
  | _ => none }
def FnExactBestEdgeWrongFalsely : Prop := fnExactBestEdgeRow.holds Try.pinned (OpenSpec.ofChange fnExactBestEdgeWrong)

/-- 'laws.FnExactLostBy': WHATEVER THE INPUT: true; the input reads as it did. -/
def fnExactLostBySpec : ChangeSpec := { name := "fnExactLostBy", fn := fun _ => fun
  | [d1, d2] => { results := [.lit (.bool true)], args := [d1, d2] }
  | _ => none }
def fnExactLostByRow : OpenClaim := { program := "ytdfbdbbjnihmaaa", sum := "38ce7e7611d6725cbc251196626aec99525118aed5f40aab32e5a2cb640d5757", func := "loop.example/dynamicbridges/laws.FnExactLostBy", spec := "fnExactLostBy", inPlace := ["slices.overlaps[loop.example/dynamicbridges/impl.Edge]"], unfollowed := true, recurses := true, apart := false }
def FnExactLostBySaid : Prop := fnExactLostByRow.holds Try.pinned (OpenSpec.ofChange fnExactLostBySpec)

/-- ITS FALSE NEIGHBOUR: 'it returns false'. Refute it at one input. -/
def fnExactLostByWrong : ChangeSpec := { name := "fnExactLostBy", fn := fun _ => fun
  | [d1, d2] => { results := [.lit (.bool false)], args := [d1, d2] }
  | _ => none }
def FnExactLostByWrongFalsely : Prop := fnExactLostByRow.holds Try.pinned (OpenSpec.ofChange fnExactLostByWrong)

/-- 'laws.FnBestEdge': WHATEVER THE INPUT: true; the input reads as it did. -/
def fnBestEdgeSpec : ChangeSpec := { name := "fnBestEdge", fn := fun _ => fun
  | [d] => { results := [.lit (.bool true)], args := [d] }
  | _ => none }
def fnBestEdgeRow : OpenClaim := { program := "ytdfbdbbjnihmaaa", sum := "38ce7e7611d6725cbc251196626aec99525118aed5f40aab32e5a2cb640d5757", func := "loop.example/dynamicbridges/laws.FnBestEdge", spec := "fnBestEdge", inPlace := ["slices.overlaps[loop.example/dynamicbridges/impl.Edge]"], unfollowed := true, recurses := true, apart := false }
def FnBestEdgeSaid : Prop := fnBestEdgeRow.holds Try.pinned (OpenSpec.ofChange fnBestEdgeSpec)

/-- ITS FALSE NEIGHBOUR: 'it returns false'. Refute it at one input. -/
def fnBestEdgeWrong : ChangeSpec := { name := "fnBestEdge", fn := fun _ => fun
  | [d] => { results := [.lit (.bool false)], args := [d] }
  | _ => none }
def FnBestEdgeWrongFalsely : Prop := fnBestEdgeRow.holds Try.pinned (OpenSpec.ofChange fnBestEdgeWrong)

/-- 'laws.FnExactRunTurns': WHATEVER THE INPUT: true; the input reads as it did. -/
def fnExactRunTurnsSpec : ChangeSpec := { name := "fnExactRunTurns", fn := fun _ => fun
  | [d1, d2] => { results := [.lit (.bool true)], args := [d1, d2] }
  | _ => none }
def fnExactRunTurnsRow : OpenClaim := { program := "ytdfbdbbjnihmaaa", sum := "38ce7e7611d6725cbc251196626aec99525118aed5f40aab32e5a2cb640d5757", func := "loop.example/dynamicbridges/laws.FnExactRunTurns", spec := "fnExactRunTurns", inPlace := ["slices.overlaps[loop.example/dynamicbridges/impl.Edge]"], unfollowed := true, recurses := true, apart := false }
def FnExactRunTurnsSaid : Prop := fnExactRunTurnsRow.holds Try.pinned (OpenSpec.ofChange fnExactRunTurnsSpec)

/-- ITS FALSE NEIGHBOUR: 'it returns false'. Refute it at one input. -/
def fnExactRunTurnsWrong : ChangeSpec := { name := "fnExactRunTurns", fn := fun _ => fun
  | [d1, d2] => { results := [.lit (.bool false)], args := [d1, d2] }
  | _ => none }
def FnExactRunTurnsWrongFalsely : Prop := fnExactRunTurnsRow.holds Try.pinned (OpenSpec.ofChange fnExactRunTurnsWrong)

/- THE SECOND FORM. 'bulk': how many values and letters a reading holds, each counted each time it is reached (what is shared counts as often as it is met; a slice's spare places count too). A statement '..UptoSaid' is the law's where the arguments, and the package variables that the reading takes, are together of bulk at most 1048576: NARROWER than '..Said'. Prove '..Said' where nothing that the law and all that it calls make is longer than what came in: it says more and counts as full. Else prove '..UptoSaid'. A law counts once. -/
mutual
def uptoBulk {H : Type} : DataW H → Nat
  | .lit (.string bytes) => bytes.length + 1
  | .lit _ => 1
  | .nil => 1
  | .ptr d => uptoBulk d + 1
  | .slice elems spare => uptoBulkAll elems + uptoBulkAll spare + 1
  | .agg parts => uptoBulkAll parts + 1
  | .iface _ d => uptoBulk d + 1
  | .map entries => uptoBulkEntries entries + 1
  | .held _ => 1
def uptoBulkAll {H : Type} : List (DataW H) → Nat
  | [] => 0
  | d :: r => uptoBulk d + uptoBulkAll r
def uptoBulkEntries {H : Type} : List (Lit × DataW H) → Nat
  | [] => 0
  | x :: r => uptoBulkEntry x + uptoBulkEntries r
def uptoBulkEntry {H : Type} : Lit × DataW H → Nat
  | (.string bytes, d) => bytes.length + uptoBulk d + 1
  | (_, d) => uptoBulk d + 1
 end
def uptoSmall : (H : Type) → List (DataW H) → Bool := fun _ ds => decide (uptoBulkAll ds ≤ 1048576)
def OpenSpec.upto (s : _root_.Go.ChangeSpec) : _root_.Go.OpenSpec := { _root_.Go.OpenSpec.ofChange s with cond := some uptoSmall }

/-- 'laws.FnExactChainEdges', WHERE WHAT IT READS IS OF BULK AT MOST 1048576: true; the input reads as it did. -/
def fnExactChainEdgesUptoRow : OpenClaim := { program := "ytdfbdbbjnihmaaa", sum := "38ce7e7611d6725cbc251196626aec99525118aed5f40aab32e5a2cb640d5757", func := "loop.example/dynamicbridges/laws.FnExactChainEdges", spec := "fnExactChainEdges", unfollowed := true, recurses := true, apart := false, narrowed := true }
def FnExactChainEdgesUptoSaid : Prop := fnExactChainEdgesUptoRow.holds Try.pinned (OpenSpec.upto fnExactChainEdgesSpec)

/-- 'laws.FnExactConnected', WHERE WHAT IT READS IS OF BULK AT MOST 1048576: true; the input reads as it did. -/
def fnExactConnectedUptoRow : OpenClaim := { program := "ytdfbdbbjnihmaaa", sum := "38ce7e7611d6725cbc251196626aec99525118aed5f40aab32e5a2cb640d5757", func := "loop.example/dynamicbridges/laws.FnExactConnected", spec := "fnExactConnected", apart := false, narrowed := true }
def FnExactConnectedUptoSaid : Prop := fnExactConnectedUptoRow.holds Try.pinned (OpenSpec.upto fnExactConnectedSpec)

/-- 'laws.FnExactCutSize', WHERE WHAT IT READS IS OF BULK AT MOST 1048576: true; the input reads as it did. -/
def fnExactCutSizeUptoRow : OpenClaim := { program := "ytdfbdbbjnihmaaa", sum := "38ce7e7611d6725cbc251196626aec99525118aed5f40aab32e5a2cb640d5757", func := "loop.example/dynamicbridges/laws.FnExactCutSize", spec := "fnExactCutSize", unfollowed := true, recurses := true, apart := false, narrowed := true }
def FnExactCutSizeUptoSaid : Prop := fnExactCutSizeUptoRow.holds Try.pinned (OpenSpec.upto fnExactCutSizeSpec)

/-- 'laws.FnCutSizeOther', WHERE WHAT IT READS IS OF BULK AT MOST 1048576: true; the input reads as it did. -/
def fnCutSizeOtherUptoRow : OpenClaim := { program := "ytdfbdbbjnihmaaa", sum := "38ce7e7611d6725cbc251196626aec99525118aed5f40aab32e5a2cb640d5757", func := "loop.example/dynamicbridges/laws.FnCutSizeOther", spec := "fnCutSizeOther", unfollowed := true, recurses := true, apart := false, narrowed := true }
def FnCutSizeOtherUptoSaid : Prop := fnCutSizeOtherUptoRow.holds Try.pinned (OpenSpec.upto fnCutSizeOtherSpec)

/-- 'laws.FnExactIsSafeGraph', WHERE WHAT IT READS IS OF BULK AT MOST 1048576: true; the input reads as it did. -/
def fnExactIsSafeGraphUptoRow : OpenClaim := { program := "ytdfbdbbjnihmaaa", sum := "38ce7e7611d6725cbc251196626aec99525118aed5f40aab32e5a2cb640d5757", func := "loop.example/dynamicbridges/laws.FnExactIsSafeGraph", spec := "fnExactIsSafeGraph", unfollowed := true, recurses := true, apart := false, narrowed := true }
def FnExactIsSafeGraphUptoSaid : Prop := fnExactIsSafeGraphUptoRow.holds Try.pinned (OpenSpec.upto fnExactIsSafeGraphSpec)

/-- 'laws.FnExactLevelsValid', WHERE WHAT IT READS IS OF BULK AT MOST 1048576: true; the input reads as it did. -/
def fnExactLevelsValidUptoRow : OpenClaim := { program := "ytdfbdbbjnihmaaa", sum := "38ce7e7611d6725cbc251196626aec99525118aed5f40aab32e5a2cb640d5757", func := "loop.example/dynamicbridges/laws.FnExactLevelsValid", spec := "fnExactLevelsValid", unfollowed := true, recurses := true, apart := false, narrowed := true }
def FnExactLevelsValidUptoSaid : Prop := fnExactLevelsValidUptoRow.holds Try.pinned (OpenSpec.upto fnExactLevelsValidSpec)

/-- 'laws.FnTurnEdge', WHERE WHAT IT READS IS OF BULK AT MOST 1048576: true; the input reads as it did. -/
def fnTurnEdgeUptoRow : OpenClaim := { program := "ytdfbdbbjnihmaaa", sum := "38ce7e7611d6725cbc251196626aec99525118aed5f40aab32e5a2cb640d5757", func := "loop.example/dynamicbridges/laws.FnTurnEdge", spec := "fnTurnEdge", inPlace := ["slices.overlaps[loop.example/dynamicbridges/impl.Edge]"], unfollowed := true, recurses := true, apart := false, narrowed := true }
def FnTurnEdgeUptoSaid : Prop := fnTurnEdgeUptoRow.holds Try.pinned (OpenSpec.upto fnTurnEdgeSpec)

/-- 'laws.FnExactSumLevels', WHERE WHAT IT READS IS OF BULK AT MOST 1048576: true; the input reads as it did. -/
def fnExactSumLevelsUptoRow : OpenClaim := { program := "ytdfbdbbjnihmaaa", sum := "38ce7e7611d6725cbc251196626aec99525118aed5f40aab32e5a2cb640d5757", func := "loop.example/dynamicbridges/laws.FnExactSumLevels", spec := "fnExactSumLevels", unfollowed := true, recurses := true, apart := false, narrowed := true }
def FnExactSumLevelsUptoSaid : Prop := fnExactSumLevelsUptoRow.holds Try.pinned (OpenSpec.upto fnExactSumLevelsSpec)

/-- 'laws.FnExactTurnEdge', WHERE WHAT IT READS IS OF BULK AT MOST 1048576: true; the input reads as it did. -/
def fnExactTurnEdgeUptoRow : OpenClaim := { program := "ytdfbdbbjnihmaaa", sum := "38ce7e7611d6725cbc251196626aec99525118aed5f40aab32e5a2cb640d5757", func := "loop.example/dynamicbridges/laws.FnExactTurnEdge", spec := "fnExactTurnEdge", inPlace := ["slices.overlaps[loop.example/dynamicbridges/impl.Edge]"], unfollowed := true, recurses := true, apart := false, narrowed := true }
def FnExactTurnEdgeUptoSaid : Prop := fnExactTurnEdgeUptoRow.holds Try.pinned (OpenSpec.upto fnExactTurnEdgeSpec)

/-- 'laws.FnExactLevelForest', WHERE WHAT IT READS IS OF BULK AT MOST 1048576: true; the input reads as it did. -/
def fnExactLevelForestUptoRow : OpenClaim := { program := "ytdfbdbbjnihmaaa", sum := "38ce7e7611d6725cbc251196626aec99525118aed5f40aab32e5a2cb640d5757", func := "loop.example/dynamicbridges/laws.FnExactLevelForest", spec := "fnExactLevelForest", unfollowed := true, recurses := true, apart := false, narrowed := true }
def FnExactLevelForestUptoSaid : Prop := fnExactLevelForestUptoRow.holds Try.pinned (OpenSpec.upto fnExactLevelForestSpec)

/-- 'laws.FnRunTurns', WHERE WHAT IT READS IS OF BULK AT MOST 1048576: true; the input reads as it did. -/
def fnRunTurnsUptoRow : OpenClaim := { program := "ytdfbdbbjnihmaaa", sum := "38ce7e7611d6725cbc251196626aec99525118aed5f40aab32e5a2cb640d5757", func := "loop.example/dynamicbridges/laws.FnRunTurns", spec := "fnRunTurns", inPlace := ["slices.overlaps[loop.example/dynamicbridges/impl.Edge]"], unfollowed := true, recurses := true, apart := false, narrowed := true }
def FnRunTurnsUptoSaid : Prop := fnRunTurnsUptoRow.holds Try.pinned (OpenSpec.upto fnRunTurnsSpec)

/-- 'laws.FnTurnsBack', WHERE WHAT IT READS IS OF BULK AT MOST 1048576: true; the input reads as it did. -/
def fnTurnsBackUptoRow : OpenClaim := { program := "ytdfbdbbjnihmaaa", sum := "38ce7e7611d6725cbc251196626aec99525118aed5f40aab32e5a2cb640d5757", func := "loop.example/dynamicbridges/laws.FnTurnsBack", spec := "fnTurnsBack", inPlace := ["slices.overlaps[loop.example/dynamicbridges/impl.Edge]"], unfollowed := true, recurses := true, apart := false, narrowed := true }
def FnTurnsBackUptoSaid : Prop := fnTurnsBackUptoRow.holds Try.pinned (OpenSpec.upto fnTurnsBackSpec)

/-- 'laws.FnExactBestEdge', WHERE WHAT IT READS IS OF BULK AT MOST 1048576: true; the input reads as it did. -/
def fnExactBestEdgeUptoRow : OpenClaim := { program := "ytdfbdbbjnihmaaa", sum := "38ce7e7611d6725cbc251196626aec99525118aed5f40aab32e5a2cb640d5757", func := "loop.example/dynamicbridges/laws.FnExactBestEdge", spec := "fnExactBestEdge", inPlace := ["slices.overlaps[loop.example/dynamicbridges/impl.Edge]"], unfollowed := true, recurses := true, apart := false, narrowed := true }
def FnExactBestEdgeUptoSaid : Prop := fnExactBestEdgeUptoRow.holds Try.pinned (OpenSpec.upto fnExactBestEdgeSpec)

/-- 'laws.FnExactLostBy', WHERE WHAT IT READS IS OF BULK AT MOST 1048576: true; the input reads as it did. -/
def fnExactLostByUptoRow : OpenClaim := { program := "ytdfbdbbjnihmaaa", sum := "38ce7e7611d6725cbc251196626aec99525118aed5f40aab32e5a2cb640d5757", func := "loop.example/dynamicbridges/laws.FnExactLostBy", spec := "fnExactLostBy", inPlace := ["slices.overlaps[loop.example/dynamicbridges/impl.Edge]"], unfollowed := true, recurses := true, apart := false, narrowed := true }
def FnExactLostByUptoSaid : Prop := fnExactLostByUptoRow.holds Try.pinned (OpenSpec.upto fnExactLostBySpec)

/-- 'laws.FnBestEdge', WHERE WHAT IT READS IS OF BULK AT MOST 1048576: true; the input reads as it did. -/
def fnBestEdgeUptoRow : OpenClaim := { program := "ytdfbdbbjnihmaaa", sum := "38ce7e7611d6725cbc251196626aec99525118aed5f40aab32e5a2cb640d5757", func := "loop.example/dynamicbridges/laws.FnBestEdge", spec := "fnBestEdge", inPlace := ["slices.overlaps[loop.example/dynamicbridges/impl.Edge]"], unfollowed := true, recurses := true, apart := false, narrowed := true }
def FnBestEdgeUptoSaid : Prop := fnBestEdgeUptoRow.holds Try.pinned (OpenSpec.upto fnBestEdgeSpec)

/-- 'laws.FnExactRunTurns', WHERE WHAT IT READS IS OF BULK AT MOST 1048576: true; the input reads as it did. -/
def fnExactRunTurnsUptoRow : OpenClaim := { program := "ytdfbdbbjnihmaaa", sum := "38ce7e7611d6725cbc251196626aec99525118aed5f40aab32e5a2cb640d5757", func := "loop.example/dynamicbridges/laws.FnExactRunTurns", spec := "fnExactRunTurns", inPlace := ["slices.overlaps[loop.example/dynamicbridges/impl.Edge]"], unfollowed := true, recurses := true, apart := false, narrowed := true }
def FnExactRunTurnsUptoSaid : Prop := fnExactRunTurnsUptoRow.holds Try.pinned (OpenSpec.upto fnExactRunTurnsSpec)

end Rows
end Go.Proofs.Ytdfbdbbjnihmaaa
