/-
  No cell of these rows narrows 'for every input' (looked for: loops, veiled, ifaces, maps, wideKeys, modest, calm, conditions, laid).
  DERIVED. THE GIVEN ROWS OF THIS SEAT. 12 by the template 'for every input the law returns true; each argument reads behind the call as it read before'; 0 by the template 'total and deterministic' (their statements: YtbolckhedohecaaTotals.lean).
  GIVEN WITH THE SEED: the statements are not yours to turn. If you find one false, say at which input.
  Laid BY PROGRAM, IN A SANDBOX (cutbox-rows.mjs): the forced cells as the released guide's own fill.sh prints them over the translation c8d8f7b86e30ec0d… (all of the seat's roots in one cut). By AI agents, Wed Nov 11 2026. No macro, syntax, notation, axiom, sorry.
-/
import Derived.Test.YtbolckhedohecaaChecked
import GoSem.Claim
import GoSem.ClaimJoined
import GoSem.ClaimMapViews
import Derived.JoinedTies
import Derived.KernelRfl
namespace Go.Proofs.Ytbolckhedohecaa
/- THE CELL 'sum', in the pinned program and in every row, IS THE sha256 OF THE DUMP (.gsa) THAT YtbolckhedohecaaProg.lean LOADS. Nothing in Lean hashes anything: it is a label: what it is worth is what the hold of that sum in a sandbox is worth. -/
noncomputable def Try.pinned : Pinned := { name := "ytbolckhedohecaa", sum := "c8d8f7b86e30ec0d2987e6e1f2ba26002a14c407b5d485641ed7a1341ee5cd10", checked := Try.checked }
namespace Rows
def none {H : Type} : Left H := { results := [], args := [] }

/-- 'laws.FnExactRunTurns': WHATEVER THE INPUT: true; the input reads as it did. -/
def fnExactRunTurnsSpec : ChangeSpec := { name := "fnExactRunTurns", fn := fun _ => fun
  | [d1, d2] => { results := [.lit (.bool true)], args := [d1, d2] }
  | _ => none }
def fnExactRunTurnsRow : OpenClaim := { program := "ytbolckhedohecaa", sum := "c8d8f7b86e30ec0d2987e6e1f2ba26002a14c407b5d485641ed7a1341ee5cd10", func := "loop.example/dynamicbridges/laws.FnExactRunTurns", spec := "fnExactRunTurns", inPlace := ["slices.overlaps[loop.example/dynamicbridges/impl.Edge]"], unfollowed := true, recurses := true, apart := false }
def FnExactRunTurnsSaid : Prop := fnExactRunTurnsRow.holds Try.pinned (OpenSpec.ofChange fnExactRunTurnsSpec)

/-- ITS FALSE NEIGHBOUR: 'it returns false'. Refute it at one input. -/
def fnExactRunTurnsWrong : ChangeSpec := { name := "fnExactRunTurns", fn := fun _ => fun
  | [d1, d2] => { results := [.lit (.bool false)], args := [d1, d2] }
  | _ => none }
def FnExactRunTurnsWrongFalsely : Prop := fnExactRunTurnsRow.holds Try.pinned (OpenSpec.ofChange fnExactRunTurnsWrong)

/-- 'laws.FnRunTurns': WHATEVER THE INPUT: true; the input reads as it did. -/
def fnRunTurnsSpec : ChangeSpec := { name := "fnRunTurns", fn := fun _ => fun
  | [d] => { results := [.lit (.bool true)], args := [d] }
  | _ => none }
def fnRunTurnsRow : OpenClaim := { program := "ytbolckhedohecaa", sum := "c8d8f7b86e30ec0d2987e6e1f2ba26002a14c407b5d485641ed7a1341ee5cd10", func := "loop.example/dynamicbridges/laws.FnRunTurns", spec := "fnRunTurns", inPlace := ["slices.overlaps[loop.example/dynamicbridges/impl.Edge]"], unfollowed := true, recurses := true, apart := false }
def FnRunTurnsSaid : Prop := fnRunTurnsRow.holds Try.pinned (OpenSpec.ofChange fnRunTurnsSpec)

/-- ITS FALSE NEIGHBOUR: 'it returns false'. Refute it at one input. -/
def fnRunTurnsWrong : ChangeSpec := { name := "fnRunTurns", fn := fun _ => fun
  | [d] => { results := [.lit (.bool false)], args := [d] }
  | _ => none }
def FnRunTurnsWrongFalsely : Prop := fnRunTurnsRow.holds Try.pinned (OpenSpec.ofChange fnRunTurnsWrong)

/-- 'laws.FnTurnsBack': WHATEVER THE INPUT: true; the input reads as it did. -/
def fnTurnsBackSpec : ChangeSpec := { name := "fnTurnsBack", fn := fun _ => fun
  | [d] => { results := [.lit (.bool true)], args := [d] }
  | _ => none }
def fnTurnsBackRow : OpenClaim := { program := "ytbolckhedohecaa", sum := "c8d8f7b86e30ec0d2987e6e1f2ba26002a14c407b5d485641ed7a1341ee5cd10", func := "loop.example/dynamicbridges/laws.FnTurnsBack", spec := "fnTurnsBack", inPlace := ["slices.overlaps[loop.example/dynamicbridges/impl.Edge]"], unfollowed := true, recurses := true, apart := false }
def FnTurnsBackSaid : Prop := fnTurnsBackRow.holds Try.pinned (OpenSpec.ofChange fnTurnsBackSpec)

/-- ITS FALSE NEIGHBOUR: 'it returns false'. Refute it at one input. -/
def fnTurnsBackWrong : ChangeSpec := { name := "fnTurnsBack", fn := fun _ => fun
  | [d] => { results := [.lit (.bool false)], args := [d] }
  | _ => none }
def FnTurnsBackWrongFalsely : Prop := fnTurnsBackRow.holds Try.pinned (OpenSpec.ofChange fnTurnsBackWrong)

/-- 'laws.FnExactReplayEvents': WHATEVER THE INPUT: true; the input reads as it did. -/
def fnExactReplayEventsSpec : ChangeSpec := { name := "fnExactReplayEvents", fn := fun _ => fun
  | [d1, d2] => { results := [.lit (.bool true)], args := [d1, d2] }
  | _ => none }
def fnExactReplayEventsRow : OpenClaim := { program := "ytbolckhedohecaa", sum := "c8d8f7b86e30ec0d2987e6e1f2ba26002a14c407b5d485641ed7a1341ee5cd10", func := "loop.example/dynamicbridges/laws.FnExactReplayEvents", spec := "fnExactReplayEvents", inPlace := ["slices.overlaps[loop.example/dynamicbridges/impl.Edge]"], unfollowed := true, recurses := true, apart := false }
def FnExactReplayEventsSaid : Prop := fnExactReplayEventsRow.holds Try.pinned (OpenSpec.ofChange fnExactReplayEventsSpec)

/-- ITS FALSE NEIGHBOUR: 'it returns false'. Refute it at one input. -/
def fnExactReplayEventsWrong : ChangeSpec := { name := "fnExactReplayEvents", fn := fun _ => fun
  | [d1, d2] => { results := [.lit (.bool false)], args := [d1, d2] }
  | _ => none }
def FnExactReplayEventsWrongFalsely : Prop := fnExactReplayEventsRow.holds Try.pinned (OpenSpec.ofChange fnExactReplayEventsWrong)

/-- 'laws.FnReplayParts': WHATEVER THE INPUT: true; the input reads as it did. -/
def fnReplayPartsSpec : ChangeSpec := { name := "fnReplayParts", fn := fun _ => fun
  | [d] => { results := [.lit (.bool true)], args := [d] }
  | _ => none }
def fnReplayPartsRow : OpenClaim := { program := "ytbolckhedohecaa", sum := "c8d8f7b86e30ec0d2987e6e1f2ba26002a14c407b5d485641ed7a1341ee5cd10", func := "loop.example/dynamicbridges/laws.FnReplayParts", spec := "fnReplayParts", inPlace := ["slices.overlaps[loop.example/dynamicbridges/impl.Edge]"], unfollowed := true, recurses := true, apart := false }
def FnReplayPartsSaid : Prop := fnReplayPartsRow.holds Try.pinned (OpenSpec.ofChange fnReplayPartsSpec)

/-- ITS FALSE NEIGHBOUR: 'it returns false'. Refute it at one input. -/
def fnReplayPartsWrong : ChangeSpec := { name := "fnReplayParts", fn := fun _ => fun
  | [d] => { results := [.lit (.bool false)], args := [d] }
  | _ => none }
def FnReplayPartsWrongFalsely : Prop := fnReplayPartsRow.holds Try.pinned (OpenSpec.ofChange fnReplayPartsWrong)

/-- 'laws.FnExactEventsOf': WHATEVER THE INPUT: true; the input reads as it did. -/
def fnExactEventsOfSpec : ChangeSpec := { name := "fnExactEventsOf", fn := fun _ => fun
  | [d1, d2] => { results := [.lit (.bool true)], args := [d1, d2] }
  | _ => none }
def fnExactEventsOfRow : OpenClaim := { program := "ytbolckhedohecaa", sum := "c8d8f7b86e30ec0d2987e6e1f2ba26002a14c407b5d485641ed7a1341ee5cd10", func := "loop.example/dynamicbridges/laws.FnExactEventsOf", spec := "fnExactEventsOf", inPlace := ["slices.overlaps[loop.example/dynamicbridges/impl.Edge]"], unfollowed := true, recurses := true, apart := false }
def FnExactEventsOfSaid : Prop := fnExactEventsOfRow.holds Try.pinned (OpenSpec.ofChange fnExactEventsOfSpec)

/-- ITS FALSE NEIGHBOUR: 'it returns false'. Refute it at one input. -/
def fnExactEventsOfWrong : ChangeSpec := { name := "fnExactEventsOf", fn := fun _ => fun
  | [d1, d2] => { results := [.lit (.bool false)], args := [d1, d2] }
  | _ => none }
def FnExactEventsOfWrongFalsely : Prop := fnExactEventsOfRow.holds Try.pinned (OpenSpec.ofChange fnExactEventsOfWrong)

/-- 'laws.FnEventsOrder': WHATEVER THE INPUT: true; the input reads as it did. -/
def fnEventsOrderSpec : ChangeSpec := { name := "fnEventsOrder", fn := fun _ => fun
  | [d] => { results := [.lit (.bool true)], args := [d] }
  | _ => none }
def fnEventsOrderRow : OpenClaim := { program := "ytbolckhedohecaa", sum := "c8d8f7b86e30ec0d2987e6e1f2ba26002a14c407b5d485641ed7a1341ee5cd10", func := "loop.example/dynamicbridges/laws.FnEventsOrder", spec := "fnEventsOrder", inPlace := ["slices.overlaps[loop.example/dynamicbridges/impl.Edge]"], unfollowed := true, recurses := true, apart := false }
def FnEventsOrderSaid : Prop := fnEventsOrderRow.holds Try.pinned (OpenSpec.ofChange fnEventsOrderSpec)

/-- ITS FALSE NEIGHBOUR: 'it returns false'. Refute it at one input. -/
def fnEventsOrderWrong : ChangeSpec := { name := "fnEventsOrder", fn := fun _ => fun
  | [d] => { results := [.lit (.bool false)], args := [d] }
  | _ => none }
def FnEventsOrderWrongFalsely : Prop := fnEventsOrderRow.holds Try.pinned (OpenSpec.ofChange fnEventsOrderWrong)

/-- 'laws.FnEventsPart': WHATEVER THE INPUT: true; the input reads as it did. -/
def fnEventsPartSpec : ChangeSpec := { name := "fnEventsPart", fn := fun _ => fun
  | [d] => { results := [.lit (.bool true)], args := [d] }
  | _ => none }
def fnEventsPartRow : OpenClaim := { program := "ytbolckhedohecaa", sum := "c8d8f7b86e30ec0d2987e6e1f2ba26002a14c407b5d485641ed7a1341ee5cd10", func := "loop.example/dynamicbridges/laws.FnEventsPart", spec := "fnEventsPart", inPlace := ["slices.overlaps[loop.example/dynamicbridges/impl.Edge]"], unfollowed := true, recurses := true, apart := false }
def FnEventsPartSaid : Prop := fnEventsPartRow.holds Try.pinned (OpenSpec.ofChange fnEventsPartSpec)

/-- ITS FALSE NEIGHBOUR: 'it returns false'. Refute it at one input. -/
def fnEventsPartWrong : ChangeSpec := { name := "fnEventsPart", fn := fun _ => fun
  | [d] => { results := [.lit (.bool false)], args := [d] }
  | _ => none }
def FnEventsPartWrongFalsely : Prop := fnEventsPartRow.holds Try.pinned (OpenSpec.ofChange fnEventsPartWrong)

/-- 'laws.FnEventsOf': WHATEVER THE INPUT: true; the input reads as it did. -/
def fnEventsOfSpec : ChangeSpec := { name := "fnEventsOf", fn := fun _ => fun
  | [d] => { results := [.lit (.bool true)], args := [d] }
  | _ => none }
def fnEventsOfRow : OpenClaim := { program := "ytbolckhedohecaa", sum := "c8d8f7b86e30ec0d2987e6e1f2ba26002a14c407b5d485641ed7a1341ee5cd10", func := "loop.example/dynamicbridges/laws.FnEventsOf", spec := "fnEventsOf", inPlace := ["slices.overlaps[loop.example/dynamicbridges/impl.Edge]"], unfollowed := true, recurses := true, apart := false }
def FnEventsOfSaid : Prop := fnEventsOfRow.holds Try.pinned (OpenSpec.ofChange fnEventsOfSpec)

/-- ITS FALSE NEIGHBOUR: 'it returns false'. Refute it at one input. -/
def fnEventsOfWrong : ChangeSpec := { name := "fnEventsOf", fn := fun _ => fun
  | [d] => { results := [.lit (.bool false)], args := [d] }
  | _ => none }
def FnEventsOfWrongFalsely : Prop := fnEventsOfRow.holds Try.pinned (OpenSpec.ofChange fnEventsOfWrong)

/-- 'laws.FnExactForestsOf': WHATEVER THE INPUT: true; the input reads as it did. -/
def fnExactForestsOfSpec : ChangeSpec := { name := "fnExactForestsOf", fn := fun _ => fun
  | [d1, d2] => { results := [.lit (.bool true)], args := [d1, d2] }
  | _ => none }
def fnExactForestsOfRow : OpenClaim := { program := "ytbolckhedohecaa", sum := "c8d8f7b86e30ec0d2987e6e1f2ba26002a14c407b5d485641ed7a1341ee5cd10", func := "loop.example/dynamicbridges/laws.FnExactForestsOf", spec := "fnExactForestsOf", unfollowed := true, recurses := true, apart := false }
def FnExactForestsOfSaid : Prop := fnExactForestsOfRow.holds Try.pinned (OpenSpec.ofChange fnExactForestsOfSpec)

/-- ITS FALSE NEIGHBOUR: 'it returns false'. Refute it at one input. -/
def fnExactForestsOfWrong : ChangeSpec := { name := "fnExactForestsOf", fn := fun _ => fun
  | [d1, d2] => { results := [.lit (.bool false)], args := [d1, d2] }
  | _ => none }
def FnExactForestsOfWrongFalsely : Prop := fnExactForestsOfRow.holds Try.pinned (OpenSpec.ofChange fnExactForestsOfWrong)

/-- 'laws.FnForestsOf': WHATEVER THE INPUT: true; the input reads as it did. -/
def fnForestsOfSpec : ChangeSpec := { name := "fnForestsOf", fn := fun _ => fun
  | [d] => { results := [.lit (.bool true)], args := [d] }
  | _ => none }
def fnForestsOfRow : OpenClaim := { program := "ytbolckhedohecaa", sum := "c8d8f7b86e30ec0d2987e6e1f2ba26002a14c407b5d485641ed7a1341ee5cd10", func := "loop.example/dynamicbridges/laws.FnForestsOf", spec := "fnForestsOf", unfollowed := true, recurses := true, apart := false }
def FnForestsOfSaid : Prop := fnForestsOfRow.holds Try.pinned (OpenSpec.ofChange fnForestsOfSpec)

/-- ITS FALSE NEIGHBOUR: 'it returns false'. Refute it at one input. -/
def fnForestsOfWrong : ChangeSpec := { name := "fnForestsOf", fn := fun _ => fun
  | [d] => { results := [.lit (.bool false)], args := [d] }
  | _ => none }
def FnForestsOfWrongFalsely : Prop := fnForestsOfRow.holds Try.pinned (OpenSpec.ofChange fnForestsOfWrong)

/-- 'laws.FnChainEdges': WHATEVER THE INPUT: true; the input reads as it did. -/
def fnChainEdgesSpec : ChangeSpec := { name := "fnChainEdges", fn := fun _ => fun
  | [d] => { results := [.lit (.bool true)], args := [d] }
  | _ => none }
def fnChainEdgesRow : OpenClaim := { program := "ytbolckhedohecaa", sum := "c8d8f7b86e30ec0d2987e6e1f2ba26002a14c407b5d485641ed7a1341ee5cd10", func := "loop.example/dynamicbridges/laws.FnChainEdges", spec := "fnChainEdges", unfollowed := true, recurses := true, apart := false }
def FnChainEdgesSaid : Prop := fnChainEdgesRow.holds Try.pinned (OpenSpec.ofChange fnChainEdgesSpec)

/-- ITS FALSE NEIGHBOUR: 'it returns false'. Refute it at one input. -/
def fnChainEdgesWrong : ChangeSpec := { name := "fnChainEdges", fn := fun _ => fun
  | [d] => { results := [.lit (.bool false)], args := [d] }
  | _ => none }
def FnChainEdgesWrongFalsely : Prop := fnChainEdgesRow.holds Try.pinned (OpenSpec.ofChange fnChainEdgesWrong)

/- THE SECOND FORM. 'bulk': how many values and letters a reading holds, each counted each time it is reached (what is shared counts as often as it is met; a slice's spare places count too). A statement '..UptoSaid' is the law's where the arguments, and the package variables that the reading takes, are together of bulk at most 1048576: NARROWER than '..Said'. Prove '..Said' where nothing that the law and all that it calls make is longer than what came in: it says more and counts as full. Else prove '..UptoSaid'. A law counts once. -/
mutual
def uptoBulk {H : Type} : DataW H → Nat
  | .lit (.string bytes) => bytes.length + 1
  | .lit _ => 1
  | .nil => 1
  | .ptr d => uptoBulk d + 1
  | .slice elems spare => uptoBulkAll elems + uptoBulkAll spare + 1
  | .agg parts => uptoBulkAll parts + 1
  | .iface _ d => uptoBulk d + 1
  | .map entries => uptoBulkEntries entries + 1
  | .held _ => 1
def uptoBulkAll {H : Type} : List (DataW H) → Nat
  | [] => 0
  | d :: r => uptoBulk d + uptoBulkAll r
def uptoBulkEntries {H : Type} : List (Lit × DataW H) → Nat
  | [] => 0
  | x :: r => uptoBulkEntry x + uptoBulkEntries r
def uptoBulkEntry {H : Type} : Lit × DataW H → Nat
  | (.string bytes, d) => bytes.length + uptoBulk d + 1
  | (_, d) => uptoBulk d + 1
 end
def uptoSmall : (H : Type) → List (DataW H) → Bool := fun _ ds => decide (uptoBulkAll ds ≤ 1048576)
def OpenSpec.upto (s : _root_.Go.ChangeSpec) : _root_.Go.OpenSpec := { _root_.Go.OpenSpec.ofChange s with cond := some uptoSmall }

/-- 'laws.FnExactRunTurns', WHERE WHAT IT READS IS OF BULK AT MOST 1048576: true; the input reads as it did. -/
def fnExactRunTurnsUptoRow : OpenClaim := { program := "ytbolckhedohecaa", sum := "c8d8f7b86e30ec0d2987e6e1f2ba26002a14c407b5d485641ed7a1341ee5cd10", func := "loop.example/dynamicbridges/laws.FnExactRunTurns", spec := "fnExactRunTurns", inPlace := ["slices.overlaps[loop.example/dynamicbridges/impl.Edge]"], unfollowed := true, recurses := true, apart := false, narrowed := true }
def FnExactRunTurnsUptoSaid : Prop := fnExactRunTurnsUptoRow.holds Try.pinned (OpenSpec.upto fnExactRunTurnsSpec)

/-- 'laws.FnRunTurns', WHERE WHAT IT READS IS OF BULK AT MOST 1048576: true; the input reads as it did. -/
def fnRunTurnsUptoRow : OpenClaim := { program := "ytbolckhedohecaa", sum := "c8d8f7b86e30ec0d2987e6e1f2ba26002a14c407b5d485641ed7a1341ee5cd10", func := "loop.example/dynamicbridges/laws.FnRunTurns", spec := "fnRunTurns", inPlace := ["slices.overlaps[loop.example/dynamicbridges/impl.Edge]"], unfollowed := true, recurses := true, apart := false, narrowed := true }
def FnRunTurnsUptoSaid : Prop := fnRunTurnsUptoRow.holds Try.pinned (OpenSpec.upto fnRunTurnsSpec)

/-- 'laws.FnTurnsBack', WHERE WHAT IT READS IS OF BULK AT MOST 1048576: true; the input reads as it did. -/
def fnTurnsBackUptoRow : OpenClaim := { program := "ytbolckhedohecaa", sum := "c8d8f7b86e30ec0d2987e6e1f2ba26002a14c407b5d485641ed7a1341ee5cd10", func := "loop.example/dynamicbridges/laws.FnTurnsBack", spec := "fnTurnsBack", inPlace := ["slices.overlaps[loop.example/dynamicbridges/impl.Edge]"], unfollowed := true, recurses := true, apart := false, narrowed := true }
def FnTurnsBackUptoSaid : Prop := fnTurnsBackUptoRow.holds Try.pinned (OpenSpec.upto fnTurnsBackSpec)

/-- 'laws.FnExactReplayEvents', WHERE WHAT IT READS IS OF BULK AT MOST 1048576: true; the input reads as it did. -/
def fnExactReplayEventsUptoRow : OpenClaim := { program := "ytbolckhedohecaa", sum := "c8d8f7b86e30ec0d2987e6e1f2ba26002a14c407b5d485641ed7a1341ee5cd10", func := "loop.example/dynamicbridges/laws.FnExactReplayEvents", spec := "fnExactReplayEvents", inPlace := ["slices.overlaps[loop.example/dynamicbridges/impl.Edge]"], unfollowed := true, recurses := true, apart := false, narrowed := true }
def FnExactReplayEventsUptoSaid : Prop := fnExactReplayEventsUptoRow.holds Try.pinned (OpenSpec.upto fnExactReplayEventsSpec)

/-- 'laws.FnReplayParts', WHERE WHAT IT READS IS OF BULK AT MOST 1048576: true; the input reads as it did. -/
def fnReplayPartsUptoRow : OpenClaim := { program := "ytbolckhedohecaa", sum := "c8d8f7b86e30ec0d2987e6e1f2ba26002a14c407b5d485641ed7a1341ee5cd10", func := "loop.example/dynamicbridges/laws.FnReplayParts", spec := "fnReplayParts", inPlace := ["slices.overlaps[loop.example/dynamicbridges/impl.Edge]"], unfollowed := true, recurses := true, apart := false, narrowed := true }
def FnReplayPartsUptoSaid : Prop := fnReplayPartsUptoRow.holds Try.pinned (OpenSpec.upto fnReplayPartsSpec)

/-- 'laws.FnExactEventsOf', WHERE WHAT IT READS IS OF BULK AT MOST 1048576: true; the input reads as it did. -/
def fnExactEventsOfUptoRow : OpenClaim := { program := "ytbolckhedohecaa", sum := "c8d8f7b86e30ec0d2987e6e1f2ba26002a14c407b5d485641ed7a1341ee5cd10", func := "loop.example/dynamicbridges/laws.FnExactEventsOf", spec := "fnExactEventsOf", inPlace := ["slices.overlaps[loop.example/dynamicbridges/impl.Edge]"], unfollowed := true, recurses := true, apart := false, narrowed := true }
def FnExactEventsOfUptoSaid : Prop := fnExactEventsOfUptoRow.holds Try.pinned (OpenSpec.upto fnExactEventsOfSpec)

/-- 'laws.FnEventsOrder', WHERE WHAT IT READS IS OF BULK AT MOST 1048576: true; the input reads as it did. -/
def fnEventsOrderUptoRow : OpenClaim := { program := "ytbolckhedohecaa", sum := "c8d8f7b86e30ec0d2987e6e1f2ba26002a14c407b5d485641ed7a1341ee5cd10", func := "loop.example/dynamicbridges/laws.FnEventsOrder", spec := "fnEventsOrder", inPlace := ["slices.overlaps[loop.example/dynamicbridges/impl.Edge]"], unfollowed := true, recurses := true, apart := false, narrowed := true }
def FnEventsOrderUptoSaid : Prop := fnEventsOrderUptoRow.holds Try.pinned (OpenSpec.upto fnEventsOrderSpec)

/-- 'laws.FnEventsPart', WHERE WHAT IT READS IS OF BULK AT MOST 1048576: true; the input reads as it did. -/
def fnEventsPartUptoRow : OpenClaim := { program := "ytbolckhedohecaa", sum := "c8d8f7b86e30ec0d2987e6e1f2ba26002a14c407b5d485641ed7a1341ee5cd10", func := "loop.example/dynamicbridges/laws.FnEventsPart", spec := "fnEventsPart", inPlace := ["slices.overlaps[loop.example/dynamicbridges/impl.Edge]"], unfollowed := true, recurses := true, apart := false, narrowed := true }
def FnEventsPartUptoSaid : Prop := fnEventsPartUptoRow.holds Try.pinned (OpenSpec.upto fnEventsPartSpec)

/-- 'laws.FnEventsOf', WHERE WHAT IT READS IS OF BULK AT MOST 1048576: true; the input reads as it did. -/
def fnEventsOfUptoRow : OpenClaim := { program := "ytbolckhedohecaa", sum := "c8d8f7b86e30ec0d2987e6e1f2ba26002a14c407b5d485641ed7a1341ee5cd10", func := "loop.example/dynamicbridges/laws.FnEventsOf", spec := "fnEventsOf", inPlace := ["slices.overlaps[loop.example/dynamicbridges/impl.Edge]"], unfollowed := true, recurses := true, apart := false, narrowed := true }
def FnEventsOfUptoSaid : Prop := fnEventsOfUptoRow.holds Try.pinned (OpenSpec.upto fnEventsOfSpec)

/-- 'laws.FnExactForestsOf', WHERE WHAT IT READS IS OF BULK AT MOST 1048576: true; the input reads as it did. -/
def fnExactForestsOfUptoRow : OpenClaim := { program := "ytbolckhedohecaa", sum := "c8d8f7b86e30ec0d2987e6e1f2ba26002a14c407b5d485641ed7a1341ee5cd10", func := "loop.example/dynamicbridges/laws.FnExactForestsOf", spec := "fnExactForestsOf", unfollowed := true, recurses := true, apart := false, narrowed := true }
def FnExactForestsOfUptoSaid : Prop := fnExactForestsOfUptoRow.holds Try.pinned (OpenSpec.upto fnExactForestsOfSpec)

/-- 'laws.FnForestsOf', WHERE WHAT IT READS IS OF BULK AT MOST 1048576: true; the input reads as it did. -/
def fnForestsOfUptoRow : OpenClaim := { program := "ytbolckhedohecaa", sum := "c8d8f7b86e30ec0d2987e6e1f2ba26002a14c407b5d485641ed7a1341ee5cd10", func := "loop.example/dynamicbridges/laws.FnForestsOf", spec := "fnForestsOf", unfollowed := true, recurses := true, apart := false, narrowed := true }
def FnForestsOfUptoSaid : Prop := fnForestsOfUptoRow.holds Try.pinned (OpenSpec.upto fnForestsOfSpec)

/-- 'laws.FnChainEdges', WHERE WHAT IT READS IS OF BULK AT MOST 1048576: true; the input reads as it did. -/
def fnChainEdgesUptoRow : OpenClaim := { program := "ytbolckhedohecaa", sum := "c8d8f7b86e30ec0d2987e6e1f2ba26002a14c407b5d485641ed7a1341ee5cd10", func := "loop.example/dynamicbridges/laws.FnChainEdges", spec := "fnChainEdges", unfollowed := true, recurses := true, apart := false, narrowed := true }
def FnChainEdgesUptoSaid : Prop := fnChainEdgesUptoRow.holds Try.pinned (OpenSpec.upto fnChainEdgesSpec)

end Rows
end Go.Proofs.Ytbolckhedohecaa
