/-
  No cell of these rows narrows 'for every input' (looked for: loops, veiled, ifaces, maps, wideKeys, modest, calm, conditions, laid).
  DERIVED. THE GIVEN ROWS OF THIS SEAT. 12 by the template 'for every input the law returns true; each argument reads behind the call as it read before'; 0 by the template 'total and deterministic' (their statements: YtedacikdbkpccaaTotals.lean).
  GIVEN WITH THE SEED: the statements are not yours to turn. If you find one false, say at which input.
  Laid BY PROGRAM, IN A SANDBOX (cutbox-rows.mjs): the forced cells as the released guide's own fill.sh prints them over the translation ad51f1703ca8ed24… (all of the seat's roots in one cut). By AI agents, Wed Nov 11 2026. No macro, syntax, notation, axiom, sorry.
-/
import Derived.Test.YtedacikdbkpccaaChecked
import GoSem.Claim
import GoSem.ClaimJoined
import GoSem.ClaimMapViews
import Derived.JoinedTies
import Derived.KernelRfl
namespace Go.Proofs.Ytedacikdbkpccaa
/- THE CELL 'sum', in the pinned program and in every row, IS THE sha256 OF THE DUMP (.gsa) THAT YtedacikdbkpccaaProg.lean LOADS. Nothing in Lean hashes anything: it is a label: what it is worth is what the hold of that sum in a sandbox is worth. -/
noncomputable def Try.pinned : Pinned := { name := "ytedacikdbkpccaa", sum := "ad51f1703ca8ed249a01986a1dc04422fd947a15f0d10bb59a38ce56cda09c37", checked := Try.checked }
namespace Rows
def none {H : Type} : Left H := { results := [], args := [] }

/-- 'laws.FnCountsTurn': WHATEVER THE INPUT: true; the input reads as it did. -/
def fnCountsTurnSpec : ChangeSpec := { name := "fnCountsTurn", fn := fun _ => fun
  | [d] => { results := [.lit (.bool true)], args := [d] }
  | _ => none }
def fnCountsTurnRow : OpenClaim := { program := "ytedacikdbkpccaa", sum := "ad51f1703ca8ed249a01986a1dc04422fd947a15f0d10bb59a38ce56cda09c37", func := "loop.example/dynamicbridges/laws.FnCountsTurn", spec := "fnCountsTurn", inPlace := ["slices.overlaps[loop.example/dynamicbridges/impl.Edge]"], unfollowed := true, recurses := true, apart := false }
def FnCountsTurnSaid : Prop := fnCountsTurnRow.holds Try.pinned (OpenSpec.ofChange fnCountsTurnSpec)

/-- ITS FALSE NEIGHBOUR: 'it returns false'. Refute it at one input. -/
def fnCountsTurnWrong : ChangeSpec := { name := "fnCountsTurn", fn := fun _ => fun
  | [d] => { results := [.lit (.bool false)], args := [d] }
  | _ => none }
def FnCountsTurnWrongFalsely : Prop := fnCountsTurnRow.holds Try.pinned (OpenSpec.ofChange fnCountsTurnWrong)

/-- 'laws.FnCountsOf': WHATEVER THE INPUT: true; the input reads as it did. -/
def fnCountsOfSpec : ChangeSpec := { name := "fnCountsOf", fn := fun _ => fun
  | [d] => { results := [.lit (.bool true)], args := [d] }
  | _ => none }
def fnCountsOfRow : OpenClaim := { program := "ytedacikdbkpccaa", sum := "ad51f1703ca8ed249a01986a1dc04422fd947a15f0d10bb59a38ce56cda09c37", func := "loop.example/dynamicbridges/laws.FnCountsOf", spec := "fnCountsOf", inPlace := ["slices.overlaps[loop.example/dynamicbridges/impl.Edge]"], unfollowed := true, recurses := true, apart := false }
def FnCountsOfSaid : Prop := fnCountsOfRow.holds Try.pinned (OpenSpec.ofChange fnCountsOfSpec)

/-- ITS FALSE NEIGHBOUR: 'it returns false'. Refute it at one input. -/
def fnCountsOfWrong : ChangeSpec := { name := "fnCountsOf", fn := fun _ => fun
  | [d] => { results := [.lit (.bool false)], args := [d] }
  | _ => none }
def FnCountsOfWrongFalsely : Prop := fnCountsOfRow.holds Try.pinned (OpenSpec.ofChange fnCountsOfWrong)

/-- 'laws.FnExactIsOneBlock': WHATEVER THE INPUT: true; the input reads as it did. -/
def fnExactIsOneBlockSpec : ChangeSpec := { name := "fnExactIsOneBlock", fn := fun _ => fun
  | [d] => { results := [.lit (.bool true)], args := [d] }
  | _ => none }
def fnExactIsOneBlockRow : OpenClaim := { program := "ytedacikdbkpccaa", sum := "ad51f1703ca8ed249a01986a1dc04422fd947a15f0d10bb59a38ce56cda09c37", func := "loop.example/dynamicbridges/laws.FnExactIsOneBlock", spec := "fnExactIsOneBlock", unfollowed := true, recurses := true, apart := false }
def FnExactIsOneBlockSaid : Prop := fnExactIsOneBlockRow.holds Try.pinned (OpenSpec.ofChange fnExactIsOneBlockSpec)

/-- ITS FALSE NEIGHBOUR: 'it returns false'. Refute it at one input. -/
def fnExactIsOneBlockWrong : ChangeSpec := { name := "fnExactIsOneBlock", fn := fun _ => fun
  | [d] => { results := [.lit (.bool false)], args := [d] }
  | _ => none }
def FnExactIsOneBlockWrongFalsely : Prop := fnExactIsOneBlockRow.holds Try.pinned (OpenSpec.ofChange fnExactIsOneBlockWrong)

/-- 'laws.FnChainEdges': WHATEVER THE INPUT: true; the input reads as it did. -/
def fnChainEdgesSpec : ChangeSpec := { name := "fnChainEdges", fn := fun _ => fun
  | [d] => { results := [.lit (.bool true)], args := [d] }
  | _ => none }
def fnChainEdgesRow : OpenClaim := { program := "ytedacikdbkpccaa", sum := "ad51f1703ca8ed249a01986a1dc04422fd947a15f0d10bb59a38ce56cda09c37", func := "loop.example/dynamicbridges/laws.FnChainEdges", spec := "fnChainEdges", unfollowed := true, recurses := true, apart := false }
def FnChainEdgesSaid : Prop := fnChainEdgesRow.holds Try.pinned (OpenSpec.ofChange fnChainEdgesSpec)

/-- ITS FALSE NEIGHBOUR: 'it returns false'. Refute it at one input. -/
def fnChainEdgesWrong : ChangeSpec := { name := "fnChainEdges", fn := fun _ => fun
  | [d] => { results := [.lit (.bool false)], args := [d] }
  | _ => none }
def FnChainEdgesWrongFalsely : Prop := fnChainEdgesRow.holds Try.pinned (OpenSpec.ofChange fnChainEdgesWrong)

/-- 'laws.FnExactChainOf': WHATEVER THE INPUT: true; the input reads as it did. -/
def fnExactChainOfSpec : ChangeSpec := { name := "fnExactChainOf", fn := fun _ => fun
  | [d1, d2] => { results := [.lit (.bool true)], args := [d1, d2] }
  | _ => none }
def fnExactChainOfRow : OpenClaim := { program := "ytedacikdbkpccaa", sum := "ad51f1703ca8ed249a01986a1dc04422fd947a15f0d10bb59a38ce56cda09c37", func := "loop.example/dynamicbridges/laws.FnExactChainOf", spec := "fnExactChainOf", recurses := true, apart := false }
def FnExactChainOfSaid : Prop := fnExactChainOfRow.holds Try.pinned (OpenSpec.ofChange fnExactChainOfSpec)

/-- ITS FALSE NEIGHBOUR: 'it returns false'. Refute it at one input. -/
def fnExactChainOfWrong : ChangeSpec := { name := "fnExactChainOf", fn := fun _ => fun
  | [d1, d2] => { results := [.lit (.bool false)], args := [d1, d2] }
  | _ => none }
def FnExactChainOfWrongFalsely : Prop := fnExactChainOfRow.holds Try.pinned (OpenSpec.ofChange fnExactChainOfWrong)

/-- 'laws.FnExactRoundChains': WHATEVER THE INPUT: true; the input reads as it did. -/
def fnExactRoundChainsSpec : ChangeSpec := { name := "fnExactRoundChains", fn := fun _ => fun
  | [d] => { results := [.lit (.bool true)], args := [d] }
  | _ => none }
def fnExactRoundChainsRow : OpenClaim := { program := "ytedacikdbkpccaa", sum := "ad51f1703ca8ed249a01986a1dc04422fd947a15f0d10bb59a38ce56cda09c37", func := "loop.example/dynamicbridges/laws.FnExactRoundChains", spec := "fnExactRoundChains", recurses := true, apart := false }
def FnExactRoundChainsSaid : Prop := fnExactRoundChainsRow.holds Try.pinned (OpenSpec.ofChange fnExactRoundChainsSpec)

/-- ITS FALSE NEIGHBOUR: 'it returns false'. Refute it at one input. -/
def fnExactRoundChainsWrong : ChangeSpec := { name := "fnExactRoundChains", fn := fun _ => fun
  | [d] => { results := [.lit (.bool false)], args := [d] }
  | _ => none }
def FnExactRoundChainsWrongFalsely : Prop := fnExactRoundChainsRow.holds Try.pinned (OpenSpec.ofChange fnExactRoundChainsWrong)

/-- 'laws.FnChainNodes': WHATEVER THE INPUT: true; the input reads as it did. -/
def fnChainNodesSpec : ChangeSpec := { name := "fnChainNodes", fn := fun _ => fun
  | [d] => { results := [.lit (.bool true)], args := [d] }
  | _ => none }
def fnChainNodesRow : OpenClaim := { program := "ytedacikdbkpccaa", sum := "ad51f1703ca8ed249a01986a1dc04422fd947a15f0d10bb59a38ce56cda09c37", func := "loop.example/dynamicbridges/laws.FnChainNodes", spec := "fnChainNodes", recurses := true, apart := false }
def FnChainNodesSaid : Prop := fnChainNodesRow.holds Try.pinned (OpenSpec.ofChange fnChainNodesSpec)

/-- ITS FALSE NEIGHBOUR: 'it returns false'. Refute it at one input. -/
def fnChainNodesWrong : ChangeSpec := { name := "fnChainNodes", fn := fun _ => fun
  | [d] => { results := [.lit (.bool false)], args := [d] }
  | _ => none }
def FnChainNodesWrongFalsely : Prop := fnChainNodesRow.holds Try.pinned (OpenSpec.ofChange fnChainNodesWrong)

/-- 'laws.FnChainsEars': WHATEVER THE INPUT: true; the input reads as it did. -/
def fnChainsEarsSpec : ChangeSpec := { name := "fnChainsEars", fn := fun _ => fun
  | [d] => { results := [.lit (.bool true)], args := [d] }
  | _ => none }
def fnChainsEarsRow : OpenClaim := { program := "ytedacikdbkpccaa", sum := "ad51f1703ca8ed249a01986a1dc04422fd947a15f0d10bb59a38ce56cda09c37", func := "loop.example/dynamicbridges/laws.FnChainsEars", spec := "fnChainsEars", unfollowed := true, recurses := true, apart := false }
def FnChainsEarsSaid : Prop := fnChainsEarsRow.holds Try.pinned (OpenSpec.ofChange fnChainsEarsSpec)

/-- ITS FALSE NEIGHBOUR: 'it returns false'. Refute it at one input. -/
def fnChainsEarsWrong : ChangeSpec := { name := "fnChainsEars", fn := fun _ => fun
  | [d] => { results := [.lit (.bool false)], args := [d] }
  | _ => none }
def FnChainsEarsWrongFalsely : Prop := fnChainsEarsRow.holds Try.pinned (OpenSpec.ofChange fnChainsEarsWrong)

/-- 'laws.FnChainsOf': WHATEVER THE INPUT: true; the input reads as it did. -/
def fnChainsOfSpec : ChangeSpec := { name := "fnChainsOf", fn := fun _ => fun
  | [d] => { results := [.lit (.bool true)], args := [d] }
  | _ => none }
def fnChainsOfRow : OpenClaim := { program := "ytedacikdbkpccaa", sum := "ad51f1703ca8ed249a01986a1dc04422fd947a15f0d10bb59a38ce56cda09c37", func := "loop.example/dynamicbridges/laws.FnChainsOf", spec := "fnChainsOf", unfollowed := true, recurses := true, apart := false }
def FnChainsOfSaid : Prop := fnChainsOfRow.holds Try.pinned (OpenSpec.ofChange fnChainsOfSpec)

/-- ITS FALSE NEIGHBOUR: 'it returns false'. Refute it at one input. -/
def fnChainsOfWrong : ChangeSpec := { name := "fnChainsOf", fn := fun _ => fun
  | [d] => { results := [.lit (.bool false)], args := [d] }
  | _ => none }
def FnChainsOfWrongFalsely : Prop := fnChainsOfRow.holds Try.pinned (OpenSpec.ofChange fnChainsOfWrong)

/-- 'laws.FnIsSafeGraph': WHATEVER THE INPUT: true; the input reads as it did. -/
def fnIsSafeGraphSpec : ChangeSpec := { name := "fnIsSafeGraph", fn := fun _ => fun
  | [d] => { results := [.lit (.bool true)], args := [d] }
  | _ => none }
def fnIsSafeGraphRow : OpenClaim := { program := "ytedacikdbkpccaa", sum := "ad51f1703ca8ed249a01986a1dc04422fd947a15f0d10bb59a38ce56cda09c37", func := "loop.example/dynamicbridges/laws.FnIsSafeGraph", spec := "fnIsSafeGraph", unfollowed := true, recurses := true, apart := false }
def FnIsSafeGraphSaid : Prop := fnIsSafeGraphRow.holds Try.pinned (OpenSpec.ofChange fnIsSafeGraphSpec)

/-- ITS FALSE NEIGHBOUR: 'it returns false'. Refute it at one input. -/
def fnIsSafeGraphWrong : ChangeSpec := { name := "fnIsSafeGraph", fn := fun _ => fun
  | [d] => { results := [.lit (.bool false)], args := [d] }
  | _ => none }
def FnIsSafeGraphWrongFalsely : Prop := fnIsSafeGraphRow.holds Try.pinned (OpenSpec.ofChange fnIsSafeGraphWrong)

/-- 'laws.FnIsOneBlock': WHATEVER THE INPUT: true; the input reads as it did. -/
def fnIsOneBlockSpec : ChangeSpec := { name := "fnIsOneBlock", fn := fun _ => fun
  | [d] => { results := [.lit (.bool true)], args := [d] }
  | _ => none }
def fnIsOneBlockRow : OpenClaim := { program := "ytedacikdbkpccaa", sum := "ad51f1703ca8ed249a01986a1dc04422fd947a15f0d10bb59a38ce56cda09c37", func := "loop.example/dynamicbridges/laws.FnIsOneBlock", spec := "fnIsOneBlock", unfollowed := true, recurses := true, apart := false }
def FnIsOneBlockSaid : Prop := fnIsOneBlockRow.holds Try.pinned (OpenSpec.ofChange fnIsOneBlockSpec)

/-- ITS FALSE NEIGHBOUR: 'it returns false'. Refute it at one input. -/
def fnIsOneBlockWrong : ChangeSpec := { name := "fnIsOneBlock", fn := fun _ => fun
  | [d] => { results := [.lit (.bool false)], args := [d] }
  | _ => none }
def FnIsOneBlockWrongFalsely : Prop := fnIsOneBlockRow.holds Try.pinned (OpenSpec.ofChange fnIsOneBlockWrong)

/-- 'laws.FnChainOf': WHATEVER THE INPUT: true; the input reads as it did. -/
def fnChainOfSpec : ChangeSpec := { name := "fnChainOf", fn := fun _ => fun
  | [d] => { results := [.lit (.bool true)], args := [d] }
  | _ => none }
def fnChainOfRow : OpenClaim := { program := "ytedacikdbkpccaa", sum := "ad51f1703ca8ed249a01986a1dc04422fd947a15f0d10bb59a38ce56cda09c37", func := "loop.example/dynamicbridges/laws.FnChainOf", spec := "fnChainOf", unfollowed := true, recurses := true, apart := false }
def FnChainOfSaid : Prop := fnChainOfRow.holds Try.pinned (OpenSpec.ofChange fnChainOfSpec)

/-- ITS FALSE NEIGHBOUR: 'it returns false'. Refute it at one input. -/
def fnChainOfWrong : ChangeSpec := { name := "fnChainOf", fn := fun _ => fun
  | [d] => { results := [.lit (.bool false)], args := [d] }
  | _ => none }
def FnChainOfWrongFalsely : Prop := fnChainOfRow.holds Try.pinned (OpenSpec.ofChange fnChainOfWrong)

/- THE SECOND FORM. 'bulk': how many values and letters a reading holds, each counted each time it is reached (what is shared counts as often as it is met; a slice's spare places count too). A statement '..UptoSaid' is the law's where the arguments, and the package variables that the reading takes, are together of bulk at most 1048576: NARROWER than '..Said'. Prove '..Said' where nothing that the law and all that it calls make is longer than what came in: it says more and counts as full. Else prove '..UptoSaid'. A law counts once. -/
mutual
def uptoBulk {H : Type} : DataW H → Nat
  | .lit (.string bytes) => bytes.length + 1
  | .lit _ => 1
  | .nil => 1
  | .ptr d => uptoBulk d + 1
  | .slice elems spare => uptoBulkAll elems + uptoBulkAll spare + 1
  | .agg parts => uptoBulkAll parts + 1
  | .iface _ d => uptoBulk d + 1
  | .map entries => uptoBulkEntries entries + 1
  | .held _ => 1
def uptoBulkAll {H : Type} : List (DataW H) → Nat
  | [] => 0
  | d :: r => uptoBulk d + uptoBulkAll r
def uptoBulkEntries {H : Type} : List (Lit × DataW H) → Nat
  | [] => 0
  | x :: r => uptoBulkEntry x + uptoBulkEntries r
def uptoBulkEntry {H : Type} : Lit × DataW H → Nat
  | (.string bytes, d) => bytes.length + uptoBulk d + 1
  | (_, d) => uptoBulk d + 1
 end
def uptoSmall : (H : Type) → List (DataW H) → Bool := fun _ ds => decide (uptoBulkAll ds ≤ 1048576)
def OpenSpec.upto (s : _root_.Go.ChangeSpec) : _root_.Go.OpenSpec := { _root_.Go.OpenSpec.ofChange s with cond := some uptoSmall }

/-- 'laws.FnCountsTurn', WHERE WHAT IT READS IS OF BULK AT MOST 1048576: true; the input reads as it did. -/
def fnCountsTurnUptoRow : OpenClaim := { program := "ytedacikdbkpccaa", sum := "ad51f1703ca8ed249a01986a1dc04422fd947a15f0d10bb59a38ce56cda09c37", func := "loop.example/dynamicbridges/laws.FnCountsTurn", spec := "fnCountsTurn", inPlace := ["slices.overlaps[loop.example/dynamicbridges/impl.Edge]"], unfollowed := true, recurses := true, apart := false, narrowed := true }
def FnCountsTurnUptoSaid : Prop := fnCountsTurnUptoRow.holds Try.pinned (OpenSpec.upto fnCountsTurnSpec)

/-- 'laws.FnCountsOf', WHERE WHAT IT READS IS OF BULK AT MOST 1048576: true; the input reads as it did. -/
def fnCountsOfUptoRow : OpenClaim := { program := "ytedacikdbkpccaa", sum := "ad51f1703ca8ed249a01986a1dc04422fd947a15f0d10bb59a38ce56cda09c37", func := "loop.example/dynamicbridges/laws.FnCountsOf", spec := "fnCountsOf", inPlace := ["slices.overlaps[loop.example/dynamicbridges/impl.Edge]"], unfollowed := true, recurses := true, apart := false, narrowed := true }
def FnCountsOfUptoSaid : Prop := fnCountsOfUptoRow.holds Try.pinned (OpenSpec.upto fnCountsOfSpec)

/-- 'laws.FnExactIsOneBlock', WHERE WHAT IT READS IS OF BULK AT MOST 1048576: true; the input reads as it did. -/
def fnExactIsOneBlockUptoRow : OpenClaim := { program := "ytedacikdbkpccaa", sum := "ad51f1703ca8ed249a01986a1dc04422fd947a15f0d10bb59a38ce56cda09c37", func := "loop.example/dynamicbridges/laws.FnExactIsOneBlock", spec := "fnExactIsOneBlock", unfollowed := true, recurses := true, apart := false, narrowed := true }
def FnExactIsOneBlockUptoSaid : Prop := fnExactIsOneBlockUptoRow.holds Try.pinned (OpenSpec.upto fnExactIsOneBlockSpec)

/-- 'laws.FnChainEdges', WHERE WHAT IT READS IS OF BULK AT MOST 1048576: true; the input reads as it did. -/
def fnChainEdgesUptoRow : OpenClaim := { program := "ytedacikdbkpccaa", sum := "ad51f1703ca8ed249a01986a1dc04422fd947a15f0d10bb59a38ce56cda09c37", func := "loop.example/dynamicbridges/laws.FnChainEdges", spec := "fnChainEdges", unfollowed := true, recurses := true, apart := false, narrowed := true }
def FnChainEdgesUptoSaid : Prop := fnChainEdgesUptoRow.holds Try.pinned (OpenSpec.upto fnChainEdgesSpec)

/-- 'laws.FnExactChainOf', WHERE WHAT IT READS IS OF BULK AT MOST 1048576: true; the input reads as it did. -/
def fnExactChainOfUptoRow : OpenClaim := { program := "ytedacikdbkpccaa", sum := "ad51f1703ca8ed249a01986a1dc04422fd947a15f0d10bb59a38ce56cda09c37", func := "loop.example/dynamicbridges/laws.FnExactChainOf", spec := "fnExactChainOf", recurses := true, apart := false, narrowed := true }
def FnExactChainOfUptoSaid : Prop := fnExactChainOfUptoRow.holds Try.pinned (OpenSpec.upto fnExactChainOfSpec)

/-- 'laws.FnExactRoundChains', WHERE WHAT IT READS IS OF BULK AT MOST 1048576: true; the input reads as it did. -/
def fnExactRoundChainsUptoRow : OpenClaim := { program := "ytedacikdbkpccaa", sum := "ad51f1703ca8ed249a01986a1dc04422fd947a15f0d10bb59a38ce56cda09c37", func := "loop.example/dynamicbridges/laws.FnExactRoundChains", spec := "fnExactRoundChains", recurses := true, apart := false, narrowed := true }
def FnExactRoundChainsUptoSaid : Prop := fnExactRoundChainsUptoRow.holds Try.pinned (OpenSpec.upto fnExactRoundChainsSpec)

/-- 'laws.FnChainNodes', WHERE WHAT IT READS IS OF BULK AT MOST 1048576: true; the input reads as it did. -/
def fnChainNodesUptoRow : OpenClaim := { program := "ytedacikdbkpccaa", sum := "ad51f1703ca8ed249a01986a1dc04422fd947a15f0d10bb59a38ce56cda09c37", func := "loop.example/dynamicbridges/laws.FnChainNodes", spec := "fnChainNodes", recurses := true, apart := false, narrowed := true }
def FnChainNodesUptoSaid : Prop := fnChainNodesUptoRow.holds Try.pinned (OpenSpec.upto fnChainNodesSpec)

/-- 'laws.FnChainsEars', WHERE WHAT IT READS IS OF BULK AT MOST 1048576: true; the input reads as it did. -/
def fnChainsEarsUptoRow : OpenClaim := { program := "ytedacikdbkpccaa", sum := "ad51f1703ca8ed249a01986a1dc04422fd947a15f0d10bb59a38ce56cda09c37", func := "loop.example/dynamicbridges/laws.FnChainsEars", spec := "fnChainsEars", unfollowed := true, recurses := true, apart := false, narrowed := true }
def FnChainsEarsUptoSaid : Prop := fnChainsEarsUptoRow.holds Try.pinned (OpenSpec.upto fnChainsEarsSpec)

/-- 'laws.FnChainsOf', WHERE WHAT IT READS IS OF BULK AT MOST 1048576: true; the input reads as it did. -/
def fnChainsOfUptoRow : OpenClaim := { program := "ytedacikdbkpccaa", sum := "ad51f1703ca8ed249a01986a1dc04422fd947a15f0d10bb59a38ce56cda09c37", func := "loop.example/dynamicbridges/laws.FnChainsOf", spec := "fnChainsOf", unfollowed := true, recurses := true, apart := false, narrowed := true }
def FnChainsOfUptoSaid : Prop := fnChainsOfUptoRow.holds Try.pinned (OpenSpec.upto fnChainsOfSpec)

/-- 'laws.FnIsSafeGraph', WHERE WHAT IT READS IS OF BULK AT MOST 1048576: true; the input reads as it did. -/
def fnIsSafeGraphUptoRow : OpenClaim := { program := "ytedacikdbkpccaa", sum := "ad51f1703ca8ed249a01986a1dc04422fd947a15f0d10bb59a38ce56cda09c37", func := "loop.example/dynamicbridges/laws.FnIsSafeGraph", spec := "fnIsSafeGraph", unfollowed := true, recurses := true, apart := false, narrowed := true }
def FnIsSafeGraphUptoSaid : Prop := fnIsSafeGraphUptoRow.holds Try.pinned (OpenSpec.upto fnIsSafeGraphSpec)

/-- 'laws.FnIsOneBlock', WHERE WHAT IT READS IS OF BULK AT MOST 1048576: true; the input reads as it did. -/
def fnIsOneBlockUptoRow : OpenClaim := { program := "ytedacikdbkpccaa", sum := "ad51f1703ca8ed249a01986a1dc04422fd947a15f0d10bb59a38ce56cda09c37", func := "loop.example/dynamicbridges/laws.FnIsOneBlock", spec := "fnIsOneBlock", unfollowed := true, recurses := true, apart := false, narrowed := true }
def FnIsOneBlockUptoSaid : Prop := fnIsOneBlockUptoRow.holds Try.pinned (OpenSpec.upto fnIsOneBlockSpec)

/-- 'laws.FnChainOf', WHERE WHAT IT READS IS OF BULK AT MOST 1048576: true; the input reads as it did. -/
def fnChainOfUptoRow : OpenClaim := { program := "ytedacikdbkpccaa", sum := "ad51f1703ca8ed249a01986a1dc04422fd947a15f0d10bb59a38ce56cda09c37", func := "loop.example/dynamicbridges/laws.FnChainOf", spec := "fnChainOf", unfollowed := true, recurses := true, apart := false, narrowed := true }
def FnChainOfUptoSaid : Prop := fnChainOfUptoRow.holds Try.pinned (OpenSpec.upto fnChainOfSpec)

end Rows
end Go.Proofs.Ytedacikdbkpccaa
