/-
  No cell of these rows narrows 'for every input' (looked for: loops, veiled, ifaces, maps, wideKeys, modest, calm, conditions, laid).
  DERIVED. THE GIVEN ROWS OF THIS SEAT. 12 by the template 'for every input the law returns true; each argument reads behind the call as it read before'; 0 by the template 'total and deterministic' (their statements: YtlhcnnfjgchhkaaTotals.lean).
  GIVEN WITH THE SEED: the statements are not yours to turn. If you find one false, say at which input.
  Laid BY PROGRAM, IN A SANDBOX (cutbox-rows.mjs): the forced cells as the released guide's own fill.sh prints them over the translation a0d2d5b4e1d8b6ee… (all of the seat's roots in one cut). By AI agents, Wed Nov 11 2026. No macro, syntax, notation, axiom, sorry.
-/
import Derived.Test.YtlhcnnfjgchhkaaChecked
import GoSem.Claim
import GoSem.ClaimJoined
import GoSem.ClaimMapViews
import Derived.JoinedTies
import Derived.KernelRfl
namespace Go.Proofs.Ytlhcnnfjgchhkaa
/- THE CELL 'sum', in the pinned program and in every row, IS THE sha256 OF THE DUMP (.gsa) THAT YtlhcnnfjgchhkaaProg.lean LOADS. Nothing in Lean hashes anything: it is a label: what it is worth is what the hold of that sum in a sandbox is worth. -/
noncomputable def Try.pinned : Pinned := { name := "ytlhcnnfjgchhkaa", sum := "a0d2d5b4e1d8b6ee9be480e0a828586378addd5ca574368b088213f27b6d5a05", checked := Try.checked }
namespace Rows
def none {H : Type} : Left H := { results := [], args := [] }

/-- 'laws.FnSpansOf': WHATEVER THE INPUT: true; the input reads as it did. -/
def fnSpansOfSpec : ChangeSpec := { name := "fnSpansOf", fn := fun _ => fun
  | [d] => { results := [.lit (.bool true)], args := [d] }
  | _ => none }
def fnSpansOfRow : OpenClaim := { program := "ytlhcnnfjgchhkaa", sum := "a0d2d5b4e1d8b6ee9be480e0a828586378addd5ca574368b088213f27b6d5a05", func := "loop.example/dynamicbridges/laws.FnSpansOf", spec := "fnSpansOf", recurses := true, apart := false }
def FnSpansOfSaid : Prop := fnSpansOfRow.holds Try.pinned (OpenSpec.ofChange fnSpansOfSpec)

/-- ITS FALSE NEIGHBOUR: 'it returns false'. Refute it at one input. -/
def fnSpansOfWrong : ChangeSpec := { name := "fnSpansOf", fn := fun _ => fun
  | [d] => { results := [.lit (.bool false)], args := [d] }
  | _ => none }
def FnSpansOfWrongFalsely : Prop := fnSpansOfRow.holds Try.pinned (OpenSpec.ofChange fnSpansOfWrong)

/-- 'laws.FnSpansWhole': WHATEVER THE INPUT: true; the input reads as it did. -/
def fnSpansWholeSpec : ChangeSpec := { name := "fnSpansWhole", fn := fun _ => fun
  | [d] => { results := [.lit (.bool true)], args := [d] }
  | _ => none }
def fnSpansWholeRow : OpenClaim := { program := "ytlhcnnfjgchhkaa", sum := "a0d2d5b4e1d8b6ee9be480e0a828586378addd5ca574368b088213f27b6d5a05", func := "loop.example/dynamicbridges/laws.FnSpansWhole", spec := "fnSpansWhole", recurses := true, apart := false }
def FnSpansWholeSaid : Prop := fnSpansWholeRow.holds Try.pinned (OpenSpec.ofChange fnSpansWholeSpec)

/-- ITS FALSE NEIGHBOUR: 'it returns false'. Refute it at one input. -/
def fnSpansWholeWrong : ChangeSpec := { name := "fnSpansWhole", fn := fun _ => fun
  | [d] => { results := [.lit (.bool false)], args := [d] }
  | _ => none }
def FnSpansWholeWrongFalsely : Prop := fnSpansWholeRow.holds Try.pinned (OpenSpec.ofChange fnSpansWholeWrong)

/-- 'laws.FnExactRootedValid': WHATEVER THE INPUT: true; the input reads as it did. -/
def fnExactRootedValidSpec : ChangeSpec := { name := "fnExactRootedValid", fn := fun _ => fun
  | [d] => { results := [.lit (.bool true)], args := [d] }
  | _ => none }
def fnExactRootedValidRow : OpenClaim := { program := "ytlhcnnfjgchhkaa", sum := "a0d2d5b4e1d8b6ee9be480e0a828586378addd5ca574368b088213f27b6d5a05", func := "loop.example/dynamicbridges/laws.FnExactRootedValid", spec := "fnExactRootedValid", apart := false }
def FnExactRootedValidSaid : Prop := fnExactRootedValidRow.holds Try.pinned (OpenSpec.ofChange fnExactRootedValidSpec)

/-- ITS FALSE NEIGHBOUR: 'it returns false'. Refute it at one input. -/
def fnExactRootedValidWrong : ChangeSpec := { name := "fnExactRootedValid", fn := fun _ => fun
  | [d] => { results := [.lit (.bool false)], args := [d] }
  | _ => none }
def FnExactRootedValidWrongFalsely : Prop := fnExactRootedValidRow.holds Try.pinned (OpenSpec.ofChange fnExactRootedValidWrong)

/-- 'laws.FnExactSpansOf': WHATEVER THE INPUT: true; the input reads as it did. -/
def fnExactSpansOfSpec : ChangeSpec := { name := "fnExactSpansOf", fn := fun _ => fun
  | [d1, d2, d3] => { results := [.lit (.bool true)], args := [d1, d2, d3] }
  | _ => none }
def fnExactSpansOfRow : OpenClaim := { program := "ytlhcnnfjgchhkaa", sum := "a0d2d5b4e1d8b6ee9be480e0a828586378addd5ca574368b088213f27b6d5a05", func := "loop.example/dynamicbridges/laws.FnExactSpansOf", spec := "fnExactSpansOf", recurses := true, apart := false }
def FnExactSpansOfSaid : Prop := fnExactSpansOfRow.holds Try.pinned (OpenSpec.ofChange fnExactSpansOfSpec)

/-- ITS FALSE NEIGHBOUR: 'it returns false'. Refute it at one input. -/
def fnExactSpansOfWrong : ChangeSpec := { name := "fnExactSpansOf", fn := fun _ => fun
  | [d1, d2, d3] => { results := [.lit (.bool false)], args := [d1, d2, d3] }
  | _ => none }
def FnExactSpansOfWrongFalsely : Prop := fnExactSpansOfRow.holds Try.pinned (OpenSpec.ofChange fnExactSpansOfWrong)

/-- 'laws.FnExactChainEdges': WHATEVER THE INPUT: true; the input reads as it did. -/
def fnExactChainEdgesSpec : ChangeSpec := { name := "fnExactChainEdges", fn := fun _ => fun
  | [d] => { results := [.lit (.bool true)], args := [d] }
  | _ => none }
def fnExactChainEdgesRow : OpenClaim := { program := "ytlhcnnfjgchhkaa", sum := "a0d2d5b4e1d8b6ee9be480e0a828586378addd5ca574368b088213f27b6d5a05", func := "loop.example/dynamicbridges/laws.FnExactChainEdges", spec := "fnExactChainEdges", unfollowed := true, recurses := true, apart := false }
def FnExactChainEdgesSaid : Prop := fnExactChainEdgesRow.holds Try.pinned (OpenSpec.ofChange fnExactChainEdgesSpec)

/-- ITS FALSE NEIGHBOUR: 'it returns false'. Refute it at one input. -/
def fnExactChainEdgesWrong : ChangeSpec := { name := "fnExactChainEdges", fn := fun _ => fun
  | [d] => { results := [.lit (.bool false)], args := [d] }
  | _ => none }
def FnExactChainEdgesWrongFalsely : Prop := fnExactChainEdgesRow.holds Try.pinned (OpenSpec.ofChange fnExactChainEdgesWrong)

/-- 'laws.FnExactRootOf': WHATEVER THE INPUT: true; the input reads as it did. -/
def fnExactRootOfSpec : ChangeSpec := { name := "fnExactRootOf", fn := fun _ => fun
  | [d1, d2] => { results := [.lit (.bool true)], args := [d1, d2] }
  | _ => none }
def fnExactRootOfRow : OpenClaim := { program := "ytlhcnnfjgchhkaa", sum := "a0d2d5b4e1d8b6ee9be480e0a828586378addd5ca574368b088213f27b6d5a05", func := "loop.example/dynamicbridges/laws.FnExactRootOf", spec := "fnExactRootOf", apart := false }
def FnExactRootOfSaid : Prop := fnExactRootOfRow.holds Try.pinned (OpenSpec.ofChange fnExactRootOfSpec)

/-- ITS FALSE NEIGHBOUR: 'it returns false'. Refute it at one input. -/
def fnExactRootOfWrong : ChangeSpec := { name := "fnExactRootOf", fn := fun _ => fun
  | [d1, d2] => { results := [.lit (.bool false)], args := [d1, d2] }
  | _ => none }
def FnExactRootOfWrongFalsely : Prop := fnExactRootOfRow.holds Try.pinned (OpenSpec.ofChange fnExactRootOfWrong)

/-- 'laws.FnExactWayUp': WHATEVER THE INPUT: true; the input reads as it did. -/
def fnExactWayUpSpec : ChangeSpec := { name := "fnExactWayUp", fn := fun _ => fun
  | [d1, d2] => { results := [.lit (.bool true)], args := [d1, d2] }
  | _ => none }
def fnExactWayUpRow : OpenClaim := { program := "ytlhcnnfjgchhkaa", sum := "a0d2d5b4e1d8b6ee9be480e0a828586378addd5ca574368b088213f27b6d5a05", func := "loop.example/dynamicbridges/laws.FnExactWayUp", spec := "fnExactWayUp", apart := false }
def FnExactWayUpSaid : Prop := fnExactWayUpRow.holds Try.pinned (OpenSpec.ofChange fnExactWayUpSpec)

/-- ITS FALSE NEIGHBOUR: 'it returns false'. Refute it at one input. -/
def fnExactWayUpWrong : ChangeSpec := { name := "fnExactWayUp", fn := fun _ => fun
  | [d1, d2] => { results := [.lit (.bool false)], args := [d1, d2] }
  | _ => none }
def FnExactWayUpWrongFalsely : Prop := fnExactWayUpRow.holds Try.pinned (OpenSpec.ofChange fnExactWayUpWrong)

/-- 'laws.FnWayUp': WHATEVER THE INPUT: true; the input reads as it did. -/
def fnWayUpSpec : ChangeSpec := { name := "fnWayUp", fn := fun _ => fun
  | [d] => { results := [.lit (.bool true)], args := [d] }
  | _ => none }
def fnWayUpRow : OpenClaim := { program := "ytlhcnnfjgchhkaa", sum := "a0d2d5b4e1d8b6ee9be480e0a828586378addd5ca574368b088213f27b6d5a05", func := "loop.example/dynamicbridges/laws.FnWayUp", spec := "fnWayUp", apart := false }
def FnWayUpSaid : Prop := fnWayUpRow.holds Try.pinned (OpenSpec.ofChange fnWayUpSpec)

/-- ITS FALSE NEIGHBOUR: 'it returns false'. Refute it at one input. -/
def fnWayUpWrong : ChangeSpec := { name := "fnWayUp", fn := fun _ => fun
  | [d] => { results := [.lit (.bool false)], args := [d] }
  | _ => none }
def FnWayUpWrongFalsely : Prop := fnWayUpRow.holds Try.pinned (OpenSpec.ofChange fnWayUpWrong)

/-- 'laws.FnExactMeetOf': WHATEVER THE INPUT: true; the input reads as it did. -/
def fnExactMeetOfSpec : ChangeSpec := { name := "fnExactMeetOf", fn := fun _ => fun
  | [d1, d2, d3] => { results := [.lit (.bool true)], args := [d1, d2, d3] }
  | _ => none }
def fnExactMeetOfRow : OpenClaim := { program := "ytlhcnnfjgchhkaa", sum := "a0d2d5b4e1d8b6ee9be480e0a828586378addd5ca574368b088213f27b6d5a05", func := "loop.example/dynamicbridges/laws.FnExactMeetOf", spec := "fnExactMeetOf", apart := false }
def FnExactMeetOfSaid : Prop := fnExactMeetOfRow.holds Try.pinned (OpenSpec.ofChange fnExactMeetOfSpec)

/-- ITS FALSE NEIGHBOUR: 'it returns false'. Refute it at one input. -/
def fnExactMeetOfWrong : ChangeSpec := { name := "fnExactMeetOf", fn := fun _ => fun
  | [d1, d2, d3] => { results := [.lit (.bool false)], args := [d1, d2, d3] }
  | _ => none }
def FnExactMeetOfWrongFalsely : Prop := fnExactMeetOfRow.holds Try.pinned (OpenSpec.ofChange fnExactMeetOfWrong)

/-- 'laws.FnExactCutParent': WHATEVER THE INPUT: true; the input reads as it did. -/
def fnExactCutParentSpec : ChangeSpec := { name := "fnExactCutParent", fn := fun _ => fun
  | [d1, d2] => { results := [.lit (.bool true)], args := [d1, d2] }
  | _ => none }
def fnExactCutParentRow : OpenClaim := { program := "ytlhcnnfjgchhkaa", sum := "a0d2d5b4e1d8b6ee9be480e0a828586378addd5ca574368b088213f27b6d5a05", func := "loop.example/dynamicbridges/laws.FnExactCutParent", spec := "fnExactCutParent", apart := false }
def FnExactCutParentSaid : Prop := fnExactCutParentRow.holds Try.pinned (OpenSpec.ofChange fnExactCutParentSpec)

/-- ITS FALSE NEIGHBOUR: 'it returns false'. Refute it at one input. -/
def fnExactCutParentWrong : ChangeSpec := { name := "fnExactCutParent", fn := fun _ => fun
  | [d1, d2] => { results := [.lit (.bool false)], args := [d1, d2] }
  | _ => none }
def FnExactCutParentWrongFalsely : Prop := fnExactCutParentRow.holds Try.pinned (OpenSpec.ofChange fnExactCutParentWrong)

/-- 'laws.FnExactConnected': WHATEVER THE INPUT: true; the input reads as it did. -/
def fnExactConnectedSpec : ChangeSpec := { name := "fnExactConnected", fn := fun _ => fun
  | [d1, d2, d3] => { results := [.lit (.bool true)], args := [d1, d2, d3] }
  | _ => none }
def fnExactConnectedRow : OpenClaim := { program := "ytlhcnnfjgchhkaa", sum := "a0d2d5b4e1d8b6ee9be480e0a828586378addd5ca574368b088213f27b6d5a05", func := "loop.example/dynamicbridges/laws.FnExactConnected", spec := "fnExactConnected", apart := false }
def FnExactConnectedSaid : Prop := fnExactConnectedRow.holds Try.pinned (OpenSpec.ofChange fnExactConnectedSpec)

/-- ITS FALSE NEIGHBOUR: 'it returns false'. Refute it at one input. -/
def fnExactConnectedWrong : ChangeSpec := { name := "fnExactConnected", fn := fun _ => fun
  | [d1, d2, d3] => { results := [.lit (.bool false)], args := [d1, d2, d3] }
  | _ => none }
def FnExactConnectedWrongFalsely : Prop := fnExactConnectedRow.holds Try.pinned (OpenSpec.ofChange fnExactConnectedWrong)

/-- 'laws.FnMeetOf': WHATEVER THE INPUT: true; the input reads as it did. -/
def fnMeetOfSpec : ChangeSpec := { name := "fnMeetOf", fn := fun _ => fun
  | [d] => { results := [.lit (.bool true)], args := [d] }
  | _ => none }
def fnMeetOfRow : OpenClaim := { program := "ytlhcnnfjgchhkaa", sum := "a0d2d5b4e1d8b6ee9be480e0a828586378addd5ca574368b088213f27b6d5a05", func := "loop.example/dynamicbridges/laws.FnMeetOf", spec := "fnMeetOf", apart := false }
def FnMeetOfSaid : Prop := fnMeetOfRow.holds Try.pinned (OpenSpec.ofChange fnMeetOfSpec)

/-- ITS FALSE NEIGHBOUR: 'it returns false'. Refute it at one input. -/
def fnMeetOfWrong : ChangeSpec := { name := "fnMeetOf", fn := fun _ => fun
  | [d] => { results := [.lit (.bool false)], args := [d] }
  | _ => none }
def FnMeetOfWrongFalsely : Prop := fnMeetOfRow.holds Try.pinned (OpenSpec.ofChange fnMeetOfWrong)

/- THE SECOND FORM. 'bulk': how many values and letters a reading holds, each counted each time it is reached (what is shared counts as often as it is met; a slice's spare places count too). A statement '..UptoSaid' is the law's where the arguments, and the package variables that the reading takes, are together of bulk at most 1048576: NARROWER than '..Said'. Prove '..Said' where nothing that the law and all that it calls make is longer than what came in: it says more and counts as full. Else prove '..UptoSaid'. A law counts once. -/
mutual
def uptoBulk {H : Type} : DataW H → Nat
  | .lit (.string bytes) => bytes.length + 1
  | .lit _ => 1
  | .nil => 1
  | .ptr d => uptoBulk d + 1
  | .slice elems spare => uptoBulkAll elems + uptoBulkAll spare + 1
  | .agg parts => uptoBulkAll parts + 1
  | .iface _ d => uptoBulk d + 1
  | .map entries => uptoBulkEntries entries + 1
  | .held _ => 1
def uptoBulkAll {H : Type} : List (DataW H) → Nat
  | [] => 0
  | d :: r => uptoBulk d + uptoBulkAll r
def uptoBulkEntries {H : Type} : List (Lit × DataW H) → Nat
  | [] => 0
  | x :: r => uptoBulkEntry x + uptoBulkEntries r
def uptoBulkEntry {H : Type} : Lit × DataW H → Nat
  | (.string bytes, d) => bytes.length + uptoBulk d + 1
  | (_, d) => uptoBulk d + 1
 end
def uptoSmall : (H : Type) → List (DataW H) → Bool := fun _ ds => decide (uptoBulkAll ds ≤ 1048576)
def OpenSpec.upto (s : _root_.Go.ChangeSpec) : _root_.Go.OpenSpec := { _root_.Go.OpenSpec.ofChange s with cond := some uptoSmall }

/-- 'laws.FnSpansOf', WHERE WHAT IT READS IS OF BULK AT MOST 1048576: true; the input reads as it did. -/
def fnSpansOfUptoRow : OpenClaim := { program := "ytlhcnnfjgchhkaa", sum := "a0d2d5b4e1d8b6ee9be480e0a828586378addd5ca574368b088213f27b6d5a05", func := "loop.example/dynamicbridges/laws.FnSpansOf", spec := "fnSpansOf", recurses := true, apart := false, narrowed := true }
def FnSpansOfUptoSaid : Prop := fnSpansOfUptoRow.holds Try.pinned (OpenSpec.upto fnSpansOfSpec)

/-- 'laws.FnSpansWhole', WHERE WHAT IT READS IS OF BULK AT MOST 1048576: true; the input reads as it did. -/
def fnSpansWholeUptoRow : OpenClaim := { program := "ytlhcnnfjgchhkaa", sum := "a0d2d5b4e1d8b6ee9be480e0a828586378addd5ca574368b088213f27b6d5a05", func := "loop.example/dynamicbridges/laws.FnSpansWhole", spec := "fnSpansWhole", recurses := true, apart := false, narrowed := true }
def FnSpansWholeUptoSaid : Prop := fnSpansWholeUptoRow.holds Try.pinned (OpenSpec.upto fnSpansWholeSpec)

/-- 'laws.FnExactRootedValid', WHERE WHAT IT READS IS OF BULK AT MOST 1048576: true; the input reads as it did. -/
def fnExactRootedValidUptoRow : OpenClaim := { program := "ytlhcnnfjgchhkaa", sum := "a0d2d5b4e1d8b6ee9be480e0a828586378addd5ca574368b088213f27b6d5a05", func := "loop.example/dynamicbridges/laws.FnExactRootedValid", spec := "fnExactRootedValid", apart := false, narrowed := true }
def FnExactRootedValidUptoSaid : Prop := fnExactRootedValidUptoRow.holds Try.pinned (OpenSpec.upto fnExactRootedValidSpec)

/-- 'laws.FnExactSpansOf', WHERE WHAT IT READS IS OF BULK AT MOST 1048576: true; the input reads as it did. -/
def fnExactSpansOfUptoRow : OpenClaim := { program := "ytlhcnnfjgchhkaa", sum := "a0d2d5b4e1d8b6ee9be480e0a828586378addd5ca574368b088213f27b6d5a05", func := "loop.example/dynamicbridges/laws.FnExactSpansOf", spec := "fnExactSpansOf", recurses := true, apart := false, narrowed := true }
def FnExactSpansOfUptoSaid : Prop := fnExactSpansOfUptoRow.holds Try.pinned (OpenSpec.upto fnExactSpansOfSpec)

/-- 'laws.FnExactChainEdges', WHERE WHAT IT READS IS OF BULK AT MOST 1048576: true; the input reads as it did. -/
def fnExactChainEdgesUptoRow : OpenClaim := { program := "ytlhcnnfjgchhkaa", sum := "a0d2d5b4e1d8b6ee9be480e0a828586378addd5ca574368b088213f27b6d5a05", func := "loop.example/dynamicbridges/laws.FnExactChainEdges", spec := "fnExactChainEdges", unfollowed := true, recurses := true, apart := false, narrowed := true }
def FnExactChainEdgesUptoSaid : Prop := fnExactChainEdgesUptoRow.holds Try.pinned (OpenSpec.upto fnExactChainEdgesSpec)

/-- 'laws.FnExactRootOf', WHERE WHAT IT READS IS OF BULK AT MOST 1048576: true; the input reads as it did. -/
def fnExactRootOfUptoRow : OpenClaim := { program := "ytlhcnnfjgchhkaa", sum := "a0d2d5b4e1d8b6ee9be480e0a828586378addd5ca574368b088213f27b6d5a05", func := "loop.example/dynamicbridges/laws.FnExactRootOf", spec := "fnExactRootOf", apart := false, narrowed := true }
def FnExactRootOfUptoSaid : Prop := fnExactRootOfUptoRow.holds Try.pinned (OpenSpec.upto fnExactRootOfSpec)

/-- 'laws.FnExactWayUp', WHERE WHAT IT READS IS OF BULK AT MOST 1048576: true; the input reads as it did. -/
def fnExactWayUpUptoRow : OpenClaim := { program := "ytlhcnnfjgchhkaa", sum := "a0d2d5b4e1d8b6ee9be480e0a828586378addd5ca574368b088213f27b6d5a05", func := "loop.example/dynamicbridges/laws.FnExactWayUp", spec := "fnExactWayUp", apart := false, narrowed := true }
def FnExactWayUpUptoSaid : Prop := fnExactWayUpUptoRow.holds Try.pinned (OpenSpec.upto fnExactWayUpSpec)

/-- 'laws.FnWayUp', WHERE WHAT IT READS IS OF BULK AT MOST 1048576: true; the input reads as it did. -/
def fnWayUpUptoRow : OpenClaim := { program := "ytlhcnnfjgchhkaa", sum := "a0d2d5b4e1d8b6ee9be480e0a828586378addd5ca574368b088213f27b6d5a05", func := "loop.example/dynamicbridges/laws.FnWayUp", spec := "fnWayUp", apart := false, narrowed := true }
def FnWayUpUptoSaid : Prop := fnWayUpUptoRow.holds Try.pinned (OpenSpec.upto fnWayUpSpec)

/-- 'laws.FnExactMeetOf', WHERE WHAT IT READS IS OF BULK AT MOST 1048576: true; the input reads as it did. -/
def fnExactMeetOfUptoRow : OpenClaim := { program := "ytlhcnnfjgchhkaa", sum := "a0d2d5b4e1d8b6ee9be480e0a828586378addd5ca574368b088213f27b6d5a05", func := "loop.example/dynamicbridges/laws.FnExactMeetOf", spec := "fnExactMeetOf", apart := false, narrowed := true }
def FnExactMeetOfUptoSaid : Prop := fnExactMeetOfUptoRow.holds Try.pinned (OpenSpec.upto fnExactMeetOfSpec)

/-- 'laws.FnExactCutParent', WHERE WHAT IT READS IS OF BULK AT MOST 1048576: true; the input reads as it did. -/
def fnExactCutParentUptoRow : OpenClaim := { program := "ytlhcnnfjgchhkaa", sum := "a0d2d5b4e1d8b6ee9be480e0a828586378addd5ca574368b088213f27b6d5a05", func := "loop.example/dynamicbridges/laws.FnExactCutParent", spec := "fnExactCutParent", apart := false, narrowed := true }
def FnExactCutParentUptoSaid : Prop := fnExactCutParentUptoRow.holds Try.pinned (OpenSpec.upto fnExactCutParentSpec)

/-- 'laws.FnExactConnected', WHERE WHAT IT READS IS OF BULK AT MOST 1048576: true; the input reads as it did. -/
def fnExactConnectedUptoRow : OpenClaim := { program := "ytlhcnnfjgchhkaa", sum := "a0d2d5b4e1d8b6ee9be480e0a828586378addd5ca574368b088213f27b6d5a05", func := "loop.example/dynamicbridges/laws.FnExactConnected", spec := "fnExactConnected", apart := false, narrowed := true }
def FnExactConnectedUptoSaid : Prop := fnExactConnectedUptoRow.holds Try.pinned (OpenSpec.upto fnExactConnectedSpec)

/-- 'laws.FnMeetOf', WHERE WHAT IT READS IS OF BULK AT MOST 1048576: true; the input reads as it did. -/
def fnMeetOfUptoRow : OpenClaim := { program := "ytlhcnnfjgchhkaa", sum := "a0d2d5b4e1d8b6ee9be480e0a828586378addd5ca574368b088213f27b6d5a05", func := "loop.example/dynamicbridges/laws.FnMeetOf", spec := "fnMeetOf", apart := false, narrowed := true }
def FnMeetOfUptoSaid : Prop := fnMeetOfUptoRow.holds Try.pinned (OpenSpec.upto fnMeetOfSpec)

end Rows
end Go.Proofs.Ytlhcnnfjgchhkaa
