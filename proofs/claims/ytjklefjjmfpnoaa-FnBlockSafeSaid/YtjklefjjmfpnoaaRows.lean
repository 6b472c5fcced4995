/-
  No cell of these rows narrows 'for every input' (looked for: loops, veiled, ifaces, maps, wideKeys, modest, calm, conditions, laid).
  DERIVED. THE GIVEN ROWS OF THIS SEAT. 10 by the template 'for every input the law returns true; each argument reads behind the call as it read before'; 0 by the template 'total and deterministic' (their statements: YtjklefjjmfpnoaaTotals.lean).
  GIVEN WITH THE SEED: the statements are not yours to turn. If you find one false, say at which input.
  Laid BY PROGRAM, IN A SANDBOX (cutbox-rows.mjs): the forced cells as the released guide's own fill.sh prints them over the translation c2d7c42fcf41f516… (all of the seat's roots in one cut). By AI agents, Wed Nov 11 2026. No macro, syntax, notation, axiom, sorry.
-/
import Derived.Test.YtjklefjjmfpnoaaChecked
import GoSem.Claim
import GoSem.ClaimJoined
import GoSem.ClaimMapViews
import Derived.JoinedTies
import Derived.KernelRfl
namespace Go.Proofs.Ytjklefjjmfpnoaa
/- THE CELL 'sum', in the pinned program and in every row, IS THE sha256 OF THE DUMP (.gsa) THAT YtjklefjjmfpnoaaProg.lean LOADS. Nothing in Lean hashes anything: it is a label: what it is worth is what the hold of that sum in a sandbox is worth. -/
noncomputable def Try.pinned : Pinned := { name := "ytjklefjjmfpnoaa", sum := "c2d7c42fcf41f516e73afe02542adb8895214338fb752228535e3e6e50303da7", checked := Try.checked }
namespace Rows
def none {H : Type} : Left H := { results := [], args := [] }

/-- 'laws.FnCyclesOf': WHATEVER THE INPUT: true; the input reads as it did. -/
def fnCyclesOfSpec : ChangeSpec := { name := "fnCyclesOf", fn := fun _ => fun
  | [d] => { results := [.lit (.bool true)], args := [d] }
  | _ => none }
def fnCyclesOfRow : OpenClaim := { program := "ytjklefjjmfpnoaa", sum := "c2d7c42fcf41f516e73afe02542adb8895214338fb752228535e3e6e50303da7", func := "loop.example/dynamicbridges/laws.FnCyclesOf", spec := "fnCyclesOf", unfollowed := true, recurses := true, apart := false }
def FnCyclesOfSaid : Prop := fnCyclesOfRow.holds Try.pinned (OpenSpec.ofChange fnCyclesOfSpec)

/-- ITS FALSE NEIGHBOUR: 'it returns false'. Refute it at one input. -/
def fnCyclesOfWrong : ChangeSpec := { name := "fnCyclesOf", fn := fun _ => fun
  | [d] => { results := [.lit (.bool false)], args := [d] }
  | _ => none }
def FnCyclesOfWrongFalsely : Prop := fnCyclesOfRow.holds Try.pinned (OpenSpec.ofChange fnCyclesOfWrong)

/-- 'laws.FnCyclesSafe': WHATEVER THE INPUT: true; the input reads as it did. -/
def fnCyclesSafeSpec : ChangeSpec := { name := "fnCyclesSafe", fn := fun _ => fun
  | [d] => { results := [.lit (.bool true)], args := [d] }
  | _ => none }
def fnCyclesSafeRow : OpenClaim := { program := "ytjklefjjmfpnoaa", sum := "c2d7c42fcf41f516e73afe02542adb8895214338fb752228535e3e6e50303da7", func := "loop.example/dynamicbridges/laws.FnCyclesSafe", spec := "fnCyclesSafe", unfollowed := true, recurses := true, apart := false }
def FnCyclesSafeSaid : Prop := fnCyclesSafeRow.holds Try.pinned (OpenSpec.ofChange fnCyclesSafeSpec)

/-- ITS FALSE NEIGHBOUR: 'it returns false'. Refute it at one input. -/
def fnCyclesSafeWrong : ChangeSpec := { name := "fnCyclesSafe", fn := fun _ => fun
  | [d] => { results := [.lit (.bool false)], args := [d] }
  | _ => none }
def FnCyclesSafeWrongFalsely : Prop := fnCyclesSafeRow.holds Try.pinned (OpenSpec.ofChange fnCyclesSafeWrong)

/-- 'laws.FnExactCyclesOf': WHATEVER THE INPUT: true; the input reads as it did. -/
def fnExactCyclesOfSpec : ChangeSpec := { name := "fnExactCyclesOf", fn := fun _ => fun
  | [d] => { results := [.lit (.bool true)], args := [d] }
  | _ => none }
def fnExactCyclesOfRow : OpenClaim := { program := "ytjklefjjmfpnoaa", sum := "c2d7c42fcf41f516e73afe02542adb8895214338fb752228535e3e6e50303da7", func := "loop.example/dynamicbridges/laws.FnExactCyclesOf", spec := "fnExactCyclesOf", recurses := true, apart := false }
def FnExactCyclesOfSaid : Prop := fnExactCyclesOfRow.holds Try.pinned (OpenSpec.ofChange fnExactCyclesOfSpec)

/-- ITS FALSE NEIGHBOUR: 'it returns false'. Refute it at one input. -/
def fnExactCyclesOfWrong : ChangeSpec := { name := "fnExactCyclesOf", fn := fun _ => fun
  | [d] => { results := [.lit (.bool false)], args := [d] }
  | _ => none }
def FnExactCyclesOfWrongFalsely : Prop := fnExactCyclesOfRow.holds Try.pinned (OpenSpec.ofChange fnExactCyclesOfWrong)

/-- 'laws.FnExactChainsOf': WHATEVER THE INPUT: true; the input reads as it did. -/
def fnExactChainsOfSpec : ChangeSpec := { name := "fnExactChainsOf", fn := fun _ => fun
  | [d] => { results := [.lit (.bool true)], args := [d] }
  | _ => none }
def fnExactChainsOfRow : OpenClaim := { program := "ytjklefjjmfpnoaa", sum := "c2d7c42fcf41f516e73afe02542adb8895214338fb752228535e3e6e50303da7", func := "loop.example/dynamicbridges/laws.FnExactChainsOf", spec := "fnExactChainsOf", recurses := true, apart := false }
def FnExactChainsOfSaid : Prop := fnExactChainsOfRow.holds Try.pinned (OpenSpec.ofChange fnExactChainsOfSpec)

/-- ITS FALSE NEIGHBOUR: 'it returns false'. Refute it at one input. -/
def fnExactChainsOfWrong : ChangeSpec := { name := "fnExactChainsOf", fn := fun _ => fun
  | [d] => { results := [.lit (.bool false)], args := [d] }
  | _ => none }
def FnExactChainsOfWrongFalsely : Prop := fnExactChainsOfRow.holds Try.pinned (OpenSpec.ofChange fnExactChainsOfWrong)

/-- 'laws.FnExactForestsOf': WHATEVER THE INPUT: true; the input reads as it did. -/
def fnExactForestsOfSpec : ChangeSpec := { name := "fnExactForestsOf", fn := fun _ => fun
  | [d1, d2] => { results := [.lit (.bool true)], args := [d1, d2] }
  | _ => none }
def fnExactForestsOfRow : OpenClaim := { program := "ytjklefjjmfpnoaa", sum := "c2d7c42fcf41f516e73afe02542adb8895214338fb752228535e3e6e50303da7", func := "loop.example/dynamicbridges/laws.FnExactForestsOf", spec := "fnExactForestsOf", unfollowed := true, recurses := true, apart := false }
def FnExactForestsOfSaid : Prop := fnExactForestsOfRow.holds Try.pinned (OpenSpec.ofChange fnExactForestsOfSpec)

/-- ITS FALSE NEIGHBOUR: 'it returns false'. Refute it at one input. -/
def fnExactForestsOfWrong : ChangeSpec := { name := "fnExactForestsOf", fn := fun _ => fun
  | [d1, d2] => { results := [.lit (.bool false)], args := [d1, d2] }
  | _ => none }
def FnExactForestsOfWrongFalsely : Prop := fnExactForestsOfRow.holds Try.pinned (OpenSpec.ofChange fnExactForestsOfWrong)

/-- 'laws.FnForestsAll': WHATEVER THE INPUT: true; the input reads as it did. -/
def fnForestsAllSpec : ChangeSpec := { name := "fnForestsAll", fn := fun _ => fun
  | [d] => { results := [.lit (.bool true)], args := [d] }
  | _ => none }
def fnForestsAllRow : OpenClaim := { program := "ytjklefjjmfpnoaa", sum := "c2d7c42fcf41f516e73afe02542adb8895214338fb752228535e3e6e50303da7", func := "loop.example/dynamicbridges/laws.FnForestsAll", spec := "fnForestsAll", unfollowed := true, recurses := true, apart := false }
def FnForestsAllSaid : Prop := fnForestsAllRow.holds Try.pinned (OpenSpec.ofChange fnForestsAllSpec)

/-- ITS FALSE NEIGHBOUR: 'it returns false'. Refute it at one input. -/
def fnForestsAllWrong : ChangeSpec := { name := "fnForestsAll", fn := fun _ => fun
  | [d] => { results := [.lit (.bool false)], args := [d] }
  | _ => none }
def FnForestsAllWrongFalsely : Prop := fnForestsAllRow.holds Try.pinned (OpenSpec.ofChange fnForestsAllWrong)

/-- 'laws.FnExactCertificateOf': WHATEVER THE INPUT: true; the input reads as it did. -/
def fnExactCertificateOfSpec : ChangeSpec := { name := "fnExactCertificateOf", fn := fun _ => fun
  | [d1, d2] => { results := [.lit (.bool true)], args := [d1, d2] }
  | _ => none }
def fnExactCertificateOfRow : OpenClaim := { program := "ytjklefjjmfpnoaa", sum := "c2d7c42fcf41f516e73afe02542adb8895214338fb752228535e3e6e50303da7", func := "loop.example/dynamicbridges/laws.FnExactCertificateOf", spec := "fnExactCertificateOf", unfollowed := true, recurses := true, apart := false }
def FnExactCertificateOfSaid : Prop := fnExactCertificateOfRow.holds Try.pinned (OpenSpec.ofChange fnExactCertificateOfSpec)

/-- ITS FALSE NEIGHBOUR: 'it returns false'. Refute it at one input. -/
def fnExactCertificateOfWrong : ChangeSpec := { name := "fnExactCertificateOf", fn := fun _ => fun
  | [d1, d2] => { results := [.lit (.bool false)], args := [d1, d2] }
  | _ => none }
def FnExactCertificateOfWrongFalsely : Prop := fnExactCertificateOfRow.holds Try.pinned (OpenSpec.ofChange fnExactCertificateOfWrong)

/-- 'laws.FnCertificateBridges': WHATEVER THE INPUT: true; the input reads as it did. -/
def fnCertificateBridgesSpec : ChangeSpec := { name := "fnCertificateBridges", fn := fun _ => fun
  | [d] => { results := [.lit (.bool true)], args := [d] }
  | _ => none }
def fnCertificateBridgesRow : OpenClaim := { program := "ytjklefjjmfpnoaa", sum := "c2d7c42fcf41f516e73afe02542adb8895214338fb752228535e3e6e50303da7", func := "loop.example/dynamicbridges/laws.FnCertificateBridges", spec := "fnCertificateBridges", unfollowed := true, recurses := true, apart := false }
def FnCertificateBridgesSaid : Prop := fnCertificateBridgesRow.holds Try.pinned (OpenSpec.ofChange fnCertificateBridgesSpec)

/-- ITS FALSE NEIGHBOUR: 'it returns false'. Refute it at one input. -/
def fnCertificateBridgesWrong : ChangeSpec := { name := "fnCertificateBridges", fn := fun _ => fun
  | [d] => { results := [.lit (.bool false)], args := [d] }
  | _ => none }
def FnCertificateBridgesWrongFalsely : Prop := fnCertificateBridgesRow.holds Try.pinned (OpenSpec.ofChange fnCertificateBridgesWrong)

/-- 'laws.FnBlockSafe': WHATEVER THE INPUT: true; the input reads as it did. -/
def fnBlockSafeSpec : ChangeSpec := { name := "fnBlockSafe", fn := fun _ => fun
  | [d] => { results := [.lit (.bool true)], args := [d] }
  | _ => none }
def fnBlockSafeRow : OpenClaim := { program := "ytjklefjjmfpnoaa", sum := "c2d7c42fcf41f516e73afe02542adb8895214338fb752228535e3e6e50303da7", func := "loop.example/dynamicbridges/laws.FnBlockSafe", spec := "fnBlockSafe", unfollowed := true, recurses := true, apart := false }
def FnBlockSafeSaid : Prop := fnBlockSafeRow.holds Try.pinned (OpenSpec.ofChange fnBlockSafeSpec)

/-- ITS FALSE NEIGHBOUR: 'it returns false'. Refute it at one input. -/
def fnBlockSafeWrong : ChangeSpec := { name := "fnBlockSafe", fn := fun _ => fun
  | [d] => { results := [.lit (.bool false)], args := [d] }
  | _ => none }
def FnBlockSafeWrongFalsely : Prop := fnBlockSafeRow.holds Try.pinned (OpenSpec.ofChange fnBlockSafeWrong)

/-- 'laws.FnExactWeakestCut': WHATEVER THE INPUT: true; the input reads as it did. -/
def fnExactWeakestCutSpec : ChangeSpec := { name := "fnExactWeakestCut", fn := fun _ => fun
  | [d] => { results := [.lit (.bool true)], args := [d] }
  | _ => none }
def fnExactWeakestCutRow : OpenClaim := { program := "ytjklefjjmfpnoaa", sum := "c2d7c42fcf41f516e73afe02542adb8895214338fb752228535e3e6e50303da7", func := "loop.example/dynamicbridges/laws.FnExactWeakestCut", spec := "fnExactWeakestCut", unfollowed := true, recurses := true, apart := false }
def FnExactWeakestCutSaid : Prop := fnExactWeakestCutRow.holds Try.pinned (OpenSpec.ofChange fnExactWeakestCutSpec)

/-- ITS FALSE NEIGHBOUR: 'it returns false'. Refute it at one input. -/
def fnExactWeakestCutWrong : ChangeSpec := { name := "fnExactWeakestCut", fn := fun _ => fun
  | [d] => { results := [.lit (.bool false)], args := [d] }
  | _ => none }
def FnExactWeakestCutWrongFalsely : Prop := fnExactWeakestCutRow.holds Try.pinned (OpenSpec.ofChange fnExactWeakestCutWrong)

/- THE SECOND FORM. 'bulk': how many values and letters a reading holds, each counted each time it is reached (what is shared counts as often as it is met; a slice's spare places count too). A statement '..UptoSaid' is the law's where the arguments, and the package variables that the reading takes, are together of bulk at most 1048576: NARROWER than '..Said'. Prove '..Said' where nothing that the law and all that it calls make is longer than what came in: it says more and counts as full. Else prove '..UptoSaid'. A law counts once. -/
mutual
def uptoBulk {H : Type} : DataW H → Nat
  | .lit (.string bytes) => bytes.length + 1
  | .lit _ => 1
  | .nil => 1
  | .ptr d => uptoBulk d + 1
  | .slice elems spare => uptoBulkAll elems + uptoBulkAll spare + 1
  | .agg parts => uptoBulkAll parts + 1
  | .iface _ d => uptoBulk d + 1
  | .map entries => uptoBulkEntries entries + 1
  | .held _ => 1
def uptoBulkAll {H : Type} : List (DataW H) → Nat
  | [] => 0
  | d :: r => uptoBulk d + uptoBulkAll r
def uptoBulkEntries {H : Type} : List (Lit × DataW H) → Nat
  | [] => 0
  | x :: r => uptoBulkEntry x + uptoBulkEntries r
def uptoBulkEntry {H : Type} : Lit × DataW H → Nat
  | (.string bytes, d) => bytes.length + uptoBulk d + 1
  | (_, d) => uptoBulk d + 1
 end
def uptoSmall : (H : Type) → List (DataW H) → Bool := fun _ ds => decide (uptoBulkAll ds ≤ 1048576)
def OpenSpec.upto (s : _root_.Go.ChangeSpec) : _root_.Go.OpenSpec := { _root_.Go.OpenSpec.ofChange s with cond := some uptoSmall }

/-- 'laws.FnCyclesOf', WHERE WHAT IT READS IS OF BULK AT MOST 1048576: true; the input reads as it did. -/
def fnCyclesOfUptoRow : OpenClaim := { program := "ytjklefjjmfpnoaa", sum := "c2d7c42fcf41f516e73afe02542adb8895214338fb752228535e3e6e50303da7", func := "loop.example/dynamicbridges/laws.FnCyclesOf", spec := "fnCyclesOf", unfollowed := true, recurses := true, apart := false, narrowed := true }
def FnCyclesOfUptoSaid : Prop := fnCyclesOfUptoRow.holds Try.pinned (OpenSpec.upto fnCyclesOfSpec)

/-- 'laws.FnCyclesSafe', WHERE WHAT IT READS IS OF BULK AT MOST 1048576: true; the input reads as it did. -/
def fnCyclesSafeUptoRow : OpenClaim := { program := "ytjklefjjmfpnoaa", sum := "c2d7c42fcf41f516e73afe02542adb8895214338fb752228535e3e6e50303da7", func := "loop.example/dynamicbridges/laws.FnCyclesSafe", spec := "fnCyclesSafe", unfollowed := true, recurses := true, apart := false, narrowed := true }
def FnCyclesSafeUptoSaid : Prop := fnCyclesSafeUptoRow.holds Try.pinned (OpenSpec.upto fnCyclesSafeSpec)

/-- 'laws.FnExactCyclesOf', WHERE WHAT IT READS IS OF BULK AT MOST 1048576: true; the input reads as it did. -/
def fnExactCyclesOfUptoRow : OpenClaim := { program := "ytjklefjjmfpnoaa", sum := "c2d7c42fcf41f516e73afe02542adb8895214338fb752228535e3e6e50303da7", func := "loop.example/dynamicbridges/laws.FnExactCyclesOf", spec := "fnExactCyclesOf", recurses := true, apart := false, narrowed := true }
def FnExactCyclesOfUptoSaid : Prop := fnExactCyclesOfUptoRow.holds Try.pinned (OpenSpec.upto fnExactCyclesOfSpec)

/-- 'laws.FnExactChainsOf', WHERE WHAT IT READS IS OF BULK AT MOST 1048576: true; the input reads as it did. -/
def fnExactChainsOfUptoRow : OpenClaim := { program := "ytjklefjjmfpnoaa", sum := "c2d7c42fcf41f516e73afe02542adb8895214338fb752228535e3e6e50303da7", func := "loop.example/dynamicbridges/laws.FnExactChainsOf", spec := "fnExactChainsOf", recurses := true, apart := false, narrowed := true }
def FnExactChainsOfUptoSaid : Prop := fnExactChainsOfUptoRow.holds Try.pinned (OpenSpec.upto fnExactChainsOfSpec)

/-- 'laws.FnExactForestsOf', WHERE WHAT IT READS IS OF BULK AT MOST 1048576: true; the input reads as it did. -/
def fnExactForestsOfUptoRow : OpenClaim := { program := "ytjklefjjmfpnoaa", sum := "c2d7c42fcf41f516e73afe02542adb8895214338fb752228535e3e6e50303da7", func := "loop.example/dynamicbridges/laws.FnExactForestsOf", spec := "fnExactForestsOf", unfollowed := true, recurses := true, apart := false, narrowed := true }
def FnExactForestsOfUptoSaid : Prop := fnExactForestsOfUptoRow.holds Try.pinned (OpenSpec.upto fnExactForestsOfSpec)

/-- 'laws.FnForestsAll', WHERE WHAT IT READS IS OF BULK AT MOST 1048576: true; the input reads as it did. -/
def fnForestsAllUptoRow : OpenClaim := { program := "ytjklefjjmfpnoaa", sum := "c2d7c42fcf41f516e73afe02542adb8895214338fb752228535e3e6e50303da7", func := "loop.example/dynamicbridges/laws.FnForestsAll", spec := "fnForestsAll", unfollowed := true, recurses := true, apart := false, narrowed := true }
def FnForestsAllUptoSaid : Prop := fnForestsAllUptoRow.holds Try.pinned (OpenSpec.upto fnForestsAllSpec)

/-- 'laws.FnExactCertificateOf', WHERE WHAT IT READS IS OF BULK AT MOST 1048576: true; the input reads as it did. -/
def fnExactCertificateOfUptoRow : OpenClaim := { program := "ytjklefjjmfpnoaa", sum := "c2d7c42fcf41f516e73afe02542adb8895214338fb752228535e3e6e50303da7", func := "loop.example/dynamicbridges/laws.FnExactCertificateOf", spec := "fnExactCertificateOf", unfollowed := true, recurses := true, apart := false, narrowed := true }
def FnExactCertificateOfUptoSaid : Prop := fnExactCertificateOfUptoRow.holds Try.pinned (OpenSpec.upto fnExactCertificateOfSpec)

/-- 'laws.FnCertificateBridges', WHERE WHAT IT READS IS OF BULK AT MOST 1048576: true; the input reads as it did. -/
def fnCertificateBridgesUptoRow : OpenClaim := { program := "ytjklefjjmfpnoaa", sum := "c2d7c42fcf41f516e73afe02542adb8895214338fb752228535e3e6e50303da7", func := "loop.example/dynamicbridges/laws.FnCertificateBridges", spec := "fnCertificateBridges", unfollowed := true, recurses := true, apart := false, narrowed := true }
def FnCertificateBridgesUptoSaid : Prop := fnCertificateBridgesUptoRow.holds Try.pinned (OpenSpec.upto fnCertificateBridgesSpec)

/-- 'laws.FnBlockSafe', WHERE WHAT IT READS IS OF BULK AT MOST 1048576: true; the input reads as it did. -/
def fnBlockSafeUptoRow : OpenClaim := { program := "ytjklefjjmfpnoaa", sum := "c2d7c42fcf41f516e73afe02542adb8895214338fb752228535e3e6e50303da7", func := "loop.example/dynamicbridges/laws.FnBlockSafe", spec := "fnBlockSafe", unfollowed := true, recurses := true, apart := false, narrowed := true }
def FnBlockSafeUptoSaid : Prop := fnBlockSafeUptoRow.holds Try.pinned (OpenSpec.upto fnBlockSafeSpec)

/-- 'laws.FnExactWeakestCut', WHERE WHAT IT READS IS OF BULK AT MOST 1048576: true; the input reads as it did. -/
def fnExactWeakestCutUptoRow : OpenClaim := { program := "ytjklefjjmfpnoaa", sum := "c2d7c42fcf41f516e73afe02542adb8895214338fb752228535e3e6e50303da7", func := "loop.example/dynamicbridges/laws.FnExactWeakestCut", spec := "fnExactWeakestCut", unfollowed := true, recurses := true, apart := false, narrowed := true }
def FnExactWeakestCutUptoSaid : Prop := fnExactWeakestCutUptoRow.holds Try.pinned (OpenSpec.upto fnExactWeakestCutSpec)

end Rows
end Go.Proofs.Ytjklefjjmfpnoaa
