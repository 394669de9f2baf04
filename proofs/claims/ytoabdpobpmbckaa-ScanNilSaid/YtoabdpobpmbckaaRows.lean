/-
  No cell of these rows narrows 'for every input' (looked for: loops, veiled, ifaces, maps, wideKeys, modest, calm, conditions, laid).
  DERIVED. THE GIVEN ROWS OF THIS SEAT. 9 by the template 'for every input the law returns true; each argument reads behind the call as it read before'; 0 by the template 'total and deterministic' (their statements: YtoabdpobpmbckaaTotals.lean).
  GIVEN WITH THE SEED: the statements are not yours to turn. If you find one false, say at which input.
  Laid BY PROGRAM, IN A SANDBOX (cutbox-rows.mjs): the forced cells as the released guide's own fill.sh prints them over the translation 429598a33049d3ff… (all of the seat's roots in one cut). By AI agents, Wed Nov 11 2026. No macro, syntax, notation, axiom, sorry.
-/
import Derived.Test.YtoabdpobpmbckaaChecked
import GoSem.Claim
import GoSem.ClaimJoined
import GoSem.ClaimMapViews
import Derived.JoinedTies
import Derived.KernelRfl
namespace Go.Proofs.Ytoabdpobpmbckaa
/- THE CELL 'sum', in the pinned program and in every row, IS THE sha256 OF THE DUMP (.gsa) THAT YtoabdpobpmbckaaProg.lean LOADS. Nothing in Lean hashes anything: it is a label: what it is worth is what the hold of that sum in a sandbox is worth. -/
noncomputable def Try.pinned : Pinned := { name := "ytoabdpobpmbckaa", sum := "429598a33049d3ffb7bd2020478dbb37cdfc069cbdb4e9632748aa5a1018a225", checked := Try.checked }
namespace Rows
def none {H : Type} : Left H := { results := [], args := [] }

/-- 'weighlocklaw14.SeglogNews': WHATEVER THE INPUT: true; the input reads as it did. -/
def seglogNewsSpec : ChangeSpec := { name := "seglogNews", fn := fun _ => fun
  | [d1, d2, d3] => { results := [.lit (.bool true)], args := [d1, d2, d3] }
  | _ => none }
def seglogNewsRow : OpenClaim := { program := "ytoabdpobpmbckaa", sum := "429598a33049d3ffb7bd2020478dbb37cdfc069cbdb4e9632748aa5a1018a225", func := "weighlock/weighlocklaw14.SeglogNews", spec := "seglogNews", inPlace := ["internal/abi.NoEscape", "internal/bytealg.MakeNoZero"], unfollowed := true, recurses := true, apart := false }
def SeglogNewsSaid : Prop := seglogNewsRow.holds Try.pinned (OpenSpec.ofChange seglogNewsSpec)

/-- ITS FALSE NEIGHBOUR: 'it returns false'. Refute it at one input. -/
def seglogNewsWrong : ChangeSpec := { name := "seglogNews", fn := fun _ => fun
  | [d1, d2, d3] => { results := [.lit (.bool false)], args := [d1, d2, d3] }
  | _ => none }
def SeglogNewsWrongFalsely : Prop := seglogNewsRow.holds Try.pinned (OpenSpec.ofChange seglogNewsWrong)

/-- 'weighlocklaw13.SegmentLoads': WHATEVER THE INPUT: true; the input reads as it did. -/
def segmentLoadsSpec : ChangeSpec := { name := "segmentLoads", fn := fun _ => fun
  | [d1, d2, d3] => { results := [.lit (.bool true)], args := [d1, d2, d3] }
  | _ => none }
def segmentLoadsRow : OpenClaim := { program := "ytoabdpobpmbckaa", sum := "429598a33049d3ffb7bd2020478dbb37cdfc069cbdb4e9632748aa5a1018a225", func := "weighlock/weighlocklaw13.SegmentLoads", spec := "segmentLoads", inPlace := ["internal/abi.NoEscape", "internal/bytealg.MakeNoZero"], unfollowed := true, recurses := true, apart := false }
def SegmentLoadsSaid : Prop := segmentLoadsRow.holds Try.pinned (OpenSpec.ofChange segmentLoadsSpec)

/-- ITS FALSE NEIGHBOUR: 'it returns false'. Refute it at one input. -/
def segmentLoadsWrong : ChangeSpec := { name := "segmentLoads", fn := fun _ => fun
  | [d1, d2, d3] => { results := [.lit (.bool false)], args := [d1, d2, d3] }
  | _ => none }
def SegmentLoadsWrongFalsely : Prop := segmentLoadsRow.holds Try.pinned (OpenSpec.ofChange segmentLoadsWrong)

/-- 'weighlocklaw13.SegmentBack': WHATEVER THE INPUT: true; the input reads as it did. -/
def segmentBackSpec : ChangeSpec := { name := "segmentBack", fn := fun _ => fun
  | [d1, d2] => { results := [.lit (.bool true)], args := [d1, d2] }
  | _ => none }
def segmentBackRow : OpenClaim := { program := "ytoabdpobpmbckaa", sum := "429598a33049d3ffb7bd2020478dbb37cdfc069cbdb4e9632748aa5a1018a225", func := "weighlock/weighlocklaw13.SegmentBack", spec := "segmentBack", inPlace := ["internal/abi.NoEscape", "internal/bytealg.MakeNoZero"], unfollowed := true, recurses := true, apart := false }
def SegmentBackSaid : Prop := segmentBackRow.holds Try.pinned (OpenSpec.ofChange segmentBackSpec)

/-- ITS FALSE NEIGHBOUR: 'it returns false'. Refute it at one input. -/
def segmentBackWrong : ChangeSpec := { name := "segmentBack", fn := fun _ => fun
  | [d1, d2] => { results := [.lit (.bool false)], args := [d1, d2] }
  | _ => none }
def SegmentBackWrongFalsely : Prop := segmentBackRow.holds Try.pinned (OpenSpec.ofChange segmentBackWrong)

/-- 'weighlocklaw13.SegmentPuts': WHATEVER THE INPUT: true; the input reads as it did. -/
def segmentPutsSpec : ChangeSpec := { name := "segmentPuts", fn := fun _ => fun
  | [d1, d2, d3] => { results := [.lit (.bool true)], args := [d1, d2, d3] }
  | _ => none }
def segmentPutsRow : OpenClaim := { program := "ytoabdpobpmbckaa", sum := "429598a33049d3ffb7bd2020478dbb37cdfc069cbdb4e9632748aa5a1018a225", func := "weighlock/weighlocklaw13.SegmentPuts", spec := "segmentPuts", inPlace := ["internal/abi.NoEscape", "internal/bytealg.MakeNoZero"], unfollowed := true, recurses := true, apart := false }
def SegmentPutsSaid : Prop := segmentPutsRow.holds Try.pinned (OpenSpec.ofChange segmentPutsSpec)

/-- ITS FALSE NEIGHBOUR: 'it returns false'. Refute it at one input. -/
def segmentPutsWrong : ChangeSpec := { name := "segmentPuts", fn := fun _ => fun
  | [d1, d2, d3] => { results := [.lit (.bool false)], args := [d1, d2, d3] }
  | _ => none }
def SegmentPutsWrongFalsely : Prop := segmentPutsRow.holds Try.pinned (OpenSpec.ofChange segmentPutsWrong)

/-- 'weighlocklaw13.SegmentNil': WHATEVER THE INPUT: true; the input reads as it did. -/
def segmentNilSpec : ChangeSpec := { name := "segmentNil", fn := fun _ => fun
  | [d1, d2, d3] => { results := [.lit (.bool true)], args := [d1, d2, d3] }
  | _ => none }
def segmentNilRow : OpenClaim := { program := "ytoabdpobpmbckaa", sum := "429598a33049d3ffb7bd2020478dbb37cdfc069cbdb4e9632748aa5a1018a225", func := "weighlock/weighlocklaw13.SegmentNil", spec := "segmentNil", inPlace := ["internal/abi.NoEscape", "internal/bytealg.MakeNoZero"], unfollowed := true, recurses := true, apart := false }
def SegmentNilSaid : Prop := segmentNilRow.holds Try.pinned (OpenSpec.ofChange segmentNilSpec)

/-- ITS FALSE NEIGHBOUR: 'it returns false'. Refute it at one input. -/
def segmentNilWrong : ChangeSpec := { name := "segmentNil", fn := fun _ => fun
  | [d1, d2, d3] => { results := [.lit (.bool false)], args := [d1, d2, d3] }
  | _ => none }
def SegmentNilWrongFalsely : Prop := segmentNilRow.holds Try.pinned (OpenSpec.ofChange segmentNilWrong)

/-- 'weighlocklaw13.SegmentFalls': WHATEVER THE INPUT: true; the input reads as it did. -/
def segmentFallsSpec : ChangeSpec := { name := "segmentFalls", fn := fun _ => fun
  | [d1, d2, d3] => { results := [.lit (.bool true)], args := [d1, d2, d3] }
  | _ => none }
def segmentFallsRow : OpenClaim := { program := "ytoabdpobpmbckaa", sum := "429598a33049d3ffb7bd2020478dbb37cdfc069cbdb4e9632748aa5a1018a225", func := "weighlock/weighlocklaw13.SegmentFalls", spec := "segmentFalls", inPlace := ["internal/abi.NoEscape", "internal/bytealg.MakeNoZero"], unfollowed := true, recurses := true, apart := false }
def SegmentFallsSaid : Prop := segmentFallsRow.holds Try.pinned (OpenSpec.ofChange segmentFallsSpec)

/-- ITS FALSE NEIGHBOUR: 'it returns false'. Refute it at one input. -/
def segmentFallsWrong : ChangeSpec := { name := "segmentFalls", fn := fun _ => fun
  | [d1, d2, d3] => { results := [.lit (.bool false)], args := [d1, d2, d3] }
  | _ => none }
def SegmentFallsWrongFalsely : Prop := segmentFallsRow.holds Try.pinned (OpenSpec.ofChange segmentFallsWrong)

/-- 'weighlocklaw14.SeglogNil': WHATEVER THE INPUT: true; the input reads as it did. -/
def seglogNilSpec : ChangeSpec := { name := "seglogNil", fn := fun _ => fun
  | [d1, d2, d3] => { results := [.lit (.bool true)], args := [d1, d2, d3] }
  | _ => none }
def seglogNilRow : OpenClaim := { program := "ytoabdpobpmbckaa", sum := "429598a33049d3ffb7bd2020478dbb37cdfc069cbdb4e9632748aa5a1018a225", func := "weighlock/weighlocklaw14.SeglogNil", spec := "seglogNil", inPlace := ["internal/abi.NoEscape", "internal/bytealg.MakeNoZero"], unfollowed := true, recurses := true, apart := false }
def SeglogNilSaid : Prop := seglogNilRow.holds Try.pinned (OpenSpec.ofChange seglogNilSpec)

/-- ITS FALSE NEIGHBOUR: 'it returns false'. Refute it at one input. -/
def seglogNilWrong : ChangeSpec := { name := "seglogNil", fn := fun _ => fun
  | [d1, d2, d3] => { results := [.lit (.bool false)], args := [d1, d2, d3] }
  | _ => none }
def SeglogNilWrongFalsely : Prop := seglogNilRow.holds Try.pinned (OpenSpec.ofChange seglogNilWrong)

/-- 'weighlocklaw15.ScanChains': WHATEVER THE INPUT: true; the input reads as it did. -/
def scanChainsSpec : ChangeSpec := { name := "scanChains", fn := fun _ => fun
  | [d1, d2] => { results := [.lit (.bool true)], args := [d1, d2] }
  | _ => none }
def scanChainsRow : OpenClaim := { program := "ytoabdpobpmbckaa", sum := "429598a33049d3ffb7bd2020478dbb37cdfc069cbdb4e9632748aa5a1018a225", func := "weighlock/weighlocklaw15.ScanChains", spec := "scanChains", inPlace := ["internal/abi.NoEscape", "internal/bytealg.MakeNoZero"], unfollowed := true, recurses := true, apart := false }
def ScanChainsSaid : Prop := scanChainsRow.holds Try.pinned (OpenSpec.ofChange scanChainsSpec)

/-- ITS FALSE NEIGHBOUR: 'it returns false'. Refute it at one input. -/
def scanChainsWrong : ChangeSpec := { name := "scanChains", fn := fun _ => fun
  | [d1, d2] => { results := [.lit (.bool false)], args := [d1, d2] }
  | _ => none }
def ScanChainsWrongFalsely : Prop := scanChainsRow.holds Try.pinned (OpenSpec.ofChange scanChainsWrong)

/-- 'weighlocklaw15.ScanNil': WHATEVER THE INPUT: true; the input reads as it did. -/
def scanNilSpec : ChangeSpec := { name := "scanNil", fn := fun _ => fun
  | [d] => { results := [.lit (.bool true)], args := [d] }
  | _ => none }
def scanNilRow : OpenClaim := { program := "ytoabdpobpmbckaa", sum := "429598a33049d3ffb7bd2020478dbb37cdfc069cbdb4e9632748aa5a1018a225", func := "weighlock/weighlocklaw15.ScanNil", spec := "scanNil", inPlace := ["internal/abi.NoEscape", "internal/bytealg.MakeNoZero"], unfollowed := true, recurses := true, apart := false }
def ScanNilSaid : Prop := scanNilRow.holds Try.pinned (OpenSpec.ofChange scanNilSpec)

/-- ITS FALSE NEIGHBOUR: 'it returns false'. Refute it at one input. -/
def scanNilWrong : ChangeSpec := { name := "scanNil", fn := fun _ => fun
  | [d] => { results := [.lit (.bool false)], args := [d] }
  | _ => none }
def ScanNilWrongFalsely : Prop := scanNilRow.holds Try.pinned (OpenSpec.ofChange scanNilWrong)

/- THE SECOND FORM. 'bulk': how many values and letters a reading holds, each counted each time it is reached (what is shared counts as often as it is met; a slice's spare places count too). A statement '..UptoSaid' is the law's where the arguments, and the package variables that the reading takes, are together of bulk at most 1048576: NARROWER than '..Said'. Prove '..Said' where nothing that the law and all that it calls make is longer than what came in: it says more and counts as full. Else prove '..UptoSaid'. A law counts once. -/
mutual
def uptoBulk {H : Type} : DataW H → Nat
  | .lit (.string bytes) => bytes.length + 1
  | .lit _ => 1
  | .nil => 1
  | .ptr d => uptoBulk d + 1
  | .slice elems spare => uptoBulkAll elems + uptoBulkAll spare + 1
  | .agg parts => uptoBulkAll parts + 1
  | .iface _ d => uptoBulk d + 1
  | .map entries => uptoBulkEntries entries + 1
  | .held _ => 1
def uptoBulkAll {H : Type} : List (DataW H) → Nat
  | [] => 0
  | d :: r => uptoBulk d + uptoBulkAll r
def uptoBulkEntries {H : Type} : List (Lit × DataW H) → Nat
  | [] => 0
  | x :: r => uptoBulkEntry x + uptoBulkEntries r
def uptoBulkEntry {H : Type} : Lit × DataW H → Nat
  | (.string bytes, d) => bytes.length + uptoBulk d + 1
  | (_, d) => uptoBulk d + 1
 end
def uptoSmall : (H : Type) → List (DataW H) → Bool := fun _ ds => decide (uptoBulkAll ds ≤ 1048576)
def OpenSpec.upto (s : _root_.Go.ChangeSpec) : _root_.Go.OpenSpec := { _root_.Go.OpenSpec.ofChange s with cond := some uptoSmall }

/-- 'weighlocklaw14.SeglogNews', WHERE WHAT IT READS IS OF BULK AT MOST 1048576: true; the input reads as it did. -/
def seglogNewsUptoRow : OpenClaim := { program := "ytoabdpobpmbckaa", sum := "429598a33049d3ffb7bd2020478dbb37cdfc069cbdb4e9632748aa5a1018a225", func := "weighlock/weighlocklaw14.SeglogNews", spec := "seglogNews", inPlace := ["internal/abi.NoEscape", "internal/bytealg.MakeNoZero"], unfollowed := true, recurses := true, apart := false, narrowed := true }
def SeglogNewsUptoSaid : Prop := seglogNewsUptoRow.holds Try.pinned (OpenSpec.upto seglogNewsSpec)

/-- 'weighlocklaw13.SegmentLoads', WHERE WHAT IT READS IS OF BULK AT MOST 1048576: true; the input reads as it did. -/
def segmentLoadsUptoRow : OpenClaim := { program := "ytoabdpobpmbckaa", sum := "429598a33049d3ffb7bd2020478dbb37cdfc069cbdb4e9632748aa5a1018a225", func := "weighlock/weighlocklaw13.SegmentLoads", spec := "segmentLoads", inPlace := ["internal/abi.NoEscape", "internal/bytealg.MakeNoZero"], unfollowed := true, recurses := true, apart := false, narrowed := true }
def SegmentLoadsUptoSaid : Prop := segmentLoadsUptoRow.holds Try.pinned (OpenSpec.upto segmentLoadsSpec)

/-- 'weighlocklaw13.SegmentBack', WHERE WHAT IT READS IS OF BULK AT MOST 1048576: true; the input reads as it did. -/
def segmentBackUptoRow : OpenClaim := { program := "ytoabdpobpmbckaa", sum := "429598a33049d3ffb7bd2020478dbb37cdfc069cbdb4e9632748aa5a1018a225", func := "weighlock/weighlocklaw13.SegmentBack", spec := "segmentBack", inPlace := ["internal/abi.NoEscape", "internal/bytealg.MakeNoZero"], unfollowed := true, recurses := true, apart := false, narrowed := true }
def SegmentBackUptoSaid : Prop := segmentBackUptoRow.holds Try.pinned (OpenSpec.upto segmentBackSpec)

/-- 'weighlocklaw13.SegmentPuts', WHERE WHAT IT READS IS OF BULK AT MOST 1048576: true; the input reads as it did. -/
def segmentPutsUptoRow : OpenClaim := { program := "ytoabdpobpmbckaa", sum := "429598a33049d3ffb7bd2020478dbb37cdfc069cbdb4e9632748aa5a1018a225", func := "weighlock/weighlocklaw13.SegmentPuts", spec := "segmentPuts", inPlace := ["internal/abi.NoEscape", "internal/bytealg.MakeNoZero"], unfollowed := true, recurses := true, apart := false, narrowed := true }
def SegmentPutsUptoSaid : Prop := segmentPutsUptoRow.holds Try.pinned (OpenSpec.upto segmentPutsSpec)

/-- 'weighlocklaw13.SegmentNil', WHERE WHAT IT READS IS OF BULK AT MOST 1048576: true; the input reads as it did. -/
def segmentNilUptoRow : OpenClaim := { program := "ytoabdpobpmbckaa", sum := "429598a33049d3ffb7bd2020478dbb37cdfc069cbdb4e9632748aa5a1018a225", func := "weighlock/weighlocklaw13.SegmentNil", spec := "segmentNil", inPlace := ["internal/abi.NoEscape", "internal/bytealg.MakeNoZero"], unfollowed := true, recurses := true, apart := false, narrowed := true }
def SegmentNilUptoSaid : Prop := segmentNilUptoRow.holds Try.pinned (OpenSpec.upto segmentNilSpec)

/-- 'weighlocklaw13.SegmentFalls', WHERE WHAT IT READS IS OF BULK AT MOST 1048576: true; the input reads as it did. -/
def segmentFallsUptoRow : OpenClaim := { program := "ytoabdpobpmbckaa", sum := "429598a33049d3ffb7bd2020478dbb37cdfc069cbdb4e9632748aa5a1018a225", func := "weighlock/weighlocklaw13.SegmentFalls", spec := "segmentFalls", inPlace := ["internal/abi.NoEscape", "internal/bytealg.MakeNoZero"], unfollowed := true, recurses := true, apart := false, narrowed := true }
def SegmentFallsUptoSaid : Prop := segmentFallsUptoRow.holds Try.pinned (OpenSpec.upto segmentFallsSpec)

/-- 'weighlocklaw14.SeglogNil', WHERE WHAT IT READS IS OF BULK AT MOST 1048576: true; the input reads as it did. -/
def seglogNilUptoRow : OpenClaim := { program := "ytoabdpobpmbckaa", sum := "429598a33049d3ffb7bd2020478dbb37cdfc069cbdb4e9632748aa5a1018a225", func := "weighlock/weighlocklaw14.SeglogNil", spec := "seglogNil", inPlace := ["internal/abi.NoEscape", "internal/bytealg.MakeNoZero"], unfollowed := true, recurses := true, apart := false, narrowed := true }
def SeglogNilUptoSaid : Prop := seglogNilUptoRow.holds Try.pinned (OpenSpec.upto seglogNilSpec)

/-- 'weighlocklaw15.ScanChains', WHERE WHAT IT READS IS OF BULK AT MOST 1048576: true; the input reads as it did. -/
def scanChainsUptoRow : OpenClaim := { program := "ytoabdpobpmbckaa", sum := "429598a33049d3ffb7bd2020478dbb37cdfc069cbdb4e9632748aa5a1018a225", func := "weighlock/weighlocklaw15.ScanChains", spec := "scanChains", inPlace := ["internal/abi.NoEscape", "internal/bytealg.MakeNoZero"], unfollowed := true, recurses := true, apart := false, narrowed := true }
def ScanChainsUptoSaid : Prop := scanChainsUptoRow.holds Try.pinned (OpenSpec.upto scanChainsSpec)

/-- 'weighlocklaw15.ScanNil', WHERE WHAT IT READS IS OF BULK AT MOST 1048576: true; the input reads as it did. -/
def scanNilUptoRow : OpenClaim := { program := "ytoabdpobpmbckaa", sum := "429598a33049d3ffb7bd2020478dbb37cdfc069cbdb4e9632748aa5a1018a225", func := "weighlock/weighlocklaw15.ScanNil", spec := "scanNil", inPlace := ["internal/abi.NoEscape", "internal/bytealg.MakeNoZero"], unfollowed := true, recurses := true, apart := false, narrowed := true }
def ScanNilUptoSaid : Prop := scanNilUptoRow.holds Try.pinned (OpenSpec.upto scanNilSpec)

end Rows
end Go.Proofs.Ytoabdpobpmbckaa
