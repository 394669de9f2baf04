/-
  No cell of these rows narrows 'for every input' (looked for: loops, veiled, ifaces, maps, wideKeys, modest, calm, conditions, laid).
  DERIVED. THE GIVEN ROWS OF THIS SEAT. 6 by the template 'for every input the law returns true; each argument reads behind the call as it read before'; 0 by the template 'total and deterministic' (their statements: YtoobiffhjjfpgaaGreatTotals.lean).
  GIVEN WITH THE SEED: the statements are not yours to turn. If you find one false, say at which input.
  Laid BY PROGRAM, IN A SANDBOX (cutbox-rows.mjs): the forced cells as the released guide's own fill.sh prints them over the translation 50f1c9bd92f284c7… (all of the seat's roots in one cut). By AI agents, Wed Nov 11 2026. No macro, syntax, notation, axiom, sorry.
-/
import Derived.Test.YtoobiffhjjfpgaaGreatChecked
import GoSem.Claim
import GoSem.ClaimJoined
import GoSem.ClaimMapViews
import Derived.JoinedTies
import Derived.KernelRfl
namespace Go.Proofs.YtoobiffhjjfpgaaGreat
/- THE CELL 'sum', in the pinned program and in every row, IS THE sha256 OF THE DUMP (.gsa) THAT YtoobiffhjjfpgaaGreatProg.lean LOADS. Nothing in Lean hashes anything: it is a label: what it is worth is what the hold of that sum in a sandbox is worth. -/
noncomputable def Tryz.pinned : Pinned := { name := "ytoobiffhjjfpgaagreat", sum := "50f1c9bd92f284c7da86f3c6d17322c52e4d7cb8e60a3384fe45a9b14c39b61a", checked := Tryz.checked }
namespace Rows
def none {H : Type} : Left H := { results := [], args := [] }

/-- 'weighlocklaw14.SeglogActs': WHATEVER THE INPUT: true; the input reads as it did. -/
def seglogActsSpec : ChangeSpec := { name := "seglogActs", fn := fun _ => fun
  | [d] => { results := [.lit (.bool true)], args := [d] }
  | _ => none }
def seglogActsRow : OpenClaim := { program := "ytoobiffhjjfpgaagreat", sum := "50f1c9bd92f284c7da86f3c6d17322c52e4d7cb8e60a3384fe45a9b14c39b61a", func := "weighlock/weighlocklaw14.SeglogActs", spec := "seglogActs", inPlace := ["internal/abi.NoEscape", "internal/bytealg.MakeNoZero"], unfollowed := true, recurses := true, apart := false }
def SeglogActsSaid : Prop := seglogActsRow.holds Tryz.pinned (OpenSpec.ofChange seglogActsSpec)

/-- ITS FALSE NEIGHBOUR: 'it returns false'. Refute it at one input. -/
def seglogActsWrong : ChangeSpec := { name := "seglogActs", fn := fun _ => fun
  | [d] => { results := [.lit (.bool false)], args := [d] }
  | _ => none }
def SeglogActsWrongFalsely : Prop := seglogActsRow.holds Tryz.pinned (OpenSpec.ofChange seglogActsWrong)

/-- 'weighlocklaw26.JournalAnew': WHATEVER THE INPUT: true; the input reads as it did. -/
def journalAnewSpec : ChangeSpec := { name := "journalAnew", fn := fun _ => fun
  | [d1, d2] => { results := [.lit (.bool true)], args := [d1, d2] }
  | _ => none }
def journalAnewRow : OpenClaim := { program := "ytoobiffhjjfpgaagreat", sum := "50f1c9bd92f284c7da86f3c6d17322c52e4d7cb8e60a3384fe45a9b14c39b61a", func := "weighlock/weighlocklaw26.JournalAnew", spec := "journalAnew", inPlace := ["internal/abi.NoEscape", "internal/bytealg.MakeNoZero"], unfollowed := true, recurses := true, apart := false }
def JournalAnewSaid : Prop := journalAnewRow.holds Tryz.pinned (OpenSpec.ofChange journalAnewSpec)

/-- ITS FALSE NEIGHBOUR: 'it returns false'. Refute it at one input. -/
def journalAnewWrong : ChangeSpec := { name := "journalAnew", fn := fun _ => fun
  | [d1, d2] => { results := [.lit (.bool false)], args := [d1, d2] }
  | _ => none }
def JournalAnewWrongFalsely : Prop := journalAnewRow.holds Tryz.pinned (OpenSpec.ofChange journalAnewWrong)

/-- 'weighlocklaw26.JournalNil': WHATEVER THE INPUT: true; the input reads as it did. -/
def journalNilSpec : ChangeSpec := { name := "journalNil", fn := fun _ => fun
  | [d1, d2] => { results := [.lit (.bool true)], args := [d1, d2] }
  | _ => none }
def journalNilRow : OpenClaim := { program := "ytoobiffhjjfpgaagreat", sum := "50f1c9bd92f284c7da86f3c6d17322c52e4d7cb8e60a3384fe45a9b14c39b61a", func := "weighlock/weighlocklaw26.JournalNil", spec := "journalNil", inPlace := ["internal/abi.NoEscape", "internal/bytealg.MakeNoZero"], unfollowed := true, recurses := true, apart := false }
def JournalNilSaid : Prop := journalNilRow.holds Tryz.pinned (OpenSpec.ofChange journalNilSpec)

/-- ITS FALSE NEIGHBOUR: 'it returns false'. Refute it at one input. -/
def journalNilWrong : ChangeSpec := { name := "journalNil", fn := fun _ => fun
  | [d1, d2] => { results := [.lit (.bool false)], args := [d1, d2] }
  | _ => none }
def JournalNilWrongFalsely : Prop := journalNilRow.holds Tryz.pinned (OpenSpec.ofChange journalNilWrong)

/-- 'weighlocklaw14.SeglogWrong': WHATEVER THE INPUT: true; the input reads as it did. -/
def seglogWrongSpec : ChangeSpec := { name := "seglogWrong", fn := fun _ => fun
  | [d1, d2] => { results := [.lit (.bool true)], args := [d1, d2] }
  | _ => none }
def seglogWrongRow : OpenClaim := { program := "ytoobiffhjjfpgaagreat", sum := "50f1c9bd92f284c7da86f3c6d17322c52e4d7cb8e60a3384fe45a9b14c39b61a", func := "weighlock/weighlocklaw14.SeglogWrong", spec := "seglogWrong", inPlace := ["internal/abi.NoEscape", "internal/bytealg.MakeNoZero"], unfollowed := true, recurses := true, apart := false }
def SeglogWrongSaid : Prop := seglogWrongRow.holds Tryz.pinned (OpenSpec.ofChange seglogWrongSpec)

/-- ITS FALSE NEIGHBOUR: 'it returns false'. Refute it at one input. -/
def seglogWrongWrong : ChangeSpec := { name := "seglogWrong", fn := fun _ => fun
  | [d1, d2] => { results := [.lit (.bool false)], args := [d1, d2] }
  | _ => none }
def SeglogWrongWrongFalsely : Prop := seglogWrongRow.holds Tryz.pinned (OpenSpec.ofChange seglogWrongWrong)

/-- 'weighlocklaw14.SeglogAdopts': WHATEVER THE INPUT: true; the input reads as it did. -/
def seglogAdoptsSpec : ChangeSpec := { name := "seglogAdopts", fn := fun _ => fun
  | [d1, d2] => { results := [.lit (.bool true)], args := [d1, d2] }
  | _ => none }
def seglogAdoptsRow : OpenClaim := { program := "ytoobiffhjjfpgaagreat", sum := "50f1c9bd92f284c7da86f3c6d17322c52e4d7cb8e60a3384fe45a9b14c39b61a", func := "weighlock/weighlocklaw14.SeglogAdopts", spec := "seglogAdopts", inPlace := ["internal/abi.NoEscape", "internal/bytealg.MakeNoZero"], unfollowed := true, recurses := true, apart := false }
def SeglogAdoptsSaid : Prop := seglogAdoptsRow.holds Tryz.pinned (OpenSpec.ofChange seglogAdoptsSpec)

/-- ITS FALSE NEIGHBOUR: 'it returns false'. Refute it at one input. -/
def seglogAdoptsWrong : ChangeSpec := { name := "seglogAdopts", fn := fun _ => fun
  | [d1, d2] => { results := [.lit (.bool false)], args := [d1, d2] }
  | _ => none }
def SeglogAdoptsWrongFalsely : Prop := seglogAdoptsRow.holds Tryz.pinned (OpenSpec.ofChange seglogAdoptsWrong)

/-- 'weighlocklaw26.JournalPuts': WHATEVER THE INPUT: true; the input reads as it did. -/
def journalPutsSpec : ChangeSpec := { name := "journalPuts", fn := fun _ => fun
  | [d1, d2, d3] => { results := [.lit (.bool true)], args := [d1, d2, d3] }
  | _ => none }
def journalPutsRow : OpenClaim := { program := "ytoobiffhjjfpgaagreat", sum := "50f1c9bd92f284c7da86f3c6d17322c52e4d7cb8e60a3384fe45a9b14c39b61a", func := "weighlock/weighlocklaw26.JournalPuts", spec := "journalPuts", inPlace := ["internal/abi.NoEscape", "internal/bytealg.MakeNoZero"], unfollowed := true, recurses := true, apart := false }
def JournalPutsSaid : Prop := journalPutsRow.holds Tryz.pinned (OpenSpec.ofChange journalPutsSpec)

/-- ITS FALSE NEIGHBOUR: 'it returns false'. Refute it at one input. -/
def journalPutsWrong : ChangeSpec := { name := "journalPuts", fn := fun _ => fun
  | [d1, d2, d3] => { results := [.lit (.bool false)], args := [d1, d2, d3] }
  | _ => none }
def JournalPutsWrongFalsely : Prop := journalPutsRow.holds Tryz.pinned (OpenSpec.ofChange journalPutsWrong)

/- THE SECOND FORM. 'bulk': how many values and letters a reading holds, each counted each time it is reached (what is shared counts as often as it is met; a slice's spare places count too). A statement '..UptoSaid' is the law's where the arguments, and the package variables that the reading takes, are together of bulk at most 1048576: NARROWER than '..Said'. Prove '..Said' where nothing that the law and all that it calls make is longer than what came in: it says more and counts as full. Else prove '..UptoSaid'. A law counts once. -/
mutual
def uptoBulk {H : Type} : DataW H → Nat
  | .lit (.string bytes) => bytes.length + 1
  | .lit _ => 1
  | .nil => 1
  | .ptr d => uptoBulk d + 1
  | .slice elems spare => uptoBulkAll elems + uptoBulkAll spare + 1
  | .agg parts => uptoBulkAll parts + 1
  | .iface _ d => uptoBulk d + 1
  | .map entries => uptoBulkEntries entries + 1
  | .held _ => 1
def uptoBulkAll {H : Type} : List (DataW H) → Nat
  | [] => 0
  | d :: r => uptoBulk d + uptoBulkAll r
def uptoBulkEntries {H : Type} : List (Lit × DataW H) → Nat
  | [] => 0
  | x :: r => uptoBulkEntry x + uptoBulkEntries r
def uptoBulkEntry {H : Type} : Lit × DataW H → Nat
  | (.string bytes, d) => bytes.length + uptoBulk d + 1
  | (_, d) => uptoBulk d + 1
 end
def uptoSmall : (H : Type) → List (DataW H) → Bool := fun _ ds => decide (uptoBulkAll ds ≤ 1048576)
def OpenSpec.upto (s : _root_.Go.ChangeSpec) : _root_.Go.OpenSpec := { _root_.Go.OpenSpec.ofChange s with cond := some uptoSmall }

/-- 'weighlocklaw14.SeglogActs', WHERE WHAT IT READS IS OF BULK AT MOST 1048576: true; the input reads as it did. -/
def seglogActsUptoRow : OpenClaim := { program := "ytoobiffhjjfpgaagreat", sum := "50f1c9bd92f284c7da86f3c6d17322c52e4d7cb8e60a3384fe45a9b14c39b61a", func := "weighlock/weighlocklaw14.SeglogActs", spec := "seglogActs", inPlace := ["internal/abi.NoEscape", "internal/bytealg.MakeNoZero"], unfollowed := true, recurses := true, apart := false, narrowed := true }
def SeglogActsUptoSaid : Prop := seglogActsUptoRow.holds Tryz.pinned (OpenSpec.upto seglogActsSpec)

/-- 'weighlocklaw26.JournalAnew', WHERE WHAT IT READS IS OF BULK AT MOST 1048576: true; the input reads as it did. -/
def journalAnewUptoRow : OpenClaim := { program := "ytoobiffhjjfpgaagreat", sum := "50f1c9bd92f284c7da86f3c6d17322c52e4d7cb8e60a3384fe45a9b14c39b61a", func := "weighlock/weighlocklaw26.JournalAnew", spec := "journalAnew", inPlace := ["internal/abi.NoEscape", "internal/bytealg.MakeNoZero"], unfollowed := true, recurses := true, apart := false, narrowed := true }
def JournalAnewUptoSaid : Prop := journalAnewUptoRow.holds Tryz.pinned (OpenSpec.upto journalAnewSpec)

/-- 'weighlocklaw26.JournalNil', WHERE WHAT IT READS IS OF BULK AT MOST 1048576: true; the input reads as it did. -/
def journalNilUptoRow : OpenClaim := { program := "ytoobiffhjjfpgaagreat", sum := "50f1c9bd92f284c7da86f3c6d17322c52e4d7cb8e60a3384fe45a9b14c39b61a", func := "weighlock/weighlocklaw26.JournalNil", spec := "journalNil", inPlace := ["internal/abi.NoEscape", "internal/bytealg.MakeNoZero"], unfollowed := true, recurses := true, apart := false, narrowed := true }
def JournalNilUptoSaid : Prop := journalNilUptoRow.holds Tryz.pinned (OpenSpec.upto journalNilSpec)

/-- 'weighlocklaw14.SeglogWrong', WHERE WHAT IT READS IS OF BULK AT MOST 1048576: true; the input reads as it did. -/
def seglogWrongUptoRow : OpenClaim := { program := "ytoobiffhjjfpgaagreat", sum := "50f1c9bd92f284c7da86f3c6d17322c52e4d7cb8e60a3384fe45a9b14c39b61a", func := "weighlock/weighlocklaw14.SeglogWrong", spec := "seglogWrong", inPlace := ["internal/abi.NoEscape", "internal/bytealg.MakeNoZero"], unfollowed := true, recurses := true, apart := false, narrowed := true }
def SeglogWrongUptoSaid : Prop := seglogWrongUptoRow.holds Tryz.pinned (OpenSpec.upto seglogWrongSpec)

/-- 'weighlocklaw14.SeglogAdopts', WHERE WHAT IT READS IS OF BULK AT MOST 1048576: true; the input reads as it did. -/
def seglogAdoptsUptoRow : OpenClaim := { program := "ytoobiffhjjfpgaagreat", sum := "50f1c9bd92f284c7da86f3c6d17322c52e4d7cb8e60a3384fe45a9b14c39b61a", func := "weighlock/weighlocklaw14.SeglogAdopts", spec := "seglogAdopts", inPlace := ["internal/abi.NoEscape", "internal/bytealg.MakeNoZero"], unfollowed := true, recurses := true, apart := false, narrowed := true }
def SeglogAdoptsUptoSaid : Prop := seglogAdoptsUptoRow.holds Tryz.pinned (OpenSpec.upto seglogAdoptsSpec)

/-- 'weighlocklaw26.JournalPuts', WHERE WHAT IT READS IS OF BULK AT MOST 1048576: true; the input reads as it did. -/
def journalPutsUptoRow : OpenClaim := { program := "ytoobiffhjjfpgaagreat", sum := "50f1c9bd92f284c7da86f3c6d17322c52e4d7cb8e60a3384fe45a9b14c39b61a", func := "weighlock/weighlocklaw26.JournalPuts", spec := "journalPuts", inPlace := ["internal/abi.NoEscape", "internal/bytealg.MakeNoZero"], unfollowed := true, recurses := true, apart := false, narrowed := true }
def JournalPutsUptoSaid : Prop := journalPutsUptoRow.holds Tryz.pinned (OpenSpec.upto journalPutsSpec)

end Rows
end Go.Proofs.YtoobiffhjjfpgaaGreat
