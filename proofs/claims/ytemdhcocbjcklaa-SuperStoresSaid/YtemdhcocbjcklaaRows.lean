/-
  No cell of these rows narrows 'for every input' (looked for: loops, veiled, ifaces, maps, wideKeys, modest, calm, conditions, laid).
  DERIVED. THE GIVEN ROWS OF THIS SEAT. 11 by the template 'for every input the law returns true; each argument reads behind the call as it read before'; 0 by the template 'total and deterministic' (their statements: YtemdhcocbjcklaaTotals.lean).
  GIVEN WITH THE SEED: the statements are not yours to turn. If you find one false, say at which input.
  Laid BY PROGRAM, IN A SANDBOX (cutbox-rows.mjs): the forced cells as the released guide's own fill.sh prints them over the translation 1e8a5b28cf8a6665… (all of the seat's roots in one cut). By AI agents, Wed Nov 11 2026. No macro, syntax, notation, axiom, sorry.
-/
import Derived.Test.YtemdhcocbjcklaaChecked
import GoSem.Claim
import GoSem.ClaimJoined
import GoSem.ClaimMapViews
import Derived.JoinedTies
import Derived.KernelRfl
namespace Go.Proofs.Ytemdhcocbjcklaa
/- THE CELL 'sum', in the pinned program and in every row, IS THE sha256 OF THE DUMP (.gsa) THAT YtemdhcocbjcklaaProg.lean LOADS. Nothing in Lean hashes anything: it is a label: what it is worth is what the hold of that sum in a sandbox is worth. -/
noncomputable def Try.pinned : Pinned := { name := "ytemdhcocbjcklaa", sum := "1e8a5b28cf8a666506cf1437c49802d03ecf8c842ed4be7e527aa9bc31fc93ae", checked := Try.checked }
namespace Rows
def none {H : Type} : Left H := { results := [], args := [] }

/-- 'weighlocklaw37.QueueActs': WHATEVER THE INPUT: true; the input reads as it did. -/
def queueActsSpec : ChangeSpec := { name := "queueActs", fn := fun _ => fun
  | [d1, d2] => { results := [.lit (.bool true)], args := [d1, d2] }
  | _ => none }
def queueActsRow : OpenClaim := { program := "ytemdhcocbjcklaa", sum := "1e8a5b28cf8a666506cf1437c49802d03ecf8c842ed4be7e527aa9bc31fc93ae", func := "weighlock/weighlocklaw37.QueueActs", spec := "queueActs", apart := false }
def QueueActsSaid : Prop := queueActsRow.holds Try.pinned (OpenSpec.ofChange queueActsSpec)

/-- ITS FALSE NEIGHBOUR: 'it returns false'. Refute it at one input. -/
def queueActsWrong : ChangeSpec := { name := "queueActs", fn := fun _ => fun
  | [d1, d2] => { results := [.lit (.bool false)], args := [d1, d2] }
  | _ => none }
def QueueActsWrongFalsely : Prop := queueActsRow.holds Try.pinned (OpenSpec.ofChange queueActsWrong)

/-- 'weighlocklaw37.QueueNil': WHATEVER THE INPUT: true; the input reads as it did. -/
def queueNilSpec : ChangeSpec := { name := "queueNil", fn := fun _ => fun
  | [d] => { results := [.lit (.bool true)], args := [d] }
  | _ => none }
def queueNilRow : OpenClaim := { program := "ytemdhcocbjcklaa", sum := "1e8a5b28cf8a666506cf1437c49802d03ecf8c842ed4be7e527aa9bc31fc93ae", func := "weighlock/weighlocklaw37.QueueNil", spec := "queueNil", apart := false }
def QueueNilSaid : Prop := queueNilRow.holds Try.pinned (OpenSpec.ofChange queueNilSpec)

/-- ITS FALSE NEIGHBOUR: 'it returns false'. Refute it at one input. -/
def queueNilWrong : ChangeSpec := { name := "queueNil", fn := fun _ => fun
  | [d] => { results := [.lit (.bool false)], args := [d] }
  | _ => none }
def QueueNilWrongFalsely : Prop := queueNilRow.holds Try.pinned (OpenSpec.ofChange queueNilWrong)

/-- 'weighlocklaw37.QueueKeeps': WHATEVER THE INPUT: true; the input reads as it did. -/
def queueKeepsSpec : ChangeSpec := { name := "queueKeeps", fn := fun _ => fun
  | [d1, d2] => { results := [.lit (.bool true)], args := [d1, d2] }
  | _ => none }
def queueKeepsRow : OpenClaim := { program := "ytemdhcocbjcklaa", sum := "1e8a5b28cf8a666506cf1437c49802d03ecf8c842ed4be7e527aa9bc31fc93ae", func := "weighlock/weighlocklaw37.QueueKeeps", spec := "queueKeeps", apart := false }
def QueueKeepsSaid : Prop := queueKeepsRow.holds Try.pinned (OpenSpec.ofChange queueKeepsSpec)

/-- ITS FALSE NEIGHBOUR: 'it returns false'. Refute it at one input. -/
def queueKeepsWrong : ChangeSpec := { name := "queueKeeps", fn := fun _ => fun
  | [d1, d2] => { results := [.lit (.bool false)], args := [d1, d2] }
  | _ => none }
def QueueKeepsWrongFalsely : Prop := queueKeepsRow.holds Try.pinned (OpenSpec.ofChange queueKeepsWrong)

/-- 'weighlocklaw08.FrameEncodes': WHATEVER THE INPUT: true; the input reads as it did. -/
def frameEncodesSpec : ChangeSpec := { name := "frameEncodes", fn := fun _ => fun
  | [d1, d2, d3] => { results := [.lit (.bool true)], args := [d1, d2, d3] }
  | _ => none }
def frameEncodesRow : OpenClaim := { program := "ytemdhcocbjcklaa", sum := "1e8a5b28cf8a666506cf1437c49802d03ecf8c842ed4be7e527aa9bc31fc93ae", func := "weighlock/weighlocklaw08.FrameEncodes", spec := "frameEncodes", apart := false }
def FrameEncodesSaid : Prop := frameEncodesRow.holds Try.pinned (OpenSpec.ofChange frameEncodesSpec)

/-- ITS FALSE NEIGHBOUR: 'it returns false'. Refute it at one input. -/
def frameEncodesWrong : ChangeSpec := { name := "frameEncodes", fn := fun _ => fun
  | [d1, d2, d3] => { results := [.lit (.bool false)], args := [d1, d2, d3] }
  | _ => none }
def FrameEncodesWrongFalsely : Prop := frameEncodesRow.holds Try.pinned (OpenSpec.ofChange frameEncodesWrong)

/-- 'weighlocklaw08.FrameDecodes': WHATEVER THE INPUT: true; the input reads as it did. -/
def frameDecodesSpec : ChangeSpec := { name := "frameDecodes", fn := fun _ => fun
  | [d1, d2, d3] => { results := [.lit (.bool true)], args := [d1, d2, d3] }
  | _ => none }
def frameDecodesRow : OpenClaim := { program := "ytemdhcocbjcklaa", sum := "1e8a5b28cf8a666506cf1437c49802d03ecf8c842ed4be7e527aa9bc31fc93ae", func := "weighlock/weighlocklaw08.FrameDecodes", spec := "frameDecodes", apart := false }
def FrameDecodesSaid : Prop := frameDecodesRow.holds Try.pinned (OpenSpec.ofChange frameDecodesSpec)

/-- ITS FALSE NEIGHBOUR: 'it returns false'. Refute it at one input. -/
def frameDecodesWrong : ChangeSpec := { name := "frameDecodes", fn := fun _ => fun
  | [d1, d2, d3] => { results := [.lit (.bool false)], args := [d1, d2, d3] }
  | _ => none }
def FrameDecodesWrongFalsely : Prop := frameDecodesRow.holds Try.pinned (OpenSpec.ofChange frameDecodesWrong)

/-- 'weighlocklaw08.FrameBit': WHATEVER THE INPUT: true; the input reads as it did. -/
def frameBitSpec : ChangeSpec := { name := "frameBit", fn := fun _ => fun
  | [d1, d2, d3] => { results := [.lit (.bool true)], args := [d1, d2, d3] }
  | _ => none }
def frameBitRow : OpenClaim := { program := "ytemdhcocbjcklaa", sum := "1e8a5b28cf8a666506cf1437c49802d03ecf8c842ed4be7e527aa9bc31fc93ae", func := "weighlock/weighlocklaw08.FrameBit", spec := "frameBit", apart := false }
def FrameBitSaid : Prop := frameBitRow.holds Try.pinned (OpenSpec.ofChange frameBitSpec)

/-- ITS FALSE NEIGHBOUR: 'it returns false'. Refute it at one input. -/
def frameBitWrong : ChangeSpec := { name := "frameBit", fn := fun _ => fun
  | [d1, d2, d3] => { results := [.lit (.bool false)], args := [d1, d2, d3] }
  | _ => none }
def FrameBitWrongFalsely : Prop := frameBitRow.holds Try.pinned (OpenSpec.ofChange frameBitWrong)

/-- 'weighlocklaw08.FramePieces': WHATEVER THE INPUT: true; the input reads as it did. -/
def framePiecesSpec : ChangeSpec := { name := "framePieces", fn := fun _ => fun
  | [d1, d2] => { results := [.lit (.bool true)], args := [d1, d2] }
  | _ => none }
def framePiecesRow : OpenClaim := { program := "ytemdhcocbjcklaa", sum := "1e8a5b28cf8a666506cf1437c49802d03ecf8c842ed4be7e527aa9bc31fc93ae", func := "weighlock/weighlocklaw08.FramePieces", spec := "framePieces", inPlace := ["internal/abi.NoEscape", "internal/bytealg.MakeNoZero"], recurses := true, apart := false }
def FramePiecesSaid : Prop := framePiecesRow.holds Try.pinned (OpenSpec.ofChange framePiecesSpec)

/-- ITS FALSE NEIGHBOUR: 'it returns false'. Refute it at one input. -/
def framePiecesWrong : ChangeSpec := { name := "framePieces", fn := fun _ => fun
  | [d1, d2] => { results := [.lit (.bool false)], args := [d1, d2] }
  | _ => none }
def FramePiecesWrongFalsely : Prop := framePiecesRow.holds Try.pinned (OpenSpec.ofChange framePiecesWrong)

/-- 'weighlocklaw10.SuperCodes': WHATEVER THE INPUT: true; the input reads as it did. -/
def superCodesSpec : ChangeSpec := { name := "superCodes", fn := fun _ => fun
  | [d1, d2] => { results := [.lit (.bool true)], args := [d1, d2] }
  | _ => none }
def superCodesRow : OpenClaim := { program := "ytemdhcocbjcklaa", sum := "1e8a5b28cf8a666506cf1437c49802d03ecf8c842ed4be7e527aa9bc31fc93ae", func := "weighlock/weighlocklaw10.SuperCodes", spec := "superCodes", inPlace := ["internal/abi.NoEscape", "internal/bytealg.MakeNoZero"], apart := false }
def SuperCodesSaid : Prop := superCodesRow.holds Try.pinned (OpenSpec.ofChange superCodesSpec)

/-- ITS FALSE NEIGHBOUR: 'it returns false'. Refute it at one input. -/
def superCodesWrong : ChangeSpec := { name := "superCodes", fn := fun _ => fun
  | [d1, d2] => { results := [.lit (.bool false)], args := [d1, d2] }
  | _ => none }
def SuperCodesWrongFalsely : Prop := superCodesRow.holds Try.pinned (OpenSpec.ofChange superCodesWrong)

/-- 'weighlocklaw10.SuperPicks': WHATEVER THE INPUT: true; the input reads as it did. -/
def superPicksSpec : ChangeSpec := { name := "superPicks", fn := fun _ => fun
  | [d1, d2] => { results := [.lit (.bool true)], args := [d1, d2] }
  | _ => none }
def superPicksRow : OpenClaim := { program := "ytemdhcocbjcklaa", sum := "1e8a5b28cf8a666506cf1437c49802d03ecf8c842ed4be7e527aa9bc31fc93ae", func := "weighlock/weighlocklaw10.SuperPicks", spec := "superPicks", inPlace := ["internal/abi.NoEscape", "internal/bytealg.MakeNoZero"], apart := false }
def SuperPicksSaid : Prop := superPicksRow.holds Try.pinned (OpenSpec.ofChange superPicksSpec)

/-- ITS FALSE NEIGHBOUR: 'it returns false'. Refute it at one input. -/
def superPicksWrong : ChangeSpec := { name := "superPicks", fn := fun _ => fun
  | [d1, d2] => { results := [.lit (.bool false)], args := [d1, d2] }
  | _ => none }
def SuperPicksWrongFalsely : Prop := superPicksRow.holds Try.pinned (OpenSpec.ofChange superPicksWrong)

/-- 'weighlocklaw10.SuperLoads': WHATEVER THE INPUT: true; the input reads as it did. -/
def superLoadsSpec : ChangeSpec := { name := "superLoads", fn := fun _ => fun
  | [d1, d2, d3] => { results := [.lit (.bool true)], args := [d1, d2, d3] }
  | _ => none }
def superLoadsRow : OpenClaim := { program := "ytemdhcocbjcklaa", sum := "1e8a5b28cf8a666506cf1437c49802d03ecf8c842ed4be7e527aa9bc31fc93ae", func := "weighlock/weighlocklaw10.SuperLoads", spec := "superLoads", inPlace := ["internal/abi.NoEscape", "internal/bytealg.MakeNoZero"], unfollowed := true, recurses := true, apart := false }
def SuperLoadsSaid : Prop := superLoadsRow.holds Try.pinned (OpenSpec.ofChange superLoadsSpec)

/-- ITS FALSE NEIGHBOUR: 'it returns false'. Refute it at one input. -/
def superLoadsWrong : ChangeSpec := { name := "superLoads", fn := fun _ => fun
  | [d1, d2, d3] => { results := [.lit (.bool false)], args := [d1, d2, d3] }
  | _ => none }
def SuperLoadsWrongFalsely : Prop := superLoadsRow.holds Try.pinned (OpenSpec.ofChange superLoadsWrong)

/-- 'weighlocklaw10.SuperStores': WHATEVER THE INPUT: true; the input reads as it did. -/
def superStoresSpec : ChangeSpec := { name := "superStores", fn := fun _ => fun
  | [d1, d2, d3] => { results := [.lit (.bool true)], args := [d1, d2, d3] }
  | _ => none }
def superStoresRow : OpenClaim := { program := "ytemdhcocbjcklaa", sum := "1e8a5b28cf8a666506cf1437c49802d03ecf8c842ed4be7e527aa9bc31fc93ae", func := "weighlock/weighlocklaw10.SuperStores", spec := "superStores", inPlace := ["internal/abi.NoEscape", "internal/bytealg.MakeNoZero"], unfollowed := true, recurses := true, apart := false }
def SuperStoresSaid : Prop := superStoresRow.holds Try.pinned (OpenSpec.ofChange superStoresSpec)

/-- ITS FALSE NEIGHBOUR: 'it returns false'. Refute it at one input. -/
def superStoresWrong : ChangeSpec := { name := "superStores", fn := fun _ => fun
  | [d1, d2, d3] => { results := [.lit (.bool false)], args := [d1, d2, d3] }
  | _ => none }
def SuperStoresWrongFalsely : Prop := superStoresRow.holds Try.pinned (OpenSpec.ofChange superStoresWrong)

/- THE SECOND FORM. 'bulk': how many values and letters a reading holds, each counted each time it is reached (what is shared counts as often as it is met; a slice's spare places count too). A statement '..UptoSaid' is the law's where the arguments, and the package variables that the reading takes, are together of bulk at most 1048576: NARROWER than '..Said'. Prove '..Said' where nothing that the law and all that it calls make is longer than what came in: it says more and counts as full. Else prove '..UptoSaid'. A law counts once. -/
mutual
def uptoBulk {H : Type} : DataW H → Nat
  | .lit (.string bytes) => bytes.length + 1
  | .lit _ => 1
  | .nil => 1
  | .ptr d => uptoBulk d + 1
  | .slice elems spare => uptoBulkAll elems + uptoBulkAll spare + 1
  | .agg parts => uptoBulkAll parts + 1
  | .iface _ d => uptoBulk d + 1
  | .map entries => uptoBulkEntries entries + 1
  | .held _ => 1
def uptoBulkAll {H : Type} : List (DataW H) → Nat
  | [] => 0
  | d :: r => uptoBulk d + uptoBulkAll r
def uptoBulkEntries {H : Type} : List (Lit × DataW H) → Nat
  | [] => 0
  | x :: r => uptoBulkEntry x + uptoBulkEntries r
def uptoBulkEntry {H : Type} : Lit × DataW H → Nat
  | (.string bytes, d) => bytes.length + uptoBulk d + 1
  | (_, d) => uptoBulk d + 1
 end
def uptoSmall : (H : Type) → List (DataW H) → Bool := fun _ ds => decide (uptoBulkAll ds ≤ 1048576)
def OpenSpec.upto (s : _root_.Go.ChangeSpec) : _root_.Go.OpenSpec := { _root_.Go.OpenSpec.ofChange s with cond := some uptoSmall }

/-- 'weighlocklaw37.QueueActs', WHERE WHAT IT READS IS OF BULK AT MOST 1048576: true; the input reads as it did. -/
def queueActsUptoRow : OpenClaim := { program := "ytemdhcocbjcklaa", sum := "1e8a5b28cf8a666506cf1437c49802d03ecf8c842ed4be7e527aa9bc31fc93ae", func := "weighlock/weighlocklaw37.QueueActs", spec := "queueActs", apart := false, narrowed := true }
def QueueActsUptoSaid : Prop := queueActsUptoRow.holds Try.pinned (OpenSpec.upto queueActsSpec)

/-- 'weighlocklaw37.QueueNil', WHERE WHAT IT READS IS OF BULK AT MOST 1048576: true; the input reads as it did. -/
def queueNilUptoRow : OpenClaim := { program := "ytemdhcocbjcklaa", sum := "1e8a5b28cf8a666506cf1437c49802d03ecf8c842ed4be7e527aa9bc31fc93ae", func := "weighlock/weighlocklaw37.QueueNil", spec := "queueNil", apart := false, narrowed := true }
def QueueNilUptoSaid : Prop := queueNilUptoRow.holds Try.pinned (OpenSpec.upto queueNilSpec)

/-- 'weighlocklaw37.QueueKeeps', WHERE WHAT IT READS IS OF BULK AT MOST 1048576: true; the input reads as it did. -/
def queueKeepsUptoRow : OpenClaim := { program := "ytemdhcocbjcklaa", sum := "1e8a5b28cf8a666506cf1437c49802d03ecf8c842ed4be7e527aa9bc31fc93ae", func := "weighlock/weighlocklaw37.QueueKeeps", spec := "queueKeeps", apart := false, narrowed := true }
def QueueKeepsUptoSaid : Prop := queueKeepsUptoRow.holds Try.pinned (OpenSpec.upto queueKeepsSpec)

/-- 'weighlocklaw08.FrameEncodes', WHERE WHAT IT READS IS OF BULK AT MOST 1048576: true; the input reads as it did. -/
def frameEncodesUptoRow : OpenClaim := { program := "ytemdhcocbjcklaa", sum := "1e8a5b28cf8a666506cf1437c49802d03ecf8c842ed4be7e527aa9bc31fc93ae", func := "weighlock/weighlocklaw08.FrameEncodes", spec := "frameEncodes", apart := false, narrowed := true }
def FrameEncodesUptoSaid : Prop := frameEncodesUptoRow.holds Try.pinned (OpenSpec.upto frameEncodesSpec)

/-- 'weighlocklaw08.FrameDecodes', WHERE WHAT IT READS IS OF BULK AT MOST 1048576: true; the input reads as it did. -/
def frameDecodesUptoRow : OpenClaim := { program := "ytemdhcocbjcklaa", sum := "1e8a5b28cf8a666506cf1437c49802d03ecf8c842ed4be7e527aa9bc31fc93ae", func := "weighlock/weighlocklaw08.FrameDecodes", spec := "frameDecodes", apart := false, narrowed := true }
def FrameDecodesUptoSaid : Prop := frameDecodesUptoRow.holds Try.pinned (OpenSpec.upto frameDecodesSpec)

/-- 'weighlocklaw08.FrameBit', WHERE WHAT IT READS IS OF BULK AT MOST 1048576: true; the input reads as it did. -/
def frameBitUptoRow : OpenClaim := { program := "ytemdhcocbjcklaa", sum := "1e8a5b28cf8a666506cf1437c49802d03ecf8c842ed4be7e527aa9bc31fc93ae", func := "weighlock/weighlocklaw08.FrameBit", spec := "frameBit", apart := false, narrowed := true }
def FrameBitUptoSaid : Prop := frameBitUptoRow.holds Try.pinned (OpenSpec.upto frameBitSpec)

/-- 'weighlocklaw08.FramePieces', WHERE WHAT IT READS IS OF BULK AT MOST 1048576: true; the input reads as it did. -/
def framePiecesUptoRow : OpenClaim := { program := "ytemdhcocbjcklaa", sum := "1e8a5b28cf8a666506cf1437c49802d03ecf8c842ed4be7e527aa9bc31fc93ae", func := "weighlock/weighlocklaw08.FramePieces", spec := "framePieces", inPlace := ["internal/abi.NoEscape", "internal/bytealg.MakeNoZero"], recurses := true, apart := false, narrowed := true }
def FramePiecesUptoSaid : Prop := framePiecesUptoRow.holds Try.pinned (OpenSpec.upto framePiecesSpec)

/-- 'weighlocklaw10.SuperCodes', WHERE WHAT IT READS IS OF BULK AT MOST 1048576: true; the input reads as it did. -/
def superCodesUptoRow : OpenClaim := { program := "ytemdhcocbjcklaa", sum := "1e8a5b28cf8a666506cf1437c49802d03ecf8c842ed4be7e527aa9bc31fc93ae", func := "weighlock/weighlocklaw10.SuperCodes", spec := "superCodes", inPlace := ["internal/abi.NoEscape", "internal/bytealg.MakeNoZero"], apart := false, narrowed := true }
def SuperCodesUptoSaid : Prop := superCodesUptoRow.holds Try.pinned (OpenSpec.upto superCodesSpec)

/-- 'weighlocklaw10.SuperPicks', WHERE WHAT IT READS IS OF BULK AT MOST 1048576: true; the input reads as it did. -/
def superPicksUptoRow : OpenClaim := { program := "ytemdhcocbjcklaa", sum := "1e8a5b28cf8a666506cf1437c49802d03ecf8c842ed4be7e527aa9bc31fc93ae", func := "weighlock/weighlocklaw10.SuperPicks", spec := "superPicks", inPlace := ["internal/abi.NoEscape", "internal/bytealg.MakeNoZero"], apart := false, narrowed := true }
def SuperPicksUptoSaid : Prop := superPicksUptoRow.holds Try.pinned (OpenSpec.upto superPicksSpec)

/-- 'weighlocklaw10.SuperLoads', WHERE WHAT IT READS IS OF BULK AT MOST 1048576: true; the input reads as it did. -/
def superLoadsUptoRow : OpenClaim := { program := "ytemdhcocbjcklaa", sum := "1e8a5b28cf8a666506cf1437c49802d03ecf8c842ed4be7e527aa9bc31fc93ae", func := "weighlock/weighlocklaw10.SuperLoads", spec := "superLoads", inPlace := ["internal/abi.NoEscape", "internal/bytealg.MakeNoZero"], unfollowed := true, recurses := true, apart := false, narrowed := true }
def SuperLoadsUptoSaid : Prop := superLoadsUptoRow.holds Try.pinned (OpenSpec.upto superLoadsSpec)

/-- 'weighlocklaw10.SuperStores', WHERE WHAT IT READS IS OF BULK AT MOST 1048576: true; the input reads as it did. -/
def superStoresUptoRow : OpenClaim := { program := "ytemdhcocbjcklaa", sum := "1e8a5b28cf8a666506cf1437c49802d03ecf8c842ed4be7e527aa9bc31fc93ae", func := "weighlock/weighlocklaw10.SuperStores", spec := "superStores", inPlace := ["internal/abi.NoEscape", "internal/bytealg.MakeNoZero"], unfollowed := true, recurses := true, apart := false, narrowed := true }
def SuperStoresUptoSaid : Prop := superStoresUptoRow.holds Try.pinned (OpenSpec.upto superStoresSpec)

end Rows
end Go.Proofs.Ytemdhcocbjcklaa
