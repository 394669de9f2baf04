-- Written by myprint.py, a program of this claim's own over the kit's printer: each function as a plain Lean function, and that the call comes to what it tells.
import Derived.Test.YtemdhcocbjcklaaProg
import Derived.Below
import Derived.Deep.Draws
import Derived.Deep.AppendLies
import Derived.Maps.AppendAt
import Derived.OwnWalk
import Derived.Laws.BytesArg
import Derived.Laws.MakeOwn
import Derived.Laws.OwnMore
import Derived.Deep.OwnRows
import Derived.Tactics
import Derived.Lib.ConvBytes
import Derived.Laws.Slices
import Derived.WalkKit
import Derived.KernelRfl
import Derived.RowKit3
import Derived.Deep.LoopGhost
import Derived.Deep.QuietTactic
import Derived.BigQuiet
import Derived.WideLaws
import Derived.Deep.DeepCutAuto
import Derived.Deep.CutBlock
import Derived.Deep.RegionHeld3
import Derived.Laws.Rows
import Derived.Lib.AppendStr
import Derived.ArgAppend
import Derived.Laws.IdiomCopy
import Derived.OrdersHeld
import Derived.Laws.BitsLemmas
import Derived.RowKit
import Derived.Test.YtemdhcocbjcklaaRefs
import Derived.Test.YtemdhcocbjcklaaWWords
import Derived.Test.YtemdhcocbjcklaaWLast
import Derived.Test.YtemdhcocbjcklaaWTab
import Derived.Test.YtemdhcocbjcklaaWFour
import Derived.Test.YtemdhcocbjcklaaWQPut
import Derived.Test.YtemdhcocbjcklaaWApart
import Derived.Test.YtemdhcocbjcklaaWArr
import Derived.Test.YtemdhcocbjcklaaWZeros
import Derived.Test.YtemdhcocbjcklaaWFoot
import Derived.Test.YtemdhcocbjcklaaWKept
import Derived.Test.YtemdhcocbjcklaaWShare
import Derived.Test.YtemdhcocbjcklaaWN
import Derived.Test.YtemdhcocbjcklaaWFootNe
import Derived.Test.YtemdhcocbjcklaaWAt
import Derived.Test.YtemdhcocbjcklaaWEqStruct
import Derived.Test.YtemdhcocbjcklaaWRepsOne
import Derived.Test.YtemdhcocbjcklaaWInv
import Derived.Test.YtemdhcocbjcklaaWInvWords
import Derived.Test.YtemdhcocbjcklaaWGuard
import Derived.Test.YtemdhcocbjcklaaWNEv
import Derived.Test.YtemdhcocbjcklaaWMore
namespace Go.Proofs.Ytemdhcocbjcklaa.Pre
open Go.RowKit Go.Proofs.YtemdhcocbjcklaaW.PrintWords Go.Proofs.YtemdhcocbjcklaaW.PrintLast Go.Proofs.YtemdhcocbjcklaaW.PrintMore Go.Proofs.Ytemdhcocbjcklaa.Print
attribute [local go_sem] max2_int min2_int max_two min_two max_three min_three max_four min_four   -- for this text's walks alone
set_option linter.unusedVariables false
set_option linter.unusedSimpArgs false



def errW : Option Int → Value
  | none => .nilIface
  | some c => .iface 0 (.int .i64 c)
theorem errW_none : errW none = .nilIface := rfl
theorem errW_some (c : Int) : errW (some c) = .iface 0 (.int .i64 c) := rfl

theorem info5 : (Try.prog.info? 5).map (fun i => (i.zero, i.size, i.bytes)) = some (some (.int .u8 0), 1, 1) := by kernel_rfl
-- the values' own types

end Go.Proofs.Ytemdhcocbjcklaa.Pre
