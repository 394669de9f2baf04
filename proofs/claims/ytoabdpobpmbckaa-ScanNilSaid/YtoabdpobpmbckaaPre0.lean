-- Written by myprint.py, a program of this claim's own over the kit's printer: each function as a plain Lean function, and that the call comes to what it tells.
import Derived.Test.YtoabdpobpmbckaaProg
import Derived.Below
import Derived.Deep.Draws
import Derived.Deep.AppendLies
import Derived.Maps.AppendAt
import Derived.OwnWalk
import Derived.Laws.BytesArg
import Derived.Laws.MakeOwn
import Derived.Laws.OwnMore
import Derived.Deep.OwnRows
import Derived.Tactics
import Derived.Lib.ConvBytes
import Derived.Laws.Slices
import Derived.WalkKit
import Derived.KernelRfl
import Derived.RowKit3
import Derived.Deep.LoopGhost
import Derived.Deep.QuietTactic
import Derived.BigQuiet
import Derived.WideLaws
import Derived.Deep.DeepCutAuto
import Derived.Deep.CutBlock
import Derived.Deep.RegionHeld3
import Derived.Laws.Rows
import Derived.Lib.AppendStr
import Derived.ArgAppend
import Derived.Laws.IdiomCopy
import Derived.OrdersHeld
import Derived.Laws.BitsLemmas
import Derived.RowKit
import Derived.Test.YtoabdpobpmbckaaFrame
import Derived.Test.YtoabdpobpmbckaaWWords
import Derived.Test.YtoabdpobpmbckaaWLast
import Derived.Test.YtoabdpobpmbckaaWTab
import Derived.Test.YtoabdpobpmbckaaWFour
import Derived.Test.YtoabdpobpmbckaaWQPut
import Derived.Test.YtoabdpobpmbckaaWApart
import Derived.Test.YtoabdpobpmbckaaWArr
import Derived.Test.YtoabdpobpmbckaaWZeros
import Derived.Test.YtoabdpobpmbckaaWFoot
import Derived.Test.YtoabdpobpmbckaaWKept
import Derived.Test.YtoabdpobpmbckaaWShare
import Derived.Test.YtoabdpobpmbckaaWN
import Derived.Test.YtoabdpobpmbckaaWFootNe
import Derived.Test.YtoabdpobpmbckaaWAt
import Derived.Test.YtoabdpobpmbckaaWEqStruct
import Derived.Test.YtoabdpobpmbckaaWRepsOne
import Derived.Test.YtoabdpobpmbckaaWInv
import Derived.Test.YtoabdpobpmbckaaWInvWords
import Derived.Test.YtoabdpobpmbckaaWGuard
import Derived.Test.YtoabdpobpmbckaaWNEv
import Derived.Test.YtoabdpobpmbckaaWMore
namespace Go.Proofs.Ytoabdpobpmbckaa.Pre
open Go.RowKit Go.Proofs.YtoabdpobpmbckaaW.PrintWords Go.Proofs.YtoabdpobpmbckaaW.PrintLast Go.Proofs.YtoabdpobpmbckaaW.PrintMore Go.Proofs.Ytoabdpobpmbckaa.Print
attribute [local go_sem] max2_int min2_int max_two min_two max_three min_three max_four min_four   -- for this text's walks alone
set_option linter.unusedVariables false
set_option linter.unusedSimpArgs false



def errW : Option Int → Value
  | none => .nilIface
  | some c => .iface 0 (.int .i64 c)
theorem errW_none : errW none = .nilIface := rfl
theorem errW_some (c : Int) : errW (some c) = .iface 0 (.int .i64 c) := rfl

theorem info5 : (Try.prog.info? 5).map (fun i => (i.zero, i.size, i.bytes)) = some (some (.int .u8 0), 1, 1) := by kernel_rfl
-- the values' own types

end Go.Proofs.Ytoabdpobpmbckaa.Pre
