-- Printed by the kit's print and mended by this session's program: no print of the kit.
import Derived.Test.YtacmheeodhjlbaaProg
import Derived.Below
import Derived.Deep.Draws
import Derived.Deep.AppendLies
import Derived.Maps.AppendAt
import Derived.OwnWalk
import Derived.Laws.BytesArg
import Derived.Laws.MakeOwn
import Derived.Laws.OwnMore
import Derived.Deep.OwnRows
import Derived.Tactics
import Derived.Lib.ConvBytes
import Derived.Laws.Slices
import Derived.WalkKit
import Derived.KernelRfl
import Derived.RowKit3
import Derived.Deep.LoopGhost
import Derived.Deep.QuietTactic
import Derived.BigQuiet
import Derived.WideLaws
import Derived.Deep.DeepCutAuto
import Derived.Deep.CutBlock
import Derived.Deep.RegionHeld3
import Derived.Laws.Rows
import Derived.Lib.AppendStr
import Derived.ArgAppend
import Derived.Laws.IdiomCopy
import Derived.OrdersHeld
import Derived.Laws.BitsLemmas
import Derived.RowKit
import Derived.Test.YtacmheeodhjlbaaWWords
import Derived.Test.YtacmheeodhjlbaaWLast
import Derived.Test.YtacmheeodhjlbaaWTab
import Derived.Test.YtacmheeodhjlbaaWFour
import Derived.Test.YtacmheeodhjlbaaWQPut
import Derived.Test.YtacmheeodhjlbaaWApart
import Derived.Test.YtacmheeodhjlbaaWArr
import Derived.Test.YtacmheeodhjlbaaWZeros
import Derived.Test.YtacmheeodhjlbaaWFoot
import Derived.Test.YtacmheeodhjlbaaWKept
import Derived.Test.YtacmheeodhjlbaaWShare
import Derived.Test.YtacmheeodhjlbaaWN
import Derived.Test.YtacmheeodhjlbaaWFootNe
import Derived.Test.YtacmheeodhjlbaaWAt
import Derived.Test.YtacmheeodhjlbaaWEqStruct
import Derived.Test.YtacmheeodhjlbaaWRepsOne
import Derived.Test.YtacmheeodhjlbaaWInv
import Derived.Test.YtacmheeodhjlbaaWInvWords
import Derived.Test.YtacmheeodhjlbaaWGuard
import Derived.Test.YtacmheeodhjlbaaWNEv
import Derived.Test.YtacmheeodhjlbaaWMore
namespace Go.Proofs.Ytacmheeodhjlbaa.PCheckedLists
open Go.RowKit Go.Proofs.YtacmheeodhjlbaaW.PrintWords Go.Proofs.YtacmheeodhjlbaaW.PrintLast Go.Proofs.YtacmheeodhjlbaaW.PrintMore
attribute [local go_sem] max2_int min2_int max_two min_two max_three min_three max_four min_four   -- for this text's walks alone
set_option linter.unusedVariables false
set_option linter.unusedSimpArgs false



def errW : Option Int → Value
  | none => .nilIface
  | some c => .iface 0 (.int .i64 c)
theorem errW_none : errW none = .nilIface := rfl
theorem errW_some (c : Int) : errW (some c) = .iface 0 (.int .i64 c) := rfl

theorem info2 : (Try.prog.info? 2).map (fun i => (i.zero, i.size, i.bytes)) = some (some (.int .i64 0), 1, 8) := by kernel_rfl
theorem info3 : (Try.prog.info? 3).map (fun i => (i.zero, i.size, i.bytes)) = some (some (.int .i64 0), 1, 8) := by kernel_rfl
-- the values' own types

end Go.Proofs.Ytacmheeodhjlbaa.PCheckedLists
