-- Written by a program of this session, over the kit's print: Lean checks it.
import Derived.Test.YtakibdcemgahaaaProg
import Derived.Below
import Derived.Deep.Draws
import Derived.Deep.AppendLies
import Derived.Maps.AppendAt
import Derived.OwnWalk
import Derived.Laws.BytesArg
import Derived.Laws.MakeOwn
import Derived.Laws.OwnMore
import Derived.Deep.OwnRows
import Derived.Tactics
import Derived.Lib.ConvBytes
import Derived.Laws.Slices
import Derived.WalkKit
import Derived.KernelRfl
import Derived.RowKit3
import Derived.Deep.LoopGhost
import Derived.Deep.QuietTactic
import Derived.BigQuiet
import Derived.WideLaws
import Derived.Deep.DeepCutAuto
import Derived.Deep.CutBlock
import Derived.Deep.RegionHeld3
import Derived.Laws.Rows
import Derived.Lib.AppendStr
import Derived.ArgAppend
import Derived.Laws.IdiomCopy
import Derived.OrdersHeld
import Derived.Laws.BitsLemmas
import Derived.RowKit
import Derived.Test.YtakibdcemgahaaaWWords
import Derived.Test.YtakibdcemgahaaaWLast
import Derived.Test.YtakibdcemgahaaaWTab
import Derived.Test.YtakibdcemgahaaaWFour
import Derived.Test.YtakibdcemgahaaaWQPut
import Derived.Test.YtakibdcemgahaaaWApart
import Derived.Test.YtakibdcemgahaaaWArr
import Derived.Test.YtakibdcemgahaaaWZeros
import Derived.Test.YtakibdcemgahaaaWFoot
import Derived.Test.YtakibdcemgahaaaWKept
import Derived.Test.YtakibdcemgahaaaWShare
import Derived.Test.YtakibdcemgahaaaWN
import Derived.Test.YtakibdcemgahaaaWFootNe
import Derived.Test.YtakibdcemgahaaaWAt
import Derived.Test.YtakibdcemgahaaaWEqStruct
import Derived.Test.YtakibdcemgahaaaWRepsOne
import Derived.Test.YtakibdcemgahaaaWInv
import Derived.Test.YtakibdcemgahaaaWInvWords
import Derived.Test.YtakibdcemgahaaaWGuard
import Derived.Test.YtakibdcemgahaaaWNEv
import Derived.Test.YtakibdcemgahaaaWMore
namespace Go.Proofs.Ytakibdcemgahaaa.QC
open Go.RowKit Go.Proofs.YtakibdcemgahaaaW.PrintWords Go.Proofs.YtakibdcemgahaaaW.PrintLast Go.Proofs.YtakibdcemgahaaaW.PrintMore
attribute [local go_sem] max2_int min2_int max_two min_two max_three min_three max_four min_four   -- for this text's walks alone
set_option linter.unusedVariables false
set_option linter.unusedSimpArgs false



def errW : Option Int → Value
  | none => .nilIface
  | some c => .iface 0 (.int .i64 c)
theorem errW_none : errW none = .nilIface := rfl
theorem errW_some (c : Int) : errW (some c) = .iface 0 (.int .i64 c) := rfl

-- the values' own types

end Go.Proofs.Ytakibdcemgahaaa.QC
