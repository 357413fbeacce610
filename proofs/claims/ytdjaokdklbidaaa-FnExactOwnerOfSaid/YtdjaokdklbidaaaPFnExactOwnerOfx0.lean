-- PRINTED BY print.sh 35421559b90ae4d0a3588c463048766b98c2df88dd9212a6774a882060cdf62d: not written by this session
import Derived.Test.YtdjaokdklbidaaaProg
import Derived.Below
import Derived.Deep.Draws
import Derived.Deep.AppendLies
import Derived.Maps.AppendAt
import Derived.OwnWalk
import Derived.Laws.BytesArg
import Derived.Laws.MakeOwn
import Derived.Laws.OwnMore
import Derived.Deep.OwnRows
import Derived.Tactics
import Derived.Lib.ConvBytes
import Derived.Laws.Slices
import Derived.WalkKit
import Derived.KernelRfl
import Derived.RowKit3
import Derived.Deep.LoopGhost
import Derived.Deep.QuietTactic
import Derived.BigQuiet
import Derived.WideLaws
import Derived.Deep.DeepCutAuto
import Derived.Deep.CutBlock
import Derived.Deep.RegionHeld3
import Derived.Laws.Rows
import Derived.Lib.AppendStr
import Derived.ArgAppend
import Derived.Laws.IdiomCopy
import Derived.OrdersHeld
import Derived.Laws.BitsLemmas
import Derived.RowKit
import Derived.Test.YtdjaokdklbidaaaWWords
import Derived.Test.YtdjaokdklbidaaaWLast
import Derived.Test.YtdjaokdklbidaaaWTab
import Derived.Test.YtdjaokdklbidaaaWFour
import Derived.Test.YtdjaokdklbidaaaWQPut
import Derived.Test.YtdjaokdklbidaaaWApart
import Derived.Test.YtdjaokdklbidaaaWArr
import Derived.Test.YtdjaokdklbidaaaWZeros
import Derived.Test.YtdjaokdklbidaaaWFoot
import Derived.Test.YtdjaokdklbidaaaWKept
import Derived.Test.YtdjaokdklbidaaaWShare
import Derived.Test.YtdjaokdklbidaaaWN
import Derived.Test.YtdjaokdklbidaaaWFootNe
import Derived.Test.YtdjaokdklbidaaaWAt
import Derived.Test.YtdjaokdklbidaaaWEqStruct
import Derived.Test.YtdjaokdklbidaaaWRepsOne
import Derived.Test.YtdjaokdklbidaaaWInv
import Derived.Test.YtdjaokdklbidaaaWInvWords
import Derived.Test.YtdjaokdklbidaaaWGuard
import Derived.Test.YtdjaokdklbidaaaWNEv
import Derived.Test.YtdjaokdklbidaaaWMore
namespace Go.Proofs.Ytdjaokdklbidaaa.PFnExactOwnerOf
open Go.RowKit Go.Proofs.YtdjaokdklbidaaaW.PrintWords Go.Proofs.YtdjaokdklbidaaaW.PrintLast Go.Proofs.YtdjaokdklbidaaaW.PrintMore
attribute [local go_sem] max2_int min2_int max_two min_two max_three min_three max_four min_four   -- for this text's walks alone
set_option linter.unusedVariables false
set_option linter.unusedSimpArgs false



def errW : Option Int → Value
  | none => .nilIface
  | some c => .iface 0 (.int .i64 c)
theorem errW_none : errW none = .nilIface := rfl
theorem errW_some (c : Int) : errW (some c) = .iface 0 (.int .i64 c) := rfl

theorem info3 : (Try.prog.info? 3).map (fun i => (i.zero, i.size, i.bytes)) = some (some (.int .i64 0), 1, 8) := by kernel_rfl
-- the values' own types

end Go.Proofs.Ytdjaokdklbidaaa.PFnExactOwnerOf
