-- PRINTED BY print.sh 35421559b90ae4d0a3588c463048766b98c2df88dd9212a6774a882060cdf62d: not written by this session
import Derived.Test.YtbnpmhlfbpoaaaaProg
import Derived.Below
import Derived.Deep.Draws
import Derived.Deep.AppendLies
import Derived.Maps.AppendAt
import Derived.OwnWalk
import Derived.Laws.BytesArg
import Derived.Laws.MakeOwn
import Derived.Laws.OwnMore
import Derived.Deep.OwnRows
import Derived.Tactics
import Derived.Lib.ConvBytes
import Derived.Laws.Slices
import Derived.WalkKit
import Derived.KernelRfl
import Derived.RowKit3
import Derived.Deep.LoopGhost
import Derived.Deep.QuietTactic
import Derived.BigQuiet
import Derived.WideLaws
import Derived.Deep.DeepCutAuto
import Derived.Deep.CutBlock
import Derived.Deep.RegionHeld3
import Derived.Laws.Rows
import Derived.Lib.AppendStr
import Derived.ArgAppend
import Derived.Laws.IdiomCopy
import Derived.OrdersHeld
import Derived.Laws.BitsLemmas
import Derived.RowKit
import Derived.Test.YtbnpmhlfbpoaaaaWWords
import Derived.Test.YtbnpmhlfbpoaaaaWLast
import Derived.Test.YtbnpmhlfbpoaaaaWTab
import Derived.Test.YtbnpmhlfbpoaaaaWFour
import Derived.Test.YtbnpmhlfbpoaaaaWQPut
import Derived.Test.YtbnpmhlfbpoaaaaWApart
import Derived.Test.YtbnpmhlfbpoaaaaWArr
import Derived.Test.YtbnpmhlfbpoaaaaWZeros
import Derived.Test.YtbnpmhlfbpoaaaaWFoot
import Derived.Test.YtbnpmhlfbpoaaaaWKept
import Derived.Test.YtbnpmhlfbpoaaaaWShare
import Derived.Test.YtbnpmhlfbpoaaaaWN
import Derived.Test.YtbnpmhlfbpoaaaaWFootNe
import Derived.Test.YtbnpmhlfbpoaaaaWAt
import Derived.Test.YtbnpmhlfbpoaaaaWEqStruct
import Derived.Test.YtbnpmhlfbpoaaaaWRepsOne
import Derived.Test.YtbnpmhlfbpoaaaaWInv
import Derived.Test.YtbnpmhlfbpoaaaaWInvWords
import Derived.Test.YtbnpmhlfbpoaaaaWGuard
import Derived.Test.YtbnpmhlfbpoaaaaWNEv
import Derived.Test.YtbnpmhlfbpoaaaaWMore
namespace Go.Proofs.Ytbnpmhlfbpoaaaa.PPursePlays
open Go.RowKit Go.Proofs.YtbnpmhlfbpoaaaaW.PrintWords Go.Proofs.YtbnpmhlfbpoaaaaW.PrintLast Go.Proofs.YtbnpmhlfbpoaaaaW.PrintMore
attribute [local go_sem] max2_int min2_int max_two min_two max_three min_three max_four min_four   -- for this text's walks alone
set_option linter.unusedVariables false
set_option linter.unusedSimpArgs false



def errW : Option Int → Value
  | none => .nilIface
  | some c => .iface 0 (.int .i64 c)
theorem errW_none : errW none = .nilIface := rfl
theorem errW_some (c : Int) : errW (some c) = .iface 0 (.int .i64 c) := rfl

-- the values' own types

end Go.Proofs.Ytbnpmhlfbpoaaaa.PPursePlays
