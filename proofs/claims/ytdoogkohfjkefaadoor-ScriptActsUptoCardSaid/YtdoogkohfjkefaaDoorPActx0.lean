-- PRINTED BY print.sh 35421559b90ae4d0a3588c463048766b98c2df88dd9212a6774a882060cdf62d: not written by this session
import Derived.Test.YtdoogkohfjkefaaDoorProg
import Derived.Below
import Derived.Deep.Draws
import Derived.Deep.AppendLies
import Derived.Maps.AppendAt
import Derived.OwnWalk
import Derived.Laws.BytesArg
import Derived.Laws.MakeOwn
import Derived.Laws.OwnMore
import Derived.Deep.OwnRows
import Derived.Tactics
import Derived.Lib.ConvBytes
import Derived.Laws.Slices
import Derived.WalkKit
import Derived.KernelRfl
import Derived.RowKit3
import Derived.Deep.LoopGhost
import Derived.Deep.QuietTactic
import Derived.BigQuiet
import Derived.WideLaws
import Derived.Deep.DeepCutAuto
import Derived.Deep.CutBlock
import Derived.Deep.RegionHeld3
import Derived.Laws.Rows
import Derived.Lib.AppendStr
import Derived.ArgAppend
import Derived.Laws.IdiomCopy
import Derived.OrdersHeld
import Derived.Laws.BitsLemmas
import Derived.RowKit
import Derived.Test.YtdoogkohfjkefaaDoorWWords
import Derived.Test.YtdoogkohfjkefaaDoorWLast
import Derived.Test.YtdoogkohfjkefaaDoorWTab
import Derived.Test.YtdoogkohfjkefaaDoorWFour
import Derived.Test.YtdoogkohfjkefaaDoorWQPut
import Derived.Test.YtdoogkohfjkefaaDoorWApart
import Derived.Test.YtdoogkohfjkefaaDoorWArr
import Derived.Test.YtdoogkohfjkefaaDoorWZeros
import Derived.Test.YtdoogkohfjkefaaDoorWFoot
import Derived.Test.YtdoogkohfjkefaaDoorWKept
import Derived.Test.YtdoogkohfjkefaaDoorWShare
import Derived.Test.YtdoogkohfjkefaaDoorWN
import Derived.Test.YtdoogkohfjkefaaDoorWFootNe
import Derived.Test.YtdoogkohfjkefaaDoorWAt
import Derived.Test.YtdoogkohfjkefaaDoorWEqStruct
import Derived.Test.YtdoogkohfjkefaaDoorWRepsOne
import Derived.Test.YtdoogkohfjkefaaDoorWInv
import Derived.Test.YtdoogkohfjkefaaDoorWInvWords
import Derived.Test.YtdoogkohfjkefaaDoorWGuard
import Derived.Test.YtdoogkohfjkefaaDoorWNEv
import Derived.Test.YtdoogkohfjkefaaDoorWMore
namespace Go.Proofs.YtdoogkohfjkefaaDoor.PAct
open Go.RowKit Go.Proofs.YtdoogkohfjkefaaDoorW.PrintWords Go.Proofs.YtdoogkohfjkefaaDoorW.PrintLast Go.Proofs.YtdoogkohfjkefaaDoorW.PrintMore
attribute [local go_sem] max2_int min2_int max_two min_two max_three min_three max_four min_four   -- for this text's walks alone
set_option linter.unusedVariables false
set_option linter.unusedSimpArgs false



def errW : Option Int → Value
  | none => .nilIface
  | some c => .iface 0 (.int .i64 c)
theorem errW_none : errW none = .nilIface := rfl
theorem errW_some (c : Int) : errW (some c) = .iface 0 (.int .i64 c) := rfl

theorem info9 : (Tryd.prog.info? 9).map (fun i => (i.zero, i.size, i.bytes)) = some (some (.string ⟨#[]⟩), 1, 16) := by kernel_rfl
-- the values' own types

end Go.Proofs.YtdoogkohfjkefaaDoor.PAct
