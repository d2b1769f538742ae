-- Laid by programs of this session (myprint.py, post.py) out of the translation.
import Derived.Test.YtfegehfdbcnepaaProg
import Derived.Below
import Derived.Deep.Draws
import Derived.Deep.AppendLies
import Derived.Maps.AppendAt
import Derived.OwnWalk
import Derived.Laws.BytesArg
import Derived.Laws.MakeOwn
import Derived.Laws.OwnMore
import Derived.Deep.OwnRows
import Derived.Tactics
import Derived.Lib.ConvBytes
import Derived.Laws.Slices
import Derived.WalkKit
import Derived.KernelRfl
import Derived.RowKit3
import Derived.Deep.LoopGhost
import Derived.Deep.QuietTactic
import Derived.BigQuiet
import Derived.WideLaws
import Derived.Deep.DeepCutAuto
import Derived.Deep.CutBlock
import Derived.Deep.RegionHeld3
import Derived.Laws.Rows
import Derived.Lib.AppendStr
import Derived.ArgAppend
import Derived.Laws.IdiomCopy
import Derived.OrdersHeld
import Derived.Laws.BitsLemmas
import Derived.RowKit
import Derived.Test.YtfegehfdbcnepaaWWords
import Derived.Test.YtfegehfdbcnepaaWLast
import Derived.Test.YtfegehfdbcnepaaWTab
import Derived.Test.YtfegehfdbcnepaaWFour
import Derived.Test.YtfegehfdbcnepaaWQPut
import Derived.Test.YtfegehfdbcnepaaWApart
import Derived.Test.YtfegehfdbcnepaaWArr
import Derived.Test.YtfegehfdbcnepaaWZeros
import Derived.Test.YtfegehfdbcnepaaWFoot
import Derived.Test.YtfegehfdbcnepaaWKept
import Derived.Test.YtfegehfdbcnepaaWShare
import Derived.Test.YtfegehfdbcnepaaWN
import Derived.Test.YtfegehfdbcnepaaWFootNe
import Derived.Test.YtfegehfdbcnepaaWAt
import Derived.Test.YtfegehfdbcnepaaWEqStruct
import Derived.Test.YtfegehfdbcnepaaWRepsOne
import Derived.Test.YtfegehfdbcnepaaWInv
import Derived.Test.YtfegehfdbcnepaaWInvWords
import Derived.Test.YtfegehfdbcnepaaWGuard
import Derived.Test.YtfegehfdbcnepaaWNEv
import Derived.Test.YtfegehfdbcnepaaWMore
import Derived.Test.YtfegehfdbcnepaaVWords
namespace Go.Proofs.Ytfegehfdbcnepaa.PAll
open Go.RowKit Go.Proofs.YtfegehfdbcnepaaW.PrintWords Go.Proofs.YtfegehfdbcnepaaW.PrintLast Go.Proofs.YtfegehfdbcnepaaW.PrintMore
attribute [local go_sem] max2_int min2_int max_two min_two max_three min_three max_four min_four   -- for this text's walks alone
set_option linter.unusedVariables false
set_option linter.unusedSimpArgs false



def errW : Option Int → Value
  | none => .nilIface
  | some c => .iface 0 (.int .i64 c)
theorem errW_none : errW none = .nilIface := rfl
theorem errW_some (c : Int) : errW (some c) = .iface 0 (.int .i64 c) := rfl

theorem info5 : (Try.prog.info? 5).map (fun i => (i.zero, i.size, i.bytes)) = some (some (.int .u8 0), 1, 1) := by kernel_rfl
theorem info9 : (Try.prog.info? 9).map (fun i => (i.zero, i.size, i.bytes)) = some (some (.string ⟨#[]⟩), 1, 16) := by kernel_rfl
-- the values' own types


end Go.Proofs.Ytfegehfdbcnepaa.PAll
