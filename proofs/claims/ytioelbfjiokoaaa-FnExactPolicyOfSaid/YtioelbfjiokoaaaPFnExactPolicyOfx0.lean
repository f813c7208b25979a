-- PRINTED BY print.sh 35421559b90ae4d0a3588c463048766b98c2df88dd9212a6774a882060cdf62d: not written by this session
import Derived.Test.YtioelbfjiokoaaaProg
import Derived.Below
import Derived.Deep.Draws
import Derived.Deep.AppendLies
import Derived.Maps.AppendAt
import Derived.OwnWalk
import Derived.Laws.BytesArg
import Derived.Laws.MakeOwn
import Derived.Laws.OwnMore
import Derived.Deep.OwnRows
import Derived.Tactics
import Derived.Lib.ConvBytes
import Derived.Laws.Slices
import Derived.WalkKit
import Derived.KernelRfl
import Derived.RowKit3
import Derived.Deep.LoopGhost
import Derived.Deep.QuietTactic
import Derived.BigQuiet
import Derived.WideLaws
import Derived.Deep.DeepCutAuto
import Derived.Deep.CutBlock
import Derived.Deep.RegionHeld3
import Derived.Laws.Rows
import Derived.Lib.AppendStr
import Derived.ArgAppend
import Derived.Laws.IdiomCopy
import Derived.OrdersHeld
import Derived.Laws.BitsLemmas
import Derived.RowKit
import Derived.Test.YtioelbfjiokoaaaWWords
import Derived.Test.YtioelbfjiokoaaaWLast
import Derived.Test.YtioelbfjiokoaaaWTab
import Derived.Test.YtioelbfjiokoaaaWFour
import Derived.Test.YtioelbfjiokoaaaWQPut
import Derived.Test.YtioelbfjiokoaaaWApart
import Derived.Test.YtioelbfjiokoaaaWArr
import Derived.Test.YtioelbfjiokoaaaWZeros
import Derived.Test.YtioelbfjiokoaaaWFoot
import Derived.Test.YtioelbfjiokoaaaWKept
import Derived.Test.YtioelbfjiokoaaaWShare
import Derived.Test.YtioelbfjiokoaaaWN
import Derived.Test.YtioelbfjiokoaaaWFootNe
import Derived.Test.YtioelbfjiokoaaaWAt
import Derived.Test.YtioelbfjiokoaaaWEqStruct
import Derived.Test.YtioelbfjiokoaaaWRepsOne
import Derived.Test.YtioelbfjiokoaaaWInv
import Derived.Test.YtioelbfjiokoaaaWInvWords
import Derived.Test.YtioelbfjiokoaaaWGuard
import Derived.Test.YtioelbfjiokoaaaWNEv
import Derived.Test.YtioelbfjiokoaaaWMore
namespace Go.Proofs.Ytioelbfjiokoaaa.PFnExactPolicyOf
open Go.RowKit Go.Proofs.YtioelbfjiokoaaaW.PrintWords Go.Proofs.YtioelbfjiokoaaaW.PrintLast Go.Proofs.YtioelbfjiokoaaaW.PrintMore
attribute [local go_sem] max2_int min2_int max_two min_two max_three min_three max_four min_four   -- for this text's walks alone
set_option linter.unusedVariables false
set_option linter.unusedSimpArgs false



def errW : Option Int → Value
  | none => .nilIface
  | some c => .iface 0 (.int .i64 c)
theorem errW_none : errW none = .nilIface := rfl
theorem errW_some (c : Int) : errW (some c) = .iface 0 (.int .i64 c) := rfl

theorem info9 : (Try.prog.info? 9).map (fun i => (i.zero, i.size, i.bytes)) = some (some (.string ⟨#[]⟩), 1, 16) := by kernel_rfl
-- the values' own types

end Go.Proofs.Ytioelbfjiokoaaa.PFnExactPolicyOf
