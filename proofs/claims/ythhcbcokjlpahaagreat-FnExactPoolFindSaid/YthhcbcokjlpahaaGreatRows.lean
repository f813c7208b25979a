/-
  No cell of these rows narrows 'for every input' (looked for: loops, veiled, ifaces, maps, wideKeys, modest, calm, conditions, laid).
  DERIVED. THE GIVEN ROWS OF THIS SEAT. 12 by the template 'for every input the law returns true; each argument reads behind the call as it read before'; 0 by the template 'total and deterministic' (their statements: YthhcbcokjlpahaaGreatTotals.lean).
  GIVEN WITH THE SEED: the statements are not yours to turn. If you find one false, say at which input.
  Laid BY PROGRAM, IN A SANDBOX (cutbox-rows.mjs): the forced cells as the released guide's own fill.sh prints them over the translation 6335fa119fd92edc… (all of the seat's roots in one cut). By AI agents, Wed Nov 11 2026. No macro, syntax, notation, axiom, sorry.
-/
import Derived.Test.YthhcbcokjlpahaaGreatChecked
import GoSem.Claim
import GoSem.ClaimJoined
import GoSem.ClaimMapViews
import Derived.JoinedTies
import Derived.KernelRfl
namespace Go.Proofs.YthhcbcokjlpahaaGreat
/- THE CELL 'sum', in the pinned program and in every row, IS THE sha256 OF THE DUMP (.gsa) THAT YthhcbcokjlpahaaGreatProg.lean LOADS. Nothing in Lean hashes anything: it is a label: what it is worth is what the hold of that sum in a sandbox is worth. -/
noncomputable def Tryz.pinned : Pinned := { name := "ythhcbcokjlpahaagreat", sum := "6335fa119fd92edc8b603c8828ae9ee02148c330b14144a3cb593f3ddd970ac7", checked := Tryz.checked }
namespace Rows
def none {H : Type} : Left H := { results := [], args := [] }

/-- 'laws.FnExactPoolStat': WHATEVER THE INPUT: true; the input reads as it did. -/
def fnExactPoolStatSpec : ChangeSpec := { name := "fnExactPoolStat", fn := fun _ => fun
  | [d1, d2] => { results := [.lit (.bool true)], args := [d1, d2] }
  | _ => none }
def fnExactPoolStatRow : OpenClaim := { program := "ythhcbcokjlpahaagreat", sum := "6335fa119fd92edc8b603c8828ae9ee02148c330b14144a3cb593f3ddd970ac7", func := "loop.example/g00483/laws.FnExactPoolStat", spec := "fnExactPoolStat", inPlace := ["internal/abi.NoEscape", "internal/bytealg.MakeNoZero", "internal/bytealg.abigen_runtime_cmpstring"], unfollowed := true, recurses := true, apart := false }
def FnExactPoolStatSaid : Prop := fnExactPoolStatRow.holds Tryz.pinned (OpenSpec.ofChange fnExactPoolStatSpec)

/-- ITS FALSE NEIGHBOUR: 'it returns false'. Refute it at one input. -/
def fnExactPoolStatWrong : ChangeSpec := { name := "fnExactPoolStat", fn := fun _ => fun
  | [d1, d2] => { results := [.lit (.bool false)], args := [d1, d2] }
  | _ => none }
def FnExactPoolStatWrongFalsely : Prop := fnExactPoolStatRow.holds Tryz.pinned (OpenSpec.ofChange fnExactPoolStatWrong)

/-- 'laws.FnExactPoolTarget': WHATEVER THE INPUT: true; the input reads as it did. -/
def fnExactPoolTargetSpec : ChangeSpec := { name := "fnExactPoolTarget", fn := fun _ => fun
  | [d1, d2] => { results := [.lit (.bool true)], args := [d1, d2] }
  | _ => none }
def fnExactPoolTargetRow : OpenClaim := { program := "ythhcbcokjlpahaagreat", sum := "6335fa119fd92edc8b603c8828ae9ee02148c330b14144a3cb593f3ddd970ac7", func := "loop.example/g00483/laws.FnExactPoolTarget", spec := "fnExactPoolTarget", inPlace := ["internal/abi.NoEscape", "internal/bytealg.MakeNoZero", "internal/bytealg.abigen_runtime_cmpstring"], unfollowed := true, recurses := true, apart := false }
def FnExactPoolTargetSaid : Prop := fnExactPoolTargetRow.holds Tryz.pinned (OpenSpec.ofChange fnExactPoolTargetSpec)

/-- ITS FALSE NEIGHBOUR: 'it returns false'. Refute it at one input. -/
def fnExactPoolTargetWrong : ChangeSpec := { name := "fnExactPoolTarget", fn := fun _ => fun
  | [d1, d2] => { results := [.lit (.bool false)], args := [d1, d2] }
  | _ => none }
def FnExactPoolTargetWrongFalsely : Prop := fnExactPoolTargetRow.holds Tryz.pinned (OpenSpec.ofChange fnExactPoolTargetWrong)

/-- 'laws.FnExactPoolRead': WHATEVER THE INPUT: true; the input reads as it did. -/
def fnExactPoolReadSpec : ChangeSpec := { name := "fnExactPoolRead", fn := fun _ => fun
  | [d1, d2, d3, d4] => { results := [.lit (.bool true)], args := [d1, d2, d3, d4] }
  | _ => none }
def fnExactPoolReadRow : OpenClaim := { program := "ythhcbcokjlpahaagreat", sum := "6335fa119fd92edc8b603c8828ae9ee02148c330b14144a3cb593f3ddd970ac7", func := "loop.example/g00483/laws.FnExactPoolRead", spec := "fnExactPoolRead", inPlace := ["internal/abi.NoEscape", "internal/bytealg.MakeNoZero", "internal/bytealg.abigen_runtime_cmpstring"], unfollowed := true, recurses := true, apart := false }
def FnExactPoolReadSaid : Prop := fnExactPoolReadRow.holds Tryz.pinned (OpenSpec.ofChange fnExactPoolReadSpec)

/-- ITS FALSE NEIGHBOUR: 'it returns false'. Refute it at one input. -/
def fnExactPoolReadWrong : ChangeSpec := { name := "fnExactPoolRead", fn := fun _ => fun
  | [d1, d2, d3, d4] => { results := [.lit (.bool false)], args := [d1, d2, d3, d4] }
  | _ => none }
def FnExactPoolReadWrongFalsely : Prop := fnExactPoolReadRow.holds Tryz.pinned (OpenSpec.ofChange fnExactPoolReadWrong)

/-- 'laws.FnExactPoolFind': WHATEVER THE INPUT: true; the input reads as it did. -/
def fnExactPoolFindSpec : ChangeSpec := { name := "fnExactPoolFind", fn := fun _ => fun
  | [d1, d2] => { results := [.lit (.bool true)], args := [d1, d2] }
  | _ => none }
def fnExactPoolFindRow : OpenClaim := { program := "ythhcbcokjlpahaagreat", sum := "6335fa119fd92edc8b603c8828ae9ee02148c330b14144a3cb593f3ddd970ac7", func := "loop.example/g00483/laws.FnExactPoolFind", spec := "fnExactPoolFind", inPlace := ["internal/abi.NoEscape", "internal/bytealg.MakeNoZero", "internal/bytealg.abigen_runtime_cmpstring"], unfollowed := true, recurses := true, apart := false }
def FnExactPoolFindSaid : Prop := fnExactPoolFindRow.holds Tryz.pinned (OpenSpec.ofChange fnExactPoolFindSpec)

/-- ITS FALSE NEIGHBOUR: 'it returns false'. Refute it at one input. -/
def fnExactPoolFindWrong : ChangeSpec := { name := "fnExactPoolFind", fn := fun _ => fun
  | [d1, d2] => { results := [.lit (.bool false)], args := [d1, d2] }
  | _ => none }
def FnExactPoolFindWrongFalsely : Prop := fnExactPoolFindRow.holds Tryz.pinned (OpenSpec.ofChange fnExactPoolFindWrong)

/-- 'laws.FnExactPoolList': WHATEVER THE INPUT: true; the input reads as it did. -/
def fnExactPoolListSpec : ChangeSpec := { name := "fnExactPoolList", fn := fun _ => fun
  | [d1, d2] => { results := [.lit (.bool true)], args := [d1, d2] }
  | _ => none }
def fnExactPoolListRow : OpenClaim := { program := "ythhcbcokjlpahaagreat", sum := "6335fa119fd92edc8b603c8828ae9ee02148c330b14144a3cb593f3ddd970ac7", func := "loop.example/g00483/laws.FnExactPoolList", spec := "fnExactPoolList", inPlace := ["internal/abi.NoEscape", "internal/bytealg.MakeNoZero", "internal/bytealg.abigen_runtime_cmpstring"], unfollowed := true, recurses := true, apart := false }
def FnExactPoolListSaid : Prop := fnExactPoolListRow.holds Tryz.pinned (OpenSpec.ofChange fnExactPoolListSpec)

/-- ITS FALSE NEIGHBOUR: 'it returns false'. Refute it at one input. -/
def fnExactPoolListWrong : ChangeSpec := { name := "fnExactPoolList", fn := fun _ => fun
  | [d1, d2] => { results := [.lit (.bool false)], args := [d1, d2] }
  | _ => none }
def FnExactPoolListWrongFalsely : Prop := fnExactPoolListRow.holds Tryz.pinned (OpenSpec.ofChange fnExactPoolListWrong)

/-- 'laws.FnExactTreeDo': WHATEVER THE INPUT: true; the input reads as it did. -/
def fnExactTreeDoSpec : ChangeSpec := { name := "fnExactTreeDo", fn := fun _ => fun
  | [d1, d2] => { results := [.lit (.bool true)], args := [d1, d2] }
  | _ => none }
def fnExactTreeDoRow : OpenClaim := { program := "ythhcbcokjlpahaagreat", sum := "6335fa119fd92edc8b603c8828ae9ee02148c330b14144a3cb593f3ddd970ac7", func := "loop.example/g00483/laws.FnExactTreeDo", spec := "fnExactTreeDo", inPlace := ["internal/abi.NoEscape", "internal/bytealg.MakeNoZero", "internal/bytealg.abigen_runtime_cmpstring"], unfollowed := true, recurses := true, apart := false }
def FnExactTreeDoSaid : Prop := fnExactTreeDoRow.holds Tryz.pinned (OpenSpec.ofChange fnExactTreeDoSpec)

/-- ITS FALSE NEIGHBOUR: 'it returns false'. Refute it at one input. -/
def fnExactTreeDoWrong : ChangeSpec := { name := "fnExactTreeDo", fn := fun _ => fun
  | [d1, d2] => { results := [.lit (.bool false)], args := [d1, d2] }
  | _ => none }
def FnExactTreeDoWrongFalsely : Prop := fnExactTreeDoRow.holds Tryz.pinned (OpenSpec.ofChange fnExactTreeDoWrong)

/-- 'laws.FnExactScavenge': WHATEVER THE INPUT: true; the input reads as it did. -/
def fnExactScavengeSpec : ChangeSpec := { name := "fnExactScavenge", fn := fun _ => fun
  | [d] => { results := [.lit (.bool true)], args := [d] }
  | _ => none }
def fnExactScavengeRow : OpenClaim := { program := "ythhcbcokjlpahaagreat", sum := "6335fa119fd92edc8b603c8828ae9ee02148c330b14144a3cb593f3ddd970ac7", func := "loop.example/g00483/laws.FnExactScavenge", spec := "fnExactScavenge", inPlace := ["internal/abi.NoEscape", "internal/bytealg.MakeNoZero", "internal/bytealg.abigen_runtime_cmpstring"], unfollowed := true, recurses := true, apart := false }
def FnExactScavengeSaid : Prop := fnExactScavengeRow.holds Tryz.pinned (OpenSpec.ofChange fnExactScavengeSpec)

/-- ITS FALSE NEIGHBOUR: 'it returns false'. Refute it at one input. -/
def fnExactScavengeWrong : ChangeSpec := { name := "fnExactScavenge", fn := fun _ => fun
  | [d] => { results := [.lit (.bool false)], args := [d] }
  | _ => none }
def FnExactScavengeWrongFalsely : Prop := fnExactScavengeRow.holds Tryz.pinned (OpenSpec.ofChange fnExactScavengeWrong)

/-- 'laws.FnExactScavenged': WHATEVER THE INPUT: true; the input reads as it did. -/
def fnExactScavengedSpec : ChangeSpec := { name := "fnExactScavenged", fn := fun _ => fun
  | [d] => { results := [.lit (.bool true)], args := [d] }
  | _ => none }
def fnExactScavengedRow : OpenClaim := { program := "ythhcbcokjlpahaagreat", sum := "6335fa119fd92edc8b603c8828ae9ee02148c330b14144a3cb593f3ddd970ac7", func := "loop.example/g00483/laws.FnExactScavenged", spec := "fnExactScavenged", inPlace := ["internal/abi.NoEscape", "internal/bytealg.MakeNoZero", "internal/bytealg.abigen_runtime_cmpstring"], unfollowed := true, recurses := true, apart := false }
def FnExactScavengedSaid : Prop := fnExactScavengedRow.holds Tryz.pinned (OpenSpec.ofChange fnExactScavengedSpec)

/-- ITS FALSE NEIGHBOUR: 'it returns false'. Refute it at one input. -/
def fnExactScavengedWrong : ChangeSpec := { name := "fnExactScavenged", fn := fun _ => fun
  | [d] => { results := [.lit (.bool false)], args := [d] }
  | _ => none }
def FnExactScavengedWrongFalsely : Prop := fnExactScavengedRow.holds Tryz.pinned (OpenSpec.ofChange fnExactScavengedWrong)

/-- 'laws.FnExactMoveBegin': WHATEVER THE INPUT: true; the input reads as it did. -/
def fnExactMoveBeginSpec : ChangeSpec := { name := "fnExactMoveBegin", fn := fun _ => fun
  | [d1, d2, d3] => { results := [.lit (.bool true)], args := [d1, d2, d3] }
  | _ => none }
def fnExactMoveBeginRow : OpenClaim := { program := "ythhcbcokjlpahaagreat", sum := "6335fa119fd92edc8b603c8828ae9ee02148c330b14144a3cb593f3ddd970ac7", func := "loop.example/g00483/laws.FnExactMoveBegin", spec := "fnExactMoveBegin", inPlace := ["internal/abi.NoEscape", "internal/bytealg.MakeNoZero", "internal/bytealg.abigen_runtime_cmpstring", "slices.overlaps[loop.example/g00483/impl.Entry]"], unfollowed := true, recurses := true, apart := false }
def FnExactMoveBeginSaid : Prop := fnExactMoveBeginRow.holds Tryz.pinned (OpenSpec.ofChange fnExactMoveBeginSpec)

/-- ITS FALSE NEIGHBOUR: 'it returns false'. Refute it at one input. -/
def fnExactMoveBeginWrong : ChangeSpec := { name := "fnExactMoveBegin", fn := fun _ => fun
  | [d1, d2, d3] => { results := [.lit (.bool false)], args := [d1, d2, d3] }
  | _ => none }
def FnExactMoveBeginWrongFalsely : Prop := fnExactMoveBeginRow.holds Tryz.pinned (OpenSpec.ofChange fnExactMoveBeginWrong)

/-- 'laws.FnExactMoveStep': WHATEVER THE INPUT: true; the input reads as it did. -/
def fnExactMoveStepSpec : ChangeSpec := { name := "fnExactMoveStep", fn := fun _ => fun
  | [d] => { results := [.lit (.bool true)], args := [d] }
  | _ => none }
def fnExactMoveStepRow : OpenClaim := { program := "ythhcbcokjlpahaagreat", sum := "6335fa119fd92edc8b603c8828ae9ee02148c330b14144a3cb593f3ddd970ac7", func := "loop.example/g00483/laws.FnExactMoveStep", spec := "fnExactMoveStep", inPlace := ["internal/abi.NoEscape", "internal/bytealg.MakeNoZero", "internal/bytealg.abigen_runtime_cmpstring", "slices.overlaps[loop.example/g00483/impl.Entry]"], unfollowed := true, recurses := true, apart := false }
def FnExactMoveStepSaid : Prop := fnExactMoveStepRow.holds Tryz.pinned (OpenSpec.ofChange fnExactMoveStepSpec)

/-- ITS FALSE NEIGHBOUR: 'it returns false'. Refute it at one input. -/
def fnExactMoveStepWrong : ChangeSpec := { name := "fnExactMoveStep", fn := fun _ => fun
  | [d] => { results := [.lit (.bool false)], args := [d] }
  | _ => none }
def FnExactMoveStepWrongFalsely : Prop := fnExactMoveStepRow.holds Tryz.pinned (OpenSpec.ofChange fnExactMoveStepWrong)

/-- 'laws.FnExactMoveAll': WHATEVER THE INPUT: true; the input reads as it did. -/
def fnExactMoveAllSpec : ChangeSpec := { name := "fnExactMoveAll", fn := fun _ => fun
  | [d1, d2, d3] => { results := [.lit (.bool true)], args := [d1, d2, d3] }
  | _ => none }
def fnExactMoveAllRow : OpenClaim := { program := "ythhcbcokjlpahaagreat", sum := "6335fa119fd92edc8b603c8828ae9ee02148c330b14144a3cb593f3ddd970ac7", func := "loop.example/g00483/laws.FnExactMoveAll", spec := "fnExactMoveAll", inPlace := ["internal/abi.NoEscape", "internal/bytealg.MakeNoZero", "internal/bytealg.abigen_runtime_cmpstring", "slices.overlaps[loop.example/g00483/impl.Entry]"], unfollowed := true, recurses := true, apart := false }
def FnExactMoveAllSaid : Prop := fnExactMoveAllRow.holds Tryz.pinned (OpenSpec.ofChange fnExactMoveAllSpec)

/-- ITS FALSE NEIGHBOUR: 'it returns false'. Refute it at one input. -/
def fnExactMoveAllWrong : ChangeSpec := { name := "fnExactMoveAll", fn := fun _ => fun
  | [d1, d2, d3] => { results := [.lit (.bool false)], args := [d1, d2, d3] }
  | _ => none }
def FnExactMoveAllWrongFalsely : Prop := fnExactMoveAllRow.holds Tryz.pinned (OpenSpec.ofChange fnExactMoveAllWrong)

/-- 'laws.FnExactDetach': WHATEVER THE INPUT: true; the input reads as it did. -/
def fnExactDetachSpec : ChangeSpec := { name := "fnExactDetach", fn := fun _ => fun
  | [d1, d2] => { results := [.lit (.bool true)], args := [d1, d2] }
  | _ => none }
def fnExactDetachRow : OpenClaim := { program := "ythhcbcokjlpahaagreat", sum := "6335fa119fd92edc8b603c8828ae9ee02148c330b14144a3cb593f3ddd970ac7", func := "loop.example/g00483/laws.FnExactDetach", spec := "fnExactDetach", inPlace := ["internal/abi.NoEscape", "internal/bytealg.MakeNoZero", "internal/bytealg.abigen_runtime_cmpstring"], unfollowed := true, recurses := true, apart := false }
def FnExactDetachSaid : Prop := fnExactDetachRow.holds Tryz.pinned (OpenSpec.ofChange fnExactDetachSpec)

/-- ITS FALSE NEIGHBOUR: 'it returns false'. Refute it at one input. -/
def fnExactDetachWrong : ChangeSpec := { name := "fnExactDetach", fn := fun _ => fun
  | [d1, d2] => { results := [.lit (.bool false)], args := [d1, d2] }
  | _ => none }
def FnExactDetachWrongFalsely : Prop := fnExactDetachRow.holds Tryz.pinned (OpenSpec.ofChange fnExactDetachWrong)

/- THE SECOND FORM. 'bulk': how many values and letters a reading holds, each counted each time it is reached (what is shared counts as often as it is met; a slice's spare places count too). A statement '..UptoSaid' is the law's where the arguments, and the package variables that the reading takes, are together of bulk at most 1048576: NARROWER than '..Said'. Prove '..Said' where nothing that the law and all that it calls make is longer than what came in: it says more and counts as full. Else prove '..UptoSaid'. A law counts once. -/
mutual
def uptoBulk {H : Type} : DataW H → Nat
  | .lit (.string bytes) => bytes.length + 1
  | .lit _ => 1
  | .nil => 1
  | .ptr d => uptoBulk d + 1
  | .slice elems spare => uptoBulkAll elems + uptoBulkAll spare + 1
  | .agg parts => uptoBulkAll parts + 1
  | .iface _ d => uptoBulk d + 1
  | .map entries => uptoBulkEntries entries + 1
  | .held _ => 1
def uptoBulkAll {H : Type} : List (DataW H) → Nat
  | [] => 0
  | d :: r => uptoBulk d + uptoBulkAll r
def uptoBulkEntries {H : Type} : List (Lit × DataW H) → Nat
  | [] => 0
  | x :: r => uptoBulkEntry x + uptoBulkEntries r
def uptoBulkEntry {H : Type} : Lit × DataW H → Nat
  | (.string bytes, d) => bytes.length + uptoBulk d + 1
  | (_, d) => uptoBulk d + 1
 end
def uptoSmall : (H : Type) → List (DataW H) → Bool := fun _ ds => decide (uptoBulkAll ds ≤ 1048576)
def OpenSpec.upto (s : _root_.Go.ChangeSpec) : _root_.Go.OpenSpec := { _root_.Go.OpenSpec.ofChange s with cond := some uptoSmall }

/-- 'laws.FnExactPoolStat', WHERE WHAT IT READS IS OF BULK AT MOST 1048576: true; the input reads as it did. -/
def fnExactPoolStatUptoRow : OpenClaim := { program := "ythhcbcokjlpahaagreat", sum := "6335fa119fd92edc8b603c8828ae9ee02148c330b14144a3cb593f3ddd970ac7", func := "loop.example/g00483/laws.FnExactPoolStat", spec := "fnExactPoolStat", inPlace := ["internal/abi.NoEscape", "internal/bytealg.MakeNoZero", "internal/bytealg.abigen_runtime_cmpstring"], unfollowed := true, recurses := true, apart := false, narrowed := true }
def FnExactPoolStatUptoSaid : Prop := fnExactPoolStatUptoRow.holds Tryz.pinned (OpenSpec.upto fnExactPoolStatSpec)

/-- 'laws.FnExactPoolTarget', WHERE WHAT IT READS IS OF BULK AT MOST 1048576: true; the input reads as it did. -/
def fnExactPoolTargetUptoRow : OpenClaim := { program := "ythhcbcokjlpahaagreat", sum := "6335fa119fd92edc8b603c8828ae9ee02148c330b14144a3cb593f3ddd970ac7", func := "loop.example/g00483/laws.FnExactPoolTarget", spec := "fnExactPoolTarget", inPlace := ["internal/abi.NoEscape", "internal/bytealg.MakeNoZero", "internal/bytealg.abigen_runtime_cmpstring"], unfollowed := true, recurses := true, apart := false, narrowed := true }
def FnExactPoolTargetUptoSaid : Prop := fnExactPoolTargetUptoRow.holds Tryz.pinned (OpenSpec.upto fnExactPoolTargetSpec)

/-- 'laws.FnExactPoolRead', WHERE WHAT IT READS IS OF BULK AT MOST 1048576: true; the input reads as it did. -/
def fnExactPoolReadUptoRow : OpenClaim := { program := "ythhcbcokjlpahaagreat", sum := "6335fa119fd92edc8b603c8828ae9ee02148c330b14144a3cb593f3ddd970ac7", func := "loop.example/g00483/laws.FnExactPoolRead", spec := "fnExactPoolRead", inPlace := ["internal/abi.NoEscape", "internal/bytealg.MakeNoZero", "internal/bytealg.abigen_runtime_cmpstring"], unfollowed := true, recurses := true, apart := false, narrowed := true }
def FnExactPoolReadUptoSaid : Prop := fnExactPoolReadUptoRow.holds Tryz.pinned (OpenSpec.upto fnExactPoolReadSpec)

/-- 'laws.FnExactPoolFind', WHERE WHAT IT READS IS OF BULK AT MOST 1048576: true; the input reads as it did. -/
def fnExactPoolFindUptoRow : OpenClaim := { program := "ythhcbcokjlpahaagreat", sum := "6335fa119fd92edc8b603c8828ae9ee02148c330b14144a3cb593f3ddd970ac7", func := "loop.example/g00483/laws.FnExactPoolFind", spec := "fnExactPoolFind", inPlace := ["internal/abi.NoEscape", "internal/bytealg.MakeNoZero", "internal/bytealg.abigen_runtime_cmpstring"], unfollowed := true, recurses := true, apart := false, narrowed := true }
def FnExactPoolFindUptoSaid : Prop := fnExactPoolFindUptoRow.holds Tryz.pinned (OpenSpec.upto fnExactPoolFindSpec)

/-- 'laws.FnExactPoolList', WHERE WHAT IT READS IS OF BULK AT MOST 1048576: true; the input reads as it did. -/
def fnExactPoolListUptoRow : OpenClaim := { program := "ythhcbcokjlpahaagreat", sum := "6335fa119fd92edc8b603c8828ae9ee02148c330b14144a3cb593f3ddd970ac7", func := "loop.example/g00483/laws.FnExactPoolList", spec := "fnExactPoolList", inPlace := ["internal/abi.NoEscape", "internal/bytealg.MakeNoZero", "internal/bytealg.abigen_runtime_cmpstring"], unfollowed := true, recurses := true, apart := false, narrowed := true }
def FnExactPoolListUptoSaid : Prop := fnExactPoolListUptoRow.holds Tryz.pinned (OpenSpec.upto fnExactPoolListSpec)

/-- 'laws.FnExactTreeDo', WHERE WHAT IT READS IS OF BULK AT MOST 1048576: true; the input reads as it did. -/
def fnExactTreeDoUptoRow : OpenClaim := { program := "ythhcbcokjlpahaagreat", sum := "6335fa119fd92edc8b603c8828ae9ee02148c330b14144a3cb593f3ddd970ac7", func := "loop.example/g00483/laws.FnExactTreeDo", spec := "fnExactTreeDo", inPlace := ["internal/abi.NoEscape", "internal/bytealg.MakeNoZero", "internal/bytealg.abigen_runtime_cmpstring"], unfollowed := true, recurses := true, apart := false, narrowed := true }
def FnExactTreeDoUptoSaid : Prop := fnExactTreeDoUptoRow.holds Tryz.pinned (OpenSpec.upto fnExactTreeDoSpec)

/-- 'laws.FnExactScavenge', WHERE WHAT IT READS IS OF BULK AT MOST 1048576: true; the input reads as it did. -/
def fnExactScavengeUptoRow : OpenClaim := { program := "ythhcbcokjlpahaagreat", sum := "6335fa119fd92edc8b603c8828ae9ee02148c330b14144a3cb593f3ddd970ac7", func := "loop.example/g00483/laws.FnExactScavenge", spec := "fnExactScavenge", inPlace := ["internal/abi.NoEscape", "internal/bytealg.MakeNoZero", "internal/bytealg.abigen_runtime_cmpstring"], unfollowed := true, recurses := true, apart := false, narrowed := true }
def FnExactScavengeUptoSaid : Prop := fnExactScavengeUptoRow.holds Tryz.pinned (OpenSpec.upto fnExactScavengeSpec)

/-- 'laws.FnExactScavenged', WHERE WHAT IT READS IS OF BULK AT MOST 1048576: true; the input reads as it did. -/
def fnExactScavengedUptoRow : OpenClaim := { program := "ythhcbcokjlpahaagreat", sum := "6335fa119fd92edc8b603c8828ae9ee02148c330b14144a3cb593f3ddd970ac7", func := "loop.example/g00483/laws.FnExactScavenged", spec := "fnExactScavenged", inPlace := ["internal/abi.NoEscape", "internal/bytealg.MakeNoZero", "internal/bytealg.abigen_runtime_cmpstring"], unfollowed := true, recurses := true, apart := false, narrowed := true }
def FnExactScavengedUptoSaid : Prop := fnExactScavengedUptoRow.holds Tryz.pinned (OpenSpec.upto fnExactScavengedSpec)

/-- 'laws.FnExactMoveBegin', WHERE WHAT IT READS IS OF BULK AT MOST 1048576: true; the input reads as it did. -/
def fnExactMoveBeginUptoRow : OpenClaim := { program := "ythhcbcokjlpahaagreat", sum := "6335fa119fd92edc8b603c8828ae9ee02148c330b14144a3cb593f3ddd970ac7", func := "loop.example/g00483/laws.FnExactMoveBegin", spec := "fnExactMoveBegin", inPlace := ["internal/abi.NoEscape", "internal/bytealg.MakeNoZero", "internal/bytealg.abigen_runtime_cmpstring", "slices.overlaps[loop.example/g00483/impl.Entry]"], unfollowed := true, recurses := true, apart := false, narrowed := true }
def FnExactMoveBeginUptoSaid : Prop := fnExactMoveBeginUptoRow.holds Tryz.pinned (OpenSpec.upto fnExactMoveBeginSpec)

/-- 'laws.FnExactMoveStep', WHERE WHAT IT READS IS OF BULK AT MOST 1048576: true; the input reads as it did. -/
def fnExactMoveStepUptoRow : OpenClaim := { program := "ythhcbcokjlpahaagreat", sum := "6335fa119fd92edc8b603c8828ae9ee02148c330b14144a3cb593f3ddd970ac7", func := "loop.example/g00483/laws.FnExactMoveStep", spec := "fnExactMoveStep", inPlace := ["internal/abi.NoEscape", "internal/bytealg.MakeNoZero", "internal/bytealg.abigen_runtime_cmpstring", "slices.overlaps[loop.example/g00483/impl.Entry]"], unfollowed := true, recurses := true, apart := false, narrowed := true }
def FnExactMoveStepUptoSaid : Prop := fnExactMoveStepUptoRow.holds Tryz.pinned (OpenSpec.upto fnExactMoveStepSpec)

/-- 'laws.FnExactMoveAll', WHERE WHAT IT READS IS OF BULK AT MOST 1048576: true; the input reads as it did. -/
def fnExactMoveAllUptoRow : OpenClaim := { program := "ythhcbcokjlpahaagreat", sum := "6335fa119fd92edc8b603c8828ae9ee02148c330b14144a3cb593f3ddd970ac7", func := "loop.example/g00483/laws.FnExactMoveAll", spec := "fnExactMoveAll", inPlace := ["internal/abi.NoEscape", "internal/bytealg.MakeNoZero", "internal/bytealg.abigen_runtime_cmpstring", "slices.overlaps[loop.example/g00483/impl.Entry]"], unfollowed := true, recurses := true, apart := false, narrowed := true }
def FnExactMoveAllUptoSaid : Prop := fnExactMoveAllUptoRow.holds Tryz.pinned (OpenSpec.upto fnExactMoveAllSpec)

/-- 'laws.FnExactDetach', WHERE WHAT IT READS IS OF BULK AT MOST 1048576: true; the input reads as it did. -/
def fnExactDetachUptoRow : OpenClaim := { program := "ythhcbcokjlpahaagreat", sum := "6335fa119fd92edc8b603c8828ae9ee02148c330b14144a3cb593f3ddd970ac7", func := "loop.example/g00483/laws.FnExactDetach", spec := "fnExactDetach", inPlace := ["internal/abi.NoEscape", "internal/bytealg.MakeNoZero", "internal/bytealg.abigen_runtime_cmpstring"], unfollowed := true, recurses := true, apart := false, narrowed := true }
def FnExactDetachUptoSaid : Prop := fnExactDetachUptoRow.holds Tryz.pinned (OpenSpec.upto fnExactDetachSpec)

end Rows
end Go.Proofs.YthhcbcokjlpahaaGreat
