/-
  No cell of these rows narrows 'for every input' (looked for: loops, veiled, ifaces, maps, wideKeys, modest, calm, conditions, laid).
  DERIVED. THE GIVEN ROWS OF THIS SEAT. 3 by the template 'for every input the law returns true; each argument reads behind the call as it read before'; 0 by the template 'total and deterministic' (their statements: YtogidplgdeghgaaGreatTotals.lean).
  GIVEN WITH THE SEED: the statements are not yours to turn. If you find one false, say at which input.
  Laid BY PROGRAM, IN A SANDBOX (cutbox-rows.mjs): the forced cells as the released guide's own fill.sh prints them over the translation 0d28e7c31e145091… (all of the seat's roots in one cut). By AI agents, Wed Nov 11 2026. No macro, syntax, notation, axiom, sorry.
-/
import Derived.Test.YtogidplgdeghgaaGreatChecked
import GoSem.Claim
import GoSem.ClaimJoined
import GoSem.ClaimMapViews
import Derived.JoinedTies
import Derived.KernelRfl
namespace Go.Proofs.YtogidplgdeghgaaGreat
/- THE CELL 'sum', in the pinned program and in every row, IS THE sha256 OF THE DUMP (.gsa) THAT YtogidplgdeghgaaGreatProg.lean LOADS. Nothing in Lean hashes anything: it is a label: what it is worth is what the hold of that sum in a sandbox is worth. -/
noncomputable def Tryz.pinned : Pinned := { name := "ytogidplgdeghgaagreat", sum := "0d28e7c31e145091b0ed4ef93146980649755bfe222ad6544a91dd16a74d175b", checked := Tryz.checked }
namespace Rows
def none {H : Type} : Left H := { results := [], args := [] }

/-- 'laws.FnExactTreeDo': WHATEVER THE INPUT: true; the input reads as it did. -/
def fnExactTreeDoSpec : ChangeSpec := { name := "fnExactTreeDo", fn := fun _ => fun
  | [d1, d2] => { results := [.lit (.bool true)], args := [d1, d2] }
  | _ => none }
def fnExactTreeDoRow : OpenClaim := { program := "ytogidplgdeghgaagreat", sum := "0d28e7c31e145091b0ed4ef93146980649755bfe222ad6544a91dd16a74d175b", func := "loop.example/g00483/laws.FnExactTreeDo", spec := "fnExactTreeDo", inPlace := ["internal/abi.NoEscape", "internal/bytealg.MakeNoZero", "internal/bytealg.abigen_runtime_cmpstring"], unfollowed := true, recurses := true, apart := false }
def FnExactTreeDoSaid : Prop := fnExactTreeDoRow.holds Tryz.pinned (OpenSpec.ofChange fnExactTreeDoSpec)

/-- ITS FALSE NEIGHBOUR: 'it returns false'. Refute it at one input. -/
def fnExactTreeDoWrong : ChangeSpec := { name := "fnExactTreeDo", fn := fun _ => fun
  | [d1, d2] => { results := [.lit (.bool false)], args := [d1, d2] }
  | _ => none }
def FnExactTreeDoWrongFalsely : Prop := fnExactTreeDoRow.holds Tryz.pinned (OpenSpec.ofChange fnExactTreeDoWrong)

/-- 'laws.FnExactMount': WHATEVER THE INPUT: true; the input reads as it did. -/
def fnExactMountSpec : ChangeSpec := { name := "fnExactMount", fn := fun _ => fun
  | [d] => { results := [.lit (.bool true)], args := [d] }
  | _ => none }
def fnExactMountRow : OpenClaim := { program := "ytogidplgdeghgaagreat", sum := "0d28e7c31e145091b0ed4ef93146980649755bfe222ad6544a91dd16a74d175b", func := "loop.example/g00483/laws.FnExactMount", spec := "fnExactMount", unfollowed := true, recurses := true, apart := false }
def FnExactMountSaid : Prop := fnExactMountRow.holds Tryz.pinned (OpenSpec.ofChange fnExactMountSpec)

/-- ITS FALSE NEIGHBOUR: 'it returns false'. Refute it at one input. -/
def fnExactMountWrong : ChangeSpec := { name := "fnExactMount", fn := fun _ => fun
  | [d] => { results := [.lit (.bool false)], args := [d] }
  | _ => none }
def FnExactMountWrongFalsely : Prop := fnExactMountRow.holds Tryz.pinned (OpenSpec.ofChange fnExactMountWrong)

/-- 'laws.FnExactEmpty': WHATEVER THE INPUT: true; the input reads as it did. -/
def fnExactEmptySpec : ChangeSpec := { name := "fnExactEmpty", fn := fun _ => fun
  | [d1, d2] => { results := [.lit (.bool true)], args := [d1, d2] }
  | _ => none }
def fnExactEmptyRow : OpenClaim := { program := "ytogidplgdeghgaagreat", sum := "0d28e7c31e145091b0ed4ef93146980649755bfe222ad6544a91dd16a74d175b", func := "loop.example/g00483/laws.FnExactEmpty", spec := "fnExactEmpty", inPlace := ["internal/abi.NoEscape", "internal/bytealg.MakeNoZero", "internal/bytealg.abigen_runtime_cmpstring"], unfollowed := true, recurses := true, apart := false }
def FnExactEmptySaid : Prop := fnExactEmptyRow.holds Tryz.pinned (OpenSpec.ofChange fnExactEmptySpec)

/-- ITS FALSE NEIGHBOUR: 'it returns false'. Refute it at one input. -/
def fnExactEmptyWrong : ChangeSpec := { name := "fnExactEmpty", fn := fun _ => fun
  | [d1, d2] => { results := [.lit (.bool false)], args := [d1, d2] }
  | _ => none }
def FnExactEmptyWrongFalsely : Prop := fnExactEmptyRow.holds Tryz.pinned (OpenSpec.ofChange fnExactEmptyWrong)

/- THE SECOND FORM. 'bulk': how many values and letters a reading holds, each counted each time it is reached (what is shared counts as often as it is met; a slice's spare places count too). A statement '..UptoSaid' is the law's where the arguments, and the package variables that the reading takes, are together of bulk at most 1048576: NARROWER than '..Said'. Prove '..Said' where nothing that the law and all that it calls make is longer than what came in: it says more and counts as full. Else prove '..UptoSaid'. A law counts once. -/
mutual
def uptoBulk {H : Type} : DataW H → Nat
  | .lit (.string bytes) => bytes.length + 1
  | .lit _ => 1
  | .nil => 1
  | .ptr d => uptoBulk d + 1
  | .slice elems spare => uptoBulkAll elems + uptoBulkAll spare + 1
  | .agg parts => uptoBulkAll parts + 1
  | .iface _ d => uptoBulk d + 1
  | .map entries => uptoBulkEntries entries + 1
  | .held _ => 1
def uptoBulkAll {H : Type} : List (DataW H) → Nat
  | [] => 0
  | d :: r => uptoBulk d + uptoBulkAll r
def uptoBulkEntries {H : Type} : List (Lit × DataW H) → Nat
  | [] => 0
  | x :: r => uptoBulkEntry x + uptoBulkEntries r
def uptoBulkEntry {H : Type} : Lit × DataW H → Nat
  | (.string bytes, d) => bytes.length + uptoBulk d + 1
  | (_, d) => uptoBulk d + 1
 end
def uptoSmall : (H : Type) → List (DataW H) → Bool := fun _ ds => decide (uptoBulkAll ds ≤ 1048576)
def OpenSpec.upto (s : _root_.Go.ChangeSpec) : _root_.Go.OpenSpec := { _root_.Go.OpenSpec.ofChange s with cond := some uptoSmall }

/-- 'laws.FnExactTreeDo', WHERE WHAT IT READS IS OF BULK AT MOST 1048576: true; the input reads as it did. -/
def fnExactTreeDoUptoRow : OpenClaim := { program := "ytogidplgdeghgaagreat", sum := "0d28e7c31e145091b0ed4ef93146980649755bfe222ad6544a91dd16a74d175b", func := "loop.example/g00483/laws.FnExactTreeDo", spec := "fnExactTreeDo", inPlace := ["internal/abi.NoEscape", "internal/bytealg.MakeNoZero", "internal/bytealg.abigen_runtime_cmpstring"], unfollowed := true, recurses := true, apart := false, narrowed := true }
def FnExactTreeDoUptoSaid : Prop := fnExactTreeDoUptoRow.holds Tryz.pinned (OpenSpec.upto fnExactTreeDoSpec)

/-- 'laws.FnExactMount', WHERE WHAT IT READS IS OF BULK AT MOST 1048576: true; the input reads as it did. -/
def fnExactMountUptoRow : OpenClaim := { program := "ytogidplgdeghgaagreat", sum := "0d28e7c31e145091b0ed4ef93146980649755bfe222ad6544a91dd16a74d175b", func := "loop.example/g00483/laws.FnExactMount", spec := "fnExactMount", unfollowed := true, recurses := true, apart := false, narrowed := true }
def FnExactMountUptoSaid : Prop := fnExactMountUptoRow.holds Tryz.pinned (OpenSpec.upto fnExactMountSpec)

/-- 'laws.FnExactEmpty', WHERE WHAT IT READS IS OF BULK AT MOST 1048576: true; the input reads as it did. -/
def fnExactEmptyUptoRow : OpenClaim := { program := "ytogidplgdeghgaagreat", sum := "0d28e7c31e145091b0ed4ef93146980649755bfe222ad6544a91dd16a74d175b", func := "loop.example/g00483/laws.FnExactEmpty", spec := "fnExactEmpty", inPlace := ["internal/abi.NoEscape", "internal/bytealg.MakeNoZero", "internal/bytealg.abigen_runtime_cmpstring"], unfollowed := true, recurses := true, apart := false, narrowed := true }
def FnExactEmptyUptoSaid : Prop := fnExactEmptyUptoRow.holds Tryz.pinned (OpenSpec.upto fnExactEmptySpec)

end Rows
end Go.Proofs.YtogidplgdeghgaaGreat
