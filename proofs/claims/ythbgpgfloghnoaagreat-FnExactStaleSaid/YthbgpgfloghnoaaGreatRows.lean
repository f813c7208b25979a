/-
  No cell of these rows narrows 'for every input' (looked for: loops, veiled, ifaces, maps, wideKeys, modest, calm, conditions, laid).
  DERIVED. THE GIVEN ROWS OF THIS SEAT. 6 by the template 'for every input the law returns true; each argument reads behind the call as it read before'; 0 by the template 'total and deterministic' (their statements: YthbgpgfloghnoaaGreatTotals.lean).
  GIVEN WITH THE SEED: the statements are not yours to turn. If you find one false, say at which input.
  Laid BY PROGRAM, IN A SANDBOX (cutbox-rows.mjs): the forced cells as the released guide's own fill.sh prints them over the translation dfa5ef38ba2fbdbd… (all of the seat's roots in one cut). By AI agents, Wed Nov 11 2026. No macro, syntax, notation, axiom, sorry.
-/
import Derived.Test.YthbgpgfloghnoaaGreatChecked
import GoSem.Claim
import GoSem.ClaimJoined
import GoSem.ClaimMapViews
import Derived.JoinedTies
import Derived.KernelRfl
namespace Go.Proofs.YthbgpgfloghnoaaGreat
/- THE CELL 'sum', in the pinned program and in every row, IS THE sha256 OF THE DUMP (.gsa) THAT YthbgpgfloghnoaaGreatProg.lean LOADS. Nothing in Lean hashes anything: it is a label: what it is worth is what the hold of that sum in a sandbox is worth. -/
noncomputable def Tryz.pinned : Pinned := { name := "ythbgpgfloghnoaagreat", sum := "dfa5ef38ba2fbdbdbf8877e8d89f4f99ec289f618ecb2ae81558a2ef4f55c6ac", checked := Tryz.checked }
namespace Rows
def none {H : Type} : Left H := { results := [], args := [] }

/-- 'laws.FnExactSpread': WHATEVER THE INPUT: true; the input reads as it did. -/
def fnExactSpreadSpec : ChangeSpec := { name := "fnExactSpread", fn := fun _ => fun
  | [d] => { results := [.lit (.bool true)], args := [d] }
  | _ => none }
def fnExactSpreadRow : OpenClaim := { program := "ythbgpgfloghnoaagreat", sum := "dfa5ef38ba2fbdbdbf8877e8d89f4f99ec289f618ecb2ae81558a2ef4f55c6ac", func := "loop.example/g00483/laws.FnExactSpread", spec := "fnExactSpread", inPlace := ["internal/abi.NoEscape", "internal/bytealg.MakeNoZero", "internal/bytealg.abigen_runtime_cmpstring"], unfollowed := true, recurses := true, apart := false }
def FnExactSpreadSaid : Prop := fnExactSpreadRow.holds Tryz.pinned (OpenSpec.ofChange fnExactSpreadSpec)

/-- ITS FALSE NEIGHBOUR: 'it returns false'. Refute it at one input. -/
def fnExactSpreadWrong : ChangeSpec := { name := "fnExactSpread", fn := fun _ => fun
  | [d] => { results := [.lit (.bool false)], args := [d] }
  | _ => none }
def FnExactSpreadWrongFalsely : Prop := fnExactSpreadRow.holds Tryz.pinned (OpenSpec.ofChange fnExactSpreadWrong)

/-- 'laws.FnExactEligible': WHATEVER THE INPUT: true; the input reads as it did. -/
def fnExactEligibleSpec : ChangeSpec := { name := "fnExactEligible", fn := fun _ => fun
  | [d1, d2] => { results := [.lit (.bool true)], args := [d1, d2] }
  | _ => none }
def fnExactEligibleRow : OpenClaim := { program := "ythbgpgfloghnoaagreat", sum := "dfa5ef38ba2fbdbdbf8877e8d89f4f99ec289f618ecb2ae81558a2ef4f55c6ac", func := "loop.example/g00483/laws.FnExactEligible", spec := "fnExactEligible", inPlace := ["internal/abi.NoEscape", "internal/bytealg.MakeNoZero", "internal/bytealg.abigen_runtime_cmpstring"], unfollowed := true, recurses := true, apart := false }
def FnExactEligibleSaid : Prop := fnExactEligibleRow.holds Tryz.pinned (OpenSpec.ofChange fnExactEligibleSpec)

/-- ITS FALSE NEIGHBOUR: 'it returns false'. Refute it at one input. -/
def fnExactEligibleWrong : ChangeSpec := { name := "fnExactEligible", fn := fun _ => fun
  | [d1, d2] => { results := [.lit (.bool false)], args := [d1, d2] }
  | _ => none }
def FnExactEligibleWrongFalsely : Prop := fnExactEligibleRow.holds Tryz.pinned (OpenSpec.ofChange fnExactEligibleWrong)

/-- 'laws.FnExactLeftover': WHATEVER THE INPUT: true; the input reads as it did. -/
def fnExactLeftoverSpec : ChangeSpec := { name := "fnExactLeftover", fn := fun _ => fun
  | [d] => { results := [.lit (.bool true)], args := [d] }
  | _ => none }
def fnExactLeftoverRow : OpenClaim := { program := "ythbgpgfloghnoaagreat", sum := "dfa5ef38ba2fbdbdbf8877e8d89f4f99ec289f618ecb2ae81558a2ef4f55c6ac", func := "loop.example/g00483/laws.FnExactLeftover", spec := "fnExactLeftover", inPlace := ["internal/abi.NoEscape", "internal/bytealg.MakeNoZero", "internal/bytealg.abigen_runtime_cmpstring"], unfollowed := true, recurses := true, apart := false }
def FnExactLeftoverSaid : Prop := fnExactLeftoverRow.holds Tryz.pinned (OpenSpec.ofChange fnExactLeftoverSpec)

/-- ITS FALSE NEIGHBOUR: 'it returns false'. Refute it at one input. -/
def fnExactLeftoverWrong : ChangeSpec := { name := "fnExactLeftover", fn := fun _ => fun
  | [d] => { results := [.lit (.bool false)], args := [d] }
  | _ => none }
def FnExactLeftoverWrongFalsely : Prop := fnExactLeftoverRow.holds Tryz.pinned (OpenSpec.ofChange fnExactLeftoverWrong)

/-- 'laws.FnExactPick': WHATEVER THE INPUT: true; the input reads as it did. -/
def fnExactPickSpec : ChangeSpec := { name := "fnExactPick", fn := fun _ => fun
  | [d1, d2, d3] => { results := [.lit (.bool true)], args := [d1, d2, d3] }
  | _ => none }
def fnExactPickRow : OpenClaim := { program := "ythbgpgfloghnoaagreat", sum := "dfa5ef38ba2fbdbdbf8877e8d89f4f99ec289f618ecb2ae81558a2ef4f55c6ac", func := "loop.example/g00483/laws.FnExactPick", spec := "fnExactPick", inPlace := ["internal/abi.NoEscape", "internal/bytealg.MakeNoZero", "internal/bytealg.abigen_runtime_cmpstring"], unfollowed := true, recurses := true, apart := false }
def FnExactPickSaid : Prop := fnExactPickRow.holds Tryz.pinned (OpenSpec.ofChange fnExactPickSpec)

/-- ITS FALSE NEIGHBOUR: 'it returns false'. Refute it at one input. -/
def fnExactPickWrong : ChangeSpec := { name := "fnExactPick", fn := fun _ => fun
  | [d1, d2, d3] => { results := [.lit (.bool false)], args := [d1, d2, d3] }
  | _ => none }
def FnExactPickWrongFalsely : Prop := fnExactPickRow.holds Tryz.pinned (OpenSpec.ofChange fnExactPickWrong)

/-- 'laws.FnExactStale': WHATEVER THE INPUT: true; the input reads as it did. -/
def fnExactStaleSpec : ChangeSpec := { name := "fnExactStale", fn := fun _ => fun
  | [d1, d2] => { results := [.lit (.bool true)], args := [d1, d2] }
  | _ => none }
def fnExactStaleRow : OpenClaim := { program := "ythbgpgfloghnoaagreat", sum := "dfa5ef38ba2fbdbdbf8877e8d89f4f99ec289f618ecb2ae81558a2ef4f55c6ac", func := "loop.example/g00483/laws.FnExactStale", spec := "fnExactStale", inPlace := ["internal/abi.NoEscape", "internal/bytealg.MakeNoZero", "internal/bytealg.abigen_runtime_cmpstring"], unfollowed := true, recurses := true, apart := false }
def FnExactStaleSaid : Prop := fnExactStaleRow.holds Tryz.pinned (OpenSpec.ofChange fnExactStaleSpec)

/-- ITS FALSE NEIGHBOUR: 'it returns false'. Refute it at one input. -/
def fnExactStaleWrong : ChangeSpec := { name := "fnExactStale", fn := fun _ => fun
  | [d1, d2] => { results := [.lit (.bool false)], args := [d1, d2] }
  | _ => none }
def FnExactStaleWrongFalsely : Prop := fnExactStaleRow.holds Tryz.pinned (OpenSpec.ofChange fnExactStaleWrong)

/-- 'laws.FnExactDetach': WHATEVER THE INPUT: true; the input reads as it did. -/
def fnExactDetachSpec : ChangeSpec := { name := "fnExactDetach", fn := fun _ => fun
  | [d1, d2] => { results := [.lit (.bool true)], args := [d1, d2] }
  | _ => none }
def fnExactDetachRow : OpenClaim := { program := "ythbgpgfloghnoaagreat", sum := "dfa5ef38ba2fbdbdbf8877e8d89f4f99ec289f618ecb2ae81558a2ef4f55c6ac", func := "loop.example/g00483/laws.FnExactDetach", spec := "fnExactDetach", inPlace := ["internal/abi.NoEscape", "internal/bytealg.MakeNoZero", "internal/bytealg.abigen_runtime_cmpstring"], unfollowed := true, recurses := true, apart := false }
def FnExactDetachSaid : Prop := fnExactDetachRow.holds Tryz.pinned (OpenSpec.ofChange fnExactDetachSpec)

/-- ITS FALSE NEIGHBOUR: 'it returns false'. Refute it at one input. -/
def fnExactDetachWrong : ChangeSpec := { name := "fnExactDetach", fn := fun _ => fun
  | [d1, d2] => { results := [.lit (.bool false)], args := [d1, d2] }
  | _ => none }
def FnExactDetachWrongFalsely : Prop := fnExactDetachRow.holds Tryz.pinned (OpenSpec.ofChange fnExactDetachWrong)

/- THE SECOND FORM. 'bulk': how many values and letters a reading holds, each counted each time it is reached (what is shared counts as often as it is met; a slice's spare places count too). A statement '..UptoSaid' is the law's where the arguments, and the package variables that the reading takes, are together of bulk at most 1048576: NARROWER than '..Said'. Prove '..Said' where nothing that the law and all that it calls make is longer than what came in: it says more and counts as full. Else prove '..UptoSaid'. A law counts once. -/
mutual
def uptoBulk {H : Type} : DataW H → Nat
  | .lit (.string bytes) => bytes.length + 1
  | .lit _ => 1
  | .nil => 1
  | .ptr d => uptoBulk d + 1
  | .slice elems spare => uptoBulkAll elems + uptoBulkAll spare + 1
  | .agg parts => uptoBulkAll parts + 1
  | .iface _ d => uptoBulk d + 1
  | .map entries => uptoBulkEntries entries + 1
  | .held _ => 1
def uptoBulkAll {H : Type} : List (DataW H) → Nat
  | [] => 0
  | d :: r => uptoBulk d + uptoBulkAll r
def uptoBulkEntries {H : Type} : List (Lit × DataW H) → Nat
  | [] => 0
  | x :: r => uptoBulkEntry x + uptoBulkEntries r
def uptoBulkEntry {H : Type} : Lit × DataW H → Nat
  | (.string bytes, d) => bytes.length + uptoBulk d + 1
  | (_, d) => uptoBulk d + 1
 end
def uptoSmall : (H : Type) → List (DataW H) → Bool := fun _ ds => decide (uptoBulkAll ds ≤ 1048576)
def OpenSpec.upto (s : _root_.Go.ChangeSpec) : _root_.Go.OpenSpec := { _root_.Go.OpenSpec.ofChange s with cond := some uptoSmall }

/-- 'laws.FnExactSpread', WHERE WHAT IT READS IS OF BULK AT MOST 1048576: true; the input reads as it did. -/
def fnExactSpreadUptoRow : OpenClaim := { program := "ythbgpgfloghnoaagreat", sum := "dfa5ef38ba2fbdbdbf8877e8d89f4f99ec289f618ecb2ae81558a2ef4f55c6ac", func := "loop.example/g00483/laws.FnExactSpread", spec := "fnExactSpread", inPlace := ["internal/abi.NoEscape", "internal/bytealg.MakeNoZero", "internal/bytealg.abigen_runtime_cmpstring"], unfollowed := true, recurses := true, apart := false, narrowed := true }
def FnExactSpreadUptoSaid : Prop := fnExactSpreadUptoRow.holds Tryz.pinned (OpenSpec.upto fnExactSpreadSpec)

/-- 'laws.FnExactEligible', WHERE WHAT IT READS IS OF BULK AT MOST 1048576: true; the input reads as it did. -/
def fnExactEligibleUptoRow : OpenClaim := { program := "ythbgpgfloghnoaagreat", sum := "dfa5ef38ba2fbdbdbf8877e8d89f4f99ec289f618ecb2ae81558a2ef4f55c6ac", func := "loop.example/g00483/laws.FnExactEligible", spec := "fnExactEligible", inPlace := ["internal/abi.NoEscape", "internal/bytealg.MakeNoZero", "internal/bytealg.abigen_runtime_cmpstring"], unfollowed := true, recurses := true, apart := false, narrowed := true }
def FnExactEligibleUptoSaid : Prop := fnExactEligibleUptoRow.holds Tryz.pinned (OpenSpec.upto fnExactEligibleSpec)

/-- 'laws.FnExactLeftover', WHERE WHAT IT READS IS OF BULK AT MOST 1048576: true; the input reads as it did. -/
def fnExactLeftoverUptoRow : OpenClaim := { program := "ythbgpgfloghnoaagreat", sum := "dfa5ef38ba2fbdbdbf8877e8d89f4f99ec289f618ecb2ae81558a2ef4f55c6ac", func := "loop.example/g00483/laws.FnExactLeftover", spec := "fnExactLeftover", inPlace := ["internal/abi.NoEscape", "internal/bytealg.MakeNoZero", "internal/bytealg.abigen_runtime_cmpstring"], unfollowed := true, recurses := true, apart := false, narrowed := true }
def FnExactLeftoverUptoSaid : Prop := fnExactLeftoverUptoRow.holds Tryz.pinned (OpenSpec.upto fnExactLeftoverSpec)

/-- 'laws.FnExactPick', WHERE WHAT IT READS IS OF BULK AT MOST 1048576: true; the input reads as it did. -/
def fnExactPickUptoRow : OpenClaim := { program := "ythbgpgfloghnoaagreat", sum := "dfa5ef38ba2fbdbdbf8877e8d89f4f99ec289f618ecb2ae81558a2ef4f55c6ac", func := "loop.example/g00483/laws.FnExactPick", spec := "fnExactPick", inPlace := ["internal/abi.NoEscape", "internal/bytealg.MakeNoZero", "internal/bytealg.abigen_runtime_cmpstring"], unfollowed := true, recurses := true, apart := false, narrowed := true }
def FnExactPickUptoSaid : Prop := fnExactPickUptoRow.holds Tryz.pinned (OpenSpec.upto fnExactPickSpec)

/-- 'laws.FnExactStale', WHERE WHAT IT READS IS OF BULK AT MOST 1048576: true; the input reads as it did. -/
def fnExactStaleUptoRow : OpenClaim := { program := "ythbgpgfloghnoaagreat", sum := "dfa5ef38ba2fbdbdbf8877e8d89f4f99ec289f618ecb2ae81558a2ef4f55c6ac", func := "loop.example/g00483/laws.FnExactStale", spec := "fnExactStale", inPlace := ["internal/abi.NoEscape", "internal/bytealg.MakeNoZero", "internal/bytealg.abigen_runtime_cmpstring"], unfollowed := true, recurses := true, apart := false, narrowed := true }
def FnExactStaleUptoSaid : Prop := fnExactStaleUptoRow.holds Tryz.pinned (OpenSpec.upto fnExactStaleSpec)

/-- 'laws.FnExactDetach', WHERE WHAT IT READS IS OF BULK AT MOST 1048576: true; the input reads as it did. -/
def fnExactDetachUptoRow : OpenClaim := { program := "ythbgpgfloghnoaagreat", sum := "dfa5ef38ba2fbdbdbf8877e8d89f4f99ec289f618ecb2ae81558a2ef4f55c6ac", func := "loop.example/g00483/laws.FnExactDetach", spec := "fnExactDetach", inPlace := ["internal/abi.NoEscape", "internal/bytealg.MakeNoZero", "internal/bytealg.abigen_runtime_cmpstring"], unfollowed := true, recurses := true, apart := false, narrowed := true }
def FnExactDetachUptoSaid : Prop := fnExactDetachUptoRow.holds Tryz.pinned (OpenSpec.upto fnExactDetachSpec)

end Rows
end Go.Proofs.YthbgpgfloghnoaaGreat
