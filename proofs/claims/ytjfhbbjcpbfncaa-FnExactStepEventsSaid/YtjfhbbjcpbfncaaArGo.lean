import Derived.Test.YtjfhbbjcpbfncaaArGt0
import Derived.Test.YtjfhbbjcpbfncaaArWS
namespace Go.Ar
open Go.Proofs
set_option linter.unusedVariables false
set_option maxRecDepth 100000
set_option linter.unusedSimpArgs false

theorem opn_Node : Opn Try.prog 125 nodeC wfNode :=
  (opn_struct Try.underlying125 (by decide +kernel) (opnL_cons (opn_int Try.underlying3) rfl (opnL_cons (opn_int Try.underlying3) (by decide +kernel) (opnL_cons (opn_int Try.underlying3) (by decide +kernel) (opnL_cons (opn_int Try.underlying3) (by decide +kernel) (opnL_cons (opn_slice (fR := intR) Try.underlying77 (z := 1) (by decide +kernel) (by omega) (opn_int Try.underlying3) (fun a => rfl) (fun a => rfl)) (by decide +kernel) (opnL_nil))))))).as (fun a => (⟨a.1, a.2.1, a.2.2.1, a.2.2.2.1, a.2.2.2.2.1⟩ : NodeD)) (fun a => rfl) (fun a h => h.2.2.2.2.1.1)
theorem opn_Fs : Opn Try.prog 31 fsC wfFs :=
  (opn_struct Try.underlying31 (by decide +kernel) (opnL_cons (opn_slice (fR := nodeR) Try.underlying28 (z := 5) (by decide +kernel) (by omega) opn_Node (fun a => rfl) (fun a => rfl)) rfl (opnL_cons (opn_slice (fR := strR) Try.underlying29 (z := 1) (by decide +kernel) (by omega) (opn_str Try.underlying9) (fun a => rfl) (fun a => rfl)) (by decide +kernel) (opnL_nil)))).as (fun a => (⟨a.1, a.2.1⟩ : FsD)) (fun a => rfl) (fun a h => ⟨h.1, h.2.1⟩)
theorem opn_Branch : Opn Try.prog 142 branchC wfBranch :=
  (opn_struct Try.underlying142 (by decide +kernel) (opnL_cons (opn_int Try.underlying3) rfl (opnL_cons opn_Fs (by decide +kernel) (opnL_nil)))).as (fun a => (⟨a.1, a.2.1⟩ : BranchD)) (fun a => rfl) (fun a h => h.2.1)
theorem opn_Move : Opn Try.prog 49 moveC wfMove :=
  (opn_struct Try.underlying49 (by decide +kernel) (opnL_cons (opn_bool Try.underlying4) rfl (opnL_cons (opn_bool Try.underlying4) (by decide +kernel) (opnL_cons (opn_int Try.underlying3) (by decide +kernel) (opnL_cons (opn_int Try.underlying3) (by decide +kernel) (opnL_cons (opn_str Try.underlying9) (by decide +kernel) (opnL_cons (opn_int Try.underlying3) (by decide +kernel) (opnL_cons (opn_int Try.underlying3) (by decide +kernel) (opnL_nil))))))))).as (fun a => (⟨a.1, a.2.1, a.2.2.1, a.2.2.2.1, a.2.2.2.2.1, a.2.2.2.2.2.1, a.2.2.2.2.2.2.1⟩ : MoveD)) (fun a => rfl) (fun a h => h.2.2.2.2.1)
theorem opn_Pool : Opn Try.prog 51 poolC wfPool :=
  (opn_struct Try.underlying51 (by decide +kernel) (opnL_cons (opn_int Try.underlying3) rfl (opnL_cons (opn_int Try.underlying3) (by decide +kernel) (opnL_cons (opn_slice (fR := branchR) Try.underlying47 (z := 3) (by decide +kernel) (by omega) opn_Branch (fun a => rfl) (fun a => rfl)) (by decide +kernel) (opnL_cons opn_Move (by decide +kernel) (opnL_nil)))))).as (fun a => (⟨a.1, a.2.1, a.2.2.1, a.2.2.2.1⟩ : PoolD)) (fun a => rfl) (fun a h => ⟨h.2.2.1, h.2.2.2.1⟩)
theorem opn_Step : Opn Try.prog 53 stepC wfStep :=
  (opn_struct Try.underlying53 (by decide +kernel) (opnL_cons (opn_int Try.underlying3) rfl (opnL_cons opn_Fs (by decide +kernel) (opnL_nil)))).as (fun a => (⟨a.1, a.2.1⟩ : StepD)) (fun a => rfl) (fun a h => h.2.1)
end Go.Ar
