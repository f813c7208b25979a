import Derived.Test.YtogidplgdeghgaaGreatArGt0
import Derived.Test.YtogidplgdeghgaaGreatArWS
namespace Go.Ar
open Go.Proofs
set_option linter.unusedVariables false
set_option maxRecDepth 100000
set_option linter.unusedSimpArgs false
theorem opn_Put : Opn Tryz.prog 141 putC wfPut :=
 (opn_struct Tryz.underlying141 (by decide +kernel) (opnL_cons (opn_int Tryz.underlying3) rfl (opnL_cons (opn_str Tryz.underlying9) (by decide +kernel) (opnL_nil)))).as (fun a => (⟨a.1, a.2.1⟩ : PutD)) (fun a => rfl) (fun a h => h.2.1)
theorem opn_Disk : Opn Tryz.prog 43 diskC wfDisk :=
 (opn_struct Tryz.underlying43 (by decide +kernel) (opnL_cons (opn_slice (fR := strR) Tryz.underlying40 (z := 1) (by decide +kernel) (by omega) (opn_str Tryz.underlying9) (fun a => rfl) (fun a => rfl)) rfl (opnL_cons (opn_slice (fR := putR) Tryz.underlying41 (z := 2) (by decide +kernel) (by omega) opn_Put (fun a => rfl) (fun a => rfl)) (by decide +kernel) (opnL_nil)))).as (fun a => (⟨a.1, a.2.1⟩ : DiskD)) (fun a => rfl) (fun a h => ⟨h.1, h.2.1⟩)
end Go.Ar
