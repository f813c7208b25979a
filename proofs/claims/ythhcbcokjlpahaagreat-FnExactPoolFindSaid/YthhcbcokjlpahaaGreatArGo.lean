import Derived.Test.YthhcbcokjlpahaaGreatArGt0
import Derived.Test.YthhcbcokjlpahaaGreatArWS
namespace Go.Ar
open Go.Proofs
set_option linter.unusedVariables false
set_option maxRecDepth 100000
set_option linter.unusedSimpArgs false
theorem opn_Node:Opn Tryz.prog 256 nodeC wfNode :=
 (opn_struct Tryz.underlying256 (by decide +kernel) (opnL_cons (opn_int Tryz.underlying3) rfl (opnL_cons (opn_int Tryz.underlying3) (by decide +kernel) (opnL_cons (opn_int Tryz.underlying3) (by decide +kernel) (opnL_cons (opn_int Tryz.underlying3) (by decide +kernel) (opnL_cons (opn_slice (fR:=intR) Tryz.underlying128 (z:=1) (by decide +kernel) (by omega) (opn_int Tryz.underlying3) (fun a=>rfl) (fun a=>rfl)) (by decide +kernel) (opnL_nil))))))).as (fun a=>(⟨a.1,a.2.1,a.2.2.1,a.2.2.2.1,a.2.2.2.2.1⟩:NodeD)) (fun a=>rfl) (fun a h=>h.2.2.2.2.1.1)
theorem opn_Fs:Opn Tryz.prog 135 fsC wfFs :=
 (opn_struct Tryz.underlying135 (by decide +kernel) (opnL_cons (opn_slice (fR:=nodeR) Tryz.underlying133 (z:=5) (by decide +kernel) (by omega) opn_Node (fun a=>rfl) (fun a=>rfl)) rfl (opnL_cons (opn_slice (fR:=strR) Tryz.underlying44 (z:=1) (by decide +kernel) (by omega) (opn_str Tryz.underlying9) (fun a=>rfl) (fun a=>rfl)) (by decide +kernel) (opnL_nil)))).as (fun a=>(⟨a.1,a.2.1⟩:FsD)) (fun a=>rfl) (fun a h=>⟨h.1,h.2.1⟩)
theorem opn_Branch:Opn Tryz.prog 137 branchC wfBranch :=
 (opn_struct Tryz.underlying137 (by decide +kernel) (opnL_cons (opn_int Tryz.underlying3) rfl (opnL_cons opn_Fs (by decide +kernel) (opnL_nil)))).as (fun a=>(⟨a.1,a.2.1⟩:BranchD)) (fun a=>rfl) (fun a h=>h.2.1)
theorem opn_Move:Opn Tryz.prog 24 moveC wfMove :=
 (opn_struct Tryz.underlying24 (by decide +kernel) (opnL_cons (opn_bool Tryz.underlying4) rfl (opnL_cons (opn_bool Tryz.underlying4) (by decide +kernel) (opnL_cons (opn_int Tryz.underlying3) (by decide +kernel) (opnL_cons (opn_int Tryz.underlying3) (by decide +kernel) (opnL_cons (opn_str Tryz.underlying9) (by decide +kernel) (opnL_cons (opn_int Tryz.underlying3) (by decide +kernel) (opnL_cons (opn_int Tryz.underlying3) (by decide +kernel) (opnL_nil))))))))).as (fun a=>(⟨a.1,a.2.1,a.2.2.1,a.2.2.2.1,a.2.2.2.2.1,a.2.2.2.2.2.1,a.2.2.2.2.2.2.1⟩:MoveD)) (fun a=>rfl) (fun a h=>h.2.2.2.2.1)
theorem opn_Pool:Opn Tryz.prog 26 poolC wfPool :=
 (opn_struct Tryz.underlying26 (by decide +kernel) (opnL_cons (opn_int Tryz.underlying3) rfl (opnL_cons (opn_int Tryz.underlying3) (by decide +kernel) (opnL_cons (opn_slice (fR:=branchR) Tryz.underlying22 (z:=3) (by decide +kernel) (by omega) opn_Branch (fun a=>rfl) (fun a=>rfl)) (by decide +kernel) (opnL_cons opn_Move (by decide +kernel) (opnL_nil)))))).as (fun a=>(⟨a.1,a.2.1,a.2.2.1,a.2.2.2.1⟩:PoolD)) (fun a=>rfl) (fun a h=>⟨h.2.2.1,h.2.2.2.1⟩)
theorem opn_Op:Opn Tryz.prog 56 opC wfOp :=
 (opn_struct Tryz.underlying56 (by decide +kernel) (opnL_cons (opn_int Tryz.underlying3) rfl (opnL_cons (opn_str Tryz.underlying9) (by decide +kernel) (opnL_cons (opn_str Tryz.underlying9) (by decide +kernel) (opnL_cons (opn_int Tryz.underlying3) (by decide +kernel) (opnL_cons (opn_str Tryz.underlying9) (by decide +kernel) (opnL_cons (opn_int Tryz.underlying3) (by decide +kernel) (opnL_nil)))))))).as (fun a=>(⟨a.1,a.2.1,a.2.2.1,a.2.2.2.1,a.2.2.2.2.1,a.2.2.2.2.2.1⟩:OpD)) (fun a=>rfl) (fun a h=>⟨h.2.1,h.2.2.1,h.2.2.2.2.1⟩)
theorem opn_Item:Opn Tryz.prog 150 itemC wfItem :=
 (opn_struct Tryz.underlying150 (by decide +kernel) (opnL_cons (opn_str Tryz.underlying9) rfl (opnL_cons (opn_int Tryz.underlying3) (by decide +kernel) (opnL_cons (opn_str Tryz.underlying9) (by decide +kernel) (opnL_cons (opn_int Tryz.underlying3) (by decide +kernel) (opnL_nil)))))).as (fun a=>(⟨a.1,a.2.1,a.2.2.1,a.2.2.2.1⟩:ItemD)) (fun a=>rfl) (fun a h=>⟨h.1,h.2.2.1⟩)
theorem opn_Tree:Opn Tryz.prog 54 treeC wfTree :=
 (opn_struct Tryz.underlying54 (by decide +kernel) (opnL_cons (opn_slice (fR:=itemR) Tryz.underlying52 (z:=4) (by decide +kernel) (by omega) opn_Item (fun a=>rfl) (fun a=>rfl)) rfl (opnL_nil))).as (fun a=>(⟨a.1⟩:TreeD)) (fun a=>rfl) (fun a h=>h.1)
end Go.Ar
