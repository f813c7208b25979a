/- The law FnExactLeftover holds for every input. Conditions: none. -/
import Derived.Test.YthbgpgfloghnoaaGreatRows
import Derived.Test.YthbgpgfloghnoaaGreatArW8
import Derived.Test.YthbgpgfloghnoaaGreatArGo
import Derived.KernelRfl
namespace Go.Proofs.YthbgpgfloghnoaaGreat.fnExactLeftover
open Go.ChangeShapes Go.WideShapes Go.ChangeAt Go.RowKit Go.Ar
set_option linter.unusedVariables false
theorem own:ownKnob Tryz.prog.godebug=none:=by kernel_rfl
theorem laid:laidOutB Tryz.prog=true:=by kernel_rfl
set_option maxRecDepth 100000 in
theorem lifted (os : Os) (started : os.Started) (H : Type) (enc : TypeId × Value → H) :
    ReturnsInHanded {} Tryz.checked os 5 .any (Rows.fnExactLeftoverSpec.pre6 enc Tryz.prog Tryz.f5 Rows.fnExactLeftoverRow.domain false) (Rows.fnExactLeftoverSpec.post enc Tryz.prog Tryz.f5 false true false false):=by
  refine returnsInHanded_of_change_sized (C:=Tryz.checked) own started (by kernel_rfl) Tryz.func5
    (ChangeSpec.witness6 (enc:=enc) (C:=Tryz.checked) false ⟨#[],#[.agg #[.int .i64 0,.int .i64 0,.slice none 0 0,.bool false,.bool false,.int .i64 0,.int .i64 0,.string ByteArray.empty,.int .i64 0,.int .i64 0]],[]⟩ 8 (by kernel_rfl) (by kernel_rfl) (by kernel_rfl) (by kernel_rfl)) ?_
  intro W base args ds gs before hval0 hW hcnd hsz0 _
  have hval:∀ (j:Nat) t v,Tryz.f5.params[j]?=some t→args[j]?=some v→Value.okWide Tryz.prog W .any base t v:=hval0
  have hW':DataW.Whole enc Tryz.prog Tryz.f5.params.toList Rows.fnExactLeftoverSpec.vars false W args.toList ds gs before:=hW
  have hW0:=hW'
  obtain⟨p,q,hA,hV, -, -, -⟩:=hW'
  rw [Tryz.params5] at hA hval
  obtain⟨v0,vs0,d0,ds0,p0,q0,hargs0,rfl,rfl,h0,r0⟩:=trodAll_cons hA
  obtain⟨rfl,rfl,rfl⟩:=trodAll_nil r0
  obtain rfl:args = #[v0]:=by cases args;simp_all
  obtain⟨rfl,rfl⟩:=trodVars_none hV
  obtain⟨x0,i0,k0⟩:=opn_Pool.struct Tryz.underlying26 (hval 0 _ v0 rfl rfl) h0 (fun _=>none)
  have hr:=ret_FnExactLeftover x0 i0
  rw [pg_eq] at hr
  refine (true_of_ret hr (args := #[v0]) ⟨k0,trivial⟩).mono fun e W' ⟨he,bel⟩=>⟨_,he,?_⟩
  exact post_true laid rfl (by decide +kernel) rfl Tryz.underlying4 hW0 bel rfl
theorem over:Rows.fnExactLeftoverRow.holds Tryz.pinned (OpenSpec.ofChange Rows.fnExactLeftoverSpec) :=
  OpenClaim.holds_of_wide 5 Tryz.f5 rfl rfl rfl rfl rfl rfl rfl ⟨rfl,rfl,rfl,rfl,rfl⟩ rfl rfl rfl rfl rfl (by kernel_rfl) Tryz.func5 (by kernel_rfl)
    (of_decide_eq_true (by kernel_rfl)) (by unfold Func.isWrapper;first | (rw [if_pos (by decide +kernel)];kernel_rfl) | (rw [if_neg (by decide +kernel)];exact ⟨rfl,rfl⟩))
    (fun os started H enc _=>lifted os started H enc)
theorem proved:Rows.FnExactLeftoverSaid:=over
#print axioms proved
end Go.Proofs.YthbgpgfloghnoaaGreat.fnExactLeftover
namespace Go.Proofs.YthbgpgfloghnoaaGreat
/-- The row, under a short name, for the claim. -/
theorem fnExactLeftover_holds:Rows.FnExactLeftoverSaid:=fnExactLeftover.proved
end Go.Proofs.YthbgpgfloghnoaaGreat
