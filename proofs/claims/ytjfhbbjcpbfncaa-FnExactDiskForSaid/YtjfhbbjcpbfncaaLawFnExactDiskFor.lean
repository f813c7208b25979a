/- The law FnExactDiskFor holds for every input. Conditions: none. -/
import Derived.Test.YtjfhbbjcpbfncaaRows
import Derived.Test.YtjfhbbjcpbfncaaArW1
import Derived.Test.YtjfhbbjcpbfncaaArGo
import Derived.KernelRfl
namespace Go.Proofs.Ytjfhbbjcpbfncaa.fnExactDiskFor
open Go.ChangeShapes Go.WideShapes Go.ChangeAt Go.RowKit Go.Ar
set_option linter.unusedVariables false
theorem own : ownKnob Try.prog.godebug = none := by kernel_rfl
theorem laid : laidOutB Try.prog = true := by kernel_rfl
set_option maxRecDepth 100000 in
theorem lifted (os : Os) (started : os.Started) (H : Type) (enc : TypeId × Value → H) :
    ReturnsInHanded {} Try.checked os 4 .any (Rows.fnExactDiskForSpec.pre6 enc Try.prog Try.f4 Rows.fnExactDiskForRow.domain false) (Rows.fnExactDiskForSpec.post enc Try.prog Try.f4 false true false false) := by
  refine returnsInHanded_of_change_sized (C := Try.checked) own started (by kernel_rfl) Try.func4
    (ChangeSpec.witness6 (enc := enc) (C := Try.checked) false ⟨#[], #[.agg #[.slice none 0 0, .slice none 0 0]], []⟩ 8 (by kernel_rfl) (by kernel_rfl) (by kernel_rfl) (by kernel_rfl)) ?_
  intro W base args ds gs before hval0 hW hcnd hsz0 _
  have hval : ∀ (j : Nat) t v, Try.f4.params[j]? = some t → args[j]? = some v → Value.okWide Try.prog W .any base t v := hval0
  have hW' : DataW.Whole enc Try.prog Try.f4.params.toList Rows.fnExactDiskForSpec.vars false W args.toList ds gs before := hW
  have hW0 := hW'
  obtain ⟨p, q, hA, hV, -, -, -⟩ := hW'
  rw [Try.params4] at hA hval
  obtain ⟨v0, vs0, d0, ds0, p0, q0, hargs0, rfl, rfl, h0, r0⟩ := trodAll_cons hA
  obtain ⟨rfl, rfl, rfl⟩ := trodAll_nil r0
  obtain rfl : args = #[v0] := by cases args; simp_all
  obtain ⟨rfl, rfl⟩ := trodVars_none hV
  obtain ⟨x0, i0, k0⟩ := opn_Fs.struct Try.underlying31 (hval 0 _ v0 rfl rfl) h0 (fun _ => none)
  have hr := ret_FnExactDiskFor x0 i0
  rw [pg_eq] at hr
  refine (true_of_ret hr (args := #[v0]) ⟨k0, trivial⟩).mono fun e W' ⟨he, bel⟩ => ⟨_, he, ?_⟩
  exact post_true laid rfl (by decide +kernel) rfl Try.underlying4 hW0 bel rfl
theorem over : Rows.fnExactDiskForRow.holds Try.pinned (OpenSpec.ofChange Rows.fnExactDiskForSpec) :=
  OpenClaim.holds_of_wide 4 Try.f4 rfl rfl rfl rfl rfl rfl rfl ⟨rfl, rfl, rfl, rfl, rfl⟩ rfl rfl rfl rfl rfl (by kernel_rfl) Try.func4 (by kernel_rfl)
    (of_decide_eq_true (by kernel_rfl)) (by unfold Func.isWrapper; first | (rw [if_pos (by decide +kernel)]; kernel_rfl) | (rw [if_neg (by decide +kernel)]; exact ⟨rfl, rfl⟩))
    (fun os started H enc _ => lifted os started H enc)
theorem proved : Rows.FnExactDiskForSaid := over
#print axioms proved
end Go.Proofs.Ytjfhbbjcpbfncaa.fnExactDiskFor
namespace Go.Proofs.Ytjfhbbjcpbfncaa
/-- The row, under a short name, for the claim. -/
theorem fnExactDiskFor_holds : Rows.FnExactDiskForSaid := fnExactDiskFor.proved
end Go.Proofs.Ytjfhbbjcpbfncaa
