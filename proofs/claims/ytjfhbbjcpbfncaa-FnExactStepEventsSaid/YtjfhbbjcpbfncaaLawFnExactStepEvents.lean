/- The law FnExactStepEvents holds for every input. Conditions: none. -/
import Derived.Test.YtjfhbbjcpbfncaaRows
import Derived.Test.YtjfhbbjcpbfncaaArW2
import Derived.Test.YtjfhbbjcpbfncaaArGo
import Derived.KernelRfl
namespace Go.Proofs.Ytjfhbbjcpbfncaa.fnExactStepEvents
open Go.ChangeShapes Go.WideShapes Go.ChangeAt Go.RowKit Go.Ar
set_option linter.unusedVariables false
theorem own : ownKnob Try.prog.godebug = none := by kernel_rfl
theorem laid : laidOutB Try.prog = true := by kernel_rfl
set_option maxRecDepth 100000 in
theorem lifted (os : Os) (started : os.Started) (H : Type) (enc : TypeId × Value → H) :
    ReturnsInHanded {} Try.checked os 5 .any (Rows.fnExactStepEventsSpec.pre6 enc Try.prog Try.f5 Rows.fnExactStepEventsRow.domain false) (Rows.fnExactStepEventsSpec.post enc Try.prog Try.f5 false true false false) := by
  refine returnsInHanded_of_change_sized (C := Try.checked) own started (by kernel_rfl) Try.func5
    (ChangeSpec.witness6 (enc := enc) (C := Try.checked) false ⟨#[], #[.agg #[.int .i64 0, .int .i64 0, .slice none 0 0, .bool false, .bool false, .int .i64 0, .int .i64 0, .string ByteArray.empty, .int .i64 0, .int .i64 0], .agg #[.int .i64 0, .slice none 0 0, .slice none 0 0]], []⟩ 8 (by kernel_rfl) (by kernel_rfl) (by kernel_rfl) (by kernel_rfl)) ?_
  intro W base args ds gs before hval0 hW hcnd hsz0 _
  have hval : ∀ (j : Nat) t v, Try.f5.params[j]? = some t → args[j]? = some v → Value.okWide Try.prog W .any base t v := hval0
  have hW' : DataW.Whole enc Try.prog Try.f5.params.toList Rows.fnExactStepEventsSpec.vars false W args.toList ds gs before := hW
  have hW0 := hW'
  obtain ⟨p, q, hA, hV, -, -, -⟩ := hW'
  rw [Try.params5] at hA hval
  obtain ⟨v0, vs0, d0, ds0, p0, q0, hargs0, rfl, rfl, h0, r0⟩ := trodAll_cons hA
  obtain ⟨v1, vs1, d1, ds1, p1, q1, hargs1, rfl, rfl, h1, r1⟩ := trodAll_cons r0
  obtain ⟨rfl, rfl, rfl⟩ := trodAll_nil r1
  obtain rfl : args = #[v0, v1] := by cases args; simp_all
  obtain ⟨rfl, rfl⟩ := trodVars_none hV
  obtain ⟨x0, i0, k0⟩ := opn_Pool.struct Try.underlying51 (hval 0 _ v0 rfl rfl) h0 (fun _ => none)
  obtain ⟨x1, i1, k1⟩ := opn_Step.struct Try.underlying53 (hval 1 _ v1 rfl rfl) h1 (fun _ => none)
  have hr := ret_FnExactStepEvents x0 x1 i0 i1
  rw [pg_eq] at hr
  refine (true_of_ret hr (args := #[v0, v1]) ⟨k0, ⟨k1, trivial⟩⟩).mono fun e W' ⟨he, bel⟩ => ⟨_, he, ?_⟩
  exact post_true laid rfl (by decide +kernel) rfl Try.underlying4 hW0 bel rfl
theorem over : Rows.fnExactStepEventsRow.holds Try.pinned (OpenSpec.ofChange Rows.fnExactStepEventsSpec) :=
  OpenClaim.holds_of_wide 5 Try.f5 rfl rfl rfl rfl rfl rfl rfl ⟨rfl, rfl, rfl, rfl, rfl⟩ rfl rfl rfl rfl rfl (by kernel_rfl) Try.func5 (by kernel_rfl)
    (of_decide_eq_true (by kernel_rfl)) (by unfold Func.isWrapper; first | (rw [if_pos (by decide +kernel)]; kernel_rfl) | (rw [if_neg (by decide +kernel)]; exact ⟨rfl, rfl⟩))
    (fun os started H enc _ => lifted os started H enc)
theorem proved : Rows.FnExactStepEventsSaid := over
#print axioms proved
end Go.Proofs.Ytjfhbbjcpbfncaa.fnExactStepEvents
namespace Go.Proofs.Ytjfhbbjcpbfncaa
/-- The row, under a short name, for the claim. -/
theorem fnExactStepEvents_holds : Rows.FnExactStepEventsSaid := fnExactStepEvents.proved
end Go.Proofs.Ytjfhbbjcpbfncaa
