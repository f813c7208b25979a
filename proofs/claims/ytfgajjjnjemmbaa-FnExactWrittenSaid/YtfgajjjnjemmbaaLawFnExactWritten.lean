/- The law FnExactWritten holds for every input. Conditions: none. -/
import Derived.Test.YtfgajjjnjemmbaaRows
import Derived.Test.YtfgajjjnjemmbaaArXc
import Derived.KernelRfl
namespace Go.Proofs.Ytfgajjjnjemmbaa.fnExactWritten
open Go.ChangeShapes Go.WideShapes Go.ChangeAt Go.RowKit Go.Ar
set_option linter.unusedVariables false
theorem own : ownKnob Try.prog.godebug = none := by kernel_rfl
theorem laid : laidOutB Try.prog = true := by kernel_rfl
set_option maxRecDepth 100000 in
theorem lifted (os : Os) (started : os.Started) (H : Type) (enc : TypeId × Value → H) :
    ReturnsInHanded {} Try.checked os 5 .any (Rows.fnExactWrittenSpec.pre6 enc Try.prog Try.f5 Rows.fnExactWrittenRow.domain false) (Rows.fnExactWrittenSpec.post enc Try.prog Try.f5 false true false false) := by
  refine returnsInHanded_of_change_sized (C := Try.checked) own started (by kernel_rfl) Try.func5
    (ChangeSpec.witness6 (enc := enc) (C := Try.checked) false ⟨#[], #[.string ByteArray.empty, .int .i64 0, .string ByteArray.empty], []⟩ 8 (by kernel_rfl) (by kernel_rfl) (by kernel_rfl) (by kernel_rfl)) ?_
  intro W base args ds gs before hval0 hW hcnd hsz0 _
  have hval : ∀ (j : Nat) t v, Try.f5.params[j]? = some t → args[j]? = some v → Value.okWide Try.prog W .any base t v := hval0
  have hW' : DataW.Whole enc Try.prog Try.f5.params.toList Rows.fnExactWrittenSpec.vars false W args.toList ds gs before := hW
  have hW0 := hW'
  obtain ⟨p, q, hA, hV, -, -, -⟩ := hW'
  rw [Try.params5] at hA hval
  obtain ⟨v0, vs0, d0, ds0, p0, q0, hargs0, rfl, rfl, h0, r0⟩ := trodAll_cons hA
  obtain ⟨v1, vs1, d1, ds1, p1, q1, hargs1, rfl, rfl, h1, r1⟩ := trodAll_cons r0
  obtain ⟨v2, vs2, d2, ds2, p2, q2, hargs2, rfl, rfl, h2, r2⟩ := trodAll_cons r1
  obtain ⟨rfl, rfl, rfl⟩ := trodAll_nil r2
  obtain rfl : args = #[v0, v1, v2] := by cases args; simp_all
  obtain ⟨rfl, rfl⟩ := trodVars_none hV
  obtain ⟨u0, hu0⟩ := okWide_string Try.underlying9 (hval 0 _ v0 rfl rfl)
  obtain ⟨x0, i0, k0⟩ := (opn_str Try.underlying9).one (fun a => rfl) (fun cs hc => by rw [hu0] at hc; cases hc) h0 (fun _ => none)
  obtain ⟨u1, hu1⟩ := okWide_int Try.underlying3 (hval 1 _ v1 rfl rfl)
  obtain ⟨x1, i1, k1⟩ := (opn_int Try.underlying3).one (fun a => rfl) (fun cs hc => by rw [hu1] at hc; cases hc) h1 (fun _ => none)
  obtain ⟨u2, hu2⟩ := okWide_string Try.underlying9 (hval 2 _ v2 rfl rfl)
  obtain ⟨x2, i2, k2⟩ := (opn_str Try.underlying9).one (fun a => rfl) (fun cs hc => by rw [hu2] at hc; cases hc) h2 (fun _ => none)
  have hr := ret_FnExactWritten x0 x1 x2 i0 i1 i2
  rw [pg_eq] at hr
  refine (true_of_ret hr (args := #[v0, v1, v2]) ⟨k0, ⟨k1, ⟨k2, trivial⟩⟩⟩).mono fun e W' ⟨he, bel⟩ => ⟨_, he, ?_⟩
  exact post_true laid rfl (by decide +kernel) rfl Try.underlying4 hW0 bel rfl
theorem over : Rows.fnExactWrittenRow.holds Try.pinned (OpenSpec.ofChange Rows.fnExactWrittenSpec) :=
  OpenClaim.holds_of_wide 5 Try.f5 rfl rfl rfl rfl rfl rfl rfl ⟨rfl, rfl, rfl, rfl, rfl⟩ rfl rfl rfl rfl rfl (by kernel_rfl) Try.func5 (by kernel_rfl)
    (of_decide_eq_true (by kernel_rfl)) (by unfold Func.isWrapper; first | (rw [if_pos (by decide +kernel)]; kernel_rfl) | (rw [if_neg (by decide +kernel)]; exact ⟨rfl, rfl⟩))
    (fun os started H enc _ => lifted os started H enc)
theorem proved : Rows.FnExactWrittenSaid := over
#print axioms proved
end Go.Proofs.Ytfgajjjnjemmbaa.fnExactWritten
namespace Go.Proofs.Ytfgajjjnjemmbaa
/-- The row, under a short name, for the claim. -/
theorem fnExactWritten_holds : Rows.FnExactWrittenSaid := fnExactWritten.proved
end Go.Proofs.Ytfgajjjnjemmbaa
