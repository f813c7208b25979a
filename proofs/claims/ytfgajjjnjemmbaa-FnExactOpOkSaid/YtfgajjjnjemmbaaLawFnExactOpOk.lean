/- The law FnExactOpOk holds for every input. Conditions: none. -/
import Derived.Test.YtfgajjjnjemmbaaRows
import Derived.Test.YtfgajjjnjemmbaaArXa
import Derived.KernelRfl
namespace Go.Proofs.Ytfgajjjnjemmbaa.fnExactOpOk
open Go.ChangeShapes Go.WideShapes Go.ChangeAt Go.RowKit Go.Ar
set_option linter.unusedVariables false
theorem own : ownKnob Try.prog.godebug = none := by kernel_rfl
theorem laid : laidOutB Try.prog = true := by kernel_rfl
theorem opn : ∃ fs, Try.prog.underlying 23 = some (.struct fs) ∧ Opn Try.prog 23 (fun x : Int × List UInt8 × List UInt8 × Int × List UInt8 × Int × Unit => [V.i .i64 x.1, V.s x.2.1, V.s x.2.2.1, V.i .i64 x.2.2.2.1, V.s x.2.2.2.2.1, V.i .i64 x.2.2.2.2.2.1])
    (fun x => x.2.1.length ≤ maxLen ∧ x.2.2.1.length ≤ maxLen ∧ x.2.2.2.2.1.length ≤ maxLen) := by
  refine ⟨_, Try.underlying23, ?_⟩
  have hi := opn_int Try.underlying3
  have hs := opn_str Try.underlying9
  refine (opn_struct Try.underlying23 (by decide +kernel) (opnL_cons hi rfl (opnL_cons hs (by decide +kernel) (opnL_cons hs (by decide +kernel) (opnL_cons hi (by decide +kernel) (opnL_cons hs (by decide +kernel) (opnL_cons hi (by decide +kernel) opnL_nil))))))).as (fun x => x) (fun x => rfl) (fun x h => ⟨h.2.1, h.2.2.1, h.2.2.2.2.1⟩)
set_option maxRecDepth 100000 in
theorem lifted (os : Os) (started : os.Started) (H : Type) (enc : TypeId × Value → H) :
    ReturnsInHanded {} Try.checked os 3 .any (Rows.fnExactOpOkSpec.pre6 enc Try.prog Try.f3 Rows.fnExactOpOkRow.domain false) (Rows.fnExactOpOkSpec.post enc Try.prog Try.f3 false true false false) := by
  refine returnsInHanded_of_change_sized (C := Try.checked) own started (by kernel_rfl) Try.func3
    (ChangeSpec.witness6 (enc := enc) (C := Try.checked) false ⟨#[], #[.agg #[.int .i64 0, .string ByteArray.empty, .string ByteArray.empty, .int .i64 0, .string ByteArray.empty, .int .i64 0]], []⟩ 8 (by kernel_rfl) (by kernel_rfl) (by kernel_rfl) (by kernel_rfl)) ?_
  intro W base args ds gs before hval0 hW hcnd hsz0 _
  have hval : ∀ (j : Nat) t v, Try.f3.params[j]? = some t → args[j]? = some v → Value.okWide Try.prog W .any base t v := hval0
  have hW' : DataW.Whole enc Try.prog Try.f3.params.toList Rows.fnExactOpOkSpec.vars false W args.toList ds gs before := hW
  have hW0 := hW'
  obtain ⟨p, q, hA, hV, -, -, -⟩ := hW'
  rw [Try.params3] at hA hval
  obtain ⟨v0, vs0, d0, ds0, p0, q0, hargs, rfl, rfl, h0, r0⟩ := trodAll_cons hA
  obtain ⟨rfl, rfl, rfl⟩ := trodAll_nil r0
  obtain rfl : args = #[v0] := by cases args; simp_all
  obtain ⟨rfl, rfl⟩ := trodVars_none hV
  obtain ⟨fs, hu, hop⟩ := opn
  obtain ⟨x, ⟨i1, i2, i3⟩, hx⟩ := hop.struct hu (hval 0 _ v0 rfl rfl) h0 (fun _ => none)
  have hr := ret_FnExactOpOk x.1 x.2.1 x.2.2.1 x.2.2.2.1 x.2.2.2.2.1 x.2.2.2.2.2.1 i1 i2 i3
  rw [pg_eq] at hr
  refine (true_of_ret hr (args := #[v0]) ⟨hx, trivial⟩).mono fun e W' ⟨he, bel⟩ => ⟨_, he, ?_⟩
  exact post_true laid rfl (by decide +kernel) rfl Try.underlying4 hW0 bel rfl
theorem over : Rows.fnExactOpOkRow.holds Try.pinned (OpenSpec.ofChange Rows.fnExactOpOkSpec) :=
  OpenClaim.holds_of_wide 3 Try.f3 rfl rfl rfl rfl rfl rfl rfl ⟨rfl, rfl, rfl, rfl, rfl⟩ rfl rfl rfl rfl rfl (by kernel_rfl) Try.func3 (by kernel_rfl)
    (of_decide_eq_true (by kernel_rfl)) (by unfold Func.isWrapper; first | (rw [if_pos (by decide +kernel)]; kernel_rfl) | (rw [if_neg (by decide +kernel)]; exact ⟨rfl, rfl⟩))
    (fun os started H enc _ => lifted os started H enc)
theorem proved : Rows.FnExactOpOkSaid := over
#print axioms proved
end Go.Proofs.Ytfgajjjnjemmbaa.fnExactOpOk
namespace Go.Proofs.Ytfgajjjnjemmbaa
/-- The row, under a short name, for the claim. -/
theorem fnExactOpOk_holds : Rows.FnExactOpOkSaid := fnExactOpOk.proved
end Go.Proofs.Ytfgajjjnjemmbaa
