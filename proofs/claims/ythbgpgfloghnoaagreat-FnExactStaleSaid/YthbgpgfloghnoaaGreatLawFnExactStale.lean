/- The law FnExactStale holds for every input. Conditions: none. -/
import Derived.Test.YthbgpgfloghnoaaGreatRows
import Derived.Test.YthbgpgfloghnoaaGreatArW7
import Derived.Test.YthbgpgfloghnoaaGreatArGo
import Derived.KernelRfl
namespace Go.Proofs.YthbgpgfloghnoaaGreat.fnExactStale
open Go.ChangeShapes Go.WideShapes Go.ChangeAt Go.RowKit Go.Ar
set_option linter.unusedVariables false
theorem own : ownKnob Tryz.prog.godebug = none := by kernel_rfl
theorem laid : laidOutB Tryz.prog = true := by kernel_rfl
set_option maxRecDepth 100000 in
theorem lifted (os : Os) (started : os.Started) (H : Type) (enc : TypeId × Value → H) :
    ReturnsInHanded {} Tryz.checked os 7 .any (Rows.fnExactStaleSpec.pre6 enc Tryz.prog Tryz.f7 Rows.fnExactStaleRow.domain false) (Rows.fnExactStaleSpec.post enc Tryz.prog Tryz.f7 false true false false) := by
  refine returnsInHanded_of_change_sized (C := Tryz.checked) own started (by kernel_rfl) Tryz.func7
    (ChangeSpec.witness6 (enc := enc) (C := Tryz.checked) false ⟨#[], #[.agg #[.int .i64 0, .int .i64 0, .slice none 0 0, .bool false, .bool false, .int .i64 0, .int .i64 0, .string ByteArray.empty, .int .i64 0, .int .i64 0], .int .i64 0], []⟩ 8 (by kernel_rfl) (by kernel_rfl) (by kernel_rfl) (by kernel_rfl)) ?_
  intro W base args ds gs before hval0 hW hcnd hsz0 _
  have hval : ∀ (j : Nat) t v, Tryz.f7.params[j]? = some t → args[j]? = some v → Value.okWide Tryz.prog W .any base t v := hval0
  have hW' : DataW.Whole enc Tryz.prog Tryz.f7.params.toList Rows.fnExactStaleSpec.vars false W args.toList ds gs before := hW
  have hW0 := hW'
  obtain ⟨p, q, hA, hV, -, -, -⟩ := hW'
  rw [Tryz.params7] at hA hval
  obtain ⟨v0, vs0, d0, ds0, p0, q0, hargs0, rfl, rfl, h0, r0⟩ := trodAll_cons hA
  obtain ⟨v1, vs1, d1, ds1, p1, q1, hargs1, rfl, rfl, h1, r1⟩ := trodAll_cons r0
  obtain ⟨rfl, rfl, rfl⟩ := trodAll_nil r1
  obtain rfl : args = #[v0, v1] := by cases args; simp_all
  obtain ⟨rfl, rfl⟩ := trodVars_none hV
  obtain ⟨x0, i0, k0⟩ := opn_Pool.struct Tryz.underlying26 (hval 0 _ v0 rfl rfl) h0 (fun _ => none)
  obtain ⟨u1, hu1⟩ := okWide_int Tryz.underlying3 (hval 1 _ v1 rfl rfl)
  obtain ⟨x1, i1, k1⟩ := (opn_int Tryz.underlying3).one (fun a => rfl) (fun cs hc => by rw [hu1] at hc; cases hc) h1 (fun _ => none)
  have hr := ret_FnExactStale x0 x1 i0
  rw [pg_eq] at hr
  refine (true_of_ret hr (args := #[v0, v1]) ⟨k0, ⟨k1, trivial⟩⟩).mono fun e W' ⟨he, bel⟩ => ⟨_, he, ?_⟩
  exact post_true laid rfl (by decide +kernel) rfl Tryz.underlying4 hW0 bel rfl
theorem over : Rows.fnExactStaleRow.holds Tryz.pinned (OpenSpec.ofChange Rows.fnExactStaleSpec) :=
  OpenClaim.holds_of_wide 7 Tryz.f7 rfl rfl rfl rfl rfl rfl rfl ⟨rfl, rfl, rfl, rfl, rfl⟩ rfl rfl rfl rfl rfl (by kernel_rfl) Tryz.func7 (by kernel_rfl)
    (of_decide_eq_true (by kernel_rfl)) (by unfold Func.isWrapper; first | (rw [if_pos (by decide +kernel)]; kernel_rfl) | (rw [if_neg (by decide +kernel)]; exact ⟨rfl, rfl⟩))
    (fun os started H enc _ => lifted os started H enc)
theorem proved : Rows.FnExactStaleSaid := over
#print axioms proved
end Go.Proofs.YthbgpgfloghnoaaGreat.fnExactStale
namespace Go.Proofs.YthbgpgfloghnoaaGreat
/-- The row, under a short name, for the claim. -/
theorem fnExactStale_holds : Rows.FnExactStaleSaid := fnExactStale.proved
end Go.Proofs.YthbgpgfloghnoaaGreat
