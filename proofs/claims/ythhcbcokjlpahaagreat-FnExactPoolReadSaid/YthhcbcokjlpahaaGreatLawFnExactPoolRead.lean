/- The law FnExactPoolRead holds for every input. Conditions: none. -/
import Derived.Test.YthhcbcokjlpahaaGreatRows
import Derived.Test.YthhcbcokjlpahaaGreatArWc
import Derived.Test.YthhcbcokjlpahaaGreatArGo
import Derived.KernelRfl
namespace Go.Proofs.YthhcbcokjlpahaaGreat.fnExactPoolRead
open Go.ChangeShapes Go.WideShapes Go.ChangeAt Go.RowKit Go.Ar
set_option linter.unusedVariables false
theorem own : ownKnob Tryz.prog.godebug = none := by kernel_rfl
theorem laid : laidOutB Tryz.prog = true := by kernel_rfl
set_option maxRecDepth 100000 in
theorem lifted (os : Os) (started : os.Started) (H : Type) (enc : TypeId × Value → H) :
    ReturnsInHanded {} Tryz.checked os 5 .any (Rows.fnExactPoolReadSpec.pre6 enc Tryz.prog Tryz.f5 Rows.fnExactPoolReadRow.domain false) (Rows.fnExactPoolReadSpec.post enc Tryz.prog Tryz.f5 false true false false) := by
  refine returnsInHanded_of_change_sized (C := Tryz.checked) own started (by kernel_rfl) Tryz.func5
    (ChangeSpec.witness6 (enc := enc) (C := Tryz.checked) false ⟨#[], #[.agg #[.int .i64 0, .int .i64 0, .slice none 0 0, .bool false, .bool false, .int .i64 0, .int .i64 0, .string ByteArray.empty, .int .i64 0, .int .i64 0], .string ByteArray.empty, .int .i64 0, .int .i64 0], []⟩ 8 (by kernel_rfl) (by kernel_rfl) (by kernel_rfl) (by kernel_rfl)) ?_
  intro W base args ds gs before hval0 hW hcnd hsz0 _
  have hval : ∀ (j : Nat) t v, Tryz.f5.params[j]? = some t → args[j]? = some v → Value.okWide Tryz.prog W .any base t v := hval0
  have hW' : DataW.Whole enc Tryz.prog Tryz.f5.params.toList Rows.fnExactPoolReadSpec.vars false W args.toList ds gs before := hW
  have hW0 := hW'
  obtain ⟨p, q, hA, hV, -, -, -⟩ := hW'
  rw [Tryz.params5] at hA hval
  obtain ⟨v0, vs0, d0, ds0, p0, q0, hargs0, rfl, rfl, h0, r0⟩ := trodAll_cons hA
  obtain ⟨v1, vs1, d1, ds1, p1, q1, hargs1, rfl, rfl, h1, r1⟩ := trodAll_cons r0
  obtain ⟨v2, vs2, d2, ds2, p2, q2, hargs2, rfl, rfl, h2, r2⟩ := trodAll_cons r1
  obtain ⟨v3, vs3, d3, ds3, p3, q3, hargs3, rfl, rfl, h3, r3⟩ := trodAll_cons r2
  obtain ⟨rfl, rfl, rfl⟩ := trodAll_nil r3
  obtain rfl : args = #[v0, v1, v2, v3] := by cases args; simp_all
  obtain ⟨rfl, rfl⟩ := trodVars_none hV
  obtain ⟨x0, i0, k0⟩ := opn_Pool.struct Tryz.underlying26 (hval 0 _ v0 rfl rfl) h0 (fun _ => none)
  obtain ⟨u1, hu1⟩ := okWide_string Tryz.underlying9 (hval 1 _ v1 rfl rfl)
  obtain ⟨x1, i1, k1⟩ := (opn_str Tryz.underlying9).one (fun a => rfl) (fun cs hc => by rw [hu1] at hc; cases hc) h1 (fun _ => none)
  obtain ⟨u2, hu2⟩ := okWide_int Tryz.underlying3 (hval 2 _ v2 rfl rfl)
  obtain ⟨x2, i2, k2⟩ := (opn_int Tryz.underlying3).one (fun a => rfl) (fun cs hc => by rw [hu2] at hc; cases hc) h2 (fun _ => none)
  obtain ⟨u3, hu3⟩ := okWide_int Tryz.underlying3 (hval 3 _ v3 rfl rfl)
  obtain ⟨x3, i3, k3⟩ := (opn_int Tryz.underlying3).one (fun a => rfl) (fun cs hc => by rw [hu3] at hc; cases hc) h3 (fun _ => none)
  have hr := ret_FnExactPoolRead x0 x1 x2 x3 i0 i1
  rw [pg_eq] at hr
  refine (true_of_ret hr (args := #[v0, v1, v2, v3]) ⟨k0, ⟨k1, ⟨k2, ⟨k3, trivial⟩⟩⟩⟩).mono fun e W' ⟨he, bel⟩ => ⟨_, he, ?_⟩
  exact post_true laid rfl (by decide +kernel) rfl Tryz.underlying4 hW0 bel rfl
theorem andT {a b : Bool} (h : a = true) (k : b = true) : (a && b) = true := by rw [h, k]; rfl
theorem j0 : (Rows.fnExactPoolReadRow.wf (OpenSpec.ofChange Rows.fnExactPoolReadSpec)) = true := by kernel_rfl
theorem j1 : (laidOutB Tryz.pinned.checked.prog) = true := by kernel_rfl
theorem j2 : (mapsRowed Tryz.pinned.checked.prog) = true := by kernel_rfl
theorem j3 : (Tryz.f5.params.all (Tryz.pinned.checked.prog.readableRec ·)) = true := by kernel_rfl
theorem j4 : (namedTie Tryz.pinned.checked.prog Rows.fnExactPoolReadRow.named Rows.fnExactPoolReadSpec.vars) = true := by kernel_rfl
theorem j5 : (Rows.fnExactPoolReadRow.stops == []) = true := by kernel_rfl
theorem j6 : (Tryz.pinned.checked.prog.stops == []) = true := by kernel_rfl
theorem j7 : (Rows.fnExactPoolReadRow.knobs == []) = true := by kernel_rfl
theorem j8 : (Tryz.pinned.checked.prog.stopKnobs == []) = true := by kernel_rfl
theorem j9 : (Rows.fnExactPoolReadRow.inPlace == Tryz.pinned.checked.prog.inPlace 5) = true := by kernel_rfl
theorem j10 : (Rows.fnExactPoolReadRow.unfollowed == Tryz.pinned.checked.prog.unfollowed 5) = true := by kernel_rfl
theorem j11 : (Rows.fnExactPoolReadRow.recurses == Tryz.pinned.checked.prog.recurses 5) = true := by kernel_rfl
theorem j12 : (Rows.fnExactPoolReadRow.named == Tryz.pinned.checked.prog.varsNamed 5) = true := by kernel_rfl
theorem j13 : (Rows.fnExactPoolReadRow.maps == (Tryz.f5.params.toList ++ Rows.fnExactPoolReadSpec.plain.varTypes Tryz.pinned.checked.prog).any (Tryz.pinned.checked.prog.mapsRec ·)) = true := by kernel_rfl
theorem j14 : (Rows.fnExactPoolReadRow.ifaces == (Tryz.f5.params.toList ++ Rows.fnExactPoolReadSpec.plain.varTypes Tryz.pinned.checked.prog).any (Tryz.pinned.checked.prog.ifacesRec ·)) = true := by kernel_rfl
theorem j15 : (Rows.fnExactPoolReadRow.mapsOut == Tryz.pinned.checked.prog.mapsAmong Tryz.f5.resultTypes.toList) = true := by kernel_rfl
theorem j16 : (Rows.fnExactPoolReadRow.loops == (Tryz.f5.params.toList ++ Rows.fnExactPoolReadSpec.plain.varTypes Tryz.pinned.checked.prog).any (Tryz.pinned.checked.prog.loopsFrom ·)) = true := by kernel_rfl
theorem j17 : (Rows.fnExactPoolReadRow.wideKeys == (Tryz.f5.params.toList ++ Rows.fnExactPoolReadSpec.plain.varTypes Tryz.pinned.checked.prog ++ Tryz.f5.resultTypes.toList).any (Tryz.pinned.checked.prog.wideKeysFrom ·)) = true := by kernel_rfl
theorem j18 : (Rows.fnExactPoolReadSpec.vars.all (Tryz.pinned.checked.prog.varReadable ·)) = true := by kernel_rfl
theorem j19 : (Tryz.f5.resultTypes.all (fun t => Tryz.pinned.checked.prog.readableRec t && decide (t < Tryz.pinned.checked.prog.types.size))) = true := by kernel_rfl
theorem j20 : (Rows.fnExactPoolReadRow.ifacesOut == Tryz.f5.resultTypes.toList.any (Tryz.pinned.checked.prog.ifacesRec ·)) = true := by kernel_rfl
theorem j21 : (Rows.fnExactPoolReadRow.loopsOut == Tryz.f5.resultTypes.toList.any (Tryz.pinned.checked.prog.loopsFrom ·)) = true := by kernel_rfl
theorem j22 : (Rows.fnExactPoolReadRow.plainKeys == Tryz.pinned.checked.prog.plainKeys) = true := by kernel_rfl
theorem j23 : Rows.fnExactPoolReadRow.shortTexts.isNone = true := by kernel_rfl
theorem j24 : Tryz.pinned.checked.prog.stopsHeard = true := by kernel_rfl
theorem j25 : Tryz.pinned.checked.prog.mayEnter = true := by kernel_rfl
theorem j26 : (Rows.fnExactPoolReadRow.lifted == Tryz.pinned.checked.prog.liftsFinal) = true := by kernel_rfl
theorem j27 : (Tryz.pinned.checked.prog.make == some Rows.fnExactPoolReadRow.make) = true := by kernel_rfl
theorem j28 : (Rows.fnExactPoolReadRow.kinds == (if Rows.fnExactPoolReadRow.domain.isEmpty then [] else Tryz.f5.params.toList.map fun t => match Tryz.pinned.checked.prog.underlying t with | some (.int k) => some k | _ => none)) = true := by kernel_rfl
theorem j29 : (Rows.fnExactPoolReadRow.pinned == Rows.fnExactPoolReadRow.pinnedBy) = true := by kernel_rfl
theorem j30 : (Rows.fnExactPoolReadRow.veiled == (Tryz.f5.params.toList ++ Rows.fnExactPoolReadSpec.plain.varTypes Tryz.pinned.checked.prog ++ Tryz.f5.resultTypes.toList).any (Tryz.pinned.checked.prog.veiledRec ·)) = true := by kernel_rfl
theorem j31 : (Rows.fnExactPoolReadRow.veiledFits Tryz.pinned.checked.prog Tryz.f5.params.toList (Tryz.f5.params.toList ++ Rows.fnExactPoolReadSpec.plain.varTypes Tryz.pinned.checked.prog ++ Tryz.f5.resultTypes.toList)) = true := by kernel_rfl
theorem jg (P : Program) (f : FuncId) (fn : Func) (s : ChangeSpec) (c : OpenClaim) (h0 : (c.wf (OpenSpec.ofChange s)) = true) (h1 : (laidOutB P) = true) (h2 : (mapsRowed P) = true) (h3 : (fn.params.all (P.readableRec ·)) = true) (h4 : (namedTie P c.named s.vars) = true) (h5 : (c.stops == []) = true) (h6 : (P.stops == []) = true) (h7 : (c.knobs == []) = true) (h8 : (P.stopKnobs == []) = true) (h9 : (c.inPlace == P.inPlace f) = true) (h10 : (c.unfollowed == P.unfollowed f) = true) (h11 : (c.recurses == P.recurses f) = true) (h12 : (c.named == P.varsNamed f) = true) (h13 : (c.maps == (fn.params.toList ++ s.plain.varTypes P).any (P.mapsRec ·)) = true) (h14 : (c.ifaces == (fn.params.toList ++ s.plain.varTypes P).any (P.ifacesRec ·)) = true) (h15 : (c.mapsOut == P.mapsAmong fn.resultTypes.toList) = true) (h16 : (c.loops == (fn.params.toList ++ s.plain.varTypes P).any (P.loopsFrom ·)) = true) (h17 : (c.wideKeys == (fn.params.toList ++ s.plain.varTypes P ++ fn.resultTypes.toList).any (P.wideKeysFrom ·)) = true) (h18 : (s.vars.all (P.varReadable ·)) = true) (h19 : (fn.resultTypes.all (fun t => P.readableRec t && decide (t < P.types.size))) = true) (h20 : (c.ifacesOut == fn.resultTypes.toList.any (P.ifacesRec ·)) = true) (h21 : (c.loopsOut == fn.resultTypes.toList.any (P.loopsFrom ·)) = true) (h22 : (c.plainKeys == P.plainKeys) = true) (h23 : c.shortTexts.isNone = true) (h24 : P.stopsHeard = true) (h25 : P.mayEnter = true) (h26 : (c.lifted == P.liftsFinal) = true) (h27 : (P.make == some c.make) = true) (h28 : (c.kinds == (if c.domain.isEmpty then [] else fn.params.toList.map fun t => match P.underlying t with | some (.int k) => some k | _ => none)) = true) (h29 : (c.pinned == c.pinnedBy) = true) (h30 : (c.veiled == (fn.params.toList ++ s.plain.varTypes P ++ fn.resultTypes.toList).any (P.veiledRec ·)) = true) (h31 : (c.veiledFits P fn.params.toList (fn.params.toList ++ s.plain.varTypes P ++ fn.resultTypes.toList)) = true) : joinedFacts P f fn s c = true := by
  unfold joinedFacts
  exact (andT (andT (andT (andT (andT (andT (andT (andT (andT (andT (andT (andT (andT (andT (andT (andT (andT (andT (andT (andT (andT (andT (andT (andT (andT (andT (andT (andT (andT (andT (andT h0 h1) h2) h3) h4) h5) h6) h7) h8) h9) h10) h11) h12) h13) h14) h15) h16) h17) h18) h19) h20) h21) h22) h23) h24) h25) h26) h27) h28) h29) h30) h31)
theorem jf : joinedFacts Tryz.pinned.checked.prog 5 Tryz.f5 Rows.fnExactPoolReadSpec Rows.fnExactPoolReadRow = true := jg _ _ _ _ _ j0 j1 j2 j3 j4 j5 j6 j7 j8 j9 j10 j11 j12 j13 j14 j15 j16 j17 j18 j19 j20 j21 j22 j23 j24 j25 j26 j27 j28 j29 j30 j31
theorem over : Rows.fnExactPoolReadRow.holds Tryz.pinned (OpenSpec.ofChange Rows.fnExactPoolReadSpec) :=
  OpenClaim.holds_of_wide 5 Tryz.f5 rfl rfl rfl rfl rfl rfl rfl ⟨rfl, rfl, rfl, rfl, rfl⟩ rfl rfl rfl rfl rfl (by kernel_rfl) Tryz.func5 jf
    (of_decide_eq_true (by kernel_rfl)) (by unfold Func.isWrapper; first | (rw [if_pos (by decide +kernel)]; kernel_rfl) | (rw [if_neg (by decide +kernel)]; exact ⟨rfl, rfl⟩))
    (fun os started H enc _ => lifted os started H enc)
theorem proved : Rows.FnExactPoolReadSaid := over
#print axioms proved
end Go.Proofs.YthhcbcokjlpahaaGreat.fnExactPoolRead
namespace Go.Proofs.YthhcbcokjlpahaaGreat
/-- The row, under a short name, for the claim. -/
theorem fnExactPoolRead_holds : Rows.FnExactPoolReadSaid := fnExactPoolRead.proved
end Go.Proofs.YthhcbcokjlpahaaGreat
