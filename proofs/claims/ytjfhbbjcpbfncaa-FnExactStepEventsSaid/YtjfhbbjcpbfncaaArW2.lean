import Derived.Test.YtjfhbbjcpbfncaaArKb
import Derived.Test.YtjfhbbjcpbfncaaArW2s
namespace Go.Ar
open Go.Proofs
set_option linter.unusedVariables false
set_option linter.unusedSimpArgs false
set_option maxRecDepth 20000

theorem ret_FnExactStepEvents (p : PoolD) (s : StepD) (h_p : wfPool p) (h_s : wfStep s) : Ret pg 5 true [.ag (poolC p), .ag (stepC s)] [] (.b true) := by
  refine ret_eq fun r hr => ?_
  refine ret0 Try.func5 rfl (by decide +kernel) rfl (hr ▸ trivial) (awF.go 60 [(8, [⟨false, [26], [24]⟩, ⟨false, [26], [25]⟩, ⟨false, [24, 25], [26]⟩, ⟨true, [], [27]⟩, ⟨true, [], [28]⟩, ⟨true, [], [6]⟩]), (14, [⟨false, [41, 42], [40]⟩, ⟨false, [40], [41]⟩, ⟨false, [40], [42]⟩, ⟨true, [], [43]⟩, ⟨true, [], [44]⟩]), (16, [⟨false, [46, 47], [45]⟩, ⟨false, [45], [46]⟩, ⟨false, [45], [47]⟩, ⟨true, [], [48]⟩, ⟨true, [], [49]⟩]), (31, [⟨false, [77], [75]⟩, ⟨false, [77], [76]⟩, ⟨false, [75, 76], [77]⟩, ⟨true, [], [78]⟩, ⟨true, [], [79]⟩, ⟨true, [], [13]⟩])] (by decide +kernel) ?_)
  cbv; simp only [F]
  refine CallK.intro (ret_szPool p 1048576 h_p (by omega) (by omega)) ?_
  generalize e1 : lessS 1048576 (sizePool p) = l1
  have q1 : IsLess 1048576 (sizePool p) l1 := e1
  clear e1
  cbv; simp only [F]
  split <;> (rename_i h; simp only [h]; cbv; simp only [F])
  · exact LeV.tb hr rfl
  have g1 := ge_zero h
  clear h
  have hs_p : sizePool p ≤ 1048576 := by have := (q1.pos g1).eq; omega
  have k1 : l1 ≤ 1048576 := (q1.pos g1).le (by omega)
  clear q1
  refine CallK.intro (ret_szStep s l1 h_s g1 k1) ?_
  generalize e2 : lessS l1 (sizeStep s) = l2
  have q2 : IsLess l1 (sizeStep s) l2 := e2
  clear e2
  cbv; simp only [F]
  split <;> (rename_i h; simp only [h]; cbv; simp only [F])
  · exact LeV.tb hr rfl
  have g2 := ge_zero h
  clear h
  have hs_s : sizeStep s ≤ 1048576 := by have := (q2.pos g2).eq; omega
  have k2 : l2 ≤ 1048576 := (q2.pos g2).le (by omega)
  clear q2
  clear g1 k1
  clear g2 k2
  have hy_p0 : szL sizeBranch p.branches ≤ 68719476736 := by unfold sizePool sizeMove at hs_p; omega
  have hc_p : sumS cntBranch p.branches ≤ 8 * sizePool p := by have := csum_Branch p.branches; unfold sizePool sizeMove; omega
  have hy_s0 : szL sizeNode s.fs.nodes ≤ 68719476736 := by unfold sizeStep sizeFs at hs_s; omega
  have hy_s1 : szL List.length s.fs.data ≤ 68719476736 := by unfold sizeStep sizeFs at hs_s; omega
  have hc_s : sumS cntNode s.fs.nodes + sumS cntStr s.fs.data ≤ 8 * sizeStep s := by have := csum_Node s.fs.nodes; have := csum_String s.fs.data; unfold sizeStep sizeFs; omega
  have hb : p.branches.length ≤ 4000000 := by have := hs_p; unfold sizePool szL at this; omega
  have hsw := stepEvents_size p s
  refine CallK.intro (ret_toPool p (by omega)) ?_
  cbv; simp only [F]
  refine CallK.intro (ret_toStep s (by omega)) ?_
  cbv; simp only [F]
  refine CallK.intro (r_sStepEvents (s_StepEvents p s hb)) ?_
  generalize hw : stepEvents p s = w0 at hsw ⊢
  have hsw0 : szL sizeEvent w0 ≤ 4000000 := hsw
  have hz_0 : szL sizeEvent w0 ≤ 68719476736 := by omega
  have hB0 : MkB 1 (sumS cntEvent w0) := MkB.of (csum_Event w0) (by omega) (by omega)
  have hz_00 : szL sizeEvent w0 ≤ 68719476736 := by omega
  cbv; simp only [F]
  refine CallK.intro (ret_toPool p (by omega)) ?_
  cbv; simp only [F]
  refine CallK.intro (ret_toStep s (by omega)) ?_
  cbv; simp only [F]
  refine CallK.intro (r_iStepEvents (i_StepEvents p s hb)) ?_
  rw [hw]
  cbv; simp only [F]
  refine CallK.intro (ret_eqEventS w0 w0 hz_0) ?_
  rw [decide_eq_true rfl]
  cbv; simp only [F]
  refine CallK.intro (ret_toPool p (by omega)) ?_
  cbv; simp only [F]
  refine CallK.intro (ret_eqPool p p (by omega)) ?_
  rw [decide_eq_true rfl]
  cbv; simp only [F]
  refine CallK.intro (ret_toStep s (by omega)) ?_
  cbv; simp only [F]
  refine CallK.intro (ret_eqStep s s (by omega)) ?_
  rw [decide_eq_true rfl]
  cbv; simp only [F]
  intro hv0
  cbv; simp only [F]
  refine CallMK.intro (ret_markPool hv0 _ _ p.branches _ _ _ _ _ _ _ 1 (MkB.of (s := sizePool p) (by omega) (by omega) (by omega)) hy_p0) ?_
  generalize ek : 1 + (sumS cntBranch p.branches : Int) = j1
  have ja1 : IsAdd 1 (sumS cntBranch p.branches) j1 := isAdd (by rw [← ek] <;> omega)
  clear ek
  generalize mkL cntBranch mkBranch 1 p.branches = m10
  have jl1 : 0 ≤ j1 ∧ j1 ≤ 100000000 := by unfold IsAdd at ja1; omega
  cbv; simp only [F]
  intro hv1
  cbv; simp only [F]
  intro hv2
  cbv; simp only [F]
  refine CallMK.intro (ret_markStep hv1 hv2 _ s.fs.nodes s.fs.data j1 (MkB.of (s := sizeStep s) (by omega) jl1.1 (by omega)) hy_s0 hy_s1) ?_
  generalize ek : j1 + (sumS cntNode s.fs.nodes : Int) + (sumS cntStr s.fs.data : Int) = j2
  have ja2 : IsAdd j1 (sumS cntNode s.fs.nodes + sumS cntStr s.fs.data) j2 := isAdd (by rw [← ek] <;> omega)
  clear ek
  generalize mkL cntNode mkNode j1 s.fs.nodes = m20
  generalize mkL cntStr mkStr (j1 + (sumS cntNode s.fs.nodes : Nat)) s.fs.data = m21
  have jl2 : 0 ≤ j2 ∧ j2 ≤ 200000000 := by unfold IsAdd at ja2; have := jl1.1; have := jl1.2; omega
  cbv; simp only [F]
  simp only [ge_lss jl2.1]
  cbv; simp only [F]
  refine CallK.intro (ret_eqEventS w0 w0 hz_0) ?_
  rw [decide_eq_true rfl]
  cbv; simp only [F]
  intro hv3
  cbv; simp only [F]
  refine CallMK.intro (ret_markEventS _ w0 1 hB0 hz_00) ?_
  generalize ek : 1 + (sumS cntEvent w0 : Int) = r0
  have ra0 : IsAdd 1 (sumS cntEvent w0) r0 := isAdd (by rw [← ek] <;> omega)
  clear ek
  generalize hm00 : mkL cntEvent mkEvent 1 w0 = n00
  have rb0 := ge_lss (ra0.ge (by omega))
  cbv; simp only [F]
  rw [← hm00]
  refine CallK.intro (ret_heldEventS w0 1 hB0 hz_00) ?_
  rw [hm00, show 1 + (sumS cntEvent w0 : Int) = r0 from by unfold IsAdd at ra0; omega]
  cbv; simp only [F]
  simp only [rb0]
  cbv; simp only [F]
  simp only [neq_self]
  cbv; simp only [F]
  refine CallK.intro (ret_toPool p (by omega)) ?_
  cbv; simp only [F]
  refine CallK.intro (ret_toStep s (by omega)) ?_
  cbv; simp only [F]
  refine CallK.intro (r_iStepEvents (i_StepEvents p s hb)) ?_
  rw [hw]
  cbv; simp only [F]
  refine CallK.intro (ret_eqEventS w0 w0 hz_0) ?_
  rw [decide_eq_true rfl]
  cbv; simp only [F]
  rw [← hm00]
  refine CallK.intro (ret_heldEventS w0 1 hB0 hz_00) ?_
  rw [hm00, show 1 + (sumS cntEvent w0 : Int) = r0 from by unfold IsAdd at ra0; omega]
  cbv; simp only [F]
  simp only [rb0]
  cbv; simp only [F]
  simp only [neq_self]
  cbv; simp only [F]
  exact LeV.tb hr rfl
end Go.Ar
