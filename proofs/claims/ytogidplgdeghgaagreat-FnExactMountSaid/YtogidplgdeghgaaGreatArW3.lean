import Derived.Test.YtogidplgdeghgaaGreatArKm
import Derived.Test.YtogidplgdeghgaaGreatArPl
namespace Go.Ar
open Go.Proofs
set_option linter.unusedVariables false
set_option linter.unusedSimpArgs false
set_option maxRecDepth 20000
theorem ret_FnExactMount (D : DiskD) (h_D : wfDisk D) : Ret pg 4 true [.ag (diskC D)] [] (.b true) := by
 refine ret_eq fun r hr => ?_
 refine ret0 Tryz.func4 rfl (by decide +kernel) rfl (hr ▸ trivial) (awF.go 60 [(10, [⟨false, [42, 43], [41]⟩, ⟨false, [41], [42]⟩, ⟨false, [41], [43]⟩, ⟨true, [], [44]⟩, ⟨true, [], [45]⟩])] (by decide +kernel) ?_)
 cbv; simp only [F]
 refine CallK.intro (ret_szDisk D 1048576 h_D (by omega) (by omega)) ?_
 generalize e1 : lessS 1048576 (sizeDisk D) = l1
 have q1 : IsLess 1048576 (sizeDisk D) l1 := e1
 clear e1
 cbv; simp only [F]
 split <;> (rename_i h; simp only [h]; cbv; simp only [F])
 ·exact LeV.tb hr rfl
 have g1 := ge_zero h
 clear h
 have hs_D : sizeDisk D ≤ 1048576 := by have := (q1.pos g1).eq; omega
 have k1 : l1 ≤ 1048576 := (q1.pos g1).le (by omega)
 clear q1
 clear g1 k1
 have hy_D0 : szL List.length D.sectors ≤ 68719476736 := by unfold sizeDisk at hs_D; omega
 have hy_D1 : szL sizePut D.pend ≤ 68719476736 := by unfold sizeDisk at hs_D; omega
 have hc_D : sumS cntStr D.sectors + sumS cntPut D.pend ≤ 8 * sizeDisk D := by have := csum_String D.sectors; have := csum_Put D.pend; unfold sizeDisk; omega
 have hb : D.sectors.length ≤ 4000000000 := by have := hs_D; unfold sizeDisk szL at this; omega
 have hsw := (mount_size D)
 refine CallK.intro (ret_toDisk D (by omega)) ?_
 cbv; simp only [F]
 refine CallK.intro ((r_sMount (s_Mount D hb))) ?_
 generalize hw : mountF D = w at hsw ⊢
 obtain ⟨⟨w0_nodes, w0_data⟩, w1⟩ := w
 dsimp only at hsw
 have hsw0 : sizeFs (⟨w0_nodes, w0_data⟩ : FsD) ≤ 4000000 := hsw
 have hz_0 : sizeFs (⟨w0_nodes, w0_data⟩ : FsD) ≤ 68719476736 := by omega
 have hz_00 : szL sizeNode w0_nodes ≤ 68719476736 := by unfold sizeFs at hsw0; dsimp only at hsw0; omega
 have hz_01 : szL List.length w0_data ≤ 68719476736 := by unfold sizeFs at hsw0; dsimp only at hsw0; omega
 have hB0 : MkB 1 (sumS cntNode w0_nodes + (sumS cntStr w0_data)) := MkB.of (s := sizeFs (⟨w0_nodes, w0_data⟩ : FsD)) (by have := csum_Node w0_nodes; have := csum_String w0_data; unfold sizeFs; dsimp only; omega) (by omega) (by omega)
 cbv; simp only [F]
 refine CallK.intro (ret_toDisk D (by omega)) ?_
 cbv; simp only [F]
 refine CallK.intro ((r_iMount (i_Mount D hb))) ?_
 rw [hw]
 cbv; simp only [F]
 refine CallK.intro (ret_eqFs (⟨w0_nodes, w0_data⟩ : FsD) (⟨w0_nodes, w0_data⟩ : FsD) hz_0) ?_
 rw [decide_eq_true rfl]
 cbv; simp only [F]
 refine CallK.intro (ret_toDisk D (by omega)) ?_
 cbv; simp only [F]
 refine CallK.intro (ret_eqDisk D D (by omega)) ?_
 rw [decide_eq_true rfl]
 cbv; simp only [F]
 intro hv0
 cbv; simp only [F]
 intro hv1
 cbv; simp only [F]
 refine CallMK.intro (ret_markDisk hv0 hv1 D.sectors D.pend 1 (MkB.of (s := sizeDisk D) (by omega) (by omega) (by omega)) hy_D0 hy_D1) ?_
 generalize ek : 1 + (sumS cntStr D.sectors : Int) + (sumS cntPut D.pend : Int) = j1
 have ja1 : IsAdd 1 (sumS cntStr D.sectors + sumS cntPut D.pend) j1 := isAdd (by rw [← ek] <;> omega)
 clear ek
 generalize mkL cntStr mkStr 1 D.sectors = m10
 generalize mkL cntPut mkPut (1 + (sumS cntStr D.sectors : Nat)) D.pend = m11
 have jl1 : 0 ≤ j1 ∧ j1 ≤ 100000000 := by unfold IsAdd at ja1; omega
 cbv; simp only [F]
 simp only [ge_lss jl1.1]
 cbv; simp only [F]
 refine CallK.intro (ret_eqFs (⟨w0_nodes, w0_data⟩ : FsD) (⟨w0_nodes, w0_data⟩ : FsD) hz_0) ?_
 rw [decide_eq_true rfl]
 cbv; simp only [F]
 intro hv2
 cbv; simp only [F]
 intro hv3
 cbv; simp only [F]
 refine CallMK.intro (ret_markFs hv2 hv3 w0_nodes w0_data 1 hB0 hz_00 hz_01) ?_
 generalize ek : 1 + (sumS cntNode w0_nodes : Int) + (sumS cntStr w0_data : Int) = r0
 have ra0 : IsAdd 1 (sumS cntNode w0_nodes + sumS cntStr w0_data) r0 := isAdd (by rw [← ek] <;> omega)
 clear ek
 generalize hm00 : mkL cntNode mkNode 1 w0_nodes = n00
 generalize hm01 : mkL cntStr mkStr (1 + (sumS cntNode w0_nodes : Nat)) w0_data = n01
 have rb0 := ge_lss (ra0.ge (by omega))
 cbv; simp only [F]
 rw [← hm00, ← hm01]
 refine CallK.intro (ret_heldFs w0_nodes w0_data 1 hB0 hz_00 hz_01) ?_
 rw [hm00, hm01, show 1 + (sumS cntNode w0_nodes : Int) + (sumS cntStr w0_data : Int) = r0 from by unfold IsAdd at ra0; omega]
 cbv; simp only [F]
 simp only [rb0]
 cbv; simp only [F]
 simp only [neq_self]
 cbv; simp only [F]
 refine CallK.intro (ret_toDisk D (by omega)) ?_
 cbv; simp only [F]
 refine CallK.intro ((r_iMount (i_Mount D hb))) ?_
 rw [hw]
 cbv; simp only [F]
 refine CallK.intro (ret_eqFs (⟨w0_nodes, w0_data⟩ : FsD) (⟨w0_nodes, w0_data⟩ : FsD) hz_0) ?_
 rw [decide_eq_true rfl]
 cbv; simp only [F]
 rw [← hm00, ← hm01]
 refine CallK.intro (ret_heldFs w0_nodes w0_data 1 hB0 hz_00 hz_01) ?_
 rw [hm00, hm01, show 1 + (sumS cntNode w0_nodes : Int) + (sumS cntStr w0_data : Int) = r0 from by unfold IsAdd at ra0; omega]
 cbv; simp only [F]
 simp only [rb0]
 cbv; simp only [F]
 simp only [neq_self]
 cbv; simp only [F]
 exact LeV.tb hr rfl
end Go.Ar
