import Derived.Test.YthhcbcokjlpahaaGreatArKc
import Derived.Test.YthhcbcokjlpahaaGreatArPm
namespace Go.Ar
open Go.Proofs
set_option linter.unusedVariables false
set_option linter.unusedSimpArgs false
set_option maxRecDepth 20000
theorem ret_FnExactPoolFind(P:PoolD)(K:Int)(h_P:wfPool P):Ret pg 6 true [.ag (poolC P),.i .i64 K] [] (.b true):=by
 refine ret_eq fun r hr=>?_
 refine ret0 Tryz.func6 rfl (by decide +kernel) rfl (hr▸trivial) (awF.go 60 [(10,[⟨false,[32,33],[31]⟩,⟨false,[31],[32]⟩,⟨false,[31],[33]⟩,⟨true,[],[34]⟩,⟨true,[],[35]⟩])] (by decide +kernel) ?_)
 cbv;simp only [F]
 refine CallK.intro (ret_szPool P 1048576 h_P (by omega) (by omega)) ?_
 generalize e1:lessS 1048576 (sizePool P)=l1
 have q1:IsLess 1048576 (sizePool P) l1:=e1
 clear e1
 cbv;simp only [F]
 split <;> (rename_i h;simp only [h];cbv;simp only [F])
 ·exact LeV.tb hr rfl
 have g1:=ge_zero h
 clear h
 have hs_P:sizePool P≤1048576:=by have:=(q1.pos g1).eq;omega
 have k1:l1≤1048576:=(q1.pos g1).le (by omega)
 clear q1
 clear g1 k1
 have hy_P0:szL sizeBranch P.branches≤68719476736:=by unfold sizePool sizeMove at hs_P;omega
 have hc_P:sumS cntBranch P.branches≤8*sizePool P:=by have:=csum_Branch P.branches;unfold sizePool sizeMove;omega
 have hb:P.branches.length≤4000000000:=by have:=hs_P;unfold sizePool szL at this;omega
 have hm:P.move.path.length≤4000000000:=by have:=hs_P;unfold sizePool sizeMove at this;omega
 have hsw:=find_size P K
 refine CallK.intro (ret_toPool P (by omega)) ?_
 cbv;simp only [F]
 refine CallK.intro (r_sPoolFind.o (s_PoolFind P K hb hm)) ?_
 generalize hw:findF P K=w0 at hsw ⊢
 have hsw0:szL List.length w0≤4000000:=hsw
 have hz_0:szL List.length w0≤68719476736:=by omega
 have hB0:MkB 1 (sumS cntStr w0):=MkB.of (csum_String w0) (by omega) (by omega)
 have hz_00:szL List.length w0≤68719476736:=by omega
 cbv;simp only [F]
 refine CallK.intro (ret_toPool P (by omega)) ?_
 cbv;simp only [F]
 refine CallK.intro (r_iPoolFind.o (i_PoolFind P K hb hm)) ?_
 rw [hw]
 cbv;simp only [F]
 refine CallK.intro (ret_eqStringS w0 w0 hz_0) ?_
 rw [decide_eq_true rfl]
 cbv;simp only [F]
 refine CallK.intro (ret_toPool P (by omega)) ?_
 cbv;simp only [F]
 refine CallK.intro (ret_eqPool P P (by omega)) ?_
 rw [decide_eq_true rfl]
 cbv;simp only [F]
 intro hv0
 cbv;simp only [F]
 refine CallMK.intro (ret_markPool hv0 _ _ P.branches _ _ _ _ _ _ _ 1 (MkB.of (s:=sizePool P) (by omega) (by omega) (by omega)) hy_P0) ?_
 generalize ek:1+(sumS cntBranch P.branches:Int)=j1
 have ja1:IsAdd 1 (sumS cntBranch P.branches) j1:=isAdd (by rw [←ek] <;> omega)
 clear ek
 generalize mkL cntBranch mkBranch 1 P.branches=m10
 have jl1:0≤j1∧j1≤100000000:=by unfold IsAdd at ja1;omega
 cbv;simp only [F]
 simp only [ge_lss jl1.1]
 cbv;simp only [F]
 refine CallK.intro (ret_eqStringS w0 w0 hz_0) ?_
 rw [decide_eq_true rfl]
 cbv;simp only [F]
 intro hv1
 cbv;simp only [F]
 refine CallMK.intro (ret_markStringS _ w0 1 hB0 hz_00) ?_
 generalize ek:1+(sumS cntStr w0:Int)=r0
 have ra0:IsAdd 1 (sumS cntStr w0) r0:=isAdd (by rw [←ek] <;> omega)
 clear ek
 generalize hm00:mkL cntStr mkStr 1 w0=n00
 have rb0:=ge_lss (ra0.ge (by omega))
 cbv;simp only [F]
 rw [←hm00]
 refine CallK.intro (ret_heldStringS w0 1 hB0 hz_00) ?_
 rw [hm00,show 1+(sumS cntStr w0:Int)=r0 from by unfold IsAdd at ra0;omega]
 cbv;simp only [F]
 simp only [rb0]
 cbv;simp only [F]
 simp only [neq_self]
 cbv;simp only [F]
 refine CallK.intro (ret_toPool P (by omega)) ?_
 cbv;simp only [F]
 refine CallK.intro (r_iPoolFind.o (i_PoolFind P K hb hm)) ?_
 rw [hw]
 cbv;simp only [F]
 refine CallK.intro (ret_eqStringS w0 w0 hz_0) ?_
 rw [decide_eq_true rfl]
 cbv;simp only [F]
 rw [←hm00]
 refine CallK.intro (ret_heldStringS w0 1 hB0 hz_00) ?_
 rw [hm00,show 1+(sumS cntStr w0:Int)=r0 from by unfold IsAdd at ra0;omega]
 cbv;simp only [F]
 simp only [rb0]
 cbv;simp only [F]
 simp only [neq_self]
 cbv;simp only [F]
 exact LeV.tb hr rfl
end Go.Ar
