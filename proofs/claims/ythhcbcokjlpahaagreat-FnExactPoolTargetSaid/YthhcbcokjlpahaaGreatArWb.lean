import Derived.Test.YthhcbcokjlpahaaGreatArKc
import Derived.Test.YthhcbcokjlpahaaGreatArPm
namespace Go.Ar
open Go.Proofs
set_option linter.unusedVariables false
set_option linter.unusedSimpArgs false
set_option maxRecDepth 20000
theorem ret_FnExactPoolTarget(P:PoolD)(p:List UInt8)(h_P:wfPool P)(h_p:p.length≤maxLen):Ret pg 4 true [.ag (poolC P),.s p] [] (.b true):=by
 refine ret_eq fun r hr=>?_
 refine ret0 Tryz.func4 rfl (by decide +kernel) rfl (hr▸trivial) (awF.go 60 [(12,[⟨false,[43,44],[42]⟩,⟨false,[42],[43]⟩,⟨false,[42],[44]⟩,⟨true,[],[45]⟩,⟨true,[],[46]⟩])] (by decide +kernel) ?_)
 cbv;simp only [F]
 split <;> (rename_i h;simp only [h];cbv;simp only [F])
 ·exact LeV.tb hr rfl
 have hl_p:p.length≤1048576:=by rw [icmp_gtr,slen_eq] at h;simp only [decide_eq_false_iff_not] at h;omega
 clear h
 refine CallK.intro (ret_szPool P 1048576 h_P (by omega) (by omega)) ?_
 generalize e1:lessS 1048576 (sizePool P)=l1
 have q1:IsLess 1048576 (sizePool P) l1:=e1
 clear e1
 cbv;simp only [F]
 split <;> (rename_i h;simp only [h];cbv;simp only [F])
 ·exact LeV.tb hr rfl
 have g1:=ge_zero h
 clear h
 have hs_P:sizePool P≤1048576:=by have:=(q1.pos g1).eq;omega
 have k1:l1≤1048576:=(q1.pos g1).le (by omega)
 clear q1
 clear g1 k1
 have hy_P0:szL sizeBranch P.branches≤68719476736:=by unfold sizePool sizeMove at hs_P;omega
 have hc_P:sumS cntBranch P.branches≤8*sizePool P:=by have:=csum_Branch P.branches;unfold sizePool sizeMove;omega
 have hb:P.branches.length≤4000000000:=by have:=hs_P;unfold sizePool szL at this;omega
 have hm:P.move.path.length≤4000000000:=by have:=hs_P;unfold sizePool sizeMove at this;omega
 refine CallK.intro (ret_toPool P (by omega)) ?_
 cbv;simp only [F]
 refine CallK.intro (r_sPoolTarget.o (s_PoolTarget P p hb hm (by omega))) ?_
 generalize hw:dataF P p 3=w at ⊢
 obtain⟨w0,w1⟩:=w
 cbv;simp only [F]
 refine CallK.intro (ret_toPool P (by omega)) ?_
 cbv;simp only [F]
 refine CallK.intro (r_iPoolTarget.o (i_PoolTarget P p hb hm (by omega))) ?_
 rw [hw]
 cbv;simp only [F]
 simp only [sneq_self]
 cbv;simp only [F]
 simp only [neq_self]
 cbv;simp only [F]
 refine CallK.intro (ret_toPool P (by omega)) ?_
 cbv;simp only [F]
 refine CallK.intro (ret_eqPool P P (by omega)) ?_
 rw [decide_eq_true rfl]
 cbv;simp only [F]
 exact LeV.tb hr rfl
end Go.Ar
