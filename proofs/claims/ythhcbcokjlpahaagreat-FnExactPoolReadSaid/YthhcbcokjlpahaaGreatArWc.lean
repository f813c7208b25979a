import Derived.Test.YthhcbcokjlpahaaGreatArKc
import Derived.Test.YthhcbcokjlpahaaGreatArPm
namespace Go.Ar
open Go.Proofs
set_option linter.unusedVariables false
set_option linter.unusedSimpArgs false
set_option maxRecDepth 20000
theorem ret_FnExactPoolRead(P:PoolD)(p:List UInt8)(A:Int)(N:Int)(h_P:wfPool P)(h_p:p.length≤maxLen):Ret pg 5 true [.ag (poolC P),.s p,.i .i64 A,.i .i64 N] [] (.b true):=by
 refine ret_eq fun r hr=>?_
 refine ret0 Tryz.func5 rfl (by decide +kernel) rfl (hr▸trivial) (awF.go 60 [(12,[⟨false,[51,52],[50]⟩,⟨false,[50],[51]⟩,⟨false,[50],[52]⟩,⟨true,[],[53]⟩,⟨true,[],[54]⟩])] (by decide +kernel) ?_)
 cbv;simp only [F]
 split <;> (rename_i h;simp only [h];cbv;simp only [F])
 ·exact LeV.tb hr rfl
 have hl_p:p.length≤1048576:=by rw [icmp_gtr,slen_eq] at h;simp only [decide_eq_false_iff_not] at h;omega
 clear h
 refine CallK.intro (ret_szPool P 1048576 h_P (by omega) (by omega)) ?_
 generalize e1:lessS 1048576 (sizePool P)=l1
 have q1:IsLess 1048576 (sizePool P) l1:=e1
 clear e1
 cbv;simp only [F]
 split <;> (rename_i h;simp only [h];cbv;simp only [F])
 ·exact LeV.tb hr rfl
 have g1:=ge_zero h
 clear h
 have hs_P:sizePool P≤1048576:=by have:=(q1.pos g1).eq;omega
 have k1:l1≤1048576:=(q1.pos g1).le (by omega)
 clear q1
 clear g1 k1
 have hy_P0:szL sizeBranch P.branches≤68719476736:=by unfold sizePool sizeMove at hs_P;omega
 have hc_P:sumS cntBranch P.branches≤8*sizePool P:=by have:=csum_Branch P.branches;unfold sizePool sizeMove;omega
 have hb:P.branches.length≤4000000000:=by have:=hs_P;unfold sizePool szL at this;omega
 have hm:P.move.path.length≤4000000000:=by have:=hs_P;unfold sizePool sizeMove at this;omega
 refine CallK.intro (ret_toPool P (by omega)) ?_
 cbv;simp only [F]
 refine CallK.intro (r_sPoolRead.o (s_PoolRead P p A N hb hm (by omega))) ?_
 generalize hw:readF P p A N=w at ⊢
 obtain⟨w0,w1⟩:=w
 cbv;simp only [F]
 refine CallK.intro (ret_toPool P (by omega)) ?_
 cbv;simp only [F]
 refine CallK.intro (r_iPoolRead.o (i_PoolRead P p A N hb hm (by omega))) ?_
 rw [hw]
 cbv;simp only [F]
 simp only [sneq_self]
 cbv;simp only [F]
 simp only [neq_self]
 cbv;simp only [F]
 refine CallK.intro (ret_toPool P (by omega)) ?_
 cbv;simp only [F]
 refine CallK.intro (ret_eqPool P P (by omega)) ?_
 rw [decide_eq_true rfl]
 cbv;simp only [F]
 exact LeV.tb hr rfl
end Go.Ar
