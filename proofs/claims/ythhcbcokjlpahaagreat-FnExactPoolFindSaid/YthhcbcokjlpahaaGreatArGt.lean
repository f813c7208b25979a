import Derived.Test.YthhcbcokjlpahaaGreatArGt0
section
namespace Go.Ar
open Go.Proofs
set_option linter.unusedVariables false
set_option linter.unusedSimpArgs false
set_option maxRecDepth 20000
theorem ret_szIntS(l:List Int)(left:Int)(hl:l.length≤maxLen)(h0:0≤left)(h1:left≤1048576):Ret pg 326 true [.sl .shr 1 (rows intR l),.i .i64 left] [] (.i .i64 (lessS left (szL szInt l))):=by
 generalize hr:V.i .i64 (lessS left (szL szInt l))=r
 refine ret0 Tryz.func326 rfl (by decide +kernel) rfl (hr▸trivial) ?_
 cbv;simp only [F]
 generalize e1:iop .sub .i64 left (llen (rows intR l))=l1
 have q1:=sub_llen e1 h0 h1 hl
 clear e1
 have m1:IsSub left l.length l1:=q1
 clear q1
 split <;> (rename_i h;simp only [h];cbv;simp only [F])
 ·have hn:=m1.neg (lt_zero h) h0
  exact LeV.ti hr (by rw [lessS_lt];unfold szL;omega)
 ·have m2:=(m1.pos (ge_zero h)).eq
  have g:=ge_zero h
  exact LeV.ti hr (by rw [lessS_eq] <;> unfold szL <;> rw [szInt_sum] <;> omega)
theorem ret_szStringS(l:List (List UInt8))(left:Int)(hl:l.length≤maxLen)(hw:∀y∈l,y.length≤maxLen)(h0:0≤left)(h1:left≤1048576):Ret pg 259 true [.sl .shr 1 (rows strR l),.i .i64 left] [] (.i .i64 (lessS left (szL List.length l))):=by
 generalize hr:V.i .i64 (lessS left (szL List.length l))=r
 refine ret0 Tryz.func259 rfl (by decide +kernel) rfl (hr▸trivial) ?_
 cbv;simp only [F]
 generalize e1:iop .sub .i64 left (llen (rows strR l))=l1
 have q1:IsSub left l.length l1:=sub_llen e1 h0 h1 hl
 clear e1
 split <;> (rename_i h;simp only [h];cbv;simp only [F])
 ·exact LeV.ti hr (szL_neg (q1.eqn) (lt_zero h))
 have g0:=ge_zero h
 clear h
 refine LoopK.intro (α:=Nat × Int) [0,1,5] [] (fun a=>[(1,.i .i64 a.2),(5,.i .i64 a.1)]) (fun _=>[]) (fun n a=>n=l.length-a.1∧SzI List.length l left a.1 a.2) ⟨_,(0,l1),⟨rfl,SzI.zero q1.eqn g0 h1⟩,rfl⟩ fun n a ha=>?_
 obtain⟨i,lf⟩:=a
 obtain⟨rfl,ha⟩:=ha
 dsimp only at ha ⊢
 cbv;simp only [F]
 split <;> (rename_i h;simp only [h];cbv;simp only [F])
 ·obtain⟨y,hy⟩:=get_lt (lt_llen h)
  clear h
  refine ⟨inr_rowsN hy,_,at_rowsN hy,?_⟩
  cbv;simp only [F]
  generalize e2:iop .sub .i64 lf (slen y)=l2
  have q2:IsSub lf y.length l2:=sub_slen e2 ha.2.1 ha.le (hw y (List.mem_of_getElem? hy))
  clear e2
  split <;> (rename_i h;simp only [h];cbv;simp only [F])
  ·exact LeV.ti hr (ha.neg hy (q2.less ha.2.1 (lt_zero h)) lessS_neg1)
  ·have g:=ge_zero h
   rw [add_one (get_lt_len hy) (by have:=ha.len;omega)]
   exact ⟨_,(i+1,l2),⟨Nat.sub_succ_lt_self _ _ (get_lt_len hy),rfl,ha.step hy (q2.pos g).lessE g⟩,rfl⟩
 ·exact LeV.ti hr (ha.done (ge_llen h))
theorem ret_szNode(x:NodeD)(left:Int)(hw:wfNode x)(h0:0≤left)(h1:left≤1048576):Ret pg 301 true [.ag (nodeC x),.i .i64 left] [] (.i .i64 (lessS left (sizeNode x))):=by
 generalize hr:V.i .i64 (lessS left (sizeNode x))=r
 refine ret0 Tryz.func301 rfl (by decide +kernel) rfl (hr▸trivial) ?_
 cbv;simp only [F]
 refine CallK.intro (ret_szIntS x.blocks left hw h0 h1) ?_
 generalize e0:lessS left (szL szInt x.blocks)=l0
 have u0:IsLess left (szL szInt x.blocks) l0:=e0
 clear e0
 cbv;simp only [F]
 split <;> (rename_i h;simp only [h];cbv;simp only [F])
 ·have hn:=u0.neg (lt_zero h) h0
  exact LeV.ti hr (by rw [lessS_lt];unfold sizeNode;omega)
 have g0:=ge_zero h
 clear h
 have m0:=u0.pos g0
 have k0:l0≤1048576:=m0.le h1
 clear u0
 exact LeV.ti hr (by rw [lessS_eq] <;> unfold sizeNode <;> (have:=m0.eq;omega))
theorem ret_szNodeS(l:List (NodeD))(left:Int)(hl:l.length≤maxLen)(hw:∀y∈l,wfNode y)(h0:0≤left)(h1:left≤1048576):Ret pg 258 true [.sl .shr 5 (rows nodeR l),.i .i64 left] [] (.i .i64 (lessS left (szL sizeNode l))):=by
 generalize hr:V.i .i64 (lessS left (szL sizeNode l))=r
 refine ret0 Tryz.func258 rfl (by decide +kernel) rfl (hr▸trivial) ?_
 cbv;simp only [F]
 generalize e1:iop .sub .i64 left (llen (rows nodeR l))=l1
 have q1:IsSub left l.length l1:=sub_llen e1 h0 h1 hl
 clear e1
 split <;> (rename_i h;simp only [h];cbv;simp only [F])
 ·exact LeV.ti hr (szL_neg (q1.eqn) (lt_zero h))
 have g0:=ge_zero h
 clear h
 refine LoopK.intro (α:=Nat × Int) [0,1,5] [] (fun a=>[(1,.i .i64 a.2),(5,.i .i64 a.1)]) (fun _=>[]) (fun n a=>n=l.length-a.1∧SzI sizeNode l left a.1 a.2) ⟨_,(0,l1),⟨rfl,SzI.zero q1.eqn g0 h1⟩,rfl⟩ fun n a ha=>?_
 obtain⟨i,lf⟩:=a
 obtain⟨rfl,ha⟩:=ha
 dsimp only at ha ⊢
 cbv;simp only [F]
 split <;> (rename_i h;simp only [h];cbv;simp only [F])
 ·obtain⟨y,hy⟩:=get_lt (lt_llen h)
  clear h
  refine ⟨inr_rowsN hy,_,at_rowsN hy,?_⟩
  cbv;simp only [F]
  refine CallK.intro (ret_szNode y lf (hw y (List.mem_of_getElem? hy)) ha.2.1 ha.le) ?_
  generalize e2:lessS lf (sizeNode y)=l2
  have q2:IsLess lf (sizeNode y) l2:=e2
  clear e2
  cbv;simp only [F]
  split <;> (rename_i h;simp only [h];cbv;simp only [F])
  ·exact LeV.ti hr (ha.neg hy q2 (lt_zero h))
  ·have g:=ge_zero h
   rw [add_one (get_lt_len hy) (by have:=ha.len;omega)]
   exact ⟨_,(i+1,l2),⟨Nat.sub_succ_lt_self _ _ (get_lt_len hy),rfl,ha.step hy q2 g⟩,rfl⟩
 ·exact LeV.ti hr (ha.done (ge_llen h))
theorem ret_szFs(x:FsD)(left:Int)(hw:wfFs x)(h0:0≤left)(h1:left≤1048576):Ret pg 204 true [.ag (fsC x),.i .i64 left] [] (.i .i64 (lessS left (sizeFs x))):=by
 generalize hr:V.i .i64 (lessS left (sizeFs x))=r
 refine ret0 Tryz.func204 rfl (by decide +kernel) rfl (hr▸trivial) ?_
 cbv;simp only [F]
 refine CallK.intro (ret_szNodeS x.nodes left hw.1.1 hw.1.2 h0 h1) ?_
 generalize e0:lessS left (szL sizeNode x.nodes)=l0
 have u0:IsLess left (szL sizeNode x.nodes) l0:=e0
 clear e0
 cbv;simp only [F]
 split <;> (rename_i h;simp only [h];cbv;simp only [F])
 ·have hn:=u0.neg (lt_zero h) h0
  exact LeV.ti hr (by rw [lessS_lt];unfold sizeFs;omega)
 have g0:=ge_zero h
 clear h
 have m0:=u0.pos g0
 have k0:l0≤1048576:=m0.le h1
 clear u0
 refine CallK.intro (ret_szStringS x.data l0 hw.2.1 hw.2.2 g0 k0) ?_
 generalize e1:lessS l0 (szL List.length x.data)=l1
 have u1:IsLess l0 (szL List.length x.data) l1:=e1
 clear e1
 cbv;simp only [F]
 split <;> (rename_i h;simp only [h];cbv;simp only [F])
 ·have hn:=u1.neg (lt_zero h) g0
  exact LeV.ti hr (by rw [lessS_lt];unfold sizeFs;have:=m0.eq;omega)
 have g1:=ge_zero h
 clear h
 have m1:=u1.pos g1
 have k1:l1≤1048576:=m1.le k0
 clear u1
 exact LeV.ti hr (by rw [lessS_eq] <;> unfold sizeFs <;> (have:=m0.eq;have:=m1.eq;omega))
theorem ret_szBranch(x:BranchD)(left:Int)(hw:wfBranch x)(h0:0≤left)(h1:left≤1048576):Ret pg 141 true [.ag (branchC x),.i .i64 left] [] (.i .i64 (lessS left (sizeBranch x))):=by
 generalize hr:V.i .i64 (lessS left (sizeBranch x))=r
 refine ret0 Tryz.func141 rfl (by decide +kernel) rfl (hr▸trivial) ?_
 cbv;simp only [F]
 refine CallK.intro (ret_szFs x.fs left hw h0 h1) ?_
 generalize e0:lessS left (sizeFs x.fs)=l0
 have u0:IsLess left (sizeFs x.fs) l0:=e0
 clear e0
 cbv;simp only [F]
 split <;> (rename_i h;simp only [h];cbv;simp only [F])
 ·have hn:=u0.neg (lt_zero h) h0
  exact LeV.ti hr (by rw [lessS_lt];unfold sizeBranch;omega)
 have g0:=ge_zero h
 clear h
 have m0:=u0.pos g0
 have k0:l0≤1048576:=m0.le h1
 clear u0
 exact LeV.ti hr (by rw [lessS_eq] <;> unfold sizeBranch <;> (have:=m0.eq;omega))
theorem ret_szBranchS(l:List (BranchD))(left:Int)(hl:l.length≤maxLen)(hw:∀y∈l,wfBranch y)(h0:0≤left)(h1:left≤1048576):Ret pg 58 true [.sl .shr 3 (rows branchR l),.i .i64 left] [] (.i .i64 (lessS left (szL sizeBranch l))):=by
 generalize hr:V.i .i64 (lessS left (szL sizeBranch l))=r
 refine ret0 Tryz.func58 rfl (by decide +kernel) rfl (hr▸trivial) ?_
 cbv;simp only [F]
 generalize e1:iop .sub .i64 left (llen (rows branchR l))=l1
 have q1:IsSub left l.length l1:=sub_llen e1 h0 h1 hl
 clear e1
 split <;> (rename_i h;simp only [h];cbv;simp only [F])
 ·exact LeV.ti hr (szL_neg (q1.eqn) (lt_zero h))
 have g0:=ge_zero h
 clear h
 refine LoopK.intro (α:=Nat × Int) [0,1,5] [] (fun a=>[(1,.i .i64 a.2),(5,.i .i64 a.1)]) (fun _=>[]) (fun n a=>n=l.length-a.1∧SzI sizeBranch l left a.1 a.2) ⟨_,(0,l1),⟨rfl,SzI.zero q1.eqn g0 h1⟩,rfl⟩ fun n a ha=>?_
 obtain⟨i,lf⟩:=a
 obtain⟨rfl,ha⟩:=ha
 dsimp only at ha ⊢
 cbv;simp only [F]
 split <;> (rename_i h;simp only [h];cbv;simp only [F])
 ·obtain⟨y,hy⟩:=get_lt (lt_llen h)
  clear h
  refine ⟨inr_rowsN hy,_,at_rowsN hy,?_⟩
  cbv;simp only [F]
  refine CallK.intro (ret_szBranch y lf (hw y (List.mem_of_getElem? hy)) ha.2.1 ha.le) ?_
  generalize e2:lessS lf (sizeBranch y)=l2
  have q2:IsLess lf (sizeBranch y) l2:=e2
  clear e2
  cbv;simp only [F]
  split <;> (rename_i h;simp only [h];cbv;simp only [F])
  ·exact LeV.ti hr (ha.neg hy q2 (lt_zero h))
  ·have g:=ge_zero h
   rw [add_one (get_lt_len hy) (by have:=ha.len;omega)]
   exact ⟨_,(i+1,l2),⟨Nat.sub_succ_lt_self _ _ (get_lt_len hy),rfl,ha.step hy q2 g⟩,rfl⟩
 ·exact LeV.ti hr (ha.done (ge_llen h))
theorem ret_szMove(x:MoveD)(left:Int)(hw:wfMove x)(h0:0≤left)(h1:left≤1048576):Ret pg 59 true [.ag (moveC x),.i .i64 left] [] (.i .i64 (lessS left (sizeMove x))):=by
 generalize hr:V.i .i64 (lessS left (sizeMove x))=r
 refine ret0 Tryz.func59 rfl (by decide +kernel) rfl (hr▸trivial) ?_
 cbv;simp only [F]
 generalize e0:iop .sub .i64 left (slen x.path)=l0
 have u0:IsSub left (x.path.length) l0:=sub_slen e0 h0 h1 hw
 clear e0
 split <;> (rename_i h;simp only [h];cbv;simp only [F])
 ·have hn:=u0.neg (lt_zero h) h0
  exact LeV.ti hr (by rw [lessS_lt];unfold sizeMove;omega)
 have g0:=ge_zero h
 clear h
 have m0:=u0.pos g0
 have k0:l0≤1048576:=m0.le h1
 clear u0
 exact LeV.ti hr (by rw [lessS_eq] <;> unfold sizeMove <;> (have:=m0.eq;omega))
theorem ret_szPool(x:PoolD)(left:Int)(hw:wfPool x)(h0:0≤left)(h1:left≤1048576):Ret pg 15 true [.ag (poolC x),.i .i64 left] [] (.i .i64 (lessS left (sizePool x))):=by
 generalize hr:V.i .i64 (lessS left (sizePool x))=r
 refine ret0 Tryz.func15 rfl (by decide +kernel) rfl (hr▸trivial) ?_
 cbv;simp only [F]
 refine CallK.intro (ret_szBranchS x.branches left hw.1.1 hw.1.2 h0 h1) ?_
 generalize e0:lessS left (szL sizeBranch x.branches)=l0
 have u0:IsLess left (szL sizeBranch x.branches) l0:=e0
 clear e0
 cbv;simp only [F]
 split <;> (rename_i h;simp only [h];cbv;simp only [F])
 ·have hn:=u0.neg (lt_zero h) h0
  exact LeV.ti hr (by rw [lessS_lt];unfold sizePool;omega)
 have g0:=ge_zero h
 clear h
 have m0:=u0.pos g0
 have k0:l0≤1048576:=m0.le h1
 clear u0
 refine CallK.intro (ret_szMove x.move l0 hw.2 g0 k0) ?_
 generalize e1:lessS l0 (sizeMove x.move)=l1
 have u1:IsLess l0 (sizeMove x.move) l1:=e1
 clear e1
 cbv;simp only [F]
 split <;> (rename_i h;simp only [h];cbv;simp only [F])
 ·have hn:=u1.neg (lt_zero h) g0
  exact LeV.ti hr (by rw [lessS_lt];unfold sizePool;have:=m0.eq;omega)
 have g1:=ge_zero h
 clear h
 have m1:=u1.pos g1
 have k1:l1≤1048576:=m1.le k0
 clear u1
 exact LeV.ti hr (by rw [lessS_eq] <;> unfold sizePool <;> (have:=m0.eq;have:=m1.eq;omega))
theorem ret_szOp(x:OpD)(left:Int)(hw:wfOp x)(h0:0≤left)(h1:left≤1048576):Ret pg 34 true [.ag (opC x),.i .i64 left] [] (.i .i64 (lessS left (sizeOp x))):=by
 generalize hr:V.i .i64 (lessS left (sizeOp x))=r
 refine ret0 Tryz.func34 rfl (by decide +kernel) rfl (hr▸trivial) ?_
 cbv;simp only [F]
 generalize e0:iop .sub .i64 left (slen x.path)=l0
 have u0:IsSub left (x.path.length) l0:=sub_slen e0 h0 h1 hw.1
 clear e0
 split <;> (rename_i h;simp only [h];cbv;simp only [F])
 ·have hn:=u0.neg (lt_zero h) h0
  exact LeV.ti hr (by rw [lessS_lt];unfold sizeOp;omega)
 have g0:=ge_zero h
 clear h
 have m0:=u0.pos g0
 have k0:l0≤1048576:=m0.le h1
 clear u0
 generalize e1:iop .sub .i64 l0 (slen x.dst)=l1
 have u1:IsSub l0 (x.dst.length) l1:=sub_slen e1 g0 k0 hw.2.1
 clear e1
 split <;> (rename_i h;simp only [h];cbv;simp only [F])
 ·have hn:=u1.neg (lt_zero h) g0
  exact LeV.ti hr (by rw [lessS_lt];unfold sizeOp;have:=m0.eq;omega)
 have g1:=ge_zero h
 clear h
 have m1:=u1.pos g1
 have k1:l1≤1048576:=m1.le k0
 clear u1
 generalize e2:iop .sub .i64 l1 (slen x.data)=l2
 have u2:IsSub l1 (x.data.length) l2:=sub_slen e2 g1 k1 hw.2.2
 clear e2
 split <;> (rename_i h;simp only [h];cbv;simp only [F])
 ·have hn:=u2.neg (lt_zero h) g1
  exact LeV.ti hr (by rw [lessS_lt];unfold sizeOp;have:=m0.eq;have:=m1.eq;omega)
 have g2:=ge_zero h
 clear h
 have m2:=u2.pos g2
 have k2:l2≤1048576:=m2.le k1
 clear u2
 exact LeV.ti hr (by rw [lessS_eq] <;> unfold sizeOp <;> (have:=m0.eq;have:=m1.eq;have:=m2.eq;omega))
theorem ret_szItem(x:ItemD)(left:Int)(hw:wfItem x)(h0:0≤left)(h1:left≤1048576):Ret pg 158 true [.ag (itemC x),.i .i64 left] [] (.i .i64 (lessS left (sizeItem x))):=by
 generalize hr:V.i .i64 (lessS left (sizeItem x))=r
 refine ret0 Tryz.func158 rfl (by decide +kernel) rfl (hr▸trivial) ?_
 cbv;simp only [F]
 generalize e0:iop .sub .i64 left (slen x.path)=l0
 have u0:IsSub left (x.path.length) l0:=sub_slen e0 h0 h1 hw.1
 clear e0
 split <;> (rename_i h;simp only [h];cbv;simp only [F])
 ·have hn:=u0.neg (lt_zero h) h0
  exact LeV.ti hr (by rw [lessS_lt];unfold sizeItem;omega)
 have g0:=ge_zero h
 clear h
 have m0:=u0.pos g0
 have k0:l0≤1048576:=m0.le h1
 clear u0
 generalize e1:iop .sub .i64 l0 (slen x.data)=l1
 have u1:IsSub l0 (x.data.length) l1:=sub_slen e1 g0 k0 hw.2
 clear e1
 split <;> (rename_i h;simp only [h];cbv;simp only [F])
 ·have hn:=u1.neg (lt_zero h) g0
  exact LeV.ti hr (by rw [lessS_lt];unfold sizeItem;have:=m0.eq;omega)
 have g1:=ge_zero h
 clear h
 have m1:=u1.pos g1
 have k1:l1≤1048576:=m1.le k0
 clear u1
 exact LeV.ti hr (by rw [lessS_eq] <;> unfold sizeItem <;> (have:=m0.eq;have:=m1.eq;omega))
theorem ret_szItemS(l:List (ItemD))(left:Int)(hl:l.length≤maxLen)(hw:∀y∈l,wfItem y)(h0:0≤left)(h1:left≤1048576):Ret pg 79 true [.sl .shr 4 (rows itemR l),.i .i64 left] [] (.i .i64 (lessS left (szL sizeItem l))):=by
 generalize hr:V.i .i64 (lessS left (szL sizeItem l))=r
 refine ret0 Tryz.func79 rfl (by decide +kernel) rfl (hr▸trivial) ?_
 cbv;simp only [F]
 generalize e1:iop .sub .i64 left (llen (rows itemR l))=l1
 have q1:IsSub left l.length l1:=sub_llen e1 h0 h1 hl
 clear e1
 split <;> (rename_i h;simp only [h];cbv;simp only [F])
 ·exact LeV.ti hr (szL_neg (q1.eqn) (lt_zero h))
 have g0:=ge_zero h
 clear h
 refine LoopK.intro (α:=Nat × Int) [0,1,5] [] (fun a=>[(1,.i .i64 a.2),(5,.i .i64 a.1)]) (fun _=>[]) (fun n a=>n=l.length-a.1∧SzI sizeItem l left a.1 a.2) ⟨_,(0,l1),⟨rfl,SzI.zero q1.eqn g0 h1⟩,rfl⟩ fun n a ha=>?_
 obtain⟨i,lf⟩:=a
 obtain⟨rfl,ha⟩:=ha
 dsimp only at ha ⊢
 cbv;simp only [F]
 split <;> (rename_i h;simp only [h];cbv;simp only [F])
 ·obtain⟨y,hy⟩:=get_lt (lt_llen h)
  clear h
  refine ⟨inr_rowsN hy,_,at_rowsN hy,?_⟩
  cbv;simp only [F]
  refine CallK.intro (ret_szItem y lf (hw y (List.mem_of_getElem? hy)) ha.2.1 ha.le) ?_
  generalize e2:lessS lf (sizeItem y)=l2
  have q2:IsLess lf (sizeItem y) l2:=e2
  clear e2
  cbv;simp only [F]
  split <;> (rename_i h;simp only [h];cbv;simp only [F])
  ·exact LeV.ti hr (ha.neg hy q2 (lt_zero h))
  ·have g:=ge_zero h
   rw [add_one (get_lt_len hy) (by have:=ha.len;omega)]
   exact ⟨_,(i+1,l2),⟨Nat.sub_succ_lt_self _ _ (get_lt_len hy),rfl,ha.step hy q2 g⟩,rfl⟩
 ·exact LeV.ti hr (ha.done (ge_llen h))
theorem ret_szTree(x:TreeD)(left:Int)(hw:wfTree x)(h0:0≤left)(h1:left≤1048576):Ret pg 33 true [.ag (treeC x),.i .i64 left] [] (.i .i64 (lessS left (sizeTree x))):=by
 generalize hr:V.i .i64 (lessS left (sizeTree x))=r
 refine ret0 Tryz.func33 rfl (by decide +kernel) rfl (hr▸trivial) ?_
 cbv;simp only [F]
 refine CallK.intro (ret_szItemS x.items left hw.1 hw.2 h0 h1) ?_
 generalize e0:lessS left (szL sizeItem x.items)=l0
 have u0:IsLess left (szL sizeItem x.items) l0:=e0
 clear e0
 cbv;simp only [F]
 split <;> (rename_i h;simp only [h];cbv;simp only [F])
 ·have hn:=u0.neg (lt_zero h) h0
  exact LeV.ti hr (by rw [lessS_lt];unfold sizeTree;omega)
 have g0:=ge_zero h
 clear h
 have m0:=u0.pos g0
 have k0:l0≤1048576:=m0.le h1
 clear u0
 exact LeV.ti hr (by rw [lessS_eq] <;> unfold sizeTree <;> (have:=m0.eq;omega))
end Go.Ar
end
section
namespace Go.Ar
open Go.Proofs
set_option linter.unusedVariables false
set_option linter.unusedSimpArgs false
set_option maxRecDepth 20000
theorem ret_toIntS(l:List (Int))(hb:szL szInt l≤68719476736):Ret pg 327 true [.sl .shr 1 (rows intR l)] [] (.sl .own 1 (rows intR l)):=by
 refine ret_eq fun r hr=>?_
 have hl:l.length≤68719476736:=Nat.le_trans (szL_len _ _) hb
 refine ret0 Tryz.func327 rfl (by decide +kernel) rfl (hr▸⟨rfl,own_intS _⟩) ?_
 cbv;simp only [F]
 refine ⟨ins_rows,room_rows hl (by omega),?_⟩
 rw [show [V.i IntKind.i64 0]=intR 0 from rfl,rep_rows,←fillF_zero]
 refine LoopK.intro (α:=Nat) [0,3,4] [] (fun i=>[(3,.sl .own 1 (rows intR (fillF (0:Int) l i))),(4,.i .i64 i)]) (fun _=>[]) (fun n i=>n=l.length-i∧i≤l.length) ⟨_,0,⟨rfl,by omega⟩,rfl⟩ fun n i hi=>?_
 obtain⟨rfl,hi⟩:=hi
 generalize hx:fillF (0:Int) l i=x
 cbv;simp only [F]
 split <;> (rename_i h;simp only [h];cbv;simp only [F])
 ·have h':=lt_llen h
  clear h
  obtain⟨y,hy⟩:=get_lt (l:=l) (i:=i) h'
  refine ⟨inr_rowsN hy,_,at_rowsN hy,?_⟩
  cbv;simp only [F]
  have hxl:x.length=l.length:=by rw [←hx];exact fillF_len _ l i hi
  obtain⟨z,hz⟩:=get_lt (l:=x) (i:=i) (by omega)
  refine ⟨inr_rowsN hz,_,at_rowsN hz,?_⟩
  cbv;simp only [F]
  rw [show [V.i IntKind.i64 y]=intR y from rfl,set_rowsN,←hx,fillF_set _ _ _ _ hy,add_one h' (by omega)]
  exact ⟨_,i+1,⟨Nat.sub_succ_lt_self _ _ h',rfl,h'⟩,rfl⟩
 ·have h':=ge_llen h
  rw [fillF_all _ _ _ h'] at hx
  subst hx
  exact LeV.to hr (LeF.rfl' _)
theorem ret_toStringS(l:List (List UInt8))(hb:szL List.length l≤68719476736):Ret pg 262 true [.sl .shr 1 (rows strR l)] [] (.sl .own 1 (rows strR l)):=by
 refine ret_eq fun r hr=>?_
 have hl:l.length≤68719476736:=Nat.le_trans (szL_len _ _) hb
 refine ret0 Tryz.func262 rfl (by decide +kernel) rfl (hr▸⟨rfl,own_stringS _⟩) ?_
 cbv;simp only [F]
 refine ⟨ins_rows,room_rows hl (by omega),?_⟩
 rw [show [V.s []]=strR [] from rfl,rep_rows,←fillF_zero]
 refine LoopK.intro (α:=Nat) [0,3,4] [] (fun i=>[(3,.sl .own 1 (rows strR (fillF ([]:List UInt8) l i))),(4,.i .i64 i)]) (fun _=>[]) (fun n i=>n=l.length-i∧i≤l.length) ⟨_,0,⟨rfl,by omega⟩,rfl⟩ fun n i hi=>?_
 obtain⟨rfl,hi⟩:=hi
 generalize hx:fillF ([]:List UInt8) l i=x
 cbv;simp only [F]
 split <;> (rename_i h;simp only [h];cbv;simp only [F])
 ·have h':=lt_llen h
  clear h
  obtain⟨y,hy⟩:=get_lt (l:=l) (i:=i) h'
  refine ⟨inr_rowsN hy,_,at_rowsN hy,?_⟩
  cbv;simp only [F]
  have hxl:x.length=l.length:=by rw [←hx];exact fillF_len _ l i hi
  obtain⟨z,hz⟩:=get_lt (l:=x) (i:=i) (by omega)
  refine ⟨inr_rowsN hz,_,at_rowsN hz,?_⟩
  cbv;simp only [F]
  rw [show [V.s y]=strR y from rfl,set_rowsN,←hx,fillF_set _ _ _ _ hy,add_one h' (by omega)]
  exact ⟨_,i+1,⟨Nat.sub_succ_lt_self _ _ h',rfl,h'⟩,rfl⟩
 ·have h':=ge_llen h
  rw [fillF_all _ _ _ h'] at hx
  subst hx
  exact LeV.to hr (LeF.rfl' _)
theorem ret_toNode(x:NodeD)(hb:sizeNode x≤68719476736):Ret pg 303 true [.ag (nodeC x)] [] (.ag (nodeR x)):=by
 refine ret_eq fun r hr=>?_
 refine ret0 Tryz.func303 rfl (by decide +kernel) rfl (hr▸own_nodeR x) ?_
 cbv;simp only [F]
 refine CallK.intro (ret_toIntS x.blocks (by unfold sizeNode at hb;omega)) ?_
 cbv;simp only [F]
 exact LeV.to hr (LeF.rfl' _)
theorem ret_toNodeS(l:List (NodeD))(hb:szL sizeNode l≤68719476736):Ret pg 261 true [.sl .shr 5 (rows nodeR l)] [] (.sl .own 5 (rows nodeR l)):=by
 refine ret_eq fun r hr=>?_
 have hl:l.length≤68719476736:=Nat.le_trans (szL_len _ _) hb
 refine ret0 Tryz.func261 rfl (by decide +kernel) rfl (hr▸⟨rfl,own_nodeS _⟩) ?_
 cbv;simp only [F]
 refine ⟨ins_rows,room_rows hl (by omega),?_⟩
 rw [←nodeR_0,rep_rows,←fillF_zero]
 refine LoopK.intro (α:=Nat) [0,3,4] [] (fun i=>[(3,.sl .own 5 (rows nodeR (fillF node0 l i))),(4,.i .i64 i)]) (fun _=>[]) (fun n i=>n=l.length-i∧i≤l.length) ⟨_,0,⟨rfl,by omega⟩,rfl⟩ fun n i hi=>?_
 obtain⟨rfl,hi⟩:=hi
 generalize hx:fillF node0 l i=x
 cbv;simp only [F]
 split <;> (rename_i h;simp only [h];cbv;simp only [F])
 ·have h':=lt_llen h
  clear h
  obtain⟨y,hy⟩:=get_lt (l:=l) (i:=i) h'
  refine ⟨inr_rowsN hy,_,at_rowsN hy,?_⟩
  cbv;simp only [F]
  refine CallK.intro (ret_toNode y (Nat.le_trans (szL_at sizeNode hy) hb)) ?_
  cbv;simp only [F]
  have hxl:x.length=l.length:=by rw [←hx];exact fillF_len _ l i hi
  obtain⟨z,hz⟩:=get_lt (l:=x) (i:=i) (by omega)
  refine ⟨inr_rowsN hz,_,at_rowsN hz,?_⟩
  cbv;simp only [F]
  rw [show [.i .i64 y.kind,.i .i64 y.gen,.i .i64 y.time,.i .i64 y.size,.sl .own 1 (rows intR y.blocks)]=nodeR y from rfl,set_rowsN,←hx,fillF_set _ _ _ _ hy,add_one h' (by omega)]
  exact ⟨_,i+1,⟨Nat.sub_succ_lt_self _ _ h',rfl,h'⟩,rfl⟩
 ·have h':=ge_llen h
  rw [fillF_all _ _ _ h'] at hx
  subst hx
  exact LeV.to hr (LeF.rfl' _)
theorem ret_toFs(x:FsD)(hb:sizeFs x≤68719476736):Ret pg 208 true [.ag (fsC x)] [] (.ag (fsR x)):=by
 refine ret_eq fun r hr=>?_
 refine ret0 Tryz.func208 rfl (by decide +kernel) rfl (hr▸own_fsR x) ?_
 cbv;simp only [F]
 refine CallK.intro (ret_toNodeS x.nodes (by unfold sizeFs at hb;omega)) ?_
 cbv;simp only [F]
 refine CallK.intro (ret_toStringS x.data (by unfold sizeFs at hb;omega)) ?_
 cbv;simp only [F]
 exact LeV.to hr (LeF.rfl' _)
theorem ret_toBranch(x:BranchD)(hb:sizeBranch x≤68719476736):Ret pg 149 true [.ag (branchC x)] [] (.ag (branchR x)):=by
 refine ret_eq fun r hr=>?_
 refine ret0 Tryz.func149 rfl (by decide +kernel) rfl (hr▸own_branchR x) ?_
 cbv;simp only [F]
 refine CallK.intro (ret_toFs x.fs (by unfold sizeBranch at hb;omega)) ?_
 cbv;simp only [F]
 exact LeV.to hr (LeF.rfl' _)
theorem ret_toBranchS(l:List (BranchD))(hb:szL sizeBranch l≤68719476736):Ret pg 64 true [.sl .shr 3 (rows branchR l)] [] (.sl .own 3 (rows branchR l)):=by
 refine ret_eq fun r hr=>?_
 have hl:l.length≤68719476736:=Nat.le_trans (szL_len _ _) hb
 refine ret0 Tryz.func64 rfl (by decide +kernel) rfl (hr▸⟨rfl,own_branchS _⟩) ?_
 cbv;simp only [F]
 refine ⟨ins_rows,room_rows hl (by omega),?_⟩
 rw [←branchR_0,rep_rows,←fillF_zero]
 refine LoopK.intro (α:=Nat) [0,3,4] [] (fun i=>[(3,.sl .own 3 (rows branchR (fillF branch0 l i))),(4,.i .i64 i)]) (fun _=>[]) (fun n i=>n=l.length-i∧i≤l.length) ⟨_,0,⟨rfl,by omega⟩,rfl⟩ fun n i hi=>?_
 obtain⟨rfl,hi⟩:=hi
 generalize hx:fillF branch0 l i=x
 cbv;simp only [F]
 split <;> (rename_i h;simp only [h];cbv;simp only [F])
 ·have h':=lt_llen h
  clear h
  obtain⟨y,hy⟩:=get_lt (l:=l) (i:=i) h'
  refine ⟨inr_rowsN hy,_,at_rowsN hy,?_⟩
  cbv;simp only [F]
  refine CallK.intro (ret_toBranch y (Nat.le_trans (szL_at sizeBranch hy) hb)) ?_
  cbv;simp only [F]
  have hxl:x.length=l.length:=by rw [←hx];exact fillF_len _ l i hi
  obtain⟨z,hz⟩:=get_lt (l:=x) (i:=i) (by omega)
  refine ⟨inr_rowsN hz,_,at_rowsN hz,?_⟩
  cbv;simp only [F]
  rw [show [.i .i64 y.mode,.sl .own 5 (rows nodeR y.fs.nodes),.sl .own 1 (rows strR y.fs.data)]=branchR y from rfl,set_rowsN,←hx,fillF_set _ _ _ _ hy,add_one h' (by omega)]
  exact ⟨_,i+1,⟨Nat.sub_succ_lt_self _ _ h',rfl,h'⟩,rfl⟩
 ·have h':=ge_llen h
  rw [fillF_all _ _ _ h'] at hx
  subst hx
  exact LeV.to hr (LeF.rfl' _)
theorem ret_toMove(x:MoveD)(hb:sizeMove x≤68719476736):Ret pg 65 true [.ag (moveC x)] [] (.ag (moveR x)):=by
 refine ret_eq fun r hr=>?_
 refine ret0 Tryz.func65 rfl (by decide +kernel) rfl (hr▸own_moveR x) ?_
 refine awN.go 5 ?_
 cbv;simp only [F]
 refine awN.rest ?_
 cbv;simp only [F]
 exact LeV.to hr (LeF.rfl' _)
theorem ret_toPool(x:PoolD)(hb:sizePool x≤68719476736):Ret pg 17 true [.ag (poolC x)] [] (.ag (poolR x)):=by
 refine ret_eq fun r hr=>?_
 refine ret0 Tryz.func17 rfl (by decide +kernel) rfl (hr▸own_poolR x) ?_
 cbv;simp only [F]
 refine CallK.intro (ret_toBranchS x.branches (by unfold sizePool at hb;omega)) ?_
 cbv;simp only [F]
 refine CallK.intro (ret_toMove x.move (by unfold sizePool at hb;omega)) ?_
 cbv;simp only [F]
 exact LeV.to hr (LeF.rfl' _)
theorem ret_toOp(x:OpD)(hb:sizeOp x≤68719476736):Ret pg 37 true [.ag (opC x)] [] (.ag (opR x)):=by
 refine ret_eq fun r hr=>?_
 refine ret0 Tryz.func37 rfl (by decide +kernel) rfl (hr▸own_opR x) ?_
 refine awN.go 5 ?_
 cbv;simp only [F]
 refine awN.rest ?_
 cbv;simp only [F]
 exact LeV.to hr (LeF.rfl' _)
theorem ret_toItem(x:ItemD)(hb:sizeItem x≤68719476736):Ret pg 165 true [.ag (itemC x)] [] (.ag (itemR x)):=by
 refine ret_eq fun r hr=>?_
 refine ret0 Tryz.func165 rfl (by decide +kernel) rfl (hr▸own_itemR x) ?_
 cbv;simp only [F]
 exact LeV.to hr (LeF.rfl' _)
theorem ret_toItemS(l:List (ItemD))(hb:szL sizeItem l≤68719476736):Ret pg 88 true [.sl .shr 4 (rows itemR l)] [] (.sl .own 4 (rows itemR l)):=by
 refine ret_eq fun r hr=>?_
 have hl:l.length≤68719476736:=Nat.le_trans (szL_len _ _) hb
 refine ret0 Tryz.func88 rfl (by decide +kernel) rfl (hr▸⟨rfl,own_itemS _⟩) ?_
 cbv;simp only [F]
 refine ⟨ins_rows,room_rows hl (by omega),?_⟩
 rw [←itemR_0,rep_rows,←fillF_zero]
 refine LoopK.intro (α:=Nat) [0,3,4] [] (fun i=>[(3,.sl .own 4 (rows itemR (fillF item0 l i))),(4,.i .i64 i)]) (fun _=>[]) (fun n i=>n=l.length-i∧i≤l.length) ⟨_,0,⟨rfl,by omega⟩,rfl⟩ fun n i hi=>?_
 obtain⟨rfl,hi⟩:=hi
 generalize hx:fillF item0 l i=x
 cbv;simp only [F]
 split <;> (rename_i h;simp only [h];cbv;simp only [F])
 ·have h':=lt_llen h
  clear h
  obtain⟨y,hy⟩:=get_lt (l:=l) (i:=i) h'
  refine ⟨inr_rowsN hy,_,at_rowsN hy,?_⟩
  cbv;simp only [F]
  refine CallK.intro (ret_toItem y (Nat.le_trans (szL_at sizeItem hy) hb)) ?_
  cbv;simp only [F]
  have hxl:x.length=l.length:=by rw [←hx];exact fillF_len _ l i hi
  obtain⟨z,hz⟩:=get_lt (l:=x) (i:=i) (by omega)
  refine ⟨inr_rowsN hz,_,at_rowsN hz,?_⟩
  cbv;simp only [F]
  rw [show [.s y.path,.i .i64 y.kind,.s y.data,.i .i64 y.time]=itemR y from rfl,set_rowsN,←hx,fillF_set _ _ _ _ hy,add_one h' (by omega)]
  exact ⟨_,i+1,⟨Nat.sub_succ_lt_self _ _ h',rfl,h'⟩,rfl⟩
 ·have h':=ge_llen h
  rw [fillF_all _ _ _ h'] at hx
  subst hx
  exact LeV.to hr (LeF.rfl' _)
theorem ret_toTree(x:TreeD)(hb:sizeTree x≤68719476736):Ret pg 36 true [.ag (treeC x)] [] (.ag (treeR x)):=by
 refine ret_eq fun r hr=>?_
 refine ret0 Tryz.func36 rfl (by decide +kernel) rfl (hr▸own_treeR x) ?_
 cbv;simp only [F]
 refine CallK.intro (ret_toItemS x.items (by unfold sizeTree at hb;omega)) ?_
 cbv;simp only [F]
 exact LeV.to hr (LeF.rfl' _)
end Go.Ar
end
section
namespace Go.Ar
open Go.Proofs
set_option linter.unusedVariables false
set_option linter.unusedSimpArgs false
set_option maxRecDepth 20000
theorem ret_eqIntS(a b:List (Int))(hb:szL szInt a≤68719476736):Ret pg 323 true [.sl .shr 1 (rows intR a),.sl .shr 1 (rows intR b)] [] (.b (decide (a=b))):=by
 have hl:a.length≤68719476736:=Nat.le_trans (szL_len _ _) hb
 generalize hr:V.b (decide (a=b))=r
 refine ret0 Tryz.func323 rfl (by decide +kernel) rfl (hr▸trivial) ?_
 cbv;simp only [F]
 split <;> (rename_i h;simp only [h];cbv;simp only [F])
 ·exact LeV.tb hr (decide_eq_false (ne_llenB h)).symm
 have hlen:=lt_llenB h
 clear h
 refine LoopK.intro (α:=Nat) [0,1,5] [] (fun i=>[(5,.i .i64 i)]) (fun _=>[]) (fun n i=>n=a.length-i∧i≤a.length∧a.take i=b.take i) ⟨_,0,⟨rfl,by omega,by simp⟩,rfl⟩ fun n i hi=>?_
 obtain⟨rfl,hi,hx⟩:=hi
 cbv;simp only [F]
 split <;> (rename_i h;simp only [h];cbv;simp only [F])
 ·have h':=lt_llen h
  clear h
  obtain⟨y,hy⟩:=get_lt (l:=a) (i:=i) h'
  obtain⟨z,hz⟩:=get_lt (l:=b) (i:=i) (by omega)
  refine ⟨inr_rowsN hy,_,at_rowsN hy,?_⟩
  cbv;simp only [F]
  refine ⟨inr_rowsN hz,_,at_rowsN hz,?_⟩
  cbv;simp only [F]
  split <;> (rename_i h;simp only [h];cbv;simp only [F])
  ·exact LeV.tb hr (decide_eq_false (ne_at hy hz (not_true_neq h))).symm
  ·rw [add_one h' (by omega)]
   exact ⟨_,i+1,⟨Nat.sub_succ_lt_self _ _ h',rfl,h',take_eq_snoc hx hy hz (not_false_neq h)⟩,rfl⟩
 ·exact LeV.tb hr (decide_eq_true (eq_of_take hx (ge_llen h) hlen)).symm
theorem ret_eqStringS(a b:List (List UInt8))(hb:szL List.length a≤68719476736):Ret pg 27 true [.sl .shr 1 (rows strR a),.sl .shr 1 (rows strR b)] [] (.b (decide (a=b))):=by
 have hl:a.length≤68719476736:=Nat.le_trans (szL_len _ _) hb
 generalize hr:V.b (decide (a=b))=r
 refine ret0 Tryz.func27 rfl (by decide +kernel) rfl (hr▸trivial) ?_
 cbv;simp only [F]
 split <;> (rename_i h;simp only [h];cbv;simp only [F])
 ·exact LeV.tb hr (decide_eq_false (ne_llenB h)).symm
 have hlen:=lt_llenB h
 clear h
 refine LoopK.intro (α:=Nat) [0,1,5] [] (fun i=>[(5,.i .i64 i)]) (fun _=>[]) (fun n i=>n=a.length-i∧i≤a.length∧a.take i=b.take i) ⟨_,0,⟨rfl,by omega,by simp⟩,rfl⟩ fun n i hi=>?_
 obtain⟨rfl,hi,hx⟩:=hi
 cbv;simp only [F]
 split <;> (rename_i h;simp only [h];cbv;simp only [F])
 ·have h':=lt_llen h
  clear h
  obtain⟨y,hy⟩:=get_lt (l:=a) (i:=i) h'
  obtain⟨z,hz⟩:=get_lt (l:=b) (i:=i) (by omega)
  refine ⟨inr_rowsN hy,_,at_rowsN hy,?_⟩
  cbv;simp only [F]
  refine ⟨inr_rowsN hz,_,at_rowsN hz,?_⟩
  cbv;simp only [F]
  split <;> (rename_i h;simp only [h];cbv;simp only [F])
  ·exact LeV.tb hr (decide_eq_false (ne_at hy hz (not_true_neqs h))).symm
  ·rw [add_one h' (by omega)]
   exact ⟨_,i+1,⟨Nat.sub_succ_lt_self _ _ h',rfl,h',take_eq_snoc hx hy hz (not_false_neqs h)⟩,rfl⟩
 ·exact LeV.tb hr (decide_eq_true (eq_of_take hx (ge_llen h) hlen)).symm
theorem ret_eqNode(x y:NodeD)(hb:sizeNode x≤68719476736):Ret pg 295 true [.ag (nodeC x),.ag (nodeC y)] [] (.b (decide (x=y))):=by
 have hd:decide (x=y)=decide (x.kind=y.kind∧x.gen=y.gen∧x.time=y.time∧x.size=y.size∧x.blocks=y.blocks):=by
  obtain⟨a0,a1,a2,a3,a4⟩:=x;obtain⟨b0,b1,b2,b3,b4⟩:=y;simp only [NodeD.mk.injEq]
 rw [hd]
 generalize hr:V.b (decide (x.kind=y.kind∧x.gen=y.gen∧x.time=y.time∧x.size=y.size∧x.blocks=y.blocks))=r
 clear hd
 refine ret0 Tryz.func295 rfl (by decide +kernel) rfl (hr▸trivial) ?_
 cbv;simp only [F]
 split <;> (rename_i h;simp only [h];cbv;simp only [F])
 ·have hn:=not_true_neq h
  exact LeV.tb hr (by simp [hn])
 have h0:=not_false_neq h
 clear h
 split <;> (rename_i h;simp only [h];cbv;simp only [F])
 ·have hn:=not_true_neq h
  exact LeV.tb hr (by simp [hn])
 have h1:=not_false_neq h
 clear h
 split <;> (rename_i h;simp only [h];cbv;simp only [F])
 ·have hn:=not_true_neq h
  exact LeV.tb hr (by simp [hn])
 have h2:=not_false_neq h
 clear h
 split <;> (rename_i h;simp only [h];cbv;simp only [F])
 ·have hn:=not_true_neq h
  exact LeV.tb hr (by simp [hn])
 have h3:=not_false_neq h
 clear h
 refine CallK.intro (ret_eqIntS x.blocks y.blocks (by unfold sizeNode at hb;omega)) ?_
 generalize hc:decide (x.blocks=y.blocks)=c
 cases c <;> cbv <;> simp only [F]
 ·have hn:=of_decide_eq_false hc
  exact LeV.tb hr (by simp [hn])
 have h4:=of_decide_eq_true hc
 clear hc
 exact LeV.tb hr (by simp [h0,h1,h2,h3,h4])
theorem ret_eqNodeS(a b:List (NodeD))(hb:szL sizeNode a≤68719476736):Ret pg 242 true [.sl .shr 5 (rows nodeR a),.sl .shr 5 (rows nodeR b)] [] (.b (decide (a=b))):=by
 have hl:a.length≤68719476736:=Nat.le_trans (szL_len _ _) hb
 generalize hr:V.b (decide (a=b))=r
 refine ret0 Tryz.func242 rfl (by decide +kernel) rfl (hr▸trivial) ?_
 cbv;simp only [F]
 split <;> (rename_i h;simp only [h];cbv;simp only [F])
 ·exact LeV.tb hr (decide_eq_false (ne_llenB h)).symm
 have hlen:=lt_llenB h
 clear h
 refine LoopK.intro (α:=Nat) [0,1,5] [] (fun i=>[(5,.i .i64 i)]) (fun _=>[]) (fun n i=>n=a.length-i∧i≤a.length∧a.take i=b.take i) ⟨_,0,⟨rfl,by omega,by simp⟩,rfl⟩ fun n i hi=>?_
 obtain⟨rfl,hi,hx⟩:=hi
 cbv;simp only [F]
 split <;> (rename_i h;simp only [h];cbv;simp only [F])
 ·have h':=lt_llen h
  clear h
  obtain⟨y,hy⟩:=get_lt (l:=a) (i:=i) h'
  obtain⟨z,hz⟩:=get_lt (l:=b) (i:=i) (by omega)
  refine ⟨inr_rowsN hy,_,at_rowsN hy,?_⟩
  cbv;simp only [F]
  refine ⟨inr_rowsN hz,_,at_rowsN hz,?_⟩
  cbv;simp only [F]
  refine CallK.intro (ret_eqNode y z (Nat.le_trans (szL_at sizeNode hy) hb)) ?_
  generalize hc:decide (y=z)=c
  cases c <;> cbv <;> simp only [F]
  ·exact LeV.tb hr (decide_eq_false (ne_at hy hz (of_decide_eq_false hc))).symm
  ·rw [add_one h' (by omega)]
   exact ⟨_,i+1,⟨Nat.sub_succ_lt_self _ _ h',rfl,h',take_eq_snoc hx hy hz (of_decide_eq_true hc)⟩,rfl⟩
 ·exact LeV.tb hr (decide_eq_true (eq_of_take hx (ge_llen h) hlen)).symm
theorem ret_eqFs(x y:FsD)(hb:sizeFs x≤68719476736):Ret pg 190 true [.ag (fsC x),.ag (fsC y)] [] (.b (decide (x=y))):=by
 have hd:decide (x=y)=decide (x.nodes=y.nodes∧x.data=y.data):=by
  obtain⟨a0,a1⟩:=x;obtain⟨b0,b1⟩:=y;simp only [FsD.mk.injEq]
 rw [hd]
 generalize hr:V.b (decide (x.nodes=y.nodes∧x.data=y.data))=r
 clear hd
 refine ret0 Tryz.func190 rfl (by decide +kernel) rfl (hr▸trivial) ?_
 cbv;simp only [F]
 refine CallK.intro (ret_eqNodeS x.nodes y.nodes (by unfold sizeFs at hb;omega)) ?_
 generalize hc:decide (x.nodes=y.nodes)=c
 cases c <;> cbv <;> simp only [F]
 ·have hn:=of_decide_eq_false hc
  exact LeV.tb hr (by simp [hn])
 have h0:=of_decide_eq_true hc
 clear hc
 refine CallK.intro (ret_eqStringS x.data y.data (by unfold sizeFs at hb;omega)) ?_
 generalize hc:decide (x.data=y.data)=c
 cases c <;> cbv <;> simp only [F]
 ·have hn:=of_decide_eq_false hc
  exact LeV.tb hr (by simp [hn])
 have h1:=of_decide_eq_true hc
 clear hc
 exact LeV.tb hr (by simp [h0,h1])
theorem ret_eqBranch(x y:BranchD)(hb:sizeBranch x≤68719476736):Ret pg 150 true [.ag (branchC x),.ag (branchC y)] [] (.b (decide (x=y))):=by
 have hd:decide (x=y)=decide (x.mode=y.mode∧x.fs=y.fs):=by
  obtain⟨a0,a1⟩:=x;obtain⟨b0,b1⟩:=y;simp only [BranchD.mk.injEq]
 rw [hd]
 generalize hr:V.b (decide (x.mode=y.mode∧x.fs=y.fs))=r
 clear hd
 refine ret0 Tryz.func150 rfl (by decide +kernel) rfl (hr▸trivial) ?_
 cbv;simp only [F]
 split <;> (rename_i h;simp only [h];cbv;simp only [F])
 ·have hn:=not_true_neq h
  exact LeV.tb hr (by simp [hn])
 have h0:=not_false_neq h
 clear h
 refine CallK.intro (ret_eqFs x.fs y.fs (by unfold sizeBranch at hb;omega)) ?_
 generalize hc:decide (x.fs=y.fs)=c
 cases c <;> cbv <;> simp only [F]
 ·have hn:=of_decide_eq_false hc
  exact LeV.tb hr (by simp [hn])
 have h1:=of_decide_eq_true hc
 clear hc
 exact LeV.tb hr (by simp [h0,h1])
theorem ret_eqBranchS(a b:List (BranchD))(hb:szL sizeBranch a≤68719476736):Ret pg 67 true [.sl .shr 3 (rows branchR a),.sl .shr 3 (rows branchR b)] [] (.b (decide (a=b))):=by
 have hl:a.length≤68719476736:=Nat.le_trans (szL_len _ _) hb
 generalize hr:V.b (decide (a=b))=r
 refine ret0 Tryz.func67 rfl (by decide +kernel) rfl (hr▸trivial) ?_
 cbv;simp only [F]
 split <;> (rename_i h;simp only [h];cbv;simp only [F])
 ·exact LeV.tb hr (decide_eq_false (ne_llenB h)).symm
 have hlen:=lt_llenB h
 clear h
 refine LoopK.intro (α:=Nat) [0,1,5] [] (fun i=>[(5,.i .i64 i)]) (fun _=>[]) (fun n i=>n=a.length-i∧i≤a.length∧a.take i=b.take i) ⟨_,0,⟨rfl,by omega,by simp⟩,rfl⟩ fun n i hi=>?_
 obtain⟨rfl,hi,hx⟩:=hi
 cbv;simp only [F]
 split <;> (rename_i h;simp only [h];cbv;simp only [F])
 ·have h':=lt_llen h
  clear h
  obtain⟨y,hy⟩:=get_lt (l:=a) (i:=i) h'
  obtain⟨z,hz⟩:=get_lt (l:=b) (i:=i) (by omega)
  refine ⟨inr_rowsN hy,_,at_rowsN hy,?_⟩
  cbv;simp only [F]
  refine ⟨inr_rowsN hz,_,at_rowsN hz,?_⟩
  cbv;simp only [F]
  refine CallK.intro (ret_eqBranch y z (Nat.le_trans (szL_at sizeBranch hy) hb)) ?_
  generalize hc:decide (y=z)=c
  cases c <;> cbv <;> simp only [F]
  ·exact LeV.tb hr (decide_eq_false (ne_at hy hz (of_decide_eq_false hc))).symm
  ·rw [add_one h' (by omega)]
   exact ⟨_,i+1,⟨Nat.sub_succ_lt_self _ _ h',rfl,h',take_eq_snoc hx hy hz (of_decide_eq_true hc)⟩,rfl⟩
 ·exact LeV.tb hr (decide_eq_true (eq_of_take hx (ge_llen h) hlen)).symm
theorem ret_eqMove(x y:MoveD)(hb:sizeMove x≤68719476736):Ret pg 68 true [.ag (moveC x),.ag (moveC y)] [] (.b (decide (x=y))):=by
 have hd:decide (x=y)=decide (x.on=y.on∧x.cln=y.cln∧x.src=y.src∧x.dst=y.dst∧x.path=y.path∧x.gen=y.gen∧x.dn=y.dn):=by
  obtain⟨a0,a1,a2,a3,a4,a5,a6⟩:=x;obtain⟨b0,b1,b2,b3,b4,b5,b6⟩:=y;simp only [MoveD.mk.injEq]
 rw [hd]
 generalize hr:V.b (decide (x.on=y.on∧x.cln=y.cln∧x.src=y.src∧x.dst=y.dst∧x.path=y.path∧x.gen=y.gen∧x.dn=y.dn))=r
 clear hd
 obtain⟨a0,a1,a2,a3,a4,a5,a6⟩:=x
 obtain⟨b0,b1,b2,b3,b4,b5,b6⟩:=y
 dsimp only at hr
 refine ret0 Tryz.func68 rfl (by decide +kernel) rfl (hr▸trivial) ?_
 cbv;simp only [F]
 by_cases h0:¬a0=b0
 ·simp only [decide_eq_false h0]
  cbv;simp only [F]
  exact LeV.tb hr (by simp [h0])
 have h0:=Decidable.not_not.1 h0
 simp only [decide_eq_true h0]
 cbv;simp only [F]
 by_cases h1:¬a1=b1
 ·simp only [decide_eq_false h1]
  cbv;simp only [F]
  exact LeV.tb hr (by simp [h1])
 have h1:=Decidable.not_not.1 h1
 simp only [decide_eq_true h1]
 cbv;simp only [F]
 split <;> (rename_i h;simp only [h];cbv;simp only [F])
 ·have hn:=not_true_neq h
  exact LeV.tb hr (by simp [hn])
 have h2:=not_false_neq h
 clear h
 split <;> (rename_i h;simp only [h];cbv;simp only [F])
 ·have hn:=not_true_neq h
  exact LeV.tb hr (by simp [hn])
 have h3:=not_false_neq h
 clear h
 split <;> (rename_i h;simp only [h];cbv;simp only [F])
 ·have hn:=not_true_neqs h
  exact LeV.tb hr (by simp [hn])
 have h4:=not_false_neqs h
 clear h
 split <;> (rename_i h;simp only [h];cbv;simp only [F])
 ·have hn:=not_true_neq h
  exact LeV.tb hr (by simp [hn])
 have h5:=not_false_neq h
 clear h
 split <;> (rename_i h;simp only [h];cbv;simp only [F])
 ·have hn:=not_true_neq h
  exact LeV.tb hr (by simp [hn])
 have h6:=not_false_neq h
 clear h
 exact LeV.tb hr (by simp [h0,h1,h2,h3,h4,h5,h6])
theorem ret_eqPool(x y:PoolD)(hb:sizePool x≤68719476736):Ret pg 20 true [.ag (poolC x),.ag (poolC y)] [] (.b (decide (x=y))):=by
 have hd:decide (x=y)=decide (x.policy=y.policy∧x.minFree=y.minFree∧x.branches=y.branches∧x.move=y.move):=by
  obtain⟨a0,a1,a2,a3⟩:=x;obtain⟨b0,b1,b2,b3⟩:=y;simp only [PoolD.mk.injEq]
 rw [hd]
 generalize hr:V.b (decide (x.policy=y.policy∧x.minFree=y.minFree∧x.branches=y.branches∧x.move=y.move))=r
 clear hd
 refine ret0 Tryz.func20 rfl (by decide +kernel) rfl (hr▸trivial) ?_
 cbv;simp only [F]
 split <;> (rename_i h;simp only [h];cbv;simp only [F])
 ·have hn:=not_true_neq h
  exact LeV.tb hr (by simp [hn])
 have h0:=not_false_neq h
 clear h
 split <;> (rename_i h;simp only [h];cbv;simp only [F])
 ·have hn:=not_true_neq h
  exact LeV.tb hr (by simp [hn])
 have h1:=not_false_neq h
 clear h
 refine CallK.intro (ret_eqBranchS x.branches y.branches (by unfold sizePool at hb;omega)) ?_
 generalize hc:decide (x.branches=y.branches)=c
 cases c <;> cbv <;> simp only [F]
 ·have hn:=of_decide_eq_false hc
  exact LeV.tb hr (by simp [hn])
 have h2:=of_decide_eq_true hc
 clear hc
 refine CallK.intro (ret_eqMove x.move y.move (by unfold sizePool at hb;omega)) ?_
 generalize hc:decide (x.move=y.move)=c
 cases c <;> cbv <;> simp only [F]
 ·have hn:=of_decide_eq_false hc
  exact LeV.tb hr (by simp [hn])
 have h3:=of_decide_eq_true hc
 clear hc
 exact LeV.tb hr (by simp [h0,h1,h2,h3])
theorem ret_eqItem(x y:ItemD)(hb:sizeItem x≤68719476736):Ret pg 19 true [.ag (itemC x),.ag (itemC y)] [] (.b (decide (x=y))):=by
 have hd:decide (x=y)=decide (x.path=y.path∧x.kind=y.kind∧x.data=y.data∧x.time=y.time):=by
  obtain⟨a0,a1,a2,a3⟩:=x;obtain⟨b0,b1,b2,b3⟩:=y;simp only [ItemD.mk.injEq]
 rw [hd]
 generalize hr:V.b (decide (x.path=y.path∧x.kind=y.kind∧x.data=y.data∧x.time=y.time))=r
 clear hd
 refine ret0 Tryz.func19 rfl (by decide +kernel) rfl (hr▸trivial) ?_
 cbv;simp only [F]
 split <;> (rename_i h;simp only [h];cbv;simp only [F])
 ·have hn:=not_true_neqs h
  exact LeV.tb hr (by simp [hn])
 have h0:=not_false_neqs h
 clear h
 split <;> (rename_i h;simp only [h];cbv;simp only [F])
 ·have hn:=not_true_neq h
  exact LeV.tb hr (by simp [hn])
 have h1:=not_false_neq h
 clear h
 split <;> (rename_i h;simp only [h];cbv;simp only [F])
 ·have hn:=not_true_neqs h
  exact LeV.tb hr (by simp [hn])
 have h2:=not_false_neqs h
 clear h
 split <;> (rename_i h;simp only [h];cbv;simp only [F])
 ·have hn:=not_true_neq h
  exact LeV.tb hr (by simp [hn])
 have h3:=not_false_neq h
 clear h
 exact LeV.tb hr (by simp [h0,h1,h2,h3])
theorem ret_eqItemS(a b:List (ItemD))(hb:szL sizeItem a≤68719476736):Ret pg 99 true [.sl .shr 4 (rows itemR a),.sl .shr 4 (rows itemR b)] [] (.b (decide (a=b))):=by
 have hl:a.length≤68719476736:=Nat.le_trans (szL_len _ _) hb
 generalize hr:V.b (decide (a=b))=r
 refine ret0 Tryz.func99 rfl (by decide +kernel) rfl (hr▸trivial) ?_
 cbv;simp only [F]
 split <;> (rename_i h;simp only [h];cbv;simp only [F])
 ·exact LeV.tb hr (decide_eq_false (ne_llenB h)).symm
 have hlen:=lt_llenB h
 clear h
 refine LoopK.intro (α:=Nat) [0,1,5] [] (fun i=>[(5,.i .i64 i)]) (fun _=>[]) (fun n i=>n=a.length-i∧i≤a.length∧a.take i=b.take i) ⟨_,0,⟨rfl,by omega,by simp⟩,rfl⟩ fun n i hi=>?_
 obtain⟨rfl,hi,hx⟩:=hi
 cbv;simp only [F]
 split <;> (rename_i h;simp only [h];cbv;simp only [F])
 ·have h':=lt_llen h
  clear h
  obtain⟨y,hy⟩:=get_lt (l:=a) (i:=i) h'
  obtain⟨z,hz⟩:=get_lt (l:=b) (i:=i) (by omega)
  refine ⟨inr_rowsN hy,_,at_rowsN hy,?_⟩
  cbv;simp only [F]
  refine ⟨inr_rowsN hz,_,at_rowsN hz,?_⟩
  cbv;simp only [F]
  refine CallK.intro (ret_eqItem y z (Nat.le_trans (szL_at sizeItem hy) hb)) ?_
  generalize hc:decide (y=z)=c
  cases c <;> cbv <;> simp only [F]
  ·exact LeV.tb hr (decide_eq_false (ne_at hy hz (of_decide_eq_false hc))).symm
  ·rw [add_one h' (by omega)]
   exact ⟨_,i+1,⟨Nat.sub_succ_lt_self _ _ h',rfl,h',take_eq_snoc hx hy hz (of_decide_eq_true hc)⟩,rfl⟩
 ·exact LeV.tb hr (decide_eq_true (eq_of_take hx (ge_llen h) hlen)).symm
theorem ret_eqTree(x y:TreeD)(hb:sizeTree x≤68719476736):Ret pg 39 true [.ag (treeC x),.ag (treeC y)] [] (.b (decide (x=y))):=by
 have hd:decide (x=y)=decide (x.items=y.items):=by
  obtain⟨a0⟩:=x;obtain⟨b0⟩:=y;simp only [TreeD.mk.injEq]
 rw [hd]
 generalize hr:V.b (decide (x.items=y.items))=r
 clear hd
 refine ret0 Tryz.func39 rfl (by decide +kernel) rfl (hr▸trivial) ?_
 cbv;simp only [F]
 refine CallK.intro (ret_eqItemS x.items y.items (by unfold sizeTree at hb;omega)) ?_
 generalize hc:decide (x.items=y.items)=c
 cases c <;> cbv <;> simp only [F]
 ·have hn:=of_decide_eq_false hc
  exact LeV.tb hr (by simp [hn])
 have h0:=of_decide_eq_true hc
 clear hc
 exact LeV.tb hr (by simp [h0])
end Go.Ar
end
section
namespace Go.Ar
open Go.Proofs
set_option linter.unusedVariables false
set_option linter.unusedSimpArgs false
set_option maxRecDepth 20000
theorem ret_markIntS(hv:Value)(l:List (Int))(k:Int)(h1:MkB k (sumS cntInt l))(hl:szL szInt l≤68719476736):RetM pg 191 [hv] [.rf ⟨.gl 0,[],0⟩ 1 none,.i .i64 k] [.sl .own 1 (rows intR l)] (.i .i64 (k+(sumS cntInt l:Nat))) [.sl .own 1 (rows intR (mkL cntInt mkInt k l))]:=by
 have hll:l.length≤68719476736:=Nat.le_trans (szL_len _ _) hl
 generalize hr:V.i .i64 (k+(sumS cntInt l:Nat))=r
 generalize ho:[V.sl .own 1 (rows intR (mkL cntInt mkInt k l))]=o
 refine ret0M Tryz.func191 rfl (by decide +kernel) rfl (hr▸rfl) ⟨⟨rfl,own_intS _⟩,trivial⟩ rfl (ho▸⟨⟨rfl,own_intS _⟩,trivial⟩) (ho▸rfl) (ho▸rfl) ?_
 cbv;simp only [F]
 refine LoopK.introG (α:=Nat × Int × List (Int)) [0,1,5] [] (fun a=>[(1,.i .i64 a.2.1),(5,.i .i64 a.1)]) (fun _=>[]) (fun a=>[[.sl .own 1 (rows intR a.2.2)]]) (fun n a=>n=l.length-a.1∧MkI cntInt mkInt l k a.1 a.2.1 a.2.2) ⟨_,(0,k,l),⟨rfl,MkI.zero⟩,rfl⟩ fun n a ha=>?_
 obtain⟨i,ki,x⟩:=a
 obtain⟨rfl,hI⟩:=ha
 dsimp only at hI ⊢
 cbv;simp only [F]
 split <;> (rename_i h;simp only [h];cbv;simp only [F])
 ·obtain⟨y,hy,hyl⟩:=hI.get (lt_llen h)
  clear h
  have hB:=hI.ok hyl h1
  refine ⟨inr_rowsN hy,_,at_rowsN hy,?_⟩
  cbv;simp only [F,set_setN]
  generalize e0:iop .add .i64 ki 1=k1
  have q0:=inc_one e0 hB.1 (by have:=hB.2;omega)
  clear e0
  rw [show [V.i IntKind.i64 ki]=intR ki from rfl,set_rowsN,add_one (get_lt_len hyl) (by omega)]
  refine ⟨_,(i+1,k1,x.set i ki),⟨Nat.sub_succ_lt_self _ _ (get_lt_len hyl),rfl,?_⟩,rfl⟩
  subst q0
  refine hI.step hyl ?_
  try dsimp only
  show _=ki+((1:Nat):Int)
  omega
 ·obtain⟨q1,q2⟩:=hI.done (hI.len▸ge_llen h)
  exact ⟨LeV.ti hr q1,by rw [←ho,q2];rfl⟩
theorem ret_markStringS(hv:Value)(l:List (List UInt8))(k:Int)(h1:MkB k (sumS cntStr l))(hl:szL List.length l≤68719476736):RetM pg 29 [hv] [.rf ⟨.gl 0,[],0⟩ 1 none,.i .i64 k] [.sl .own 1 (rows strR l)] (.i .i64 (k+(sumS cntStr l:Nat))) [.sl .own 1 (rows strR (mkL cntStr mkStr k l))]:=by
 have hll:l.length≤68719476736:=Nat.le_trans (szL_len _ _) hl
 generalize hr:V.i .i64 (k+(sumS cntStr l:Nat))=r
 generalize ho:[V.sl .own 1 (rows strR (mkL cntStr mkStr k l))]=o
 refine ret0M Tryz.func29 rfl (by decide +kernel) rfl (hr▸rfl) ⟨⟨rfl,own_stringS _⟩,trivial⟩ rfl (ho▸⟨⟨rfl,own_stringS _⟩,trivial⟩) (ho▸rfl) (ho▸rfl) ?_
 cbv;simp only [F]
 refine LoopK.introG (α:=Nat × Int × List (List UInt8)) [0,1,5] [] (fun a=>[(1,.i .i64 a.2.1),(5,.i .i64 a.1)]) (fun _=>[]) (fun a=>[[.sl .own 1 (rows strR a.2.2)]]) (fun n a=>n=l.length-a.1∧MkI cntStr mkStr l k a.1 a.2.1 a.2.2) ⟨_,(0,k,l),⟨rfl,MkI.zero⟩,rfl⟩ fun n a ha=>?_
 obtain⟨i,ki,x⟩:=a
 obtain⟨rfl,hI⟩:=ha
 dsimp only at hI ⊢
 cbv;simp only [F]
 split <;> (rename_i h;simp only [h];cbv;simp only [F])
 ·obtain⟨y,hy,hyl⟩:=hI.get (lt_llen h)
  clear h
  have hB:=hI.ok hyl h1
  refine CallK.intro (ret_markText ki hB.1 (by have:=hB.2;omega)) ?_
  generalize ht0:textF ki=t0
  cbv;simp only [F,set_setN]
  refine ⟨inr_rowsN hy,_,at_rowsN hy,?_⟩
  cbv;simp only [F,set_setN]
  generalize e0:iop .add .i64 ki 1=k1
  have q0:=inc_one e0 hB.1 (by have:=hB.2;omega)
  clear e0
  rw [show [V.s t0]=strR t0 from rfl,set_rowsN,add_one (get_lt_len hyl) (by omega)]
  refine ⟨_,(i+1,k1,x.set i t0),⟨Nat.sub_succ_lt_self _ _ (get_lt_len hyl),rfl,?_⟩,rfl⟩
  subst q0
  subst ht0
  refine hI.step hyl ?_
  try dsimp only
  show _=ki+((1:Nat):Int)
  omega
 ·obtain⟨q1,q2⟩:=hI.done (hI.len▸ge_llen h)
  exact ⟨LeV.ti hr q1,by rw [←ho,q2];rfl⟩
theorem ret_markNodeS(hv:Value)(l:List (NodeD))(k:Int)(h1:MkB k (sumS cntNode l))(hl:szL sizeNode l≤68719476736):RetM pg 113 [hv] [.rf ⟨.gl 0,[],0⟩ 5 none,.i .i64 k] [.sl .own 5 (rows nodeR l)] (.i .i64 (k+(sumS cntNode l:Nat))) [.sl .own 5 (rows nodeR (mkL cntNode mkNode k l))]:=by
 have hll:l.length≤68719476736:=Nat.le_trans (szL_len _ _) hl
 generalize hr:V.i .i64 (k+(sumS cntNode l:Nat))=r
 generalize ho:[V.sl .own 5 (rows nodeR (mkL cntNode mkNode k l))]=o
 refine ret0M Tryz.func113 rfl (by decide +kernel) rfl (hr▸rfl) ⟨⟨rfl,own_nodeS _⟩,trivial⟩ rfl (ho▸⟨⟨rfl,own_nodeS _⟩,trivial⟩) (ho▸rfl) (ho▸rfl) ?_
 cbv;simp only [F]
 refine LoopK.introG (α:=Nat × Int × List (NodeD)) [0,1,5] [] (fun a=>[(1,.i .i64 a.2.1),(5,.i .i64 a.1)]) (fun _=>[]) (fun a=>[[.sl .own 5 (rows nodeR a.2.2)]]) (fun n a=>n=l.length-a.1∧MkI cntNode mkNode l k a.1 a.2.1 a.2.2) ⟨_,(0,k,l),⟨rfl,MkI.zero⟩,rfl⟩ fun n a ha=>?_
 obtain⟨i,ki,x⟩:=a
 obtain⟨rfl,hI⟩:=ha
 dsimp only at hI ⊢
 cbv;simp only [F]
 split <;> (rename_i h;simp only [h];cbv;simp only [F])
 ·obtain⟨y,hy,hyl⟩:=hI.get (lt_llen h)
  clear h
  have hB:=hI.ok hyl h1
  obtain⟨f_kind,f_gen,f_time,f_size,f_blocks⟩:=y
  have hsz:szL szInt f_blocks≤szL sizeNode l:=szL_at sizeNode hyl
  refine ⟨inr_rowsN hy,_,at_rowsN hy,?_⟩
  cbv;simp only [F,set_setN]
  generalize e0:iop .add .i64 ki 1=k1
  obtain⟨q0,hB1⟩:=hB.inc e0 _ (Nat.le_refl _)
  clear e0
  refine ⟨inr_setN hy _,_,at_setN hy _,?_⟩
  cbv;simp only [F,set_setN]
  generalize e1:iop .add .i64 k1 1=k2
  obtain⟨q1,hB2⟩:=hB1.inc e1 _ (Nat.le_refl _)
  clear e1
  refine ⟨inr_setN hy _,_,at_setN hy _,?_⟩
  cbv;simp only [F,set_setN]
  generalize e2:iop .add .i64 k2 1=k3
  obtain⟨q2,hB3⟩:=hB2.inc e2 _ (Nat.le_refl _)
  clear e2
  refine ⟨inr_setN hy _,_,at_setN hy _,?_⟩
  cbv;simp only [F,set_setN]
  generalize e3:iop .add .i64 k3 1=k4
  obtain⟨q3,hB4⟩:=hB3.inc e3 _ (Nat.le_refl _)
  clear e3
  refine ⟨inr_setN hy _,_,at_setN hy _,?_⟩
  cbv;simp only [F,set_setN]
  refine ⟨_,at_setN hy _,?_⟩
  cbv;simp only [F,set_setN]
  intro hv4
  cbv;simp only [F,set_setN]
  refine CallMK.intro (ret_markIntS hv4 f_blocks k4 (hB4.sub _ (Nat.le_refl _)) (by omega)) ?_
  generalize e4:k4+(sumS cntInt f_blocks:Int)=k5
  have q4:=isAdd e4
  clear e4
  generalize hm4:mkL cntInt mkInt k4 f_blocks=m4
  cbv;simp only [F,set_setN]
  refine ⟨_,at_setN hy _,?_⟩
  cbv;simp only [F,set_setN]
  rw [show [V.i IntKind.i64 ki,V.i IntKind.i64 k1,V.i IntKind.i64 k2,V.i IntKind.i64 k3,V.sl .own 1 (rows intR m4)]=nodeR ⟨ki,k1,k2,k3,m4⟩ from rfl,set_rowsN,add_one (get_lt_len hyl) (by omega)]
  refine ⟨_,(i+1,k5,x.set i ⟨ki,k1,k2,k3,m4⟩),⟨Nat.sub_succ_lt_self _ _ (get_lt_len hyl),rfl,?_⟩,rfl⟩
  unfold IsAdd at q4
  subst q4
  subst hm4
  subst q3
  subst q2
  subst q1
  subst q0
  refine hI.step hyl ?_
  try dsimp only
  show _=ki+((1+(1+(1+(1+(sumS cntInt f_blocks)))):Nat):Int)
  omega
 ·obtain⟨q1,q2⟩:=hI.done (hI.len▸ge_llen h)
  exact ⟨LeV.ti hr q1,by rw [←ho,q2];rfl⟩
theorem ret_markBranchS(hv:Value)(l:List (BranchD))(k:Int)(h1:MkB k (sumS cntBranch l))(hl:szL sizeBranch l≤68719476736):RetM pg 75 [hv] [.rf ⟨.gl 0,[],0⟩ 3 none,.i .i64 k] [.sl .own 3 (rows branchR l)] (.i .i64 (k+(sumS cntBranch l:Nat))) [.sl .own 3 (rows branchR (mkL cntBranch mkBranch k l))]:=by
 have hll:l.length≤68719476736:=Nat.le_trans (szL_len _ _) hl
 generalize hr:V.i .i64 (k+(sumS cntBranch l:Nat))=r
 generalize ho:[V.sl .own 3 (rows branchR (mkL cntBranch mkBranch k l))]=o
 refine ret0M Tryz.func75 rfl (by decide +kernel) rfl (hr▸rfl) ⟨⟨rfl,own_branchS _⟩,trivial⟩ rfl (ho▸⟨⟨rfl,own_branchS _⟩,trivial⟩) (ho▸rfl) (ho▸rfl) ?_
 cbv;simp only [F]
 refine LoopK.introG (α:=Nat × Int × List (BranchD)) [0,1,5] [] (fun a=>[(1,.i .i64 a.2.1),(5,.i .i64 a.1)]) (fun _=>[]) (fun a=>[[.sl .own 3 (rows branchR a.2.2)]]) (fun n a=>n=l.length-a.1∧MkI cntBranch mkBranch l k a.1 a.2.1 a.2.2) ⟨_,(0,k,l),⟨rfl,MkI.zero⟩,rfl⟩ fun n a ha=>?_
 obtain⟨i,ki,x⟩:=a
 obtain⟨rfl,hI⟩:=ha
 dsimp only at hI ⊢
 cbv;simp only [F]
 split <;> (rename_i h;simp only [h];cbv;simp only [F])
 ·obtain⟨y,hy,hyl⟩:=hI.get (lt_llen h)
  clear h
  have hB:=hI.ok hyl h1
  obtain⟨f_mode,⟨f_fs_nodes,f_fs_data⟩⟩:=y
  have hsz:(szL sizeNode f_fs_nodes+szL List.length f_fs_data)≤szL sizeBranch l:=szL_at sizeBranch hyl
  refine ⟨inr_rowsN hy,_,at_rowsN hy,?_⟩
  cbv;simp only [F,set_setN]
  generalize e0:iop .add .i64 ki 1=k1
  obtain⟨q0,hB1⟩:=hB.inc e0 _ (Nat.le_refl _)
  clear e0
  refine ⟨inr_setN hy _,_,at_setN hy _,?_⟩
  cbv;simp only [F,set_setN]
  refine ⟨_,at_setN hy _,?_⟩
  cbv;simp only [F,set_setN]
  intro hv1
  cbv;simp only [F,set_setN]
  refine CallMK.intro (ret_markNodeS hv1 f_fs_nodes k1 (hB1.sub _ (Nat.le_add_right _ _)) (by omega)) ?_
  generalize e1:k1+(sumS cntNode f_fs_nodes:Int)=k2
  have q1:=isAdd e1
  clear e1
  generalize hm1:mkL cntNode mkNode k1 f_fs_nodes=m1
  have hB2:=hB1.addI q1 (Nat.le_refl _)
  cbv;simp only [F,set_setN]
  refine ⟨_,at_setN hy _,?_⟩
  cbv;simp only [F,set_setN]
  refine ⟨inr_setN hy _,_,at_setN hy _,?_⟩
  cbv;simp only [F,set_setN]
  refine ⟨_,at_setN hy _,?_⟩
  cbv;simp only [F,set_setN]
  intro hv2
  cbv;simp only [F,set_setN]
  refine CallMK.intro (ret_markStringS hv2 f_fs_data k2 (hB2.sub _ (Nat.le_refl _)) (by omega)) ?_
  generalize e2:k2+(sumS cntStr f_fs_data:Int)=k3
  have q2:=isAdd e2
  clear e2
  generalize hm2:mkL cntStr mkStr k2 f_fs_data=m2
  cbv;simp only [F,set_setN]
  refine ⟨_,at_setN hy _,?_⟩
  cbv;simp only [F,set_setN]
  rw [show [V.i IntKind.i64 ki,V.sl .own 5 (rows nodeR m1),V.sl .own 1 (rows strR m2)]=branchR ⟨ki,⟨m1,m2⟩⟩ from rfl,set_rowsN,add_one (get_lt_len hyl) (by omega)]
  refine ⟨_,(i+1,k3,x.set i ⟨ki,⟨m1,m2⟩⟩),⟨Nat.sub_succ_lt_self _ _ (get_lt_len hyl),rfl,?_⟩,rfl⟩
  unfold IsAdd at q2
  subst q2
  subst hm2
  unfold IsAdd at q1
  subst q1
  subst hm1
  subst q0
  refine hI.step hyl ?_
  try dsimp only
  show _=ki+((1+(sumS cntNode f_fs_nodes+(sumS cntStr f_fs_data)):Nat):Int)
  omega
 ·obtain⟨q1,q2⟩:=hI.done (hI.len▸ge_llen h)
  exact ⟨LeV.ti hr q1,by rw [←ho,q2];rfl⟩
theorem ret_markPool(hv0:Value)(c_policy:Int)(c_minFree:Int)(c_branches:List BranchD)(c_move_on:Bool)(c_move_cln:Bool)(c_move_src:Int)(c_move_dst:Int)(c_move_path:List UInt8)(c_move_gen:Int)(c_move_dn:Int)(k:Int)(h1:MkB k (sumS cntBranch c_branches))(hz0:szL sizeBranch c_branches≤68719476736):RetM pg 28 [hv0] [.ag [.i .i64 c_policy,.i .i64 c_minFree,.cv (0,3) hv0,.b c_move_on,.b c_move_cln,.i .i64 c_move_src,.i .i64 c_move_dst,.s c_move_path,.i .i64 c_move_gen,.i .i64 c_move_dn],.i .i64 k] [.sl .own 3 (rows branchR c_branches)] (.i .i64 (k+(sumS cntBranch c_branches:Nat))) [.sl .own 3 (rows branchR (mkL cntBranch mkBranch (k) c_branches))]:=by
 generalize hr:V.i .i64 (k+(sumS cntBranch c_branches:Nat))=r
 generalize ho:[V.sl .own 3 (rows branchR (mkL cntBranch mkBranch (k) c_branches))]=o
 refine ret0M Tryz.func28 rfl (by decide +kernel) rfl (hr▸rfl) ⟨⟨rfl,own_branchS _⟩,trivial⟩ rfl (ho▸⟨⟨rfl,own_branchS _⟩,trivial⟩) (ho▸rfl) (ho▸rfl) ?_
 cbv;simp only [F]
 refine CallMK.intro (ret_markBranchS hv0 c_branches k (h1.sub _ (Nat.le_refl _)) hz0) ?_
 generalize e0:k+(sumS cntBranch c_branches:Int)=k1
 generalize hm0:mkL cntBranch mkBranch k c_branches=m0
 have q0:=isAdd e0
 clear e0
 cbv;simp only [F]
 subst hm0
 unfold IsAdd at q0
 subst q0
 exact ⟨LeV.ti hr rfl,by rw [←ho];rfl⟩
theorem ret_markItemS(hv:Value)(l:List (ItemD))(k:Int)(h1:MkB k (sumS cntItem l))(hl:szL sizeItem l≤68719476736):RetM pg 100 [hv] [.rf ⟨.gl 0,[],0⟩ 4 none,.i .i64 k] [.sl .own 4 (rows itemR l)] (.i .i64 (k+(sumS cntItem l:Nat))) [.sl .own 4 (rows itemR (mkL cntItem mkItem k l))]:=by
 have hll:l.length≤68719476736:=Nat.le_trans (szL_len _ _) hl
 generalize hr:V.i .i64 (k+(sumS cntItem l:Nat))=r
 generalize ho:[V.sl .own 4 (rows itemR (mkL cntItem mkItem k l))]=o
 refine ret0M Tryz.func100 rfl (by decide +kernel) rfl (hr▸rfl) ⟨⟨rfl,own_itemS _⟩,trivial⟩ rfl (ho▸⟨⟨rfl,own_itemS _⟩,trivial⟩) (ho▸rfl) (ho▸rfl) ?_
 cbv;simp only [F]
 refine LoopK.introG (α:=Nat × Int × List (ItemD)) [0,1,5] [] (fun a=>[(1,.i .i64 a.2.1),(5,.i .i64 a.1)]) (fun _=>[]) (fun a=>[[.sl .own 4 (rows itemR a.2.2)]]) (fun n a=>n=l.length-a.1∧MkI cntItem mkItem l k a.1 a.2.1 a.2.2) ⟨_,(0,k,l),⟨rfl,MkI.zero⟩,rfl⟩ fun n a ha=>?_
 obtain⟨i,ki,x⟩:=a
 obtain⟨rfl,hI⟩:=ha
 dsimp only at hI ⊢
 cbv;simp only [F]
 split <;> (rename_i h;simp only [h];cbv;simp only [F])
 ·obtain⟨y,hy,hyl⟩:=hI.get (lt_llen h)
  clear h
  have hB:=hI.ok hyl h1
  obtain⟨f_path,f_kind,f_data,f_time⟩:=y
  have hsz:f_path.length+f_data.length≤szL sizeItem l:=szL_at sizeItem hyl
  refine CallK.intro (ret_markText ki hB.1 (by have:=hB.2;omega)) ?_
  generalize ht0:textF ki=t0
  cbv;simp only [F,set_setN]
  refine ⟨inr_rowsN hy,_,at_rowsN hy,?_⟩
  cbv;simp only [F,set_setN]
  generalize e0:iop .add .i64 ki 1=k1
  obtain⟨q0,hB1⟩:=hB.inc e0 _ (Nat.le_refl _)
  clear e0
  refine ⟨inr_setN hy _,_,at_setN hy _,?_⟩
  cbv;simp only [F,set_setN]
  generalize e1:iop .add .i64 k1 1=k2
  obtain⟨q1,hB2⟩:=hB1.inc e1 _ (Nat.le_refl _)
  clear e1
  refine CallK.intro (ret_markText k2 hB2.1 (by have:=hB2.2;omega)) ?_
  generalize ht2:textF k2=t2
  cbv;simp only [F,set_setN]
  refine ⟨inr_setN hy _,_,at_setN hy _,?_⟩
  cbv;simp only [F,set_setN]
  generalize e2:iop .add .i64 k2 1=k3
  obtain⟨q2,hB3⟩:=hB2.inc e2 _ (Nat.le_refl _)
  clear e2
  refine ⟨inr_setN hy _,_,at_setN hy _,?_⟩
  cbv;simp only [F,set_setN]
  generalize e3:iop .add .i64 k3 1=k4
  have q3:=inc_one e3 hB3.1 (by have:=hB3.2;omega)
  clear e3
  rw [show [V.s t0,V.i IntKind.i64 k1,V.s t2,V.i IntKind.i64 k3]=itemR ⟨t0,k1,t2,k3⟩ from rfl,set_rowsN,add_one (get_lt_len hyl) (by omega)]
  refine ⟨_,(i+1,k4,x.set i ⟨t0,k1,t2,k3⟩),⟨Nat.sub_succ_lt_self _ _ (get_lt_len hyl),rfl,?_⟩,rfl⟩
  subst q3
  subst q2
  subst ht2
  subst q1
  subst q0
  subst ht0
  refine hI.step hyl ?_
  try dsimp only
  show _=ki+((1+(1+(1+(1))):Nat):Int)
  omega
 ·obtain⟨q1,q2⟩:=hI.done (hI.len▸ge_llen h)
  exact ⟨LeV.ti hr q1,by rw [←ho,q2];rfl⟩
theorem ret_markTree(hv0:Value)(c_items:List ItemD)(k:Int)(h1:MkB k (sumS cntItem c_items))(hz0:szL sizeItem c_items≤68719476736):RetM pg 40 [hv0] [.ag [.cv (0,4) hv0],.i .i64 k] [.sl .own 4 (rows itemR c_items)] (.i .i64 (k+(sumS cntItem c_items:Nat))) [.sl .own 4 (rows itemR (mkL cntItem mkItem (k) c_items))]:=by
 generalize hr:V.i .i64 (k+(sumS cntItem c_items:Nat))=r
 generalize ho:[V.sl .own 4 (rows itemR (mkL cntItem mkItem (k) c_items))]=o
 refine ret0M Tryz.func40 rfl (by decide +kernel) rfl (hr▸rfl) ⟨⟨rfl,own_itemS _⟩,trivial⟩ rfl (ho▸⟨⟨rfl,own_itemS _⟩,trivial⟩) (ho▸rfl) (ho▸rfl) ?_
 cbv;simp only [F]
 refine CallMK.intro (ret_markItemS hv0 c_items k (h1.sub _ (Nat.le_refl _)) hz0) ?_
 generalize e0:k+(sumS cntItem c_items:Int)=k1
 generalize hm0:mkL cntItem mkItem k c_items=m0
 have q0:=isAdd e0
 clear e0
 cbv;simp only [F]
 subst hm0
 unfold IsAdd at q0
 subst q0
 exact ⟨LeV.ti hr rfl,by rw [←ho];rfl⟩
end Go.Ar
end
section
namespace Go.Ar
open Go.Proofs
set_option linter.unusedVariables false
set_option linter.unusedSimpArgs false
set_option maxRecDepth 20000
theorem ret_heldStringS(l:List (List UInt8))(k:Int)(h1:MkB k (sumS cntStr l))(hl:szL List.length l≤68719476736):Ret pg 30 true [.sl .shr 1 (rows strR (mkL cntStr mkStr k l)),.i .i64 k] [] (.i .i64 (k+(sumS cntStr l:Nat))):=by
 have hll:l.length≤68719476736:=Nat.le_trans (szL_len _ _) hl
 generalize hr:V.i .i64 (k+(sumS cntStr l:Nat))=r
 have hxa:∀ (i:Nat) (y:List UInt8),l[i]?=some y→(mkL cntStr mkStr k l)[i]?=some (mkStr (k+(sumS cntStr (l.take i):Nat)) y):=fun i y h=>mkL_at cntStr mkStr h k
 have hxl:(mkL cntStr mkStr k l).length=l.length:=mkL_len _ _ _ _
 generalize mkL cntStr mkStr k l=x at hxa hxl ⊢
 refine ret0 Tryz.func30 rfl (by decide +kernel) rfl (hr▸trivial) ?_
 cbv;simp only [F]
 refine LoopK.intro (α:=Nat × Int) [0,1,5] [] (fun a=>[(1,.i .i64 a.2),(5,.i .i64 a.1)]) (fun _=>[]) (fun n a=>n=l.length-a.1∧HeI cntStr l k a.1 a.2) ⟨_,(0,k),⟨rfl,HeI.zero⟩,rfl⟩ fun n a ha=>?_
 obtain⟨i,ki⟩:=a
 obtain⟨rfl,hI⟩:=ha
 dsimp only at hI ⊢
 cbv;simp only [F]
 split <;> (rename_i h;simp only [h];cbv;simp only [F])
 ·obtain⟨y,hyl⟩:=get_lt (l:=l) (i:=i) (hxl▸lt_llen h)
  clear h
  have hB:=hI.ok hyl h1
  have hy:=hxa i y hyl
  rw [←hI.1] at hy
  refine ⟨inr_rowsN hy,_,at_rowsN hy,?_⟩
  generalize hg0:mkStr ki y=g0 at hy ⊢
  have hg0:textF (ki)=g0:=hg0
  cbv;simp only [F]
  refine CallK.intro (ret_markText ki hB.1 (by have:=hB.2;omega)) ?_
  have hgg:textF ki=g0:=by rw [←hg0]
  rw [hgg]
  clear hgg
  cbv;simp only [F]
  simp only [neqs_self]
  cbv;simp only [F]
  generalize e0:iop .add .i64 ki 1=k1
  have q0:=inc_one e0 hB.1 (by have:=hB.2;omega)
  clear e0
  rw [add_one (get_lt_len hyl) (by omega)]
  refine ⟨_,(i+1,k1),⟨Nat.sub_succ_lt_self _ _ (get_lt_len hyl),rfl,?_⟩,rfl⟩
  refine hI.step hyl ?_
  try dsimp only
  show _=ki+((1:Nat):Int)
  omega
 ·exact LeV.ti hr (hI.done (hxl▸ge_llen h))
theorem ret_heldItemS(l:List (ItemD))(k:Int)(h1:MkB k (sumS cntItem l))(hl:szL sizeItem l≤68719476736):Ret pg 101 true [.sl .shr 4 (rows itemR (mkL cntItem mkItem k l)),.i .i64 k] [] (.i .i64 (k+(sumS cntItem l:Nat))):=by
 have hll:l.length≤68719476736:=Nat.le_trans (szL_len _ _) hl
 generalize hr:V.i .i64 (k+(sumS cntItem l:Nat))=r
 have hxa:∀ (i:Nat) (y:ItemD),l[i]?=some y→(mkL cntItem mkItem k l)[i]?=some (mkItem (k+(sumS cntItem (l.take i):Nat)) y):=fun i y h=>mkL_at cntItem mkItem h k
 have hxl:(mkL cntItem mkItem k l).length=l.length:=mkL_len _ _ _ _
 generalize mkL cntItem mkItem k l=x at hxa hxl ⊢
 refine ret0 Tryz.func101 rfl (by decide +kernel) rfl (hr▸trivial) ?_
 cbv;simp only [F]
 refine LoopK.intro (α:=Nat × Int) [0,1,5] [] (fun a=>[(1,.i .i64 a.2),(5,.i .i64 a.1)]) (fun _=>[]) (fun n a=>n=l.length-a.1∧HeI cntItem l k a.1 a.2) ⟨_,(0,k),⟨rfl,HeI.zero⟩,rfl⟩ fun n a ha=>?_
 obtain⟨i,ki⟩:=a
 obtain⟨rfl,hI⟩:=ha
 dsimp only at hI ⊢
 cbv;simp only [F]
 split <;> (rename_i h;simp only [h];cbv;simp only [F])
 ·obtain⟨y,hyl⟩:=get_lt (l:=l) (i:=i) (hxl▸lt_llen h)
  clear h
  have hB:=hI.ok hyl h1
  have hy:=hxa i y hyl
  rw [←hI.1] at hy
  refine ⟨inr_rowsN hy,_,at_rowsN hy,?_⟩
  obtain⟨f_path,f_kind,f_data,f_time⟩:=y
  have hsz:f_path.length+f_data.length≤szL sizeItem l:=szL_at sizeItem hyl
  generalize hg:mkItem ki ⟨f_path,f_kind,f_data,f_time⟩=g at hy ⊢
  obtain⟨g_path,g_kind,g_data,g_time⟩:=g
  simp only [mkItem,ItemD.mk.injEq] at hg
  obtain⟨hg0,hg1,hg2,hg3⟩:=hg
  cbv;simp only [F]
  refine CallK.intro (ret_markText ki hB.1 (by have:=hB.2;omega)) ?_
  have hgg:textF ki=g_path:=by rw [←hg0]
  rw [hgg]
  clear hgg
  cbv;simp only [F]
  simp only [neqs_self]
  cbv;simp only [F]
  generalize e0:iop .add .i64 ki 1=k1
  obtain⟨q0,hB1⟩:=hB.inc e0 _ (Nat.le_refl _)
  clear e0
  rw [←q0] at hg1 hg2 hg3
  refine ⟨inr_rowsN hy,_,at_rowsN hy,?_⟩
  cbv;simp only [F]
  have hgg:g_kind=k1:=hg1.symm
  simp only [hgg,neq_self]
  cbv;simp only [F]
  generalize e1:iop .add .i64 k1 1=k2
  obtain⟨q1,hB2⟩:=hB1.inc e1 _ (Nat.le_refl _)
  clear e1
  rw [←q1] at hg2 hg3
  refine ⟨inr_rowsN hy,_,at_rowsN hy,?_⟩
  cbv;simp only [F]
  refine CallK.intro (ret_markText k2 hB2.1 (by have:=hB2.2;omega)) ?_
  have hgg:textF k2=g_data:=by rw [←hg2]
  rw [hgg]
  clear hgg
  cbv;simp only [F]
  simp only [neqs_self]
  cbv;simp only [F]
  generalize e2:iop .add .i64 k2 1=k3
  obtain⟨q2,hB3⟩:=hB2.inc e2 _ (Nat.le_refl _)
  clear e2
  rw [←q2] at hg3
  refine ⟨inr_rowsN hy,_,at_rowsN hy,?_⟩
  cbv;simp only [F]
  have hgg:g_time=k3:=hg3.symm
  simp only [hgg,neq_self]
  cbv;simp only [F]
  generalize e3:iop .add .i64 k3 1=k4
  have q3:=inc_one e3 hB3.1 (by have:=hB3.2;omega)
  clear e3
  rw [add_one (get_lt_len hyl) (by omega)]
  refine ⟨_,(i+1,k4),⟨Nat.sub_succ_lt_self _ _ (get_lt_len hyl),rfl,?_⟩,rfl⟩
  refine hI.step hyl ?_
  try dsimp only
  show _=ki+((1+(1+(1+(1))):Nat):Int)
  omega
 ·exact LeV.ti hr (hI.done (hxl▸ge_llen h))
theorem ret_heldTree(c_items:List ItemD)(k:Int)(h1:MkB k (sumS cntItem c_items))(hz0:szL sizeItem c_items≤68719476736):Ret pg 41 true [.ag [.sl .shr 4 (rows itemR (mkL cntItem mkItem (k) c_items))],.i .i64 k] [] (.i .i64 (k+(sumS cntItem c_items:Nat))):=by
 generalize hr:V.i .i64 (k+(sumS cntItem c_items:Nat))=r
 generalize hm0:mkL cntItem mkItem (k) c_items=m0
 refine ret0 Tryz.func41 rfl (by decide +kernel) rfl (hr▸trivial) ?_
 cbv;simp only [F]
 rw [←hm0]
 refine CallK.intro (ret_heldItemS c_items k (h1.sub _ (Nat.le_refl _)) hz0) ?_
 generalize e0:k+(sumS cntItem c_items:Int)=k1 at hr ⊢
 have q0:=isAdd e0
 have p0:0≤k1:=q0.ge h1.1
 clear e0
 have pp:icmp .lss k1 0=false:=ge_lss p0
 try rw [hm0]
 cbv;simp only [F]
 simp only [pp]
 clear pp
 cbv;simp only [F]
 exact LeV.ti hr rfl
end Go.Ar
end
section
end
