import Derived.Test.YthhcbcokjlpahaaGreatArG0
namespace Go.Ar
open Go.Proofs
set_option linter.unusedVariables false
set_option linter.unusedSimpArgs false
set_option maxRecDepth 20000
/-! The record types of the laws and what the laws' own functions do with them (printed by wip/gen.py). -/
def IsAdd(k:Int)(n:Nat)(r:Int):Prop:=r=k+(n:Int)
theorem isAdd{k:Int}{n:Nat}{r:Int}(e:k+(n:Int)=r):IsAdd k n r:=e.symm
theorem MkB.addI{k r:Int}{n:Nat}(h:MkB k n){c m:Nat}(e:IsAdd k c r)(hm:c+m≤n):MkB r m:=⟨by have:=h.1;unfold IsAdd at e;omega,by have:=h.2;unfold IsAdd at e;omega⟩
def szInt(_:Int):Nat:=0
def cntInt(_:Int):Nat:=1
def cntStr(_:List UInt8):Nat:=1
theorem sumS_le8{α:Type}{f g:α→Nat}(h:∀x,f x≤8*g x+8)(l:List α):sumS f l≤8*szL g l:=by
 induction l with
 | nil=>simp [sumS]
 | cons x l ih =>
  have:=h x
  simp only [sumS,szL,List.map_cons,List.sum_cons,List.length_cons] at ih ⊢
  omega
theorem csum_Int(l:List Int):sumS cntInt l≤8*szL szInt l:=sumS_le8 (fun x=>by simp [cntInt,szInt]) l
theorem csum_String(l:List (List UInt8)):sumS cntStr l≤8*szL List.length l:=sumS_le8 (fun x=>by unfold cntStr;omega) l
def mkInt(k:Int)(_:Int):Int:=k
def digs:Nat→Nat→List UInt8
 | 0,_=>[]
 | f+1,n=>if n=0 then [] else digs f (n / 10)++[UInt8.ofNat (48+n % 10)]
def textF(k:Int):List UInt8:=if k≤0 then [109,48] else 109::digs 20 k.toNat
def mkStr(k:Int)(_:List UInt8):List UInt8:=textF k
theorem own_intS(l:List Int):OwnRs (rows intR l):=own_rows fun _ _=>⟨trivial,trivial⟩
theorem own_stringS(l:List (List UInt8)):OwnRs (rows strR l):=own_rows fun _ _=>⟨trivial,trivial⟩
theorem szInt_sum(l:List Int):sumS szInt l=0:=by
 induction l with
 | nil=>rfl
 | cons x l ih=>simp only [sumS,List.map_cons,List.sum_cons] at ih ⊢;simp only [szInt,ih]
theorem neq_self(a:Int):icmp .neq a a=false:=by rw [icmp_neq];simp
theorem neqs_self(a:List UInt8):scmp .neq a a=false:=by rw [scmp_neq];simp
theorem not_true_neq{a b:Int}(h:icmp .neq a b=true):a≠b:=by rw [icmp_neq] at h;simpa using h
theorem not_false_neq{a b:Int}(h:icmp .neq a b=false):a=b:=by rw [icmp_neq] at h;simpa using h
theorem not_true_neqs{a b:List UInt8}(h:scmp .neq a b=true):a≠b:=by rw [scmp_neq] at h;simpa using h
theorem not_false_neqs{a b:List UInt8}(h:scmp .neq a b=false):a=b:=by rw [scmp_neq] at h;simpa using h
theorem lt_llenB{α:Type}{f:α→List V}{a b:List α}(h:icmp .neq (llen (rows f a)) (llen (rows f b))=false):a.length=b.length:=by
 have:=not_false_neq h;rw [llen_rows,llen_rows] at this;omega
theorem ne_llenB{α:Type}{f:α→List V}{a b:List α}(h:icmp .neq (llen (rows f a)) (llen (rows f b))=true):a≠b:=by
 intro e;subst e;exact not_true_neq h rfl
structure NodeD where
 kind:Int
 gen:Int
 time:Int
 size:Int
 blocks:List Int
 deriving DecidableEq
/-- Its cells, own; its cells, shared. -/
noncomputable def nodeR(x:NodeD):List V:=[.i .i64 x.kind,.i .i64 x.gen,.i .i64 x.time,.i .i64 x.size,.sl .own 1 (rows intR x.blocks)]
noncomputable def nodeC(x:NodeD):List V:=[.i .i64 x.kind,.i .i64 x.gen,.i .i64 x.time,.i .i64 x.size,.sl .shr 1 (rows intR x.blocks)]
def node0:NodeD:=⟨0,0,0,0,[]⟩
theorem nodeR_0:nodeR node0=[.i .i64 0,.i .i64 0,.i .i64 0,.i .i64 0,.sl .own 1 []]:=by simp [nodeR,node0,rows_nil]
theorem own_nodeR(x:NodeD):OwnVs (nodeR x):=⟨trivial,trivial,trivial,trivial,⟨rfl,own_intS _⟩,trivial⟩
theorem own_nodeS(l:List NodeD):OwnRs (rows nodeR l):=own_rows fun x _=>own_nodeR x
def sizeNode(x:NodeD):Nat:=szL szInt x.blocks
def wfNode(x:NodeD):Prop:=(x.blocks.length≤maxLen)
def cntNode(x:NodeD):Nat:=1+(1+(1+(1+(sumS cntInt x.blocks))))
theorem cntle_Node(x:NodeD):cntNode x≤8*sizeNode x+8:=by
 have:=csum_Int x.blocks;unfold cntNode sizeNode;omega
theorem csum_Node(l:List NodeD):sumS cntNode l≤8*szL sizeNode l:=sumS_le8 cntle_Node l
def mkNode(k:Int)(x:NodeD):NodeD:=⟨k,k+1,k+1+1,k+1+1+1,mkL cntInt mkInt (k+1+1+1+1) x.blocks⟩
structure FsD where
 nodes:List NodeD
 data:List (List UInt8)
 deriving DecidableEq
/-- Its cells, own; its cells, shared. -/
noncomputable def fsR(x:FsD):List V:=[.sl .own 5 (rows nodeR x.nodes),.sl .own 1 (rows strR x.data)]
noncomputable def fsC(x:FsD):List V:=[.sl .shr 5 (rows nodeR x.nodes),.sl .shr 1 (rows strR x.data)]
def fs0:FsD:=⟨[],[]⟩
theorem own_fsR(x:FsD):OwnVs (fsR x):=⟨⟨rfl,own_nodeS _⟩,⟨rfl,own_stringS _⟩,trivial⟩
theorem own_fsS(l:List FsD):OwnRs (rows fsR l):=own_rows fun x _=>own_fsR x
def sizeFs(x:FsD):Nat:=szL sizeNode x.nodes+szL List.length x.data
def wfFs(x:FsD):Prop:=(x.nodes.length≤maxLen∧∀y∈x.nodes,wfNode y)∧(x.data.length≤maxLen∧∀y∈x.data,y.length≤maxLen)
structure BranchD where
 mode:Int
 fs:FsD
 deriving DecidableEq
/-- Its cells, own; its cells, shared. -/
noncomputable def branchR(x:BranchD):List V:=[.i .i64 x.mode,.sl .own 5 (rows nodeR x.fs.nodes),.sl .own 1 (rows strR x.fs.data)]
noncomputable def branchC(x:BranchD):List V:=[.i .i64 x.mode,.sl .shr 5 (rows nodeR x.fs.nodes),.sl .shr 1 (rows strR x.fs.data)]
def branch0:BranchD:=⟨0,fs0⟩
theorem branchR_0:branchR branch0=[.i .i64 0,.sl .own 5 [],.sl .own 1 []]:=by simp [branchR,branch0,rows_nil,fs0]
theorem own_branchR(x:BranchD):OwnVs (branchR x):=⟨trivial,⟨rfl,own_nodeS _⟩,⟨rfl,own_stringS _⟩,trivial⟩
theorem own_branchS(l:List BranchD):OwnRs (rows branchR l):=own_rows fun x _=>own_branchR x
def sizeBranch(x:BranchD):Nat:=sizeFs x.fs
def wfBranch(x:BranchD):Prop:=wfFs x.fs
def cntBranch(x:BranchD):Nat:=1+(sumS cntNode x.fs.nodes+(sumS cntStr x.fs.data))
theorem cntle_Branch(x:BranchD):cntBranch x≤8*sizeBranch x+8:=by
 have:=csum_Node x.fs.nodes;have:=csum_String x.fs.data;unfold cntBranch sizeBranch;unfold sizeFs;omega
theorem csum_Branch(l:List BranchD):sumS cntBranch l≤8*szL sizeBranch l:=sumS_le8 cntle_Branch l
def mkBranch(k:Int)(x:BranchD):BranchD:=⟨k,⟨mkL cntNode mkNode (k+1) x.fs.nodes,mkL cntStr mkStr (k+1+(sumS cntNode x.fs.nodes:Nat)) x.fs.data⟩⟩
structure MoveD where
 on:Bool
 cln:Bool
 src:Int
 dst:Int
 path:List UInt8
 gen:Int
 dn:Int
 deriving DecidableEq
/-- Its cells, own; its cells, shared. -/
noncomputable def moveR(x:MoveD):List V:=[.b x.on,.b x.cln,.i .i64 x.src,.i .i64 x.dst,.s x.path,.i .i64 x.gen,.i .i64 x.dn]
noncomputable def moveC(x:MoveD):List V:=[.b x.on,.b x.cln,.i .i64 x.src,.i .i64 x.dst,.s x.path,.i .i64 x.gen,.i .i64 x.dn]
theorem own_moveR(x:MoveD):OwnVs (moveR x):=⟨trivial,trivial,trivial,trivial,trivial,trivial,trivial,trivial⟩
theorem own_moveS(l:List MoveD):OwnRs (rows moveR l):=own_rows fun x _=>own_moveR x
def sizeMove(x:MoveD):Nat:=x.path.length
def wfMove(x:MoveD):Prop:=x.path.length≤maxLen
structure PoolD where
 policy:Int
 minFree:Int
 branches:List BranchD
 move:MoveD
 deriving DecidableEq
/-- Its cells, own; its cells, shared. -/
noncomputable def poolR(x:PoolD):List V:=[.i .i64 x.policy,.i .i64 x.minFree,.sl .own 3 (rows branchR x.branches),.b x.move.on,.b x.move.cln,.i .i64 x.move.src,.i .i64 x.move.dst,.s x.move.path,.i .i64 x.move.gen,.i .i64 x.move.dn]
noncomputable def poolC(x:PoolD):List V:=[.i .i64 x.policy,.i .i64 x.minFree,.sl .shr 3 (rows branchR x.branches),.b x.move.on,.b x.move.cln,.i .i64 x.move.src,.i .i64 x.move.dst,.s x.move.path,.i .i64 x.move.gen,.i .i64 x.move.dn]
theorem own_poolR(x:PoolD):OwnVs (poolR x):=⟨trivial,trivial,⟨rfl,own_branchS _⟩,trivial,trivial,trivial,trivial,trivial,trivial,trivial,trivial⟩
theorem own_poolS(l:List PoolD):OwnRs (rows poolR l):=own_rows fun x _=>own_poolR x
def sizePool(x:PoolD):Nat:=szL sizeBranch x.branches+sizeMove x.move
def wfPool(x:PoolD):Prop:=(x.branches.length≤maxLen∧∀y∈x.branches,wfBranch y)∧wfMove x.move
structure StepD where
 branch:Int
 fs:FsD
 deriving DecidableEq
/-- Its cells, own; its cells, shared. -/
noncomputable def stepR(x:StepD):List V:=[.i .i64 x.branch,.sl .own 5 (rows nodeR x.fs.nodes),.sl .own 1 (rows strR x.fs.data)]
noncomputable def stepC(x:StepD):List V:=[.i .i64 x.branch,.sl .shr 5 (rows nodeR x.fs.nodes),.sl .shr 1 (rows strR x.fs.data)]
theorem own_stepR(x:StepD):OwnVs (stepR x):=⟨trivial,⟨rfl,own_nodeS _⟩,⟨rfl,own_stringS _⟩,trivial⟩
theorem own_stepS(l:List StepD):OwnRs (rows stepR l):=own_rows fun x _=>own_stepR x
structure OpD where
 kind:Int
 path:List UInt8
 dst:List UInt8
 pos:Int
 data:List UInt8
 time:Int
 deriving DecidableEq
/-- Its cells, own; its cells, shared. -/
noncomputable def opR(x:OpD):List V:=[.i .i64 x.kind,.s x.path,.s x.dst,.i .i64 x.pos,.s x.data,.i .i64 x.time]
noncomputable def opC(x:OpD):List V:=[.i .i64 x.kind,.s x.path,.s x.dst,.i .i64 x.pos,.s x.data,.i .i64 x.time]
theorem own_opR(x:OpD):OwnVs (opR x):=⟨trivial,trivial,trivial,trivial,trivial,trivial,trivial⟩
theorem own_opS(l:List OpD):OwnRs (rows opR l):=own_rows fun x _=>own_opR x
def sizeOp(x:OpD):Nat:=x.path.length+x.dst.length+x.data.length
def wfOp(x:OpD):Prop:=x.path.length≤maxLen∧x.dst.length≤maxLen∧x.data.length≤maxLen
structure ItemD where
 path:List UInt8
 kind:Int
 data:List UInt8
 time:Int
 deriving DecidableEq
/-- Its cells, own; its cells, shared. -/
noncomputable def itemR(x:ItemD):List V:=[.s x.path,.i .i64 x.kind,.s x.data,.i .i64 x.time]
noncomputable def itemC(x:ItemD):List V:=[.s x.path,.i .i64 x.kind,.s x.data,.i .i64 x.time]
def item0:ItemD:=⟨[],0,[],0⟩
theorem itemR_0:itemR item0=[.s [],.i .i64 0,.s [],.i .i64 0]:=by simp [itemR,item0,rows_nil]
theorem own_itemR(x:ItemD):OwnVs (itemR x):=⟨trivial,trivial,trivial,trivial,trivial⟩
theorem own_itemS(l:List ItemD):OwnRs (rows itemR l):=own_rows fun x _=>own_itemR x
def sizeItem(x:ItemD):Nat:=x.path.length+x.data.length
def wfItem(x:ItemD):Prop:=x.path.length≤maxLen∧x.data.length≤maxLen
def cntItem(x:ItemD):Nat:=1+(1+(1+(1)))
theorem cntle_Item(x:ItemD):cntItem x≤8*sizeItem x+8:=by
 unfold cntItem sizeItem;omega
theorem csum_Item(l:List ItemD):sumS cntItem l≤8*szL sizeItem l:=sumS_le8 cntle_Item l
def mkItem(k:Int)(x:ItemD):ItemD:=⟨textF (k),k+1,textF (k+1+1),k+1+1+1⟩
structure TreeD where
 items:List ItemD
 deriving DecidableEq
/-- Its cells, own; its cells, shared. -/
noncomputable def treeR(x:TreeD):List V:=[.sl .own 4 (rows itemR x.items)]
noncomputable def treeC(x:TreeD):List V:=[.sl .shr 4 (rows itemR x.items)]
theorem own_treeR(x:TreeD):OwnVs (treeR x):=⟨⟨rfl,own_itemS _⟩,trivial⟩
theorem own_treeS(l:List TreeD):OwnRs (rows treeR l):=own_rows fun x _=>own_treeR x
def sizeTree(x:TreeD):Nat:=szL sizeItem x.items
def wfTree(x:TreeD):Prop:=(x.items.length≤maxLen∧∀y∈x.items,wfItem y)
structure PutD where
 pos:Int
 data:List UInt8
 deriving DecidableEq
def put0:PutD:=⟨0,[]⟩
structure DiskD where
 sectors:List (List UInt8)
 pend:List PutD
 deriving DecidableEq
structure EventD where
 kind:Int
 pos:Int
 data:List UInt8
 deriving DecidableEq
structure EntryD where
 name:List UInt8
 node:Int
 deriving DecidableEq
/-- Its cells, own; its cells, shared. -/
noncomputable def entryR(x:EntryD):List V:=[.s x.name,.i .i64 x.node]
noncomputable def entryC(x:EntryD):List V:=[.s x.name,.i .i64 x.node]
theorem own_entryR(x:EntryD):OwnVs (entryR x):=⟨trivial,trivial,trivial⟩
theorem own_entryS(l:List EntryD):OwnRs (rows entryR l):=own_rows fun x _=>own_entryR x
/-- What is left, as a fact. -/
def IsSub(l:Int)(n:Nat)(r:Int):Prop:=r=l-(n:Int)
def IsLess(l:Int)(n:Nat)(r:Int):Prop:=lessS l n=r
theorem IsSub.eqn{l r:Int}{n:Nat}(h:IsSub l n r):r=l-(n:Int):=h
theorem IsSub.eq{l r:Int}{n:Nat}(h:IsSub l n r):r=l-(n:Int):=h
theorem IsSub.le{l r:Int}{n:Nat}(h:IsSub l n r){B:Int}(hl:l≤B):r≤B:=by unfold IsSub at h;omega
theorem IsSub.pos{l r:Int}{n:Nat}(h:IsSub l n r)(g:0≤r):IsSub l n r:=h
theorem IsSub.neg{l r:Int}{n:Nat}(h:IsSub l n r)(g:r<0)(h0:0≤l):l<n:=by unfold IsSub at h;omega
theorem IsSub.lessE{l r:Int}{n:Nat}(h:IsSub l n r)(g:0≤r:=by assumption):lessS l n=r:=by unfold IsSub at h;rw [lessS_eq] <;> omega
theorem IsSub.less{l r:Int}{n:Nat}(h:IsSub l n r)(h0:0≤l)(g:r<0):lessS l n=-1:=by unfold IsSub at h;rw [lessS_lt];omega
theorem lessS_neg1:(-1:Int)<0:=by omega
theorem IsLess.pos{l r:Int}{n:Nat}(h:IsLess l n r)(g:0≤r):IsSub l n r:=(lessS_pos h g).1
theorem IsLess.neg{l r:Int}{n:Nat}(h:IsLess l n r)(g:r<0)(h0:0≤l):l<n:=lessS_neg h g h0
theorem ge_lss{n:Int}(h:0≤n):icmp .lss n 0=false:=by rw [icmp_lss];simp;omega
theorem IsAdd.ge{k:Int}{n:Nat}{r:Int}(h:IsAdd k n r)(h0:0≤k):0≤r:=by unfold IsAdd at h;omega
def DigI(K n:Nat)(out:List UInt8):Prop := ∃f,n<10 ^ f∧digs 20 K=digs f n++out
theorem DigI.step{K n:Nat}{out:List UInt8}(h:DigI K n out)(hn:0<n):DigI K (n / 10) (UInt8.ofNat (48+n % 10)::out):=by
 obtain⟨f,h1,h2⟩:=h
 cases f with
 | zero=>simp at h1;omega
 | succ f =>
  refine ⟨f,by rw [Nat.pow_succ] at h1;omega,?_⟩
  rw [h2,digs,if_neg (by omega)];simp
theorem DigI.done{K:Nat}{out:List UInt8}(h:DigI K 0 out):out=digs 20 K:=by
 obtain⟨f,h1,h2⟩:=h
 rw [h2];cases f <;> simp [digs]
theorem ten_ne:icmp BinOp.neq 10 0=true:=by rw [icmp_neq];rfl
theorem digs_len:∀ (f n:Nat),(digs f n).length≤f
 | 0,_=>by simp [digs]
 | f+1,n=>by
  have:=digs_len f (n / 10)
  unfold digs;split <;> simp <;> omega
theorem DigI.len{K n:Nat}{out:List UInt8}(h:DigI K n out):out.length≤20:=by
 obtain⟨f,h1,h2⟩:=h
 have:=digs_len 20 K
 rw [h2,List.length_append] at this;omega
theorem rem10(m:Nat)(hm:m≤1099511627776):iop .rem .i64 (m:Int) 10=((m % 10:Nat):Int):=by
 rw [iop_eq];show (m:Int).tmod 10=_
 rw [Int.tmod_eq_emod_of_nonneg (by omega)];omega
theorem quo10(m:Nat)(hm:m≤1099511627776):iop .quo .i64 (m:Int) 10=((m / 10:Nat):Int):=by
 rw [iop_eq];show IntKind.i64.wrap ((m:Int).tdiv 10)=_
 rw [Int.tdiv_eq_ediv_of_nonneg (by omega),wrap_i64 (by omega) (by omega)];omega
theorem dig1(m:Nat)(hm:m≤1099511627776):[[V.i IntKind.u8 (wrp IntKind.u8 (iop BinOp.add IntKind.i64 48 (iop BinOp.rem IntKind.i64 (m:Int) 10)))]]=bys [UInt8.ofNat (48+m % 10)]:=by
 rw [rem10 m hm,iop_add,wrap_i64 (by omega) (by omega),wrp_eq,bys_eq]
 have h:((48+m % 10:Nat):Int)=48+((m % 10:Nat):Int):=by omega
 rw [←h]
 have h2:m % 10<10:=Nat.mod_lt _ (by omega)
 simp only [List.map_cons,List.map_nil,IntKind.wrap,IntKind.bits,IntKind.signed]
 congr 3
theorem unbB(l:List UInt8):unb (bys l)=l:=by rw [bys_eq,unb_bys]
theorem ret_markText(k:Int)(h0:0≤k)(h1:k≤1099511627776):Ret pg 76 true [.i .i64 k] [] (.s (textF k)):=by
 generalize hr:V.s (textF k)=r
 refine ret0 Tryz.func76 rfl (by decide +kernel) rfl (hr▸trivial) ?_
 cbv;simp only [F]
 split <;> (rename_i h;simp only [h];cbv;simp only [F])
 ·exact LeV.ts hr (by rw [icmp_leq] at h;rw [textF,if_pos (by simpa using h)])
 obtain⟨n,rfl⟩:=Int.eq_ofNat_of_zero_le h0
 have hn:n≤1099511627776:=by omega
 have hk:0<n:=by rw [icmp_leq] at h;simp at h;omega
 clear h h0 h1
 refine LoopK.intro (α:=Nat × List UInt8) [0,3] [] (fun a=>[(0,.i .i64 a.1),(3,.s a.2)]) (fun _=>[]) (fun m a=>m=a.1∧a.1≤n∧DigI n a.1 a.2) ⟨_,(n,[]),⟨rfl,Nat.le_refl _,20,by omega,by simp⟩,rfl⟩ fun m a ha=>?_
 obtain⟨j,out⟩:=a
 obtain⟨rfl,hle,hd⟩:=ha
 dsimp only at hle hd ⊢
 cbv;simp only [F]
 split <;> (rename_i h;simp only [h];cbv;simp only [F])
 ·have hm:m≤1099511627776:=by omega
  have hp:0<m:=by rw [icmp_gtr] at h;simp at h;omega
  have hl:=hd.len
  rw [dig1 m hm,quo10 m hm,unbB]
  refine ⟨ten_ne,?_,?_,ten_ne,_,(m / 10,UInt8.ofNat (48+m % 10)::out),⟨?_,rfl,?_,hd.step hp⟩,?_⟩
  ·rw [IsB_eq];exact ⟨_,bys_eq _⟩
  ·rw [Room_eq,plus_eq,slen_eq,slen_eq];simp;omega
  ·show m / 10<m
   omega
  ·show m / 10≤n
   omega
  ·rw [sapp_eq];rfl
 ·have hp:m=0:=by rw [icmp_gtr] at h;simp at h;omega
  subst hp
  have hl:=hd.len
  have hk:¬ ((n:Int)≤0):=by omega
  refine ⟨by rw [Room_eq,plus_eq,slen_eq,slen_eq];simp;omega,LeV.ts hr ?_⟩
  rw [sapp_eq,hd.done,textF,if_neg hk];simp
end Go.Ar
