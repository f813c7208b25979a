import Derived.Test.YthhcbcokjlpahaaGreatArPl
import Derived.Test.YthhcbcokjlpahaaGreatArGt
section
namespace Go.Ar
open Go.Proofs
set_option linter.unusedVariables false
set_option linter.unusedSimpArgs false
set_option maxRecDepth 20000
/-- What ends yields. -/
structure EndsOk (P:PoolD) (r:Int × Int × Bool):Prop where
 ok:r.2.2=true→(0≤r.1∧r.1<(P.branches.length:Int))∧(0≤r.2.1∧r.2.1<(P.branches.length:Int))
end Go.Ar
end
section
namespace Go.Ar
open Go.Proofs
set_option linter.unusedVariables false
set_option linter.unusedSimpArgs false
set_option maxRecDepth 20000
/-! ### Walking names -/
noncomputable def walkN(f:FsD):Nat→List (List UInt8)→Int
 | i,[]=>(i:Int)
 | i,nm::r=>open Classical in if (f.nodes.getD i nodeZ).kind=2 then (if dirFind (ents f i) nm<0 then -1 else walkN f (dirFind (ents f i) nm).toNat r) else -1
theorem walkN_cons(f:FsD)(i:Nat)(nm:List UInt8)(r:List (List UInt8)){n:NodeD}(hn:f.nodes[i]?=some n):walkN f i (nm::r)=@ite _ (n.kind=2) (Classical.propDecidable _) (@ite _ (dirFind (dirAt f n).1 nm<0) (Classical.propDecidable _) (-1) (walkN f (dirFind (dirAt f n).1 nm).toNat r)) (-1):=by
 rw [walkN,ents,getD_get hn]
 by_cases h1:n.kind=2
 ·rw [if_pos h1,if_pos h1]
  by_cases h2:dirFind (dirAt f n).1 nm<0
  ·rw [if_pos h2,if_pos h2]
  ·rw [if_neg h2,if_neg h2]
 ·rw [if_neg h1,if_neg h1]
/-- What is known of a node that was walked to. -/
def AtN(f:FsD)(i:Nat):Prop := ∃n,f.nodes[i]?=some n∧(n.kind=2→∃k d,k+d=6∧d≤4∧WfD f k d i)
theorem atN_root{f:FsD}(h:FsOk f):AtN f 0:=by
 have hn:=h.1.n1
 obtain⟨n,hn0⟩:=get_some (l:=f.nodes) (i:=0) (by omega)
 exact ⟨n,hn0,fun _=>⟨6,0,rfl,by omega,h.wf⟩⟩
theorem atN_next{f:FsD}{i:Nat}(h:AtN f i){n:NodeD}(hn:f.nodes[i]?=some n)(hk:n.kind=2){nm:List UInt8}(hd:¬dirFind (dirAt f n).1 nm<0):AtN f (dirFind (dirAt f n).1 nm).toNat:=by
 obtain⟨n',hn',h2⟩:=h
 rw [hn] at hn';cases hn'
 obtain⟨k,d,hkd,hd4,hw⟩:=h2 hk
 obtain⟨k,rfl⟩:∃k',k=k' + 1:=⟨k-1,by omega⟩
 obtain⟨n',hn',_,h1,h4,h3⟩:=hw
 rw [hn] at hn';cases hn'
 obtain⟨e,he,e1,_⟩:=find_mem hd
 obtain⟨m,hm,_,_,hrec⟩:=h3 e he
 have h4':¬d=4:=fun h=>by rw [h4 h] at he;cases he
 rw [e1]
 exact ⟨m,hm,fun hk2=>⟨k,d+1,by omega,by omega,hrec hk2⟩⟩
theorem dir_ok{f:FsD}{i:Nat}(h:AtN f i){n:NodeD}(hn:f.nodes[i]?=some n)(hk:n.kind=2):(dirAt f n).2=true∧(dirAt f n).1.length≤80:=by
 obtain⟨n',hn',h2⟩:=h
 rw [hn] at hn';cases hn'
 obtain⟨k,d,hkd,hd4,hw⟩:=h2 hk
 obtain⟨k,rfl⟩:∃k',k=k' + 1:=⟨k-1,by omega⟩
 obtain⟨n',hn',_,h1,_⟩:=hw
 rw [hn] at hn';cases hn'
 exact ⟨h1,(dirAt_ok h1).n80⟩
theorem find_nat{l:List EntryD}{nm:List UInt8}(h:¬dirFind l nm<0):dirFind l nm=(((dirFind l nm).toNat:Nat):Int):=(Int.toNat_of_nonneg (by omega)).symm
theorem walkN_fits{f:FsD}:∀ (l:List (List UInt8)) (i:Nat),AtN f i→walkN f i l=-1∨∃ (j:Nat) (n:NodeD),walkN f i l=(j:Int)∧f.nodes[j]?=some n
 | [],i,h=>by
  obtain⟨n,hn,_⟩:=h
  exact .inr ⟨i,n,rfl,hn⟩
 | nm::r,i,h=>by
  obtain⟨n,hn,_⟩:=id h
  rw [walkN_cons f i nm r hn]
  split
  ·rename_i hk
   split
   ·exact .inl rfl
   ·rename_i hd
    exact walkN_fits r _ (atN_next h hn hk hd)
  ·exact .inl rfl
theorem i_follow{f:FsD}(h:FsOk f)(l:List (List UInt8))(hl:l.length≤1000000):ifollow f l=some (walkN f 0 l):=by
 refine wp_eq ?_
 unfold ifollow bnt lpt
 simp only [PN]
 refine wp_loop (fun s=>l.length-s.2.toNat) (fun s=>∃i j:Nat,s=((i:Int),(j:Int))∧j≤l.length∧AtN f i∧walkN f 0 l=walkN f i (l.drop j)) (fun r=>r=.inl (walkN f 0 l)∨r=.inr (walkN f 0 l)) ⟨0,0,rfl,by omega,atN_root h,rfl⟩ ?_ ?_
 ·rintro _ ⟨i,j,rfl,hj,ha,hw⟩
  dsimp only
  refine wp_if (fun hi=>?_) (fun hi=>wp_out (.inl (by rw [hw,List.drop_eq_nil_of_le (by omega)];rfl)))
  obtain⟨nm,hnm⟩:=get_some (l:=l) (i:=j) (by omega)
  obtain⟨n,hn,_⟩:=id ha
  rw [drop_at hnm,walkN_cons f i nm _ hn] at hw
  rw [gt_ok hnm,bsome,gt_ok hn,bsome]
  refine wp_if (fun hk=>wp_out (.inr (by rw [hw,if_neg hk]))) (fun hk=>?_)
  have hk:=Classical.not_not.1 hk
  rw [if_pos hk] at hw
  obtain⟨_,h80⟩:=dir_ok ha hn hk
  rw [i_entries h.1 hn,bsome,i_DirFind _ _ (by omega),bsome]
  refine wp_if (fun hd=>wp_out (.inr (by rw [hw,if_pos hd]))) (fun hd=>?_)
  rw [if_neg hd] at hw
  rw [ir_add1 (i:=j) (by omega),find_nat hd]
  exact wp_back ⟨_,j+1,rfl,by omega,atN_next ha hn hk hd,hw⟩ (by dsimp only;omega)
 ·rintro r (rfl | rfl)
  ·exact wp_some rfl
  ·exact wp_some rfl
theorem s_l9Dir_no{f:FsD}{i:Nat}{n:NodeD}(hn:f.nodes[i]?=some n)(hk:¬n.kind=2):sl9Dir f (i:Int)=some ([],false):=by
 unfold sl9Dir
 simp only [PN]
 rw [gt_ok hn,bsome,if_pos hk]
theorem s_l9Walk{f:FsD}(h:FsOk f)(l:List (List UInt8))(hl:l.length≤1000000):sl9Walk f l=some (walkN f 0 l):=by
 refine wp_eq ?_
 unfold sl9Walk bnt lpt
 simp only [PN]
 refine wp_loop (fun s=>l.length-s.2.toNat) (fun s=>∃i j:Nat,s=((i:Int),(j:Int))∧j≤l.length∧AtN f i∧walkN f 0 l=walkN f i (l.drop j)) (fun r=>r=.inl (walkN f 0 l)∨r=.inr (walkN f 0 l)) ⟨0,0,rfl,by omega,atN_root h,rfl⟩ ?_ ?_
 ·rintro _ ⟨i,j,rfl,hj,ha,hw⟩
  dsimp only
  refine wp_if (fun hi=>?_) (fun hi=>wp_out (.inl (by rw [hw,List.drop_eq_nil_of_le (by omega)];rfl)))
  obtain⟨nm,hnm⟩:=get_some (l:=l) (i:=j) (by omega)
  obtain⟨n,hn,_⟩:=id ha
  rw [drop_at hnm,walkN_cons f i nm _ hn] at hw
  by_cases hk:n.kind=2
  ·rw [if_pos hk] at hw
   obtain⟨hok,h80⟩:=dir_ok ha hn hk
   rw [s_l9Dir h.1 hn hk,bsome,hok]
   simp only [cond_true]
   rw [gt_ok hnm,bsome,s_DirFind _ _ (by omega),bsome]
   refine wp_if (fun hd=>wp_out (.inr (by rw [hw,if_pos hd]))) (fun hd=>?_)
   rw [if_neg hd] at hw
   rw [ir_add1 (i:=j) (by omega),find_nat hd]
   exact wp_back ⟨_,j+1,rfl,by omega,atN_next ha hn hk hd,hw⟩ (by dsimp only;omega)
  ·rw [if_neg hk] at hw
   rw [s_l9Dir_no hn hk,bsome]
   simp only [cond_false]
   exact wp_out (.inr (by rw [hw]))
 ·rintro r (rfl | rfl)
  ·exact wp_some rfl
  ·exact wp_some rfl
noncomputable def walkF(f:FsD)(p:List UInt8):Int:=@ite _ (PathOk p∧FsOk f) (Classical.propDecidable _) (walkN f 0 (namesOf p)) (-1)
theorem names_len(p:List UInt8):(namesOf p).length≤4:=by
 unfold namesOf
 split
 ·simp
 ·rename_i h
  split
  ·rename_i hp
   rcases hp with hp | ⟨_,h5,_⟩
   ·exact absurd hp h
   ·simp;omega
  ·simp
theorem i_Walk(f:FsD)(p:List UInt8)(hp:p.length≤4000000000):iWalk f p=some (walkF f p):=by
 have hl:=names_len p
 unfold iWalk walkF
 rw [i_readPath p hp,bsome,i_FsOk,bsome]
 simp only [PN]
 by_cases h1:PathOk p
 ·by_cases h2:FsOk f
  ·rw [if_pos h1,if_pos h2,if_pos ⟨h1,h2⟩,i_follow h2 _ (by omega)];rfl
  ·rw [if_pos h1,if_neg h2,if_neg fun h=>h2 h.2]
 ·rw [if_neg h1,if_neg fun h=>h1 h.1]
theorem s_Walk(f:FsD)(p:List UInt8)(hp:p.length≤4000000000):sWalk f p=some (walkF f p):=by
 have hl:=names_len p
 unfold sWalk walkF
 rw [s_FsOk,bsome]
 simp only [PN,s_PathOk p hp,s_Names p hp]
 by_cases h1:PathOk p
 ·by_cases h2:FsOk f
  ·rw [if_pos h2,if_pos h1,if_pos ⟨h1,h2⟩,s_l9Walk h2 _ (by omega)];rfl
  ·rw [if_neg h2,if_neg fun h=>h2 h.2]
 ·by_cases h2:FsOk f
  ·rw [if_pos h2,if_neg h1,if_neg fun h=>h1 h.1]
  ·rw [if_neg h2,if_neg fun h=>h2 h.2]
theorem walkF_in(f:FsD)(p:List UInt8):walkF f p=-1∨FsOk f∧∃ (j:Nat) (n:NodeD),walkF f p=(j:Int)∧f.nodes[j]?=some n:=by
 unfold walkF
 split
 ·rename_i h
  rcases walkN_fits (namesOf p) 0 (atN_root h.2) with h1 | h1
  ·exact .inl h1
  ·exact .inr ⟨h.2,h1⟩
 ·exact .inl rfl
noncomputable def genF(f:FsD)(p:List UInt8):Int:=@ite _ (walkF f p<0) (Classical.propDecidable _) (-1) (f.nodes.getD (walkF f p).toNat nodeZ).gen
theorem gt_node{γ:Type}(f:FsD)(p:List UInt8)(K:NodeD→Option γ)(x:γ)(g:NodeD→γ)(hK:∀n,K n=some (g n)):@ite _ (walkF f p<0) (Classical.propDecidable _) (some x) (bnd (gt f.nodes (walkF f p)) K)=some (@ite _ (walkF f p<0) (Classical.propDecidable _) x (g (f.nodes.getD (walkF f p).toNat nodeZ))):=by
 by_cases h:walkF f p<0
 ·rw [if_pos h,if_pos h]
 ·rw [if_neg h,if_neg h]
  rcases walkF_in f p with h1 | ⟨hf,j,n,h1,hn⟩
  ·omega
  ·rw [h1,gt_ok hn,bsome,hK,Int.toNat_natCast,getD_get hn]
theorem i_GenAt(f:FsD)(p:List UInt8)(hp:p.length≤4000000000):iGenAt f p=some (genF f p):=by
 unfold iGenAt genF
 rw [i_Walk f p hp,bsome]
 simp only [PN]
 exact gt_node f p _ _ (fun n=>n.gen) fun n=>rfl
theorem s_GenAt(f:FsD)(p:List UInt8)(hp:p.length≤4000000000):sGenAt f p=some (genF f p):=by
 unfold sGenAt genF
 rw [s_Walk f p hp,bsome]
 simp only [PN]
 exact gt_node f p _ _ (fun n=>n.gen) fun n=>rfl
/-! ### Holders and winners -/
noncomputable def holdN(P:PoolD)(p:List UInt8):Nat→List Int
 | 0=>[]
 | k+1=>holdN P p k++(match P.branches[k]? with | some b=>@ite _ (0≤walkF b.fs p) (Classical.propDecidable _) [(k:Int)] [] | none=>[])
theorem holdN_at{P:PoolD}{p:List UInt8}{k:Nat}{b:BranchD}(h:P.branches[k]?=some b):holdN P p (k+1)=holdN P p k ++ @ite _ (0≤walkF b.fs p) (Classical.propDecidable _) [(k:Int)] []:=by rw [holdN,h]
theorem holdN_len(P:PoolD)(p:List UInt8):∀k,(holdN P p k).length≤k
 | 0=>by simp [holdN]
 | k+1=>by
  have h1:=holdN_len P p k
  unfold holdN
  split
  ·split <;> simp <;> omega
  ·simp;omega
theorem holdN_in(P:PoolD)(p:List UInt8):∀ (k:Nat) (x:Int),x∈holdN P p k→∃ (i:Nat) (b:BranchD),x=(i:Int)∧P.branches[i]?=some b∧0≤walkF b.fs p
 | 0,x,h=>by simp [holdN] at h
 | k+1,x,h=>by
  unfold holdN at h
  rcases List.mem_append.1 h with h | h
  ·exact holdN_in P p k x h
  ·split at h
   ·rename_i b hb
    split at h
    ·rename_i hw
     exact ⟨k,b,List.mem_singleton.1 h,hb,hw⟩
    ·cases h
   ·cases h
theorem s_l12Holders(P:PoolD)(p:List UInt8)(hn:P.branches.length≤4000000000)(hp:p.length≤4000000000):sl12Holders P p=some (holdN P p P.branches.length):=by
 refine wp_eq ?_
 unfold sl12Holders bnu lpt
 simp only [PN,s_Walk _ p hp]
 refine wp_loop (fun s=>P.branches.length-s.2.toNat) (fun s=>∃k:Nat,s=(holdN P p k,(k:Int))∧k≤P.branches.length) (fun r=>r=holdN P p P.branches.length) ⟨0,rfl,by omega⟩ ?_ (fun r hr=>wp_some hr)
 rintro⟨a,j⟩ ⟨k,e,hk⟩
 injection e with e1 e2
 subst e1 e2
 dsimp only
 refine wp_if (fun hi=>?_) (fun hi=>wp_out (by rw [show k=P.branches.length by omega]))
 obtain⟨b,hb⟩:=get_some (l:=P.branches) (i:=k) (by omega)
 have hl:=holdN_len P p k
 rw [gt_ok hb,bsome,ir_add1 (i:=k) (by omega)]
 refine wp_if (fun h1=>?_) (fun h1=>wp_back ⟨k+1,by rw [holdN_at hb,if_neg h1,List.append_nil],by omega⟩ (by dsimp only;omega))
 rw [ck_in (room (by omega) (by omega))]
 exact wp_back ⟨k+1,by rw [holdN_at hb,if_pos h1],by omega⟩ (by dsimp only;omega)
noncomputable def genB(P:PoolD)(p:List UInt8)(k:Int):Int:=match P.branches[k.toNat]? with | some b=>genF b.fs p | none => -1
noncomputable def winS(g:Int→Int):List Int→Int→Int
 | [],b=>b
 | x::l,b=>winS g l (if b<0 then x else if g b<g x then x else b)
noncomputable def winF(P:PoolD)(p:List UInt8):Int:=winS (genB P p) (holdN P p P.branches.length) (-1)
theorem genB_at{P:PoolD}{p:List UInt8}{i:Nat}{b:BranchD}(h:P.branches[i]?=some b):genB P p (i:Int)=genF b.fs p:=by unfold genB;rw [Int.toNat_natCast,h]
theorem s_l12Winner(P:PoolD)(p:List UInt8)(hn:P.branches.length≤4000000000)(hp:p.length≤4000000000):sl12Winner P p=some (winF P p):=by
 refine wp_eq ?_
 unfold sl12Winner bnu lpt
 rw [s_l12Holders P p hn hp,bsome]
 have hin:=holdN_in P p P.branches.length
 have hln:=holdN_len P p P.branches.length
 unfold winF
 generalize holdN P p P.branches.length=l at hin hln ⊢
 simp only [PN,s_GenAt _ p hp]
 refine wp_loop (fun s=>l.length-s.2.toNat) (fun s=>∃j:Nat,s.2=(j:Int)∧j≤l.length∧winS (genB P p) l (-1)=winS (genB P p) (l.drop j) s.1∧(s.1<0∨∃ (i:Nat) (b:BranchD),s.1=(i:Int)∧P.branches[i]?=some b))
  (fun r=>r=winS (genB P p) l (-1)) ⟨0,rfl,by omega,rfl,.inl (by decide)⟩ ?_ (fun r hr=>wp_some hr)
 rintro⟨best,_⟩ ⟨j,e,hj,hw,hb⟩
 dsimp only at e hw hb ⊢
 subst e
 refine wp_if (fun hi=>?_) (fun hi=>wp_out (by rw [hw,List.drop_eq_nil_of_le (by omega)];rfl))
 obtain⟨x,hx⟩:=get_some (l:=l) (i:=j) (by omega)
 obtain⟨i,b,rfl,hib,_⟩:=hin x (List.mem_of_getElem? hx)
 rw [drop_at hx,winS] at hw
 rw [gt_ok hx]
 simp only [bsome]
 rw [ir_add1 (i:=j) (by omega)]
 refine wp_if (fun hn0=>?_) (fun hn0=>?_)
 ·rw [if_pos hn0] at hw
  exact wp_back ⟨j+1,rfl,by omega,hw,.inr ⟨i,b,rfl,hib⟩⟩ (by dsimp only;omega)
 ·obtain⟨m,c,rfl,hmc⟩:=hb.resolve_left hn0
  rw [gt_ok hib,bsome,gt_ok hmc,bsome]
  rw [if_neg hn0,genB_at hib,genB_at hmc] at hw
  refine wp_if (fun hg=>?_) (fun hg=>?_)
  ·rw [if_pos hg] at hw
   exact wp_back ⟨j+1,rfl,by omega,hw,.inr ⟨i,b,rfl,hib⟩⟩ (by dsimp only;omega)
  ·rw [if_neg hg] at hw
   exact wp_back ⟨j+1,rfl,by omega,hw,.inr ⟨m,c,rfl,hmc⟩⟩ (by dsimp only;omega)
theorem tree_plen{f:FsD}{x:ItemD}(h:x∈treeF f):x.path.length≤4000000000:=by
 obtain⟨l,h1,h2,_⟩:=tree_items h
 have:=h2.path
 rw [h1];omega
end Go.Ar
end
section
namespace Go.Ar
open Go.Proofs
set_option linter.unusedVariables false
set_option linter.unusedSimpArgs false
set_option maxRecDepth 20000
/-! ### The directory above -/
theorem names_nm{p:List UInt8}:∀x∈namesOf p,NameOk x:=by
 intro x hx
 unfold namesOf at hx
 split at hx
 ·cases hx
 ·rename_i h
  split at hx
  ·rename_i hp
   rcases hp with hp | ⟨_,_,_,hp⟩
   ·exact absurd hp h
   ·obtain⟨i,hi⟩:=List.getElem?_of_mem hx
    rw [List.getElem?_drop,Nat.add_comm] at hi
    exact hp i x hi
  ·cases hx
theorem names_take{p:List UInt8}{k:Nat}:((namesOf p).take k).length≤1000∧∀x∈(namesOf p).take k,x.length≤1000:=by
 have:=names_len p
 refine ⟨by rw [List.length_take];omega,fun x hx=>?_⟩
 have:=(names_nm x (List.mem_of_mem_take hx)).1.2
 omega
noncomputable def aboveF(p:List UInt8):List UInt8:=@ite _ (PathOk p) (Classical.propDecidable _) (pathF ((namesOf p).take ((namesOf p).length-1))) []
theorem i_Above(p:List UInt8)(hp:p.length≤4000000000):iAbove p=some (aboveF p):=by
 have hl:=names_len p
 unfold iAbove aboveF
 rw [i_readPath p hp,bsome]
 dsimp only
 by_cases h:PathOk p
 ·rw [tb_pos h,cond_true,if_pos h,ln_eq,isub (by omega),imax_eq,show max 0 (((namesOf p).length:Int)-1)=(((namesOf p).length-1:Nat):Int) by omega,ck_in (ins (by omega)),sb_to,i_PathOf names_take.1 names_take.2,bsome]
 ·rw [tb_neg h,cond_false,if_neg h]
theorem s_Above(p:List UInt8)(hp:p.length≤4000000000):sAbove p=some (aboveF p):=by
 have hl:=names_len p
 unfold sAbove aboveF
 rw [s_Names p hp,bsome,s_PathOk p hp,bsome]
 by_cases h:PathOk p
 ·rw [tb_pos h,cond_true,if_pos h]
  simp only [PN]
  by_cases h0:(namesOf p).length=0
  ·rw [if_pos (by omega),List.eq_nil_of_length_eq_zero h0]
   simp only [List.take_nil]
   rw [pathF_ok ⟨by simp,by simp⟩]
   rfl
  ·rw [if_neg (by omega),isub (by omega),show (((namesOf p).length:Int)-1)=(((namesOf p).length-1:Nat):Int) by omega,ck_in (ins (by omega)),sb_to,s_PathOf names_take.1 names_take.2,bsome]
 ·rw [tb_neg h,cond_false,if_neg h]
end Go.Ar
end
section
namespace Go.Ar
open Go.Proofs
set_option linter.unusedVariables false
set_option linter.unusedSimpArgs false
set_option maxRecDepth 20000
/-! ### A tree has no more items than its branch has nodes -/
theorem sum_set:∀ (s:List Int) (k:Nat),s[k]?=some 0→(s.set k 1).sum=s.sum+1
 | [],k,h=>by simp at h
 | x::s,0,h=>by
  obtain rfl:x=0:=by simpa using h
  simp;omega
 | x::s,k+1,h=>by
  have:=sum_set s k (by simpa using h)
  simp only [List.set_cons_succ,List.sum_cons,this];omega
theorem sum_bits:∀s:List Int,(∀ (k:Nat) (x:Int),s[k]?=some x→x=0∨x=1)→s.sum≤(s.length:Int)
 | [],_=>by simp
 | x::s,h=>by
  have h1:=h 0 x rfl
  have h2:=sum_bits s fun k y hy=>h (k+1) y (by simpa using hy)
  simp only [List.sum_cons,List.length_cons];omega
theorem fold_len{f:FsD}{g:List Int→EntryD→Option (List Int)}{G:EntryD→List ItemD}:∀ (l:List EntryD) (s t:List Int),SeenOk f s→foldE g l s=some t →
  (∀e∈l,∀s t,SeenOk f s→g s e=some t→SeenOk f t∧((G e).length:Int)+s.sum≤t.sum)→SeenOk f t∧((l.flatMap G).length:Int)+s.sum≤t.sum
 | [],s,t,hs,h,_=>by
  obtain rfl:s=t:=Option.some.inj h
  exact ⟨hs,by simp⟩
 | e::l,s,t,hs,h,hg=>by
  unfold foldE at h
  cases h1:g s e with
  | none=>rw [h1] at h;cases h
  | some u =>
   rw [h1] at h
   obtain⟨k1,k2⟩:=hg e (by simp) s u hs h1
   obtain⟨k3,k4⟩:=fold_len l u t k1 h fun e' he'=>hg e' (by simp [he'])
   refine ⟨k3,?_⟩
   rw [List.flatMap_cons,List.length_append];omega
theorem vis_len{f:FsD}:∀ (k d i:Nat) (s t:List Int) (n:NodeD) (ns:List (List UInt8)),SeenOk f s→vis f k (i:Int) d s=some t→f.nodes[i]?=some n→SeenOk f t∧((gath f k i ns).length:Int)+s.sum≤t.sum:=by
 intro k
 induction k with
 | zero=>intro d i s t n ns _ h;cases h
 | succ k ih =>
  intro d i s t n ns hs h hn
  rw [vis_succ,Int.toNat_natCast,getD_get hn] at h
  split at h
  ·cases h
  rename_i hc
  have hc1:(dirAt f n).2=true:=by
   cases hb:(dirAt f n).2 with
   | true=>rfl
   | false=>exact absurd (.inl hb) hc
  rw [gath_succ f k i ns hn]
  refine fold_len _ s t hs h fun e he s t hs hv=>?_
  have hen:=(ent_at (dirAt_ok hc1) he).2
  unfold visE at hv
  split at hv
  ·cases hv
  rename_i h1
  have hlt:¬ (f.nodes.length:Int)≤e.node:=fun hh=>h1 (.inl hh)
  obtain⟨m,hm⟩:=get_some (l:=f.nodes) (i:=e.node.toNat) (by omega)
  rw [getD_get hm] at h1 hv
  split at hv
  ·cases hv
  have hz:¬m.kind=0:=fun hz=>h1 (.inr (.inl hz))
  obtain⟨x,hx⟩:=get_some (l:=s) (i:=e.node.toNat) (by rw [hs.len];omega)
  have hx0:x=0:=by
   have hb:=hs.bit _ _ hx
   have:¬0<x:=fun hh=>h1 (.inr (.inr (by rw [at_get hx];exact hh)))
   omega
  subst hx0
  have hS:=hs.set hm hz
  have hsum:=sum_set s _ hx
  unfold gathE
  rw [getD_get hm]
  split at hv
  ·rename_i hk2
   obtain⟨k1,k2⟩:=ih (d+1) e.node.toNat (s.set e.node.toNat 1) t m (ns++[e.name]) hS (by rw [Int.toNat_of_nonneg (by omega)];exact hv) hm
   refine ⟨k1,?_⟩
   by_cases h126:e.name=[126]
   ·rw [if_pos h126];simp only [List.length_nil];omega
   ·rw [if_neg h126,if_pos hk2,List.length_cons];omega
  ·rename_i hk2
   obtain rfl:s.set e.node.toNat 1=t:=Option.some.inj hv
   refine ⟨hS,?_⟩
   by_cases h126:e.name=[126]
   ·rw [if_pos h126];simp only [List.length_nil];omega
   ·rw [if_neg h126,if_neg hk2];simp only [List.length_cons,List.length_nil];omega
theorem treeF_10(f:FsD):(treeF f).length≤10:=by
 unfold treeF
 split
 ·rename_i h
  have h0:=h
  obtain⟨hs,t,hv,_⟩:=h0
  have hn:=hs.n1
  obtain⟨n,hn0⟩:=get_some (l:=f.nodes) (i:=0) (by omega)
  obtain⟨k1,k2⟩:=vis_len 6 0 0 (zer f.nodes.length) t n [] (seen_zer f) hv hn0
  have h3:=sum_bits t k1.bit
  rw [k1.len] at h3
  have h4:(zer f.nodes.length).sum=0:=by
   unfold zer
   generalize f.nodes.length=q
   induction q with
   | zero=>rfl
   | succ q ih=>rw [List.replicate_succ,List.sum_cons,ih];rfl
  have h1:=puts_len (gath f 6 0 []) []
  simp only [List.length_nil] at h1
  omega
 ·simp
theorem tree_p28{f:FsD}{x:ItemD}(h:x∈treeF f):x.path.length≤28:=by
 obtain⟨l,h1,h2,h3⟩:=tree_items h
 rw [h1,pathOf,if_neg h3]
 have:=flatMap_len (fun x:List UInt8=>47::x) 7 l fun x hx=>by have:=(h2.2 x hx).1.2;simp;omega
 have:=h2.1
 omega
end Go.Ar
end
section
namespace Go.Ar
open Go.Proofs
set_option linter.unusedVariables false
set_option linter.unusedSimpArgs false
set_option maxRecDepth 20000
/-! ### Items and walks -/
noncomputable def itm(f:FsD)(j:Nat)(p:List UInt8):ItemD:=open Classical in
 if (f.nodes.getD j nodeZ).kind=2 then ⟨p,(f.nodes.getD j nodeZ).kind,[],0⟩ else ⟨p,(f.nodes.getD j nodeZ).kind,content f (f.nodes.getD j nodeZ),(f.nodes.getD j nodeZ).time⟩
theorem itm_path(f:FsD)(j:Nat)(p:List UInt8):(itm f j p).path=p:=by unfold itm;split <;> rfl
theorem no126{x:List UInt8}(h:NameOk x):¬x=[126]:=by
 rintro rfl
 have:=h.2 0 126 rfl
 unfold ChOk at this
 revert this
 decide
theorem dirFind_mem:∀ {l:List EntryD},(l.Pairwise fun a b=>Lt a.name b.name)→∀ {e:EntryD},e∈l→dirFind l e.name=e.node
 | [],_,e,he=>by cases he
 | x::l,h,e,he=>by
  rw [List.pairwise_cons] at h
  unfold dirFind
  rw [List.find?_cons]
  rcases List.mem_cons.1 he with rfl | hm
  ·rw [tb_pos rfl]
  ·have hx:¬x.name=e.name:=fun e1=>by
    have:=h.1 e hm
    unfold Lt at this
    rw [e1,bl_irrefl] at this;cases this
   rw [tb_neg hx]
   exact dirFind_mem h.2 hm
theorem gath_iff{f:FsD}:∀ (k d i:Nat) (ns:List (List UInt8)),WfD f k d i→NamesOk ns→ns.length=d→∀x,x∈gath f k i ns↔∃l,¬l=[]∧NamesOk (ns++l)∧0≤walkN f i l∧x=itm f (walkN f i l).toNat (pathOf (ns++l)):=by
 intro k
 induction k with
 | zero=>intro d i ns h;exact h.elim
 | succ k ih =>
  rintro d i ns ⟨n,hn,hk,h1,h2,h3⟩ hns hnl x
  have hE:=dirAt_ok h1
  have hlt:=names_lt hE
  rw [gath_succ f k i ns hn,List.mem_flatMap]
  have hw:∀e∈(dirAt f n).1,∀r,walkN f i (e.name::r)=walkN f e.node.toNat r:=fun e he r=>by
   have:=(ent_at hE he).2
   rw [walkN_cons f i e.name r hn,if_pos hk,dirFind_mem hlt he,if_neg (by omega)]
  constructor
  ·rintro⟨e,he,hx⟩
   obtain⟨m,hm,hm0,hhid,hrec⟩:=h3 e he
   unfold gathE at hx
   rw [getD_get hm] at hx
   split at hx
   ·cases hx
   rename_i h126
   obtain⟨hd3,hnm⟩:=ent_name (f:=f) (k:=k) (i:=i) (n:=n) hE h2 hns hnl he h126
   have one:∀y,y=itm f e.node.toNat (pathOf (ns++[e.name]))→∃l,¬l=[]∧NamesOk (ns++l)∧0≤walkN f i l∧y=itm f (walkN f i l).toNat (pathOf (ns++l)):=fun y hy=>by
    refine ⟨[e.name],by simp,hnm,?_,?_⟩
    ·rw [hw e he,walkN];omega
    ·rw [hw e he,walkN,Int.toNat_natCast];exact hy
   split at hx
   ·rename_i hk2
    rcases List.mem_cons.1 hx with rfl | hx
    ·exact one _ (by unfold itm;rw [getD_get hm,if_pos hk2])
    ·obtain⟨l,g1,g2,g3,g4⟩:=(ih (d+1) e.node.toNat (ns++[e.name]) (hrec hk2) hnm (by simp;omega) x).1 hx
     rw [List.append_assoc] at g2 g4
     exact ⟨e.name::l,by simp,g2,by rw [hw e he];exact g3,by rw [hw e he];exact g4⟩
   ·rename_i hk2
    rw [List.mem_singleton.1 hx]
    exact one _ (by unfold itm;rw [getD_get hm,if_neg hk2])
  ·rintro⟨l,g1,g2,g3,rfl⟩
   cases l with
   | nil=>exact absurd rfl g1
   | cons nm r =>
    have hnn:NameOk nm:=g2.2 nm (by simp)
    have g3':=g3
    rw [walkN_cons f i nm r hn,if_pos hk] at g3'
    split at g3'
    ·omega
    rename_i hd
    obtain⟨e,he,e1,rfl⟩:=find_mem hd
    obtain⟨m,hm,hm0,hhid,hrec⟩:=h3 e he
    rw [hw e he] at g3 ⊢
    obtain⟨hd3,hnm⟩:=ent_name (f:=f) (k:=k) (i:=i) (n:=n) hE h2 hns hnl he (no126 hnn)
    refine ⟨e,he,?_⟩
    unfold gathE
    rw [if_neg (no126 hnn),getD_get hm]
    cases r with
    | nil =>
     rw [walkN,Int.toNat_natCast]
     unfold itm
     rw [getD_get hm]
     split
     ·exact List.mem_cons_self
     ·exact List.mem_cons_self
    | cons nm2 r2 =>
     rw [walkN_cons f _ nm2 r2 hm] at g3
     by_cases hk2:m.kind=2
     ·rw [←walkN_cons f _ nm2 r2 hm] at g3
      rw [if_pos hk2]
      refine List.mem_cons_of_mem _ ((ih (d+1) e.node.toNat (ns++[e.name]) (hrec hk2) hnm (by simp;omega) _).2 ⟨nm2::r2,by simp,by rw [List.append_assoc];exact g2,g3,by rw [List.append_assoc];rfl⟩)
     ·rw [if_neg hk2] at g3;omega
theorem tree_iff{f:FsD}(h:FsOk f)(x:ItemD):x∈treeF f↔∃l,¬l=[]∧NamesOk l∧0≤walkN f 0 l∧x=itm f (walkN f 0 l).toNat (pathOf l):=by
 unfold treeF
 rw [if_pos h]
 obtain⟨k1,k2⟩:=puts_sorted (gath f 6 0 []) [] List.Pairwise.nil (gath_ne 6 0 0 [] h.wf names0 rfl)
 rw [k2.mem_iff]
 simpa using gath_iff 6 0 0 [] h.wf names0 rfl x
theorem tree_fs{f:FsD}{x:ItemD}(h:x∈treeF f):FsOk f:=by
 unfold treeF at h
 split at h
 ·assumption
 ·cases h
theorem walk_names{f:FsD}(hf:FsOk f){l:List (List UInt8)}(hl:NamesOk l):walkF f (pathOf l)=walkN f 0 l:=by
 obtain⟨h1,h2⟩:=names_path hl
 unfold walkF
 rw [if_pos ⟨h1,hf⟩,h2]
theorem walk_fs{f:FsD}{p:List UInt8}(h:0≤walkF f p):FsOk f:=by
 unfold walkF at h
 split at h
 ·rename_i hc;exact hc.2
 ·omega
theorem walk_tree{f:FsD}{l:List (List UInt8)}(hl:NamesOk l)(h0:¬l=[]):0≤walkF f (pathOf l)↔∃x∈treeF f,x.path=pathOf l:=by
 constructor
 ·intro h
  have hf:=walk_fs h
  rw [walk_names hf hl] at h
  exact ⟨_,(tree_iff hf _).2 ⟨l,h0,hl,h,rfl⟩,itm_path _ _ _⟩
 ·rintro⟨x,hx,e⟩
  have hf:=tree_fs hx
  obtain⟨m,h1,h2,h3,rfl⟩:=(tree_iff hf x).1 hx
  rw [itm_path] at e
  rw [←e,walk_names hf h2]
  exact h3
/-! ### Winners among the first branches -/
theorem winS_app(g:Int→Int):∀ (l m:List Int) (b:Int),winS g (l++m) b=winS g m (winS g l b)
 | [],m,b=>rfl
 | x::l,m,b=>by rw [List.cons_append,winS,winS,winS_app g l m]
noncomputable def winN(P:PoolD)(p:List UInt8)(k:Nat):Int:=winS (genB P p) (holdN P p k) (-1)
theorem winN_no{P:PoolD}{p:List UInt8}{k:Nat}{b:BranchD}(h:P.branches[k]?=some b)(hw:¬0≤walkF b.fs p):winN P p (k+1)=winN P p k:=by
 unfold winN
 rw [holdN_at h,if_neg hw,List.append_nil]
theorem winN_yes{P:PoolD}{p:List UInt8}{k:Nat}{b:BranchD}(h:P.branches[k]?=some b)(hw:0≤walkF b.fs p):winN P p (k+1)=if winN P p k<0 then (k:Int) else if genB P p (winN P p k)<genF b.fs p then (k:Int) else winN P p k:=by
 unfold winN
 rw [holdN_at h,if_pos hw,winS_app,winS,winS,genB_at h]
theorem winN_in(P:PoolD)(p:List UInt8):∀k,k≤P.branches.length→winN P p k<0∨∃ (i:Nat) (b:BranchD),i<k∧winN P p k=(i:Int)∧P.branches[i]?=some b∧0≤walkF b.fs p
 | 0,_=>.inl (by unfold winN holdN winS;omega)
 | k+1,hk=>by
  obtain⟨b,hb⟩:=get_some (l:=P.branches) (i:=k) (by omega)
  have ih:=winN_in P p k (by omega)
  have ih':winN P p k<0∨∃ (i:Nat) (b:BranchD),i<k+1∧winN P p k=(i:Int)∧P.branches[i]?=some b∧0≤walkF b.fs p:=ih.imp id fun⟨i,c,h1,h2⟩=>⟨i,c,by omega,h2⟩
  by_cases hw:0≤walkF b.fs p
  ·rw [winN_yes hb hw]
   split
   ·exact .inr ⟨k,b,by omega,rfl,hb,hw⟩
   ·split
    ·exact .inr ⟨k,b,by omega,rfl,hb,hw⟩
    ·exact ih'
  ·rw [winN_no hb hw];exact ih'
theorem winF_N(P:PoolD)(p:List UInt8):winF P p=winN P p P.branches.length:=rfl
end Go.Ar
end
section
namespace Go.Ar
open Go.Proofs
set_option linter.unusedVariables false
set_option linter.unusedSimpArgs false
set_option maxRecDepth 20000
/-! ### The pool's tree -/
noncomputable def wonE(P:PoolD)(k:Nat)(b:BranchD):List ItemD:=(treeF b.fs).filter fun x=>tb (winF P x.path=(k:Int))
noncomputable def wonN(P:PoolD):Nat→List ItemD
 | 0=>[]
 | k+1=>wonN P k++(match P.branches[k]? with | some b=>wonE P k b | none=>[])
noncomputable def poolF(P:PoolD):List ItemD:=(wonN P P.branches.length).foldl putI []
theorem wonN_at{P:PoolD}{k:Nat}{b:BranchD}(h:P.branches[k]?=some b):wonN P (k+1)=wonN P k++wonE P k b:=by rw [wonN,h]
theorem wonE_mem{P:PoolD}{k:Nat}{b:BranchD}{x:ItemD}:x∈wonE P k b↔x∈treeF b.fs∧winF P x.path=(k:Int):=by
 unfold wonE
 rw [List.mem_filter,tb_iff]
theorem wonN_mem(P:PoolD):∀ (k:Nat) (x:ItemD),x∈wonN P k↔∃ (i:Nat) (b:BranchD),i<k∧P.branches[i]?=some b∧x∈treeF b.fs∧winF P x.path=(i:Int)
 | 0,x=>by
  simp only [wonN,List.not_mem_nil,false_iff]
  rintro⟨i,_,h,_⟩
  omega
 | k+1,x=>by
  rw [wonN,List.mem_append,wonN_mem P k x]
  constructor
  ·rintro(⟨i,b,h1,h2⟩ | h)
   ·exact ⟨i,b,by omega,h2⟩
   ·split at h
    ·rename_i b hb
     exact ⟨k,b,by omega,hb,wonE_mem.1 h⟩
    ·cases h
  ·rintro⟨i,b,h1,h2,h3⟩
   by_cases e:i=k
   ·subst e
    rw [h2]
    exact .inr (wonE_mem.2 h3)
   ·exact .inl ⟨i,b,by omega,h2,h3⟩
theorem lt_ne{x y:ItemD}(h:LtP x y):NeP x y:=fun e=>by unfold LtP at h;rw [e,bl_irrefl] at h;cases h
theorem tree_ne(f:FsD):(treeF f).Pairwise NeP:=(tree_sorted f).imp lt_ne
theorem wonN_ne(P:PoolD):∀k,(wonN P k).Pairwise NeP
 | 0=>List.Pairwise.nil
 | k+1=>by
  rw [wonN,List.pairwise_append]
  refine ⟨wonN_ne P k,?_,fun x hx y hy e=>?_⟩
  ·split
   ·exact (tree_ne _).filter _
   ·exact List.Pairwise.nil
  ·split at hy
   ·rename_i b hb
    obtain⟨i,c,h1,_,_,h4⟩:=(wonN_mem P k x).1 hx
    have h5:=(wonE_mem.1 hy).2
    rw [e,h5] at h4
    omega
   ·cases hy
theorem ne_nodup{l:List ItemD}(h:(l.map (·.path)).Nodup):l.Pairwise NeP:=by
 rw [List.Nodup,List.pairwise_map] at h
 exact h
theorem ne_dup{l:List ItemD}(h:l.Pairwise NeP):l.Nodup:=h.imp fun h e=>h (by rw [e])
/-- A list with the winners' items, sorted, is the tree. -/
theorem sort_pool{P:PoolD}{t:List ItemD}(hn:t.Pairwise NeP)(hm:∀x,x∈t↔x∈wonN P P.branches.length):sortI t=poolF P:=by
 rw [sort_puts hn]
 unfold poolF
 have hw:=wonN_ne P P.branches.length
 obtain⟨k1,k2⟩:=puts_sorted t [] List.Pairwise.nil (by simpa using hn)
 obtain⟨g1,g2⟩:=puts_sorted (wonN P P.branches.length) [] List.Pairwise.nil (by simpa using hw)
 have hp:t.Perm (wonN P P.branches.length):=(List.perm_ext_iff_of_nodup (ne_dup hn) (ne_dup hw)).2 hm
 exact List.Perm.eq_of_pairwise (le:=LtP) (fun a b _ _ q1 q2=>absurd (q1.trans q2) LtP.irr) k1 g1 (k2.trans ((by simpa using hp:([]++t).Perm ([]++wonN P P.branches.length)).trans g2.symm))
/-- The winner of a path when the items c of branch k are looked at already. -/
noncomputable def curN(P:PoolD)(k:Nat)(c:List ItemD)(p:List UInt8):Int:=open Classical in if p∈c.map (·.path) then winN P p (k+1) else winN P p k
structure PtI (P:PoolD) (k:Nat) (c t:List ItemD) (g:List Int):Prop where
 len:g.length=t.length
 ne:(t.map (·.path)).Nodup
 src:∀ (i:Nat) (x:ItemD),t[i]?=some x→∃ (m:Nat) (b:BranchD),P.branches[m]?=some b∧x∈treeF b.fs∧curN P k c x.path=(m:Int)∧g[i]?=some (genF b.fs x.path)
 all:∀ (m:Nat) (b:BranchD) (x:ItemD),P.branches[m]?=some b→x∈treeF b.fs→(m<k∨(m=k∧x∈c))→x.path∈t.map (·.path)
 cnt:t.length≤10*k+c.length
theorem PtI.start(P:PoolD):PtI P 0 [] [] []:=⟨rfl,List.Pairwise.nil,fun i x h=>by simp at h,fun m b x _ _ h=>h.elim (fun h=>absurd h (Nat.not_lt_zero _)) (fun h=>by cases h.2),by simp⟩
theorem cur_ne{P:PoolD}{k:Nat}{c:List ItemD}{x:ItemD}{p:List UInt8}(h:¬p=x.path):curN P k (c++[x]) p=curN P k c p:=by
 unfold curN
 by_cases hm:p∈c.map (·.path)
 ·rw [if_pos hm,if_pos (by rw [List.map_append];exact List.mem_append_left _ hm)]
 ·rw [if_neg hm,if_neg]
  rw [List.map_append,List.mem_append]
  rintro(h1 | h1)
  ·exact hm h1
  ·exact h (by simpa using h1)
theorem cur_here{P:PoolD}{k:Nat}{c:List ItemD}{x:ItemD}:curN P k (c++[x]) x.path=winN P x.path (k+1):=by
 unfold curN
 rw [if_pos (by simp)]
theorem cur_old{P:PoolD}{k:Nat}{c r:List ItemD}{x:ItemD}{f:FsD}(h:treeF f=c++x::r):curN P k c x.path=winN P x.path k:=by
 unfold curN
 rw [if_neg]
 intro hm
 obtain⟨y,hy,e⟩:=List.mem_map.1 hm
 have:=tree_ne f
 rw [h,List.pairwise_append] at this
 exact this.2.2 y hy x (by simp) e
theorem tree_walk{f:FsD}{x:ItemD}(hx:x∈treeF f):0≤walkF f x.path:=by
 obtain⟨l,h1,h2,h3⟩:=tree_items hx
 rw [h1]
 exact (walk_tree h2 h3).2 ⟨x,hx,h1⟩
theorem set_same{α:Type}{l:List α}{i:Nat}{a:α}(h:l[i]?=some a):l.set i a=l:=by
 apply List.ext_getElem?
 intro j
 rw [List.getElem?_set]
 split
 ·rename_i e
  subst e
  rw [if_pos (len_lt h),h]
 ·rfl
variable {P:PoolD} {k:Nat} {c t r:List ItemD} {g:List Int} {b:BranchD} {x:ItemD}
theorem PtI.new(h:PtI P k c t g)(hb:P.branches[k]?=some b)(ht:treeF b.fs=c++x::r)(hx:¬x.path∈t.map (·.path)):PtI P k (c++[x]) (t++[x]) (g++[genF b.fs x.path]):=by
 have hxt:x∈treeF b.fs:=by rw [ht];simp
 have hw:=tree_walk hxt
 have hneg:winN P x.path k<0:=by
  rcases winN_in P x.path k (by have:=len_lt hb;omega) with h1 | ⟨i,b',h1,h2,h3,h4⟩
  ·exact h1
  ·obtain⟨l,p1,p2,p3⟩:=tree_items hxt
   rw [p1] at h4
   obtain⟨z,hz,e⟩:=(walk_tree p2 p3).1 h4
   have:=h.all i b' z h3 hz (.inl h1)
   rw [e,←p1] at this
   exact absurd this hx
 refine ⟨by simp [h.len],?_,fun i y hy=>?_,fun m b' y hm hy hor=>?_,by have:=h.cnt;simp;omega⟩
 ·rw [List.map_append,List.nodup_append]
  refine ⟨h.ne,by simp,fun a ha d hd e=>?_⟩
  have hd:d=x.path:=by simpa using hd
  rw [e,hd] at ha
  exact hx ha
 ·by_cases hi:i<t.length
  ·rw [List.getElem?_append_left hi] at hy
   obtain⟨m,b',h1,h2,h3,h4⟩:=h.src i y hy
   have hne:¬y.path=x.path:=fun e=>hx (e▸List.mem_map.2 ⟨y,List.mem_of_getElem? hy,rfl⟩)
   refine ⟨m,b',h1,h2,by rw [cur_ne hne];exact h3,?_⟩
   rw [List.getElem?_append_left (by rw [h.len];exact hi)]
   exact h4
  ·have hl:=len_lt hy
   simp at hl
   obtain rfl:i=t.length:=by omega
   rw [List.getElem?_append_right (by omega),Nat.sub_self] at hy
   obtain rfl:x=y:=by simpa using hy
   refine ⟨k,b,hb,hxt,by rw [cur_here,winN_yes hb hw,if_pos hneg],?_⟩
   rw [List.getElem?_append_right (by rw [h.len];omega),h.len,Nat.sub_self]
   rfl
 ·rw [List.map_append,List.mem_append]
  rcases hor with h1 | ⟨h1,h2⟩
  ·exact .inl (h.all m b' y hm hy (.inl h1))
  ·rcases List.mem_append.1 h2 with h2 | h2
   ·exact .inl (h.all m b' y hm hy (.inr ⟨h1,h2⟩))
   ·rw [List.mem_singleton.1 h2];exact .inr (by simp)
theorem PtI.at_(h:PtI P k c t g)(ht:treeF b.fs=c++x::r){i:Nat}{y:ItemD}(hi:t[i]?=some y)(he:y.path=x.path):∃m:Int,g[i]?=some m∧¬winN P x.path k<0∧m=genB P x.path (winN P x.path k):=by
 obtain⟨m,b',h1,h2,h3,h4⟩:=h.src i y hi
 rw [he,cur_old ht] at h3
 rw [he] at h4
 exact ⟨_,h4,by omega,by rw [h3,genB_at h1]⟩
theorem nodup_other(h:(t.map (·.path)).Nodup){i j:Nat}{y z:ItemD}(hi:t[i]?=some y)(hj:t[j]?=some z)(hne:¬j=i):¬z.path=y.path:=by
 intro e
 have hp:=List.pairwise_iff_getElem.1 (ne_nodup h)
 have li:=len_lt hi
 have lj:=len_lt hj
 have ei:t[i]=y:=by rw [List.getElem?_eq_getElem li] at hi;exact Option.some.inj hi
 have ej:t[j]=z:=by rw [List.getElem?_eq_getElem lj] at hj;exact Option.some.inj hj
 rcases Nat.lt_or_gt_of_ne hne with h1 | h1
 ·exact hp j i lj li h1 (by rw [ei,ej];exact e)
 ·exact hp i j li lj h1 (by rw [ei,ej];exact e.symm)
theorem PtI.up(h:PtI P k c t g)(hb:P.branches[k]?=some b)(ht:treeF b.fs=c++x::r){i:Nat}{y:ItemD}(hi:t[i]?=some y)(he:y.path=x.path){m:Int}(hm:g[i]?=some m)(hlt:m<genF b.fs x.path):PtI P k (c++[x]) (t.set i x) (g.set i (genF b.fs x.path)):=by
 have hxt:x∈treeF b.fs:=by rw [ht];simp
 have hw:=tree_walk hxt
 obtain⟨m',h1,h2,h3⟩:=h.at_ ht hi he
 rw [hm] at h1;cases h1
 have hmap:(t.set i x).map (·.path)=t.map (·.path):=by
  rw [List.map_set]
  exact set_same (by rw [List.getElem?_map,hi,Option.map_some,he])
 refine ⟨by simp [h.len],by rw [hmap];exact h.ne,fun j z hz=>?_,fun m b' z hm hz hor=>?_,by have:=h.cnt;simp;omega⟩
 ·rw [List.getElem?_set] at hz
  rw [List.getElem?_set]
  split at hz
  ·rename_i e
   subst e
   rw [if_pos (len_lt hi)] at hz
   cases hz
   refine ⟨k,b,hb,hxt,by rw [cur_here,winN_yes hb hw,if_neg h2,if_pos (by rw [←h3];exact hlt)],?_⟩
   rw [if_pos rfl,if_pos (by rw [h.len];exact len_lt hi)]
  ·rename_i e
   obtain⟨m2,b2,q1,q2,q3,q4⟩:=h.src j z hz
   have hne:¬z.path=x.path:=fun e1=>nodup_other h.ne hi hz (fun e2=>e e2.symm) (e1.trans he.symm)
   exact ⟨m2,b2,q1,q2,by rw [cur_ne hne];exact q3,by rw [if_neg e];exact q4⟩
 ·rw [hmap]
  rcases hor with h1 | ⟨h1,h2⟩
  ·exact h.all m b' z hm hz (.inl h1)
  ·rcases List.mem_append.1 h2 with h2 | h2
   ·exact h.all m b' z hm hz (.inr ⟨h1,h2⟩)
   ·rw [List.mem_singleton.1 h2,←he];exact List.mem_map.2 ⟨y,List.mem_of_getElem? hi,rfl⟩
theorem PtI.keep(h:PtI P k c t g)(hb:P.branches[k]?=some b)(ht:treeF b.fs=c++x::r){i:Nat}{y:ItemD}(hi:t[i]?=some y)(he:y.path=x.path){m:Int}(hm:g[i]?=some m)(hlt:¬m<genF b.fs x.path):PtI P k (c++[x]) t g:=by
 have hxt:x∈treeF b.fs:=by rw [ht];simp
 have hw:=tree_walk hxt
 obtain⟨m',h1,h2,h3⟩:=h.at_ ht hi he
 rw [hm] at h1;cases h1
 refine ⟨h.len,h.ne,fun j z hz=>?_,fun m b' z hm hz hor=>?_,by have:=h.cnt;simp;omega⟩
 ·obtain⟨m2,b2,q1,q2,q3,q4⟩:=h.src j z hz
  refine ⟨m2,b2,q1,q2,?_,q4⟩
  by_cases e:z.path=x.path
  ·rw [e,cur_old ht] at q3
   rw [e,cur_here,winN_yes hb hw,if_neg h2,if_neg (by rw [←h3];exact hlt)]
   exact q3
  ·rw [cur_ne e];exact q3
 ·rcases hor with h1 | ⟨h1,h2⟩
  ·exact h.all m b' z hm hz (.inl h1)
  ·rcases List.mem_append.1 h2 with h2 | h2
   ·exact h.all m b' z hm hz (.inr ⟨h1,h2⟩)
   ·rw [List.mem_singleton.1 h2,←he];exact List.mem_map.2 ⟨y,List.mem_of_getElem? hi,rfl⟩
theorem PtI.next(h:PtI P k (treeF b.fs) t g)(hb:P.branches[k]?=some b):PtI P (k+1) [] t g:=by
 refine ⟨h.len,h.ne,fun i x hx=>?_,fun m b' x hm hx hor=>?_,by have:=h.cnt;have:=treeF_10 b.fs;simp;omega⟩
 ·obtain⟨m,b',h1,h2,h3,h4⟩:=h.src i x hx
  refine ⟨m,b',h1,h2,?_,h4⟩
  rw [←h3]
  unfold curN
  rw [if_neg (by simp)]
  split
  ·rfl
  ·rename_i hno
   obtain⟨l,p1,p2,p3⟩:=tree_items h2
   rw [winN_no hb]
   intro hw
   rw [p1] at hw
   obtain⟨z,hz,e⟩:=(walk_tree p2 p3).1 hw
   exact hno (List.mem_map.2 ⟨z,hz,e.trans p1.symm⟩)
 ·rcases hor with h1 | ⟨_,h1⟩
  ·by_cases e:m=k
   ·subst e
    rw [hb] at hm;cases hm
    exact h.all m b x hb hx (.inr ⟨rfl,hx⟩)
   ·exact h.all m b' x hm hx (.inl (by omega))
  ·cases h1
theorem PtI.done(h:PtI P P.branches.length [] t g):sortI t=poolF P:=by
 refine sort_pool (ne_nodup h.ne) fun x=>?_
 have hc:∀p,curN P P.branches.length [] p=winF P p:=fun p=>by unfold curN;rw [if_neg (by simp),winF_N]
 rw [wonN_mem]
 constructor
 ·intro hx
  obtain⟨i,hi⟩:=List.mem_iff_getElem?.1 hx
  obtain⟨m,b,h1,h2,h3,_⟩:=h.src i x hi
  exact ⟨m,b,len_lt h1,h1,h2,by rw [←hc];exact h3⟩
 ·rintro⟨m,b,h0,h1,h2,h3⟩
  obtain⟨y,hy,e⟩:=List.mem_map.1 (h.all m b x h1 h2 (.inl h0))
  obtain⟨i,hi⟩:=List.mem_iff_getElem?.1 hy
  obtain⟨m',b',q1,q2,q3,_⟩:=h.src i y hi
  rw [hc,e,h3] at q3
  obtain rfl:m=m':=by omega
  rw [h1] at q1;cases q1
  rw [←tree_uniq q2 h2 e]
  exact hy
end Go.Ar
end
section
namespace Go.Ar
open Go.Proofs
set_option linter.unusedVariables false
set_option linter.unusedSimpArgs false
set_option maxRecDepth 20000
/-! ### The pool's tree, computed -/
theorem i_itemAt(l:List ItemD)(p:List UInt8)(hl:l.length≤1000000000000):Wp (fun r=>(r=-1∧∀ (i:Nat) (y:ItemD),l[i]?=some y→¬y.path=p)∨∃ (i:Nat) (y:ItemD),r=(i:Int)∧l[i]?=some y∧y.path=p) (iitemAt ⟨l⟩ p):=by
 unfold iitemAt gslices_IndexFunc_Item_iitemAt_1 bnt lpt
 simp only [iitemAt_1,PN,bnd_assoc]
 have key:∀z,(bnd (iitemAt ⟨l⟩ p) some=z→True):=fun _ _=>trivial
 refine wp_loop (fun s:Int=>l.length-s.toNat) (fun s=>∃i:Nat,s=(i:Int)∧i≤l.length∧∀ (j:Nat) (y:ItemD),j<i→l[j]?=some y→¬y.path=p)
  (fun r=>(r=.inl ()∧∀ (i:Nat) (y:ItemD),l[i]?=some y→¬y.path=p)∨∃ (i:Nat) (y:ItemD),r=.inr (i:Int)∧l[i]?=some y∧y.path=p) ⟨0,rfl,by omega,fun j y h=>by omega⟩ ?_ ?_
 ·rintro _ ⟨i,rfl,hi,hj⟩
  refine wp_if (fun hlt=>?_) (fun hge=>wp_out (.inl ⟨rfl,fun j y hy=>hj j y (by have:=len_lt hy;omega) hy⟩))
  obtain⟨x,hx⟩:=get_some (l:=l) (i:=i) (by omega)
  rw [gt_ok hx,bsome]
  refine wp_if (fun he=>wp_out (.inr ⟨i,x,rfl,hx,he⟩)) (fun he=>?_)
  rw [ir_add1 (by omega)]
  refine wp_back ⟨i+1,rfl,by omega,fun j y hjl hy=>?_⟩ (by omega)
  by_cases e:j=i
  ·subst e;rw [hx] at hy;cases hy;exact he
  ·exact hj j y (by omega) hy
 ·rintro r (⟨rfl,h⟩ | ⟨i,y,rfl,h1,h2⟩)
  ·exact wp_some (.inl ⟨rfl,h⟩)
  ·exact wp_some (.inr ⟨i,y,rfl,h1,h2⟩)
noncomputable def poolT(P:PoolD):List ItemD:=@ite _ (PoolOk P) (Classical.propDecidable _) (poolF P) []
theorem at_not{t:List ItemD}{p:List UInt8}(h:∀ (i:Nat) (y:ItemD),t[i]?=some y→¬y.path=p):¬p∈t.map (·.path):=by
 intro hm
 obtain⟨y,hy,e⟩:=List.mem_map.1 hm
 obtain⟨i,hi⟩:=List.mem_iff_getElem?.1 hy
 exact h i y hi e
theorem take_drop1{α:Type}{l:List α}{j:Nat}{x:α}(h:l[j]?=some x):l=l.take j++x::l.drop (j+1):=by
 have hlt:=len_lt h
 rw [List.getElem?_eq_getElem hlt] at h
 have hd:=List.drop_eq_getElem_cons hlt
 cases h
 rw [←hd,List.take_append_drop]
theorem i_PoolTree(P:PoolD)(hn:P.branches.length≤4000000000)(hm:P.move.path.length≤4000000000):iPoolTree P=some ⟨poolT P⟩:=by
 refine wp_eq ?_
 unfold iPoolTree bnu lpt poolT
 rw [i_PoolOk P hn hm,bsome]
 simp only [PN]
 refine wp_if (fun hok=>?_) (fun hno=>wp_some (by rw [if_neg hno]))
 rw [if_pos hok]
 have h4:=hok.num.2
 refine wp_loop (fun s=>P.branches.length-s.2.1.toNat) (fun s=>∃k:Nat,s.2.1=(k:Int)∧k≤P.branches.length∧PtI P k [] s.2.2 s.1) (fun r=>sortI r=poolF P∧r.length≤40) ⟨0,rfl,by omega,PtI.start P⟩ ?_ ?_
 ·rintro⟨g,_,t⟩ ⟨k,e1,hk,hI⟩
  dsimp only at e1 hI ⊢
  subst e1
  refine wp_if (fun hlt=>?_) (fun hge=>wp_out ?_)
  ·obtain⟨b,hb⟩:=get_some (l:=P.branches) (i:=k) (by omega)
   have hl10:=treeF_10 b.fs
   rw [gt_ok hb]
   simp only [bsome,i_TreeOf]
   refine wp_loop (fun s=>(treeF b.fs).length-s.2.1.toNat) (fun s=>∃j:Nat,s.2.1=(j:Int)∧j≤(treeF b.fs).length∧PtI P k ((treeF b.fs).take j) s.2.2 s.1) (fun r=>PtI P k (treeF b.fs) r.2 r.1) ⟨0,rfl,by omega,hI⟩ ?_ ?_
   ·rintro⟨g,_,t⟩ ⟨j,e2,hj,hJ⟩
    dsimp only at e2 hJ ⊢
    subst e2
    refine wp_if (fun hlt2=>?_) (fun hge2=>wp_out (by rw [List.take_of_length_le (by omega)] at hJ;exact hJ))
    obtain⟨x,hx⟩:=get_some (l:=treeF b.fs) (i:=j) (by omega)
    have ht:=take_drop1 hx
    have hcnt:=hJ.cnt
    have htk:((treeF b.fs).take j).length≤10:=by rw [List.length_take];omega
    have hlen:=hJ.len
    rw [gt_ok hx,bsome,i_GenAt b.fs x.path (tree_plen (List.mem_of_getElem? hx)),bsome]
    refine wp_bnd _ (i_itemAt t x.path (by omega)) ?_
    have hs:=take_snoc' hx
    rintro r (⟨rfl,hr⟩ | ⟨i,y,rfl,hi,he⟩)
    ·rw [if_pos (by omega),ck_in (room48 (by omega) (by omega)),ck_in (room (by omega) (by omega)),ir_add1 (by omega)]
     exact wp_back ⟨j+1,rfl,by omega,by dsimp only;rw [hs];exact hJ.new hb ht (at_not hr)⟩ (by dsimp only;omega)
    ·rw [if_neg (by omega)]
     obtain⟨m,hm, -, -⟩:=hJ.at_ ht hi he
     rw [gt_ok hm,bsome,ir_add1 (by omega)]
     refine wp_if (fun hg=>?_) (fun hg=>wp_back ⟨j+1,rfl,by omega,by dsimp only;rw [hs];exact hJ.keep hb ht hi he hm hg⟩ (by dsimp only;omega))
     rw [gt_ok hi,bsome,sl_eq,sl_eq,Int.toNat_natCast]
     exact wp_back ⟨j+1,rfl,by omega,by dsimp only;rw [hs];exact hJ.up hb ht hi he hm hg⟩ (by dsimp only;omega)
   ·rintro⟨g,t⟩ h
    dsimp only at h ⊢
    rw [ir_add1 (by omega)]
    exact wp_back ⟨k+1,rfl,by omega,h.next hb⟩ (by dsimp only;omega)
  ·obtain rfl:k=P.branches.length:=by omega
   have:=hI.cnt
   exact ⟨hI.done,by simp at this;omega⟩
 ·rintro t ⟨h1,h2⟩
  unfold gslices_SortFunc_Item_ibyPath
  rw [if_pos (by omega),bsome,h1]
  exact wp_some rfl
theorem puts_snoc(l:List ItemD)(x:ItemD)(acc:List ItemD):(l++[x]).foldl putI acc=putI (l.foldl putI acc) x:=by rw [List.foldl_append];rfl
theorem s_l12Tree(P:PoolD)(hok:PoolOk P):sl12Tree P=some ⟨poolF P⟩:=by
 refine wp_eq ?_
 unfold sl12Tree bnu lpt
 simp only [PN]
 have h4:=hok.num.2
 refine wp_loop (fun s=>P.branches.length-s.1.toNat) (fun s=>∃k:Nat,s.1=(k:Int)∧k≤P.branches.length∧s.2=(wonN P k).foldl putI []∧(wonN P k).length≤10*k) (fun r=>r=poolF P) ⟨0,rfl,by omega,rfl,by simp [wonN]⟩ ?_ ?_
 ·rintro⟨_,t⟩ ⟨k,e1,hk,e2,hc⟩
  dsimp only at e1 e2 ⊢
  subst e1 e2
  refine wp_if (fun hlt=>?_) (fun hge=>wp_out ?_)
  ·obtain⟨b,hb⟩:=get_some (l:=P.branches) (i:=k) (by omega)
   have hl10:=treeF_10 b.fs
   rw [gt_ok hb]
   simp only [bsome,s_TreeOf]
   have hW:wonN P (k+1)=wonN P k++(treeF b.fs).filter fun x=>tb (winF P x.path=(k:Int)):=wonN_at hb
   have hfl:∀j,(((treeF b.fs).take j).filter fun x=>tb (winF P x.path=(k:Int))).length≤10:=fun j=>by
    have h1:=List.length_filter_le (fun x=>tb (winF P x.path=(k:Int))) ((treeF b.fs).take j)
    rw [List.length_take] at h1;omega
   refine wp_loop (fun s=>(treeF b.fs).length-s.1.toNat) (fun s=>∃j:Nat,s.1=(j:Int)∧j≤(treeF b.fs).length∧s.2=(wonN P k++((treeF b.fs).take j).filter fun x=>tb (winF P x.path=(k:Int))).foldl putI []) (fun r=>r=(wonN P (k+1)).foldl putI []) ⟨0,rfl,by omega,by simp⟩ ?_ ?_
   ·rintro⟨_,t⟩ ⟨j,e3,hj,e4⟩
    dsimp only at e3 e4 ⊢
    subst e3
    refine wp_if (fun hlt2=>?_) (fun hge2=>wp_out (by rw [e4,List.take_of_length_le (by omega),hW]))
    obtain⟨x,hx⟩:=get_some (l:=treeF b.fs) (i:=j) (by omega)
    have hs:=take_snoc' hx
    rw [gt_ok hx,bsome,s_l12Winner P x.path (by omega) (tree_plen (List.mem_of_getElem? hx)),bsome]
    have hlen:t.length≤1000:=by
     have h1:=puts_len (wonN P k++((treeF b.fs).take j).filter fun x=>tb (winF P x.path=(k:Int))) []
     have h2:=hfl j
     rw [List.length_append] at h1
     rw [e4];simp only [List.length_nil] at h1;omega
    refine wp_if (fun hw=>?_) (fun hw=>?_)
    ·rw [s_Put t x (by omega),bsome,ir_add1 (by omega)]
     refine wp_back ⟨j+1,rfl,by omega,?_⟩ (by dsimp only;omega)
     dsimp only
     rw [hs,List.filter_append,←List.append_assoc,show [x].filter (fun x=>tb (winF P x.path=(k:Int)))=[x] by simp [tb_pos hw],puts_snoc,←e4]
     rfl
    ·rw [ir_add1 (by omega)]
     refine wp_back ⟨j+1,rfl,by omega,?_⟩ (by dsimp only;omega)
     dsimp only
     rw [hs,List.filter_append,show [x].filter (fun x=>tb (winF P x.path=(k:Int)))=[] by simp [tb_neg hw],List.append_nil,e4]
   ·rintro _ rfl
    rw [ir_add1 (by omega)]
    refine wp_back ⟨k+1,rfl,by omega,rfl,?_⟩ (by dsimp only;omega)
    have h1:=hfl (treeF b.fs).length
    rw [List.take_length] at h1
    rw [hW,List.length_append];omega
  ·obtain rfl:k=P.branches.length:=by omega
   rfl
 ·rintro _ rfl
  exact wp_some rfl
theorem s_PoolTree(P:PoolD)(hn:P.branches.length≤4000000000)(hm:P.move.path.length≤4000000000):sPoolTree P=some ⟨poolT P⟩:=by
 unfold sPoolTree poolT
 rw [s_PoolOk P hn hm,bsome]
 simp only [PN]
 refine if_2 (fun h=>by rw [s_l12Tree P h,if_pos h];rfl) (fun h=>by rw [if_neg h])
theorem poolF_len{P:PoolD}(hok:PoolOk P):(poolF P).length≤40:=by
 have h4:=hok.num.2
 have key:∀k,k≤P.branches.length→(wonN P k).length≤10*k:=by
  intro k
  induction k with
  | zero=>intro _;simp [wonN]
  | succ k ih =>
   intro hk
   obtain⟨b,hb⟩:=get_some (l:=P.branches) (i:=k) (by omega)
   rw [wonN_at hb,List.length_append]
   have h1:=ih (by omega)
   have h2:=List.length_filter_le (fun x=>tb (winF P x.path=(k:Int))) (treeF b.fs)
   have h3:=treeF_10 b.fs
   unfold wonE;omega
 have h1:=key _ (Nat.le_refl _)
 have h2:=puts_len (wonN P P.branches.length) []
 unfold poolF;simp only [List.length_nil] at h2;omega
theorem poolT_len(P:PoolD):(poolT P).length≤40:=by
 unfold poolT
 split
 ·exact poolF_len (by assumption)
 ·simp
/-! ### Stat -/
noncomputable def statF(P:PoolD)(p:List UInt8):ItemD × Int:=open Classical in
 if PoolOk P then (if PathOk p then (if (treeGet (poolT P) p).2=true then ((treeGet (poolT P) p).1,0) else (itemZ,2)) else (itemZ,1)) else (itemZ,10)
theorem i_look(P:PoolD)(p:List UInt8)(good:Bool)(hn:P.branches.length≤4000000000)(hm:P.move.path.length≤4000000000)(hp:p.length≤4000000000):ilook P p good=some (if good=true then statF P p else (itemZ,10)):=by
 unfold ilook bnu
 cases good with
 | false=>rfl
 | true =>
  simp only [cond_true,i_PoolOk P hn hm,bsome,PN,if_true]
  unfold statF
  by_cases hok:PoolOk P
  ·rw [if_neg (fun h=>h hok),if_pos hok,i_PathOk p hp,bsome,cond_tb,i_PoolTree P hn hm]
   refine if_2 (fun h=>?_) (fun h=>by rw [if_neg h];rfl)
   rw [if_pos h,bsome,i_TreeGet _ p (by have:=poolT_len P;omega),bsome]
   cases h2:(treeGet (poolT P) p).2 <;> rfl
  ·rw [if_pos hok,if_neg hok];rfl
theorem i_PoolStat(P:PoolD)(p:List UInt8)(hn:P.branches.length≤4000000000)(hm:P.move.path.length≤4000000000)(hp:p.length≤4000000000):iPoolStat P p=some (statF P p):=by
 unfold iPoolStat
 rw [i_look P p true hn hm hp]
 rfl
theorem s_PoolStat(P:PoolD)(p:List UInt8)(hn:P.branches.length≤4000000000)(hm:P.move.path.length≤4000000000)(hp:p.length≤4000000000):sPoolStat P p=some (statF P p):=by
 unfold sPoolStat statF
 rw [s_PoolOk P hn hm,bsome,cond_tb]
 refine if_2 (fun h=>?_) (fun h=>by rw [if_neg h];rfl)
 rw [if_pos h,s_PathOk p hp,bsome,cond_tb]
 refine if_2 (fun h1=>?_) (fun h1=>by rw [if_neg h1];rfl)
 rw [if_pos h1,s_l12Tree P h,bsome,s_TreeGet _ p (by have:=poolF_len h;omega),bsome]
 have e:poolT P=poolF P:=by unfold poolT;rw [if_pos h]
 rw [e]
 cases h2:(treeGet (poolF P) p).2 <;> rfl
end Go.Ar
end
section
namespace Go.Ar
open Go.Proofs
set_option linter.unusedVariables false
set_option linter.unusedSimpArgs false
set_option maxRecDepth 20000
/-! ### What is asked of a pool -/
theorem poolF_mem{P:PoolD}{x:ItemD}:x∈poolF P↔∃ (i:Nat) (b:BranchD),P.branches[i]?=some b∧x∈treeF b.fs∧winF P x.path=(i:Int):=by
 have h2:=(puts_sorted (wonN P P.branches.length) [] List.Pairwise.nil (by simpa using wonN_ne P P.branches.length)).2
 have e:x∈poolF P↔x∈wonN P P.branches.length:=by unfold poolF;rw [h2.mem_iff];simp
 rw [e,wonN_mem]
 exact ⟨fun⟨i,b,_,h⟩=>⟨i,b,h⟩,fun⟨i,b,h⟩=>⟨i,b,len_lt h.1,h⟩⟩
theorem tree_data{f:FsD}{x:ItemD}(hx:x∈treeF f):x.data.length≤80:=by
 have hf:=tree_fs hx
 obtain⟨l,h0,h1,h2,rfl⟩:=(tree_iff hf x).1 hx
 rcases walkN_fits l 0 (atN_root hf) with h | ⟨j,n,e,hn⟩
 ·omega
 unfold itm
 rw [e,Int.toNat_natCast]
 have hd:f.nodes.getD j nodeZ=n:=by rw [List.getD_eq_getElem?_getD,hn];rfl
 split
 ·simp
 ·rw [hd];exact content_len hf.1 hn
theorem poolT_tree{P:PoolD}{x:ItemD}(hx:x∈poolT P):∃ (b:BranchD),b∈P.branches∧x∈treeF b.fs:=by
 unfold poolT at hx
 split at hx
 ·obtain⟨i,b,h1,h2,_⟩:=poolF_mem.1 hx
  exact ⟨b,List.mem_of_getElem? h1,h2⟩
 ·cases hx
theorem get_mem{l:List ItemD}{p:List UInt8}:(treeGet l p).1∈l∨(treeGet l p).1=itemZ∨(treeGet l p).1=⟨[47],2,[],0⟩:=by
 unfold treeGet
 split
 ·exact .inr (.inr rfl)
 ·cases hf:l.find? (fun y=>tb (y.path=p)) with
  | none=>exact .inr (.inl rfl)
  | some y=>exact .inl (List.mem_of_find?_eq_some hf)
theorem stat_data(P:PoolD)(p:List UInt8):(statF P p).1.data.length≤80:=by
 unfold statF
 split
 ·split
  ·split
   ·dsimp only
    rcases get_mem (l:=poolT P) (p:=p) with h | h | h
    ·obtain⟨b,_,hx⟩:=poolT_tree h
     exact tree_data hx
    ·rw [h];simp [itemZ]
    ·rw [h];simp
   ·simp [itemZ]
  ·simp [itemZ]
 ·simp [itemZ]
theorem stat_z{P:PoolD}{p:List UInt8}(h:¬ (statF P p).2=0):(statF P p).1=itemZ:=by
 unfold statF at h ⊢
 split
 ·rename_i h1
  rw [if_pos h1] at h
  split
  ·rename_i h2
   rw [if_pos h2] at h
   split
   ·rename_i h3
    rw [if_pos h3] at h
    exact absurd rfl h
   ·rfl
  ·rfl
 ·rfl
noncomputable def forF(r:ItemD × Int)(k:Int):ItemD × Int:=open Classical in if r.2=0∧¬r.1.kind=k then (itemZ,4) else r
theorem i_lookFor(P:PoolD)(p:List UInt8)(k:Int)(good:Bool)(hn:P.branches.length≤4000000000)(hm:P.move.path.length≤4000000000)(hp:p.length≤4000000000):ilookFor P p k good=some (forF (if good=true then statF P p else (itemZ,10)) k):=by
 unfold ilookFor bnt forF
 rw [i_look P p good hn hm hp,bsome]
 generalize (if good=true then statF P p else (itemZ,10))=r
 simp only [PN]
 by_cases h1:r.2=0
 ·by_cases h2:r.1.kind=k
  ·rw [if_pos h1,if_neg (fun h=>h h2),bsome,if_neg (fun h=>h.2 h2)];rfl
  ·rw [if_pos h1,if_pos h2,bsome,if_pos ⟨h1,h2⟩];rfl
 ·rw [if_neg h1,bsome,if_neg (fun h=>h1 h.1)];rfl
/-- Data of an object of a kind. -/
noncomputable def dataF(P:PoolD)(p:List UInt8)(k:Int):List UInt8 × Int:=open Classical in if (statF P p).2=0 then (if (statF P p).1.kind=k then ((statF P p).1.data,0) else ([],4)) else ([],(statF P p).2)
theorem forF_data(P:PoolD)(p:List UInt8)(k:Int):((forF (statF P p) k).1.data,(forF (statF P p) k).2)=dataF P p k:=by
 unfold forF dataF
 by_cases h1:(statF P p).2=0
 ·by_cases h2:(statF P p).1.kind=k
  ·rw [if_neg (fun h=>h.2 h2),if_pos h1,if_pos h2,h1]
  ·rw [if_pos ⟨h1,h2⟩,if_pos h1,if_neg h2];rfl
 ·rw [if_neg (fun h=>h1 h.1),if_neg h1,stat_z h1];rfl
theorem i_PoolTarget(P:PoolD)(p:List UInt8)(hn:P.branches.length≤4000000000)(hm:P.move.path.length≤4000000000)(hp:p.length≤4000000000):iPoolTarget P p=some (dataF P p 3):=by
 unfold iPoolTarget
 rw [i_lookFor P p 3 true hn hm hp,bsome,if_pos rfl,←forF_data]
theorem s_PoolTarget(P:PoolD)(p:List UInt8)(hn:P.branches.length≤4000000000)(hm:P.move.path.length≤4000000000)(hp:p.length≤4000000000):sPoolTarget P p=some (dataF P p 3):=by
 unfold sPoolTarget dataF
 rw [s_PoolStat P p hn hm hp,bsome]
 simp only [PN]
 by_cases h1:(statF P p).2=0
 ·rw [if_neg (fun h=>h h1),if_pos h1]
  by_cases h2:(statF P p).1.kind=3
  ·rw [if_neg (fun h=>h h2),if_pos h2]
  ·rw [if_pos h2,if_neg h2]
 ·rw [if_pos h1,if_neg h1]
/-- A part of a file. -/
noncomputable def readF(P:PoolD)(p:List UInt8)(a n:Int):List UInt8 × Int:=open Classical in
 if (0≤a∧a≤1000)∧0≤n∧n≤1000 then (((dataF P p 1).1.drop a.toNat).take n.toNat,(dataF P p 1).2) else ([],10)
theorem dataF_len(P:PoolD)(p:List UInt8)(k:Int):(dataF P p k).1.length≤80:=by
 unfold dataF
 split
 ·split
  ·exact stat_data P p
  ·simp
 ·simp
theorem cut_eq{l:List UInt8}{a n:Nat}:(l.drop (min a l.length)).take (min (min a l.length+n) l.length-min a l.length)=(l.drop a).take n:=by
 by_cases h:a≤l.length
 ·rw [Nat.min_eq_left h]
  by_cases h2:a+n≤l.length
  ·rw [Nat.min_eq_left h2];congr 1;omega
  ·rw [Nat.min_eq_right (by omega),List.take_of_length_le (by simp),List.take_of_length_le (by simp;omega)]
 ·rw [show min a l.length=l.length by omega,List.drop_length,List.drop_of_length_le (show l.length≤a by omega)];simp
theorem i_PoolRead(P:PoolD)(p:List UInt8)(a n:Int)(hn:P.branches.length≤4000000000)(hm:P.move.path.length≤4000000000)(hp:p.length≤4000000000):iPoolRead P p a n=some (readF P p a n):=by
 have fin:∀ (q:ItemD × Int) (r:List UInt8 × Int),q.1.data.length≤80→((q.1.data=[]∧r=([],q.2))∨((0≤a∧a≤1000)∧(0≤n∧n≤1000)∧r=((q.1.data.drop a.toNat).take n.toNat,q.2))) →
   (ck (InS (imax 0 (imin a (slen q.1.data))) (imax (imax 0 (imin a (slen q.1.data))) (imin (slen q.1.data) (iop .add .i64 (imax 0 (imin a (slen q.1.data))) (imin n 1000)))) (slen q.1.data)) <|
   some ((ssub q.1.data (imax 0 (imin a (slen q.1.data))) (imax (imax 0 (imin a (slen q.1.data))) (imin (slen q.1.data) (iop .add .i64 (imax 0 (imin a (slen q.1.data))) (imin n 1000)))),q.2)))=some r:=by
  intro q r hl h
  rw [imax_eq,imax_eq,imin_eq,imin_eq,imin_eq,slen_eq,ssub_eq]
  rcases h with ⟨hd,rfl⟩ | ⟨ha,hb,rfl⟩
  ·rw [hd]
   rw [show max 0 (min a (([]:List UInt8).length:Int))=0 by simp;omega]
   have h5:max 0 (min (([]:List UInt8).length:Int) (iop .add .i64 0 (min n 1000)))=0:=by simp;omega
   rw [h5,ck_in (ins (by simp))]
   rfl
  ·have e1:max 0 (min a (q.1.data.length:Int))=((min a.toNat q.1.data.length:Nat):Int):=by omega
   rw [e1,iadd (by omega)]
   have e2:max ((min a.toNat q.1.data.length:Nat):Int) (min (q.1.data.length:Int) (((min a.toNat q.1.data.length:Nat):Int)+min n 1000))=((min (min a.toNat q.1.data.length+n.toNat) q.1.data.length:Nat):Int):=by omega
   rw [e2,ck_in (ins (by omega)),Int.toNat_natCast,Int.toNat_natCast,cut_eq]
 unfold iPoolRead bnu readF
 simp only [i_within,bsome,cond_tb,i_lookFor P p 1 _ hn hm hp]
 by_cases ha:0≤a∧a≤1000
 ·rw [if_pos ha,bsome]
  by_cases hb:0≤n∧n≤1000
  ·rw [tb_pos hb,if_pos rfl,if_pos ⟨ha,hb⟩,←forF_data]
   refine fin (forF (statF P p) 1) _ ?_ (.inr ⟨ha,hb,rfl⟩)
   have:=dataF_len P p 1
   rw [←forF_data] at this
   exact this
  ·rw [tb_neg hb,if_neg (by simp),if_neg (fun h=>hb h.2),show forF (itemZ,10) 1=(itemZ,10) by unfold forF;rw [if_neg (fun h=>by cases h.1)]]
   exact fin (itemZ,10) _ (by simp [itemZ]) (.inl ⟨rfl,rfl⟩)
 ·rw [if_neg ha,bsome,if_neg (by simp),if_neg (fun h=>ha h.1),show forF (itemZ,10) 1=(itemZ,10) by unfold forF;rw [if_neg (fun h=>by cases h.1)]]
  exact fin (itemZ,10) _ (by simp [itemZ]) (.inl ⟨rfl,rfl⟩)
theorem s_PoolRead(P:PoolD)(p:List UInt8)(a n:Int)(hn:P.branches.length≤4000000000)(hm:P.move.path.length≤4000000000)(hp:p.length≤4000000000):sPoolRead P p a n=some (readF P p a n):=by
 unfold sPoolRead readF dataF
 simp only [s_l1In,bsome,cond_tb,s_PoolStat P p hn hm hp,PN]
 by_cases ha:0≤a∧a≤1000
 ·rw [if_pos ha]
  by_cases hb:0≤n∧n≤1000
  ·rw [if_pos hb]
   by_cases h1:(statF P p).2=0
   ·rw [if_neg (fun h=>h h1)]
    by_cases h2:(statF P p).1.kind=1
    ·rw [if_neg (fun h=>h h2),if_pos ⟨ha,hb⟩,if_pos h1,if_pos h2]
     have hl:=stat_data P p
     generalize (statF P p).1.data=d at hl ⊢
     rw [s_l1Min,bsome,s_l1Min,bsome]
     have e1:min a (d.length:Int)=((min a.toNat d.length:Nat):Int):=by omega
     rw [e1,iadd (by omega)]
     have e2:min (((min a.toNat d.length:Nat):Int)+n) (d.length:Int)=((min (min a.toNat d.length+n.toNat) d.length:Nat):Int):=by omega
     rw [e2,ck_in (ins (by omega)),ssub_eq,Int.toNat_natCast,Int.toNat_natCast,cut_eq]
    ·rw [if_pos h2,if_pos ⟨ha,hb⟩,if_pos h1,if_neg h2];simp
   ·rw [if_pos h1,if_pos ⟨ha,hb⟩,if_neg h1];simp
  ·rw [if_neg hb,if_neg (fun h=>hb h.2)]
 ·rw [if_neg ha,if_neg (fun h=>ha h.1)]
/-- The paths of a kind. -/
noncomputable def findE(k:Int)(x:ItemD):List (List UInt8):=@ite _ (x.kind=k) (Classical.propDecidable _) [x.path] []
noncomputable def findF(P:PoolD)(k:Int):List (List UInt8):=(poolT P).flatMap (findE k)
theorem findE_len(k:Int)(x:ItemD):(findE k x).length≤1:=by unfold findE;split <;> simp
theorem find_part(k:Int)(l:List ItemD)(j:Nat):((l.take j).flatMap (findE k)).length≤l.length:=by
 have:=flatMap_len (findE k) 1 (l.take j) fun x _=>findE_len k x
 rw [List.length_take] at this;omega
theorem i_PoolFind(P:PoolD)(k:Int)(hn:P.branches.length≤4000000000)(hm:P.move.path.length≤4000000000):iPoolFind P k=some (findF P k):=by
 unfold iPoolFind bnu lpt
 rw [i_PoolTree P hn hm,bsome]
 simp only [PN]
 have hl:=poolT_len P
 refine bnd_flat (fun i l=>(l,(i:Int))) (findE k) (poolT P) [] _ rfl (fun i x hx=>?_) (by rw [if_neg (by omega)]) (by rw [List.nil_append];rfl)
 have:=len_lt hx
 rw [if_pos (by omega),gt_ok hx,bsome,ir_add1 (by omega),List.nil_append]
 have h2:=find_part k (poolT P) i
 unfold findE
 by_cases h:x.kind=k
 ·rw [if_pos h,if_pos h]
  unfold findE at h2
  dsimp only
  rw [ck_in (room (by omega) (by omega))]
 ·rw [if_neg h,if_neg h,List.append_nil]
theorem s_PoolFind(P:PoolD)(k:Int)(hn:P.branches.length≤4000000000)(hm:P.move.path.length≤4000000000):sPoolFind P k=some (findF P k):=by
 unfold sPoolFind bnu lpt
 rw [s_PoolTree P hn hm,bsome]
 simp only [PN]
 have hl:=poolT_len P
 refine bnd_flat (fun i l=>(l,(i:Int))) (findE k) (poolT P) [] _ rfl (fun i x hx=>?_) (by rw [if_neg (by omega)]) (by rw [List.nil_append];rfl)
 have:=len_lt hx
 rw [if_pos (by omega),gt_ok hx,bsome,ir_add1 (by omega),List.nil_append]
 have h2:=find_part k (poolT P) i
 unfold findE
 by_cases h:x.kind=k
 ·rw [if_pos h,if_pos h]
  unfold findE at h2
  dsimp only
  rw [ck_in (room (by omega) (by omega))]
 ·rw [if_neg h,if_neg h,List.append_nil]
end Go.Ar
end
section
namespace Go.Ar
open Go.Proofs
set_option linter.unusedVariables false
set_option linter.unusedSimpArgs false
set_option maxRecDepth 20000
/-! ### Right trees -/
noncomputable def lastF(p:List UInt8):List UInt8:=((namesOf p)[(namesOf p).length-1]?).getD []
theorem i_Names(p:List UInt8)(hp:p.length≤4000000000):iNames p=some (namesOf p):=by
 unfold iNames
 rw [i_readPath p hp];rfl
theorem last_of{p:List UInt8}{F:Option (List (List UInt8))}(hF:F=some (namesOf p)):bnd F (fun r2=>cond (icmp .eql (ln r2) 0) (some []) (bnd (gt r2 (iop .sub .i64 (ln r2) 1)) fun y4=>some y4))=some (lastF p):=by
 have hl:=names_len p
 rw [hF,bsome]
 simp only [PN]
 unfold lastF
 by_cases h:(namesOf p).length=0
 ·rw [if_pos (by omega),List.eq_nil_of_length_eq_zero h];rfl
 ·obtain⟨x,hx⟩:=get_some (l:=namesOf p) (i:=(namesOf p).length-1) (by omega)
  rw [if_neg (by omega),isub (by omega),show ((namesOf p).length:Int)-1=(((namesOf p).length-1:Nat):Int) by omega,gt_ok hx,bsome,hx];rfl
theorem i_Last(p:List UInt8)(hp:p.length≤4000000000):iLast p=some (lastF p):=by unfold iLast;exact last_of (i_Names p hp)
theorem s_Last(p:List UInt8)(hp:p.length≤4000000000):sLast p=some (lastF p):=by unfold sLast;exact last_of (s_Names p hp)
structure ItOk (x:ItemD):Prop where
 path:PathOk x.path
 root:¬x.path=[47]
 kind:1≤x.kind∧x.kind≤3
 dir:x.kind=2→x.data=[]∧x.time=0
 data:x.data.length≤80
 time:0≤x.time∧x.time≤100000
theorem i_itemOk(x:ItemD)(hp:x.path.length≤4000000000):iitemOk x=some (tb (ItOk x)):=by
 unfold iitemOk
 simp only [i_PathOk _ hp,iisKind,i_within,PN]
 refine if_tb (fun h1=>?_) (fun h1 h=>h1 h.path)
 refine if_tbn (fun h2 h=>h.root h2) (fun h2=>?_)
 refine if_tb (fun h3=>?_) (fun h3 h=>h3 h.kind)
 refine if_2 (fun h4=>?_) (fun h4=>?_)
 ·refine if_tb (fun h5=>?_) (fun h5 h=>h5 (h.dir h4).1)
  exact tb_some ⟨fun h6=>⟨h1,h2,h3,fun _=>⟨h5,h6⟩,by rw [h5];simp,by omega⟩,fun h=>(h.dir h4).2⟩
 ·refine if_tb (fun h5=>?_) (fun h5 h=>h5 (by have:=h.data;omega))
  exact tb_some ⟨fun h6=>⟨h1,h2,h3,fun h=>absurd h h4,by omega,h6⟩,fun h=>h.time⟩
/-- An item is right at its place. -/
structure ItAt (l:List ItemD) (i:Nat) (x:ItemD):Prop where
 it:ItOk x
 lt:∀y,0<i→l[i-1]?=some y→Lt y.path x.path
 up:(treeGet l (aboveF x.path)).2=true
 dir:(treeGet l (aboveF x.path)).1.kind=2
structure TreeOk (l:List ItemD):Prop where
 num:l.length≤40
 all:∀ (i:Nat) (x:ItemD),l[i]?=some x→ItAt l i x
def Fits(l:List ItemD):Prop:=l.length≤1000000000000∧∀x∈l,x.path.length≤4000000000∧x.data.length≤4000000000
theorem up_tail{l:List ItemD}{i:Nat}{x:ItemD}{β:Type}{G:Option (ItemD × Bool)}{a b:Option β}{P:β→Prop}(hG:G=some (treeGet l (aboveF x.path)))
  (hi:ItOk x) (hlt:∀y,0<i→l[i-1]?=some y→Lt y.path x.path) (h1:ItAt l i x→Wp P a) (h2:¬ItAt l i x→Wp P b) :
  Wp P (bnd G fun r=>cond r.2 (cond (icmp .neq r.1.kind 2) b a) b):=by
 rw [hG,bsome]
 cases h:(treeGet l (aboveF x.path)).2 with
 | false=>exact h2 fun k=>by rw [k.up] at h;cases h
 | true =>
  simp only [cond_true,PN]
  refine wp_if (fun hk=>h2 fun k=>hk k.dir) (fun hk=>h1 ⟨hi,hlt,h,Classical.not_not.1 hk⟩)
def TrQ(l:List ItemD)(r:Unit ⊕ Bool):Prop:=(r=.inl ()∧∀ (j:Nat) (x:ItemD),l[j]?=some x→ItAt l j x)∨(r=.inr false∧∃ (j:Nat) (x:ItemD),l[j]?=some x∧¬ItAt l j x)
def TrI(l:List ItemD)(s:Int):Prop := ∃i:Nat,s=(i:Int)∧i≤l.length∧∀ (j:Nat) (x:ItemD),j<i→l[j]?=some x→ItAt l j x
theorem ti_next{l:List ItemD}{i:Nat}{x:ItemD}(h:∀ (j:Nat) (x:ItemD),j<i→l[j]?=some x→ItAt l j x)(hx:l[i]?=some x)(k:ItAt l i x):TrI l ((i+1:Nat):Int) :=
 ⟨i+1,rfl,len_lt hx,fun j y hj hy=>by
  by_cases e:j=i
  ·subst e;rw [hx] at hy;cases hy;exact k
  ·exact h j y (by omega) hy⟩
theorem t_fin{l:List ItemD}(hl:¬40<(l.length:Int)):∀r,TrQ l r→Wp (fun r=>r=tb (TreeOk l)) (Sum.elim (fun _=>some true) some r):=by
 rintro r (⟨rfl,h⟩ | ⟨rfl,j,x,h1,h2⟩)
 ·exact wp_some (tb_pos ⟨by omega,h⟩).symm
 ·exact wp_some (tb_neg fun h=>h2 (h.all j x h1)).symm
theorem i_TreeOk{l:List ItemD}(hf:Fits l):iTreeOk ⟨l⟩=some (tb (TreeOk l)):=by
 refine wp_eq ?_
 unfold iTreeOk bnt lpt
 simp only [PN]
 refine wp_if (fun h=>wp_some (tb_neg fun k=>by have:=k.num;omega).symm) (fun hl=>?_)
 refine wp_loop (fun s:Int=>l.length-s.toNat) (TrI l) (TrQ l) ⟨0,rfl,by omega,fun j x h=>by omega⟩ ?_ (t_fin hl)
 rintro _ ⟨i,rfl,hi,hj⟩
 refine wp_if (fun hlt=>?_) (fun hge=>wp_out (.inl ⟨rfl,fun j y hy=>hj j y (by have:=len_lt hy;omega) hy⟩))
 obtain⟨x,hx⟩:=get_some (l:=l) (i:=i) (by omega)
 have hxf:=hf.2 x (List.mem_of_getElem? hx)
 have bad:¬ItAt l i x→Wp (LpO (fun s:Int=>l.length-s.toNat) (TrI l) (TrQ l) (i:Int)) (some (.inr (.inr false))):=fun h=>wp_out (.inr ⟨rfl,i,x,hx,h⟩)
 rw [gt_ok hx,bsome,i_itemOk x hxf.1,bsome,i_Above _ hxf.1]
 refine wp_bnd (fun r=>(∃a,r=.inl a∧ItOk x∧∀y,0<i→l[i-1]?=some y→Lt y.path x.path)∨(r=.inr (.inr (.inr false))∧¬ItAt l i x)) ?_ ?_
 ·simp only [PN]
  refine wp_if (fun h1=>?_) (fun h1=>wp_some (.inr ⟨rfl,fun k=>h1 k.it⟩))
  refine wp_if (fun h2=>?_) (fun h2=>wp_some (.inl ⟨_,rfl,h1,fun y h=>absurd h (by omega)⟩))
  obtain⟨y,hy⟩:=get_some (l:=l) (i:=i-1) (by omega)
  rw [isub (by omega),show (i:Int)-1=((i-1:Nat):Int) by omega,gt_ok hy,bsome,c_geqS,cond_tb]
  refine wp_if (fun h3=>wp_some (.inr ⟨rfl,fun k=>h3 (k.lt y (by omega) hy)⟩)) (fun h3=>wp_some (.inl ⟨_,rfl,h1,fun z _ hz=>by rw [hy] at hz;cases hz;exact Classical.not_not.1 h3⟩))
 ·rintro r (⟨a,rfl,h1,h2⟩ | ⟨rfl,h⟩)
  ·simp only [Sum.elim_inl,bsome]
   have:=up_tail (i_TreeGet l (aboveF x.path) hf.1) h1 h2 (a:=some (Sum.inl (iop .add .i64 (i:Int) 1))) (b:=some (.inr (.inr false))) (P:=LpO (fun s:Int=>l.length-s.toNat) (TrI l) (TrQ l) (i:Int)) (fun k=>by
    rw [ir_add1 (by omega)];exact wp_back (ti_next hj hx k) (by omega)) bad
   simpa only [PN] using this
  ·simp only [Sum.elim_inr]
   exact bad h
theorem s_TreeOk{l:List ItemD}(hf:Fits l):sTreeOk ⟨l⟩=some (tb (TreeOk l)):=by
 refine wp_eq ?_
 unfold sTreeOk bnt lpt
 simp only [PN]
 refine wp_if (fun h=>wp_some (tb_neg fun k=>by have:=k.num;omega).symm) (fun hl=>?_)
 refine wp_loop (fun s:Int=>l.length-s.toNat) (TrI l) (TrQ l) ⟨0,rfl,by omega,fun j x h=>by omega⟩ ?_ (t_fin hl)
 rintro _ ⟨i,rfl,hi,hj⟩
 refine wp_if (fun hlt=>?_) (fun hge=>wp_out (.inl ⟨rfl,fun j y hy=>hj j y (by have:=len_lt hy;omega) hy⟩))
 obtain⟨x,hx⟩:=get_some (l:=l) (i:=i) (by omega)
 have hxf:=hf.2 x (List.mem_of_getElem? hx)
 have bad:¬ItAt l i x→Wp (LpO (fun s:Int=>l.length-s.toNat) (TrI l) (TrQ l) (i:Int)) (some (.inr (.inr false))):=fun h=>wp_out (.inr ⟨rfl,i,x,hx,h⟩)
 rw [gt_ok hx,bsome,s_PathOk _ hxf.1,s_Above _ hxf.1]
 simp only [bsome,s_l1In,PN]
 refine wp_bnd (fun r=>(∃a,r=.inl a∧PathOk x.path∧¬x.path=[47]∧(1≤x.kind∧x.kind≤3)∧x.data.length≤80∧(0≤x.time∧x.time≤100000)∧∀y,0<i→l[i-1]?=some y→Lt y.path x.path)∨(r=.inr (.inr (.inr false))∧¬ItAt l i x)) ?_ ?_
 ·refine wp_if (fun h1=>?_) (fun h1=>wp_some (.inr ⟨rfl,fun k=>h1 k.it.path⟩))
  refine wp_if (fun h2=>wp_some (.inr ⟨rfl,fun k=>k.it.root h2⟩)) (fun h2=>?_)
  have rest:∀ (d1:Decidable (1≤x.kind∧x.kind≤3)) (d2:Decidable (80<(x.data.length:Int))) (d3:Decidable (0≤x.time∧x.time≤100000)) (b:Bool × Bool),(∀y,0<i→l[i-1]?=some y→Lt y.path x.path)→Wp (fun r:(Bool × Bool) ⊕ (Int ⊕ (Unit ⊕ Bool))=>(∃a,r=.inl a∧PathOk x.path∧¬x.path=[47]∧(1≤x.kind∧x.kind≤3)∧x.data.length≤80∧(0≤x.time∧x.time≤100000)∧∀y,0<i→l[i-1]?=some y→Lt y.path x.path)∨(r=.inr (.inr (.inr false))∧¬ItAt l i x))
    (@ite _ (1≤x.kind∧x.kind≤3) d1 (@ite _ (80<(x.data.length:Int)) d2 (some (.inr (.inr (.inr false)))) (@ite _ (0≤x.time∧x.time≤100000) d3 (some (.inl b)) (some (.inr (.inr (.inr false)))))) (some (.inr (.inr (.inr false))))):=fun d1 d2 d3 b hb=>by
   refine wp_if (fun h3=>?_) (fun h3=>wp_some (.inr ⟨rfl,fun k=>h3 k.it.kind⟩))
   refine wp_if (fun h4=>wp_some (.inr ⟨rfl,fun k=>by have:=k.it.data;omega⟩)) (fun h4=>?_)
   refine wp_if (fun h5=>wp_some (.inl ⟨_,rfl,h1,h2,h3,by omega,h5,hb⟩)) (fun h5=>wp_some (.inr ⟨rfl,fun k=>h5 k.it.time⟩))
  refine wp_if (fun h3=>?_) (fun h3=>rest _ _ _ _ fun y h=>absurd h (by omega))
  obtain⟨y,hy⟩:=get_some (l:=l) (i:=i-1) (by omega)
  rw [isub (by omega),show (i:Int)-1=((i-1:Nat):Int) by omega,gt_ok hy,bsome,c_leqS,cond_tb]
  exact wp_if (fun h4=>wp_some (.inr ⟨rfl,fun k=>h4 (k.lt y (by omega) hy)⟩)) (fun h4=>rest _ _ _ _ fun z _ hz=>by rw [hy] at hz;cases hz;exact Classical.not_not.1 h4)
 ·rintro r (⟨a,rfl,h1,h2,h3,h4,h5,h6⟩ | ⟨rfl,h⟩)
  ·simp only [Sum.elim_inl,bsome]
   refine wp_bnd (fun r=>(r=.inl ()∧ItOk x)∨(r=.inr (.inr (.inr false))∧¬ItAt l i x)) ?_ ?_
   ·refine wp_if (fun h7=>?_) (fun h7=>wp_some (.inl ⟨rfl,h1,h2,h3,fun h=>absurd h h7,h4,h5⟩))
    refine wp_if (fun h8=>wp_some (.inr ⟨rfl,fun k=>h8 (k.it.dir h7).1⟩)) (fun h8=>?_)
    exact wp_if (fun h9=>wp_some (.inr ⟨rfl,fun k=>h9 (k.it.dir h7).2⟩)) (fun h9=>wp_some (.inl ⟨rfl,h1,h2,h3,fun _=>⟨Classical.not_not.1 h8,Classical.not_not.1 h9⟩,h4,h5⟩))
   ·rintro r (⟨rfl,h7⟩ | ⟨rfl,h⟩)
    ·simp only [Sum.elim_inl]
     have:=up_tail (s_TreeGet l (aboveF x.path) hf.1) h7 h6 (a:=some (Sum.inl (iop .add .i64 (i:Int) 1))) (b:=some (.inr (.inr false))) (P:=LpO (fun s:Int=>l.length-s.toNat) (TrI l) (TrQ l) (i:Int)) (fun k=>by
      rw [ir_add1 (by omega)];exact wp_back (ti_next hj hx k) (by omega)) bad
     simpa only [PN] using this
    ·simp only [Sum.elim_inr]
     exact bad h
  ·simp only [Sum.elim_inr]
   exact bad h
/-! ### Names of a directory -/
noncomputable def nameE(p:List UInt8)(x:ItemD):List (List UInt8):=@ite _ (aboveF x.path=p) (Classical.propDecidable _) [lastF x.path] []
noncomputable def namesT(l:List ItemD)(p:List UInt8):List (List UInt8):=open Classical in
 if TreeOk l∧(treeGet l p).2=true∧(treeGet l p).1.kind=2 then l.flatMap (nameE p) else []
theorem nameE_len(p:List UInt8)(x:ItemD):(nameE p x).length≤1:=by unfold nameE;split <;> simp
theorem name_part(p:List UInt8)(l:List ItemD)(j:Nat):((l.take j).flatMap (nameE p)).length≤l.length:=by
 have:=flatMap_len (nameE p) 1 (l.take j) fun x _=>nameE_len p x
 rw [List.length_take] at this;omega
theorem i_TreeNames{l:List ItemD}(hf:Fits l)(p:List UInt8):iTreeNames ⟨l⟩ p=some (namesT l p):=by
 unfold iTreeNames bnu lpt namesT
 rw [i_TreeGet l p hf.1,bsome,i_TreeOk hf,bsome]
 cases h1:(treeGet l p).2 with
 | false=>rw [if_neg (fun h=>by cases h.2.1)];rfl
 | true =>
  simp only [cond_true,PN]
  refine if_2 (fun h2=>by rw [if_neg (fun h=>h2 h.2.2)]) (fun h2=>?_)
  refine if_2 (fun h3=>?_) (fun h3=>by rw [if_neg (fun h=>h3 h.1)])
  rw [if_pos ⟨h3,rfl,Classical.not_not.1 h2⟩]
  have h4:=h3.num
  refine bnd_flat (fun i l=>(l,(i:Int))) (nameE p) l [] _ rfl (fun i x hx=>?_) (by rw [if_neg (by omega)]) (by rw [List.nil_append])
  have:=len_lt hx
  have hxf:=hf.2 x (List.mem_of_getElem? hx)
  rw [if_pos (by omega),gt_ok hx,bsome,ir_add1 (by omega),List.nil_append,i_Above _ hxf.1,bsome,i_Last _ hxf.1,bsome]
  have h5:=name_part p l i
  unfold nameE
  by_cases h:aboveF x.path=p
  ·rw [if_pos h,if_pos h]
   unfold nameE at h5
   dsimp only
   rw [ck_in (room (by omega) (by omega))]
  ·rw [if_neg h,if_neg h,List.append_nil]
theorem s_TreeNames{l:List ItemD}(hf:Fits l)(p:List UInt8):sTreeNames ⟨l⟩ p=some (namesT l p):=by
 unfold sTreeNames bnu lpt namesT
 rw [s_TreeGet l p hf.1,bsome,s_TreeOk hf,bsome]
 simp only [PN]
 refine if_2 (fun h3=>?_) (fun h3=>by rw [if_neg (fun h=>h3 h.1)])
 cases h1:(treeGet l p).2 with
 | false=>rw [cond_false,if_neg (fun h=>by cases h.2.1)]
 | true =>
  rw [cond_true]
  refine if_2 (fun h2=>by rw [if_neg (fun h=>h2 h.2.2)]) (fun h2=>?_)
  rw [if_pos ⟨h3,rfl,Classical.not_not.1 h2⟩]
  have h4:=h3.num
  refine bnd_flat (fun i l=>(l,(i:Int))) (nameE p) l [] _ rfl (fun i x hx=>?_) (by rw [if_neg (by omega)]) (by rw [List.nil_append])
  have:=len_lt hx
  have hxf:=hf.2 x (List.mem_of_getElem? hx)
  rw [if_pos (by omega),gt_ok hx,bsome,ir_add1 (by omega),List.nil_append,s_Above _ hxf.1,bsome,s_Last _ hxf.1,bsome]
  have h5:=name_part p l i
  unfold nameE
  by_cases h:aboveF x.path=p
  ·rw [if_pos h,if_pos h]
   unfold nameE at h5
   dsimp only
   rw [ck_in (room (by omega) (by omega))]
  ·rw [if_neg h,if_neg h,List.append_nil]
/-! ### A directory's names in a pool -/
theorem poolT_fits(P:PoolD):Fits (poolT P) :=
 ⟨by have:=poolT_len P;omega,fun x hx=>by
  obtain⟨b,_,h⟩:=poolT_tree hx
  have:=tree_p28 h;have:=tree_data h;omega⟩
noncomputable def listF(P:PoolD)(p:List UInt8):List (List UInt8) × Int:=open Classical in if (statF P p).2=0 then (if (statF P p).1.kind=2 then (namesT (poolT P) p,0) else ([],4)) else ([],(statF P p).2)
theorem i_PoolList(P:PoolD)(p:List UInt8)(hn:P.branches.length≤4000000000)(hm:P.move.path.length≤4000000000)(hp:p.length≤4000000000):iPoolList P p=some (listF P p):=by
 unfold iPoolList listF
 rw [i_lookFor P p 2 true hn hm hp,bsome,if_pos rfl,i_PoolTree P hn hm,bsome,i_TreeNames (poolT_fits P),bsome]
 simp only [PN]
 by_cases h1:(statF P p).2=0
 ·by_cases h2:(statF P p).1.kind=2
  ·rw [show forF (statF P p) 2=statF P p by unfold forF;rw [if_neg (fun h=>h.2 h2)],if_neg (fun h=>h h1),if_pos h1,if_pos h2]
  ·rw [show forF (statF P p) 2=(itemZ,4) by unfold forF;rw [if_pos ⟨h1,h2⟩],if_pos (by decide),if_pos h1,if_neg h2]
 ·rw [show forF (statF P p) 2=statF P p by unfold forF;rw [if_neg (fun h=>h1 h.1)],if_pos h1,if_neg h1]
theorem s_PoolList(P:PoolD)(p:List UInt8)(hn:P.branches.length≤4000000000)(hm:P.move.path.length≤4000000000)(hp:p.length≤4000000000):sPoolList P p=some (listF P p):=by
 unfold sPoolList listF
 rw [s_PoolStat P p hn hm hp,bsome]
 simp only [PN]
 by_cases h1:(statF P p).2=0
 ·rw [if_neg (fun h=>h h1),if_pos h1]
  by_cases h2:(statF P p).1.kind=2
  ·have hok:PoolOk P:=by
    apply Classical.byContradiction
    intro hno
    unfold statF at h1
    rw [if_neg hno] at h1
    cases h1
   have e:poolT P=poolF P:=by unfold poolT;rw [if_pos hok]
   rw [if_neg (fun h=>h h2),if_pos h2,s_l12Tree P hok,bsome,←e,s_TreeNames (poolT_fits P),bsome]
  ·rw [if_pos h2,if_neg h2]
 ·rw [if_pos h1,if_neg h1]
end Go.Ar
end
section
namespace Go.Ar
open Go.Proofs
set_option linter.unusedVariables false
set_option linter.unusedSimpArgs false
set_option maxRecDepth 20000
/-! ### Paths and their names -/
theorem parts_back(c:UInt8):∀ (s h:List UInt8) (r:List (List UInt8)),parts c s=h::r→s=h++r.flatMap fun x=>c::x
 | [],h,r,e=>by rw [parts] at e;cases e;rfl
 | x::t,h,r,e=>by
  rw [parts] at e
  split at e
  ·rename_i hx
   injection e with e1 e2
   subst e1 hx
   have hp:=parts_pos x t
   cases hq:parts x t with
   | nil=>rw [hq] at hp;simp at hp
   | cons a b =>
    rw [hq] at e2;subst e2
    rw [List.flatMap_cons,List.nil_append,List.cons_append,←parts_back x t a b hq]
  ·split at e
   ·rename_i a b hq
    injection e with e1 e2
    subst e1 e2
    rw [List.cons_append,←parts_back c t a b hq]
   ·rename_i hq
    have hp:=parts_pos c t
    rw [hq] at hp;simp at hp
theorem names_ok{p:List UInt8}(h:PathOk p):NamesOk (namesOf p)∧pathOf (namesOf p)=p:=by
 unfold namesOf
 by_cases h0:p=[47]
 ·rw [if_pos h0];exact ⟨⟨by simp,by simp⟩,by rw [h0];rfl⟩
 rw [if_neg h0,if_pos h]
 rcases h with h | ⟨h1,h2,h3,h4⟩
 ·exact absurd h h0
 cases hq:parts 47 p with
 | nil=>rw [hq] at h1;simp at h1
 | cons a r =>
  rw [hq] at h1 h2 h3 h4
  cases h3
  rw [List.drop_one,List.tail_cons]
  refine ⟨⟨by simp at h2;omega,fun x hx=>?_⟩,?_⟩
  ·obtain⟨i,hi⟩:=List.mem_iff_getElem?.1 hx
   exact h4 i x (by rw [List.getElem?_cons_succ];exact hi)
  ·have:=parts_back 47 p [] r hq
   rw [List.nil_append] at this
   have hr:¬r=[]:=by rintro rfl;simp at h1
   unfold pathOf
   rw [if_neg hr,←this]
theorem names_inj{p q:List UInt8}(hp:PathOk p)(hq:PathOk q)(h:namesOf p=namesOf q):p=q:=by rw [←(names_ok hp).2,←(names_ok hq).2,h]
theorem names_nil{p:List UInt8}(h:PathOk p):namesOf p=[]↔p=[47]:=by
 constructor
 ·intro e;rw [←(names_ok h).2,e];rfl
 ·rintro rfl;unfold namesOf;rw [if_pos rfl]
theorem flat_app(l m:List (List UInt8)):(l++m).flatMap (fun x:List UInt8=>47::x)=l.flatMap (fun x=>47::x)++m.flatMap fun x=>47::x:=List.flatMap_append
/-- p lies within q. -/
def WithinP(p q:List UInt8):Prop:=PathOk p∧PathOk q∧namesOf q <+: namesOf p
theorem flat_pre{a b:List (List UInt8)}(hb:∀x∈b,NameOk x)(ha:∀x∈a,NameOk x){t:List UInt8}(h:a.flatMap (fun x:List UInt8=>47::x)++47::t=b.flatMap fun x=>47::x):a <+: b:=by
 have h1:=congrArg (parts 47) h
 cases b with
 | nil=>simp at h
 | cons y b =>
  rw [show ((y::b).flatMap fun x:List UInt8=>47::x)=pathOf (y::b) by rw [pathOf,if_neg (by simp)],parts_path (by simp),parts_names hb,parts_app] at h1
  cases a with
  | nil=>exact List.nil_prefix
  | cons x a =>
   rw [show ((x::a).flatMap fun x:List UInt8=>47::x)=pathOf (x::a) by rw [pathOf,if_neg (by simp)],parts_path (by simp),parts_names ha,List.cons_append] at h1
   injection h1 with _ h1
   exact ⟨_,h1⟩
theorem within_pre{p q:List UInt8}(hp:PathOk p)(hq:PathOk q):namesOf q <+: namesOf p↔p=q∨q=[47]∨q++[47] <+: p:=by
 obtain⟨np,ep⟩:=names_ok hp
 obtain⟨nq,eq⟩:=names_ok hq
 constructor
 ·rintro⟨r,hr⟩
  by_cases h0:namesOf q=[]
  ·exact .inr (.inl ((names_nil hq).1 h0))
  cases r with
  | nil=>rw [List.append_nil] at hr;exact .inl (names_inj hp hq hr.symm)
  | cons x r =>
   refine .inr (.inr ?_)
   rw [←ep,←hr,←eq,(names_path nq).2]
   unfold pathOf
   rw [if_neg h0,if_neg (by simp),flat_app,List.flatMap_cons]
   exact ⟨x++r.flatMap fun x=>47::x,by simp⟩
 ·rintro(rfl | h | ⟨t,h⟩)
  ·exact List.prefix_rfl
  ·rw [(names_nil hq).2 h];exact List.nil_prefix
  ·by_cases h0:namesOf q=[]
   ·rw [h0];exact List.nil_prefix
   by_cases h1:namesOf p=[]
   ·rw [(names_nil hp).1 h1] at h
    have hl:=congrArg List.length h
    have:1≤q.length:=by
     rw [←eq];unfold pathOf;rw [if_neg h0]
     cases hn:namesOf q with
     | nil=>exact absurd hn h0
     | cons a b=>simp [List.flatMap_cons]
    simp only [List.length_append,List.length_cons,List.length_nil] at hl
    omega
   rw [←ep,←eq] at h
   unfold pathOf at h
   rw [if_neg h0,if_neg h1] at h
   exact flat_pre np.2 nq.2 (t:=t) (by rw [←h];simp)
theorem g_Prefix(p q:List UInt8)(hp:p.length≤4000000000)(hq:q.length≤4000000001):gstrings_HasPrefix p q=some (tb (q <+: p)):=by
 unfold gstrings_HasPrefix ginternal_stringslite_HasPrefix
 simp only [PN]
 by_cases h:(q.length:Int)≤(p.length:Int)
 ·rw [if_pos h,ck_in (ins (by omega)),ssub_eq,bsome]
  refine tb_some ?_
  rw [List.prefix_iff_eq_take]
  simp only [Int.toNat_zero,List.drop_zero,Int.toNat_natCast,Nat.sub_zero]
  exact ⟨fun e=>e.symm,fun e=>e.symm⟩
 ·rw [if_neg h,bsome,tb_neg fun hh=>h (by have:=hh.length_le;omega)]
theorem g_Trim(p q:List UInt8)(hp:p.length≤4000000000)(hq:q.length≤4000000001):gstrings_TrimPrefix p q=some (@ite _ (q <+: p) (Classical.propDecidable _) (p.drop q.length) p):=by
 have h1:=g_Prefix p q hp hq
 unfold gstrings_HasPrefix at h1
 have h2:ginternal_stringslite_HasPrefix p q=some (tb (q <+: p)):=by
  cases hx:ginternal_stringslite_HasPrefix p q with
  | none=>rw [hx] at h1;cases h1
  | some b=>rw [hx] at h1;exact h1
 unfold gstrings_TrimPrefix ginternal_stringslite_TrimPrefix
 rw [h2]
 simp only [PN]
 by_cases h:q <+: p
 ·have:=h.length_le
  rw [if_pos h,if_pos h,ck_in (ins (by omega)),bsome,ssub_eq,Int.toNat_natCast,Int.toNat_natCast,List.take_of_length_le (by simp)]
 ·rw [if_neg h,if_neg h,bsome]
theorem i_Within(p q:List UInt8)(hp:p.length≤4000000000)(hq:q.length≤4000000000):iWithin p q=some (tb (WithinP p q)):=by
 unfold iWithin
 simp only [i_PathOk _ hp,i_PathOk _ hq,PN]
 refine if_tb (fun h1=>?_) (fun h1 h=>h1 h.1)
 refine if_tb (fun h2=>?_) (fun h2 h=>h2 h.2.1)
 have hw:WithinP p q↔(p=q∨q=[47]∨q++[47] <+: p):=⟨fun h=>(within_pre h1 h2).1 h.2.2,fun h=>⟨h1,h2,(within_pre h1 h2).2 h⟩⟩
 by_cases h3:p=q
 ·rw [if_pos h3,tb_pos (hw.2 (.inl h3))]
 rw [if_neg h3]
 by_cases h4:q=[47]
 ·rw [if_pos h4,tb_pos (hw.2 (.inr (.inl h4)))]
 rw [if_neg h4,ck_in (room (by simp;omega) (by simp;omega)),g_Prefix _ _ hp (by simp;omega),bsome]
 exact tb_some ⟨fun h=>hw.2 (.inr (.inr h)),fun h=>((hw.1 h).resolve_left h3).resolve_left h4⟩
theorem s_Texts{a b:List (List UInt8)}(ha:a.length≤1000000):sl1Texts a b=some (tb (a=b)):=by
 unfold sl1Texts bnt lpt
 simp only [PN]
 refine if_tbn (fun h e=>h (by rw [e])) (fun h=>?_)
 have hl:a.length=b.length:=by omega
 refine bnd_first (fun i:Nat=>(i:Int)) a (fun i x=>b[i]?=some x) (fun _ _=>.inr false) (.inl ()) rfl (fun i x hx _ h=>?_) (fun i x hx _ h=>?_) (fun h=>?_) (fun h=>?_) (fun k x hx hn hj=>?_)
 ·have:=len_lt hx
  rw [if_pos (by omega),gt_ok hx,bsome,gt_ok h,bsome,if_neg (fun h=>h rfl),ir_add1 (by omega)]
 ·have:=len_lt hx
  obtain⟨y,hy⟩:=get_some (l:=b) (i:=i) (by omega)
  rw [if_pos (by omega),gt_ok hx,bsome,gt_ok hy,bsome,if_pos (fun e=>h (by rw [hy,e]))]
 ·rw [if_neg (by omega)]
 ·refine some_tb (iff_of_true rfl (List.ext_getElem? fun i=>?_))
  cases hx:a[i]? with
  | some x=>exact (h i x hx).symm
  | none=>rw [List.getElem?_eq_none_iff] at hx;exact (List.getElem?_eq_none (by omega)).symm
 ·exact some_tb (iff_of_false (by simp) fun e=>hn (by rw [←e];exact hx))
theorem s_Within(p q:List UInt8)(hp:p.length≤4000000000)(hq:q.length≤4000000000):sWithin p q=some (tb (WithinP p q)):=by
 have l1:=names_len p
 have l2:=names_len q
 unfold sWithin
 simp only [s_Names _ hp,s_Names _ hq,s_PathOk _ hp,s_PathOk _ hq,PN]
 refine if_tb (fun h1=>?_) (fun h1 h=>h1 h.1)
 refine if_tb (fun h2=>?_) (fun h2 h=>h2 h.2.1)
 refine if_tb (fun h3=>?_) (fun h3 h=>h3 (by have:=h.2.2.length_le;omega))
 rw [ck_in (ins (by omega)),s_Texts (by rw [sb_to];simp;omega),bsome,sb_to]
 refine tb_some ?_
 rw [←List.prefix_iff_eq_take (l₁:=namesOf q) |>.trans ⟨fun e=>e.symm,fun e=>e.symm⟩]
 exact ⟨fun h=>⟨h1,h2,h⟩,fun h=>h.2.2⟩
/-! ### Data written and cut -/
theorem rep_zeros(n:Nat):Lib.repeatL [0] n=List.replicate n 0:=by
 have:=Lib.repeatL_replicate 0 1 n
 simpa using this
def padZ(s:List UInt8)(n:Nat):List UInt8:=s++List.replicate (n-s.length) 0
noncomputable def cutD(s:List UInt8)(n:Int):List UInt8:=open Classical in if 0≤n∧n≤100000 then (padZ s n.toNat).take n.toNat else s
noncomputable def wrtD(s:List UInt8)(a:Int)(d:List UInt8):List UInt8:=open Classical in if 0≤a∧a≤100000 then (padZ s a.toNat).take a.toNat++d++(padZ s a.toNat).drop (a.toNat+d.length) else s
theorem padZ_no{s:List UInt8}{n:Nat}(h:n≤s.length):padZ s n=s:=by unfold padZ;rw [show n-s.length=0 by omega];simp
theorem padZ_len(s:List UInt8)(n:Nat):(padZ s n).length=max s.length n:=by unfold padZ;simp;omega
theorem g_zeros(n:Nat)(hn:n≤100000):gstrings_Repeat [0] (n:Int)=some (List.replicate n 0):=by
 unfold gstrings_Repeat
 rw [if_pos ⟨by omega,by omega,by simp;omega⟩,Int.toNat_natCast,rep_zeros]
theorem i_Cut(s:List UInt8)(n:Int)(hs:s.length≤4000000000):iCut s n=some (cutD s n):=by
 unfold iCut cutD
 simp only [i_within,PN]
 refine if_2 (fun h=>?_) (fun h=>by rw [if_neg h])
 rw [if_pos h]
 refine if_2 (fun h2=>?_) (fun h2=>?_)
 ·rw [isub (by omega),show n-(s.length:Int)=((n.toNat-s.length:Nat):Int) by omega,g_zeros _ (by omega),bsome,ck_in (room (by simp;omega) (by simp;omega))]
  rw [List.take_of_length_le (by rw [padZ_len];omega)];rfl
 ·rw [ck_in (ins (by omega)),ssub_eq,padZ_no (by omega)];simp
theorem s_Cut(s:List UInt8)(n:Int)(hs:s.length≤4000000000):sCut s n=some (cutD s n):=by
 unfold sCut cutD
 simp only [s_l1In,PN]
 refine if_2 (fun h=>?_) (fun h=>by rw [if_neg h])
 rw [if_pos h]
 refine if_2 (fun h2=>?_) (fun h2=>?_)
 ·rw [ck_in (ins (by omega)),ssub_eq,padZ_no (by omega)];simp
 ·rw [isub (by omega),show n-(s.length:Int)=((n.toNat-s.length:Nat):Int) by omega,ck_in (ins (by omega)),ck_in (room (by omega) (by omega)),rp_eq,ck_in (room (by simp;omega) (by simp;omega))]
  rw [List.take_of_length_le (by rw [padZ_len];omega)];rfl
theorem i_Written(s:List UInt8)(a:Int)(d:List UInt8)(hs:s.length≤4000000000)(hd:d.length≤4000000000):iWritten s a d=some (wrtD s a d):=by
 unfold iWritten wrtD bnu
 simp only [i_within,PN]
 refine if_2 (fun h=>?_) (fun h=>by rw [if_neg h])
 rw [if_pos h]
 have h1:(@ite _ ((s.length:Int)<a) (Classical.propDecidable _) (bnd (gstrings_Repeat [0] (iop .sub .i64 a (s.length:Int))) fun r12=>ck (Room ((s.length:Int)+(r12.length:Int)) 1) (some (s++r12))) (some s))=some (padZ s a.toNat):=by
  refine if_2 (fun h2=>?_) (fun h2=>by rw [padZ_no (by omega)])
  rw [isub (by omega),show a-(s.length:Int)=((a.toNat-s.length:Nat):Int) by omega,g_zeros _ (by omega),bsome,ck_in (room (by simp;omega) (by simp;omega))];rfl
 have h2:bnd (@ite _ ((s.length:Int)<a) (Classical.propDecidable _) (bnd (gstrings_Repeat [0] (iop .sub .i64 a (s.length:Int))) fun r12=>ck (Room ((s.length:Int)+(r12.length:Int)) 1) (some (s++r12))) (some s)) (fun x=>some x)=some (padZ s a.toNat):=by rw [h1];rfl
 simp only [h1,bsome]
 have hl:=padZ_len s a.toNat
 generalize padZ s a.toNat=p at hl ⊢
 simp only [imin_eq,ssub_eq]
 rw [ck_in (ins (by omega)),iadd (by omega)]
 have e1:((p.drop (0:Int).toNat).take (a.toNat-(0:Int).toNat))=p.take a.toNat:=by simp
 rw [e1,ck_in (room (by simp;omega) (by simp;omega)),ck_in (ins (by omega))]
 have e2:((p.drop (min (p.length:Int) (a+(d.length:Int))).toNat).take ((p.length:Int).toNat-(min (p.length:Int) (a+(d.length:Int))).toNat))=p.drop (a.toNat+d.length):=by
  rw [List.take_of_length_le (by simp)]
  by_cases hc:a.toNat+d.length≤p.length
  ·congr 1;omega
  ·rw [List.drop_of_length_le (by omega),List.drop_of_length_le (by omega)]
 rw [e2,ck_in (room (by simp;omega) (by simp;omega))]
theorem s_Written(s:List UInt8)(a:Int)(d:List UInt8)(hs:s.length≤4000000000)(hd:d.length≤4000000000):sWritten s a d=some (wrtD s a d):=by
 unfold sWritten wrtD bnu
 simp only [s_l1In,PN]
 refine if_2 (fun h=>?_) (fun h=>by rw [if_neg h])
 rw [if_pos h]
 by_cases h2:a<(s.length:Int)
 ·rw [if_pos h2,ck_in (ins (by omega)),iadd (by omega)]
  rw [padZ_no (by omega)]
  by_cases h3:a+(d.length:Int)<(s.length:Int)
  ·rw [if_pos h3,ck_in (ins (by omega)),bsome]
   dsimp only
   simp only [ssub_eq]
   have e1:((s.drop (0:Int).toNat).take (a.toNat-(0:Int).toNat))=s.take a.toNat:=by simp
   rw [e1,ck_in (room (by simp;omega) (by simp;omega)),ck_in (room (by simp;omega) (by simp;omega))]
   rw [List.take_of_length_le (i:=(s.length:Int).toNat-_) (by simp),show (a+(d.length:Int)).toNat=a.toNat+d.length by omega]
  ·rw [if_neg h3,bsome]
   dsimp only
   simp only [ssub_eq]
   have e1:((s.drop (0:Int).toNat).take (a.toNat-(0:Int).toNat))=s.take a.toNat:=by simp
   rw [e1,ck_in (room (by simp;omega) (by simp;omega)),ck_in (room (by simp;omega) (by simp;omega)),List.drop_of_length_le (show s.length≤a.toNat+d.length by omega)]
 ·rw [if_neg h2,isub (by omega),show a-(s.length:Int)=((a.toNat-s.length:Nat):Int) by omega,ck_in (ins (by omega)),ck_in (room (by omega) (by omega)),rp_eq,Int.toNat_natCast,ck_in (room (by simp;omega) (by simp;omega)),bsome]
  dsimp only
  have hl:=padZ_len s a.toNat
  rw [show s++List.replicate (a.toNat-s.length) 0=padZ s a.toNat from rfl,ck_in (room (by omega) (by omega)),ck_in (room (by simp;omega) (by simp;omega)),List.take_of_length_le (by omega),List.drop_of_length_le (by omega)]
end Go.Ar
end
section
namespace Go.Ar
open Go.Proofs
set_option linter.unusedVariables false
set_option linter.unusedSimpArgs false
set_option maxRecDepth 20000
/-! ### What is asked of a tree -/
def Srt(l:List ItemD):Prop:=l.Pairwise LtP
theorem ItAt.lt_prev{l:List ItemD}(h:TreeOk l):∀ (j i:Nat) (x y:ItemD),i<j→l[i]?=some x→l[j]?=some y→Lt x.path y.path
 | 0,i,_,_,hi,_,_=>by omega
 | j+1,i,x,y,hi,hx,hy=>by
  obtain⟨p,hp⟩:=get_some (l:=l) (i:=j) (by have:=len_lt hy;omega)
  have h1:=(h.all (j+1) y hy).lt p (by omega) hp
  by_cases e:i=j
  ·subst e;rw [hp] at hx;cases hx;exact h1
  ·exact bl_trans _ _ _ (ItAt.lt_prev h j i x p (by omega) hx hp) h1
theorem TreeOk.srt{l:List ItemD}(h:TreeOk l):Srt l:=by
 unfold Srt
 rw [List.pairwise_iff_getElem]
 intro i j hi hj hij
 exact ItAt.lt_prev h j i _ _ hij (List.getElem?_eq_getElem hi) (List.getElem?_eq_getElem hj)
theorem Srt.ne{l:List ItemD}(h:Srt l):l.Pairwise NeP:=h.imp lt_ne
theorem puts_id{l:List ItemD}(h:Srt l):l.foldl putI []=l:=by
 obtain⟨k1,k2⟩:=puts_sorted l [] List.Pairwise.nil (by simpa using h.ne)
 exact List.Perm.eq_of_pairwise (le:=LtP) (fun a b _ _ q1 q2=>absurd (q1.trans q2) LtP.irr) k1 h (by simpa using k2)
theorem Srt.uniq{l:List ItemD}(h:Srt l){i j:Nat}{x y:ItemD}(hi:l[i]?=some x)(hj:l[j]?=some y)(e:x.path=y.path):i=j:=by
 have hp:=List.pairwise_iff_getElem.1 h.ne
 have li:=len_lt hi
 have lj:=len_lt hj
 have ei:l[i]=x:=by rw [List.getElem?_eq_getElem li] at hi;exact Option.some.inj hi
 have ej:l[j]=y:=by rw [List.getElem?_eq_getElem lj] at hj;exact Option.some.inj hj
 rcases Nat.lt_trichotomy i j with h1 | h1 | h1
 ·exact absurd (by rw [ei,ej];exact e) (hp i j li lj h1)
 ·exact h1
 ·exact absurd (by rw [ei,ej];exact e.symm) (hp j i lj li h1)
theorem sort_snoc{l:List ItemD}{x:ItemD}(h:Srt l)(hx:¬x.path∈l.map (·.path)):sortI (l++[x])=putI l x:=by
 have hn:(l++[x]).Pairwise NeP:=by
  rw [List.pairwise_append]
  refine ⟨h.ne,List.pairwise_singleton _ _,fun y hy z hz e=>?_⟩
  rw [List.mem_singleton.1 hz] at e
  exact hx (List.mem_map.2 ⟨y,hy,e⟩)
 rw [sort_puts hn,puts_snoc,puts_id h]
theorem set_put:∀ {l:List ItemD} {x y:ItemD} {i:Nat},Srt l→l[i]?=some y→y.path=x.path→putI l x=l.set i x
 | [],_,_,_,_,h,_=>by simp at h
 | z::t,x,y,0,hs,h,e=>by
  have h:z=y:=by simpa using h
  subst h
  have hs:=List.pairwise_cons.1 hs
  have hb:Op.bytesLess x.path z.path=false:=by rw [e];exact bl_irrefl _
  unfold putI
  rw [putL_f,hb,if_neg (by simp),if_pos e.symm,List.nil_append,List.set_cons_zero]
  cases t with
  | nil=>rfl
  | cons w t =>
   have hw:=hs.1 w (by simp)
   unfold LtP at hw
   rw [e] at hw
   have hne:∀v∈t,NeP x v:=fun v hv e2=>by
    have:=hs.1 v (by simp [hv])
    exact lt_ne this (e.trans e2)
   rw [putL_f,hw,if_pos rfl,if_neg (fun e2=>lt_ne (hs.1 w (by simp)) (e.trans e2)),putL_done x t hne]
   rfl
 | z::t,x,y,i+1,hs,h,e=>by
  have hs:=List.pairwise_cons.1 hs
  have h:t[i]?=some y:=by simpa using h
  have hz:=hs.1 y (List.mem_of_getElem? h)
  have hb:Op.bytesLess x.path z.path=false:=by
   cases hc:Op.bytesLess x.path z.path with
   | false=>rfl
   | true =>
    unfold LtP at hz
    rw [e] at hz
    have:=bl_trans _ _ _ hz hc
    rw [bl_irrefl] at this;cases this
  have ih:=set_put (l:=t) hs.2 h e
  unfold putI at ih ⊢
  rw [putL_f,hb,if_neg (by simp),if_neg (fun e2=>lt_ne hz (e2.symm.trans e.symm)),ih,List.set_cons_succ]
  rfl
theorem drop_filter{l:List ItemD}{x:ItemD}{i:Nat}(hs:Srt l)(h:l[i]?=some x):l.take i++l.drop (i+1)=l.filter fun y=>tb (¬y.path=x.path):=by
 have hl:=take_drop1 h
 have hp:=hs.ne
 rw [hl,List.pairwise_append,List.pairwise_cons] at hp
 obtain⟨_,⟨h2,_⟩,h3⟩:=hp
 conv=>rhs;rw [hl]
 have e1:(l.take i).filter (fun y=>tb (¬y.path=x.path))=l.take i:=List.filter_eq_self.2 fun y hy=>tb_pos (h3 y hy x (by simp))
 have e2:(l.drop (i+1)).filter (fun y=>tb (¬y.path=x.path))=l.drop (i+1):=List.filter_eq_self.2 fun y hy=>tb_pos fun e=>h2 y hy e.symm
 rw [List.filter_append,List.filter_cons,tb_neg (fun h=>h rfl),e1,e2]
 rfl
theorem i_cloneTree(l:List ItemD)(hl:l.length≤1000000000000):icloneTree ⟨l⟩=some ⟨l⟩:=by
 have hr:Room (plus 0 (ln l)) 48:=by rw [plus_eq,ln_eq];exact room48 (by omega) (by omega)
 have h:gslices_Clone_Item l=some l:=by
  unfold gslices_Clone_Item nq
  rw [ck_in hr]
  by_cases e:l=[]
  ·subst e;rw [if_pos rfl];exact if_pos rfl
  ·rw [if_neg e];rfl
 unfold icloneTree
 rw [h];rfl
theorem s_l14Copy(l:List ItemD)(hl:l.length≤1000000000000):sl14Copy ⟨l⟩=some ⟨l⟩:=by
 unfold sl14Copy
 rw [ck_in (by rw [plus_eq,ln_eq];exact room48 (by dsimp only;omega) (by dsimp only;omega))]
theorem find_at'{l:List ItemD}{p:List UInt8}{i:Nat}{y:ItemD}(hs:Srt l)(h:l[i]?=some y)(e:y.path=p):l.find? (fun y=>tb (y.path=p))=some y :=
 find_at (p:=fun y:ItemD=>y.path=p) h e fun j z hj hz hp=>by
  have:=hs.uniq hz h (hp.trans e.symm);omega
theorem find_none'{l:List ItemD}{p:List UInt8}(h:∀ (i:Nat) (y:ItemD),l[i]?=some y→¬y.path=p):l.find? (fun y=>tb (y.path=p))=none:=find_none (p:=fun y:ItemD=>y.path=p) h
/-- May an object be made at a path? -/
noncomputable def roomF(l:List ItemD)(p:List UInt8):Int:=open Classical in
 if (treeGet l (aboveF p)).2=true then (if (treeGet l (aboveF p)).1.kind=2 then (if p∈l.map (·.path) then 3 else 0) else 4) else 2
theorem i_room{l:List ItemD}(hf:Fits l)(p:List UInt8)(hp:p.length≤4000000000):iroom ⟨l⟩ p=some (roomF l p):=by
 refine wp_eq ?_
 unfold iroom roomF
 rw [i_Above p hp,bsome,i_TreeGet l _ hf.1,bsome]
 cases h:(treeGet l (aboveF p)).2 with
 | false=>exact wp_some (by rw [if_neg (by simp)])
 | true =>
  simp only [cond_true,PN,if_true]
  refine wp_if (fun h2=>wp_some (by rw [if_neg h2])) (fun h2=>?_)
  rw [if_pos (Classical.not_not.1 h2)]
  refine wp_bnd _ (i_itemAt l p hf.1) ?_
  rintro r (⟨rfl,hr⟩ | ⟨i,y,rfl,hi,he⟩)
  ·rw [if_neg (show ¬ (0:Int)≤-1 by omega),if_neg (at_not hr)];exact wp_some rfl
  ·rw [if_pos (show (0:Int)≤(i:Int) by omega),if_pos (List.mem_map.2 ⟨y,List.mem_of_getElem? hi,he⟩)];exact wp_some rfl
theorem s_l14Dir{l:List ItemD}(hf:Fits l)(p:List UInt8):sl14Dir ⟨l⟩ p=some (if (treeGet l p).2=true then (if (treeGet l p).1.kind=2 then 0 else 4) else 2):=by
 unfold sl14Dir
 rw [s_TreeGet l _ hf.1,bsome]
 cases h:(treeGet l p).2 with
 | false=>rfl
 | true =>
  simp only [cond_true,PN,if_true]
  by_cases h2:(treeGet l p).1.kind=2
  ·rw [if_neg (fun h=>h h2),if_pos h2]
  ·rw [if_pos h2,if_neg h2]
theorem get_there{l:List ItemD}{p:List UInt8}(h0:¬p=[47]):(treeGet l p).2=true↔p∈l.map (·.path):=by
 cases hf:l.find? (fun y=>tb (y.path=p)) with
 | none =>
  rw [treeGet_no h0 hf]
  refine iff_of_false (by simp) fun hm=>?_
  obtain⟨y,hy,e⟩:=List.mem_map.1 hm
  exact (List.find?_eq_none.1 hf y hy) (tb_pos e)
 | some y =>
  rw [treeGet_yes h0 hf]
  exact iff_of_true rfl (List.mem_map.2 ⟨y,List.mem_of_find?_eq_some hf,find_yes (p:=fun y:ItemD=>y.path=p) hf⟩)
theorem get_dec{l:List ItemD}{p:List UInt8}(h0:¬p=[47]):(treeGet l p).2=tb (p∈l.map (·.path)):=by
 rw [eq_tb (treeGet l p).2];exact tb_congr (get_there h0)
/-! Making -/
noncomputable def newI(o:OpD):ItemD:=open Classical in if o.kind=0 then ⟨o.path,2,[],0⟩ else if o.kind=2 then ⟨o.path,3,o.data,o.time⟩ else ⟨o.path,1,o.data,o.time⟩
theorem newI_path(o:OpD):(newI o).path=o.path:=by
 unfold newI
 split
 ·rfl
 ·split <;> rfl
noncomputable def newF(l:List ItemD)(o:OpD):List ItemD × Int:=open Classical in
 if ¬roomF l o.path=0 then (l,roomF l o.path) else if ¬o.kind=0∧80<o.data.length then (l,9) else if 40≤l.length then (l,5) else (putI l (newI o),0)
structure OpFits (o:OpD):Prop where
 path:o.path.length≤4000000000
 dst:o.dst.length≤4000000000
 data:o.data.length≤4000000000
theorem room_no{l:List ItemD}{p:List UInt8}(h:roomF l p=0):¬p∈l.map (·.path):=by
 intro hm
 unfold roomF at h
 split at h
 ·split at h
  ·first | exact absurd h (by decide) | (rw [if_pos hm] at h;exact absurd h (by decide))
  ·exact absurd h (by decide)
 ·exact absurd h (by decide)
theorem newF_room{l:List ItemD}{o:OpD}(h:¬roomF l o.path=0):newF l o=(l,roomF l o.path):=if_pos h
theorem newF_big{l:List ItemD}{o:OpD}(h:roomF l o.path=0)(h2:¬o.kind=0∧80<o.data.length):newF l o=(l,9):=by unfold newF;rw [if_neg (fun k=>k h),if_pos h2]
theorem newF_full{l:List ItemD}{o:OpD}(h:roomF l o.path=0)(h2:¬ (¬o.kind=0∧80<o.data.length))(h3:40≤l.length):newF l o=(l,5):=by unfold newF;rw [if_neg (fun k=>k h),if_neg h2,if_pos h3]
theorem newF_ok{l:List ItemD}{o:OpD}(h:roomF l o.path=0)(h2:¬ (¬o.kind=0∧80<o.data.length))(h3:¬40≤l.length):newF l o=(putI l (newI o),0):=by unfold newF;rw [if_neg (fun k=>k h),if_neg h2,if_neg h3]
theorem i_treeAdd{l:List ItemD}(hf:Fits l)(ht:TreeOk l){o:OpD}(ho:OpFits o):itreeAdd ⟨l⟩ o=some (⟨(newF l o).1⟩,(newF l o).2):=by
 have h40:=ht.num
 unfold itreeAdd bnu
 rw [i_room hf o.path ho.path,bsome]
 simp only [PN]
 by_cases h1:roomF l o.path=0
 ·rw [if_neg (fun h=>h h1)]
  have hnot:=room_no h1
  have fin:∀x:ItemD,x=newI o→¬ (¬o.kind=0∧80<o.data.length)→¬40≤l.length→(ck (Room ((l.length:Int)+1) 48) (bnd (gslices_SortFunc_Item_ibyPath (l++[x])) fun r14=>some ((⟨r14⟩:TreeD),(0:Int))))=some (⟨(newF l o).1⟩,(newF l o).2):=fun x hx hb h3=>by
   rw [newF_ok h1 hb h3,ck_in (room48 (by omega) (by omega))]
   unfold gslices_SortFunc_Item_ibyPath
   rw [if_pos (by simp;omega),bsome,hx,sort_snoc ht.srt (by rw [newI_path];exact hnot)]
  have mid:∀ (k:Bool) (R:Option (TreeD × Int)),(k=true→¬o.kind=0∧80<o.data.length)→(k=false→¬ (¬o.kind=0∧80<o.data.length))→(¬ (¬o.kind=0∧80<o.data.length)→¬40≤l.length→R=some (⟨(newF l o).1⟩,(newF l o).2)) →
    (cond k (some ((⟨l⟩:TreeD),(9:Int))) (@ite _ ((40:Int)≤(l.length:Int)) (Classical.propDecidable _) (some ((⟨l⟩:TreeD),5)) R))=some (⟨(newF l o).1⟩,(newF l o).2):=by
   intro k R k1 k2 hR
   cases k with
   | true=>rw [newF_big h1 (k1 rfl)];rfl
   | false =>
    rw [cond_false]
    by_cases h3:(40:Int)≤(l.length:Int)
    ·rw [if_pos h3,newF_full h1 (k2 rfl) (by omega)]
    ·rw [if_neg h3];exact hR (k2 rfl) (by omega)
  by_cases h2:o.kind=0
  ·rw [if_neg (fun h=>h h2),bsome]
   refine mid false _ (fun h=>by cases h) (fun _ h=>h.1 h2) fun hb h3=>?_
   rw [if_neg (fun h=>h h2),bsome,if_neg (fun h:o.kind=2=>by omega),bsome]
   exact fin _ (by unfold newI;rw [if_pos h2]) hb h3
  ·rw [if_pos h2,bsome]
   refine mid _ _ (fun h=>⟨h2,by have:=tb_iff.1 h;omega⟩) (fun h hh=>by have:=tb_pos (P:=80<(o.data.length:Int)) (by omega);rw [h] at this;cases this) fun hb h3=>?_
   rw [if_pos h2,bsome]
   by_cases h5:o.kind=2
   ·rw [if_pos h5,bsome];exact fin _ (by unfold newI;rw [if_neg h2,if_pos h5]) hb h3
   ·rw [if_neg h5,bsome];exact fin _ (by unfold newI;rw [if_neg h2,if_neg h5]) hb h3
 ·rw [if_pos h1,newF_room h1]
theorem s_l14New{l:List ItemD}(hf:Fits l)(ht:TreeOk l){o:OpD}(ho:OpFits o)(h0:¬o.path=[47]):sl14New ⟨l⟩ o=some (⟨(newF l o).1⟩,(newF l o).2):=by
 have h40:=ht.num
 unfold sl14New bnt
 rw [s_l14Copy l hf.1,bsome,s_Above _ ho.path,bsome,s_l14Dir hf,bsome,s_TreeGet l _ hf.1,bsome,get_dec h0]
 simp only [PN]
 by_cases h1:(treeGet l (aboveF o.path)).2=true
 ·by_cases h2:(treeGet l (aboveF o.path)).1.kind=2
  ·rw [if_pos h1,if_pos h2,if_neg (fun h=>h rfl)]
   by_cases h3:o.path∈l.map (·.path)
   ·have hr:roomF l o.path=3:=by unfold roomF;rw [if_pos h1,if_pos h2,if_pos h3]
    rw [if_pos h3,newF_room (by rw [hr];decide),hr]
   ·have hr:roomF l o.path=0:=by unfold roomF;rw [if_pos h1,if_pos h2,if_neg h3]
    rw [if_neg h3]
    have fin:∀x:ItemD,x=newI o→¬ (¬o.kind=0∧80<o.data.length)→(@ite _ ((l.length:Int)=40) (Classical.propDecidable _) (some ((⟨l⟩:TreeD),(5:Int))) (bnd (sl10Put l x) fun r12=>some ((⟨r12⟩:TreeD),0)))=some (⟨(newF l o).1⟩,(newF l o).2):=fun x hx hb=>by
     by_cases h4:40≤l.length
     ·rw [if_pos (by omega),newF_full hr hb h4]
     ·rw [if_neg (by omega),newF_ok hr hb h4,s_Put l x (by omega),hx];rfl
    by_cases h5:o.kind=0
    ·rw [if_neg (fun h=>h h5),bsome]
     exact fin _ (by unfold newI;rw [if_pos h5]) (fun h=>h.1 h5)
    ·rw [if_pos h5]
     by_cases h6:80<o.data.length
     ·rw [if_pos (by omega),bsome,newF_big hr ⟨h5,h6⟩];rfl
     ·rw [if_neg (by omega)]
      by_cases h7:o.kind=2
      ·rw [if_pos h7,bsome]
       exact fin _ (by unfold newI;rw [if_neg h5,if_pos h7]) (fun h=>h6 h.2)
      ·rw [if_neg h7,bsome]
       exact fin _ (by unfold newI;rw [if_neg h5,if_neg h7]) (fun h=>h6 h.2)
  ·have hr:roomF l o.path=4:=by unfold roomF;rw [if_pos h1,if_neg h2]
   rw [if_pos h1,if_neg h2,if_pos (by decide),newF_room (by rw [hr];decide),hr]
 ·have hr:roomF l o.path=2:=by unfold roomF;rw [if_neg h1]
  rw [if_neg h1,if_pos (by decide),newF_room (by rw [hr];decide),hr]
end Go.Ar
end
section
namespace Go.Ar
open Go.Proofs
set_option linter.unusedVariables false
set_option linter.unusedSimpArgs false
set_option maxRecDepth 20000
/-! Changing -/
structure OpP (o:OpD):Prop where
 kind:0≤o.kind∧o.kind≤8
 pos:0≤o.pos∧o.pos≤1000
 time:0≤o.time∧o.time≤100000
theorem i_OpOk(o:OpD):iOpOk o=some (tb (OpP o)):=by
 unfold iOpOk
 simp only [i_within,PN]
 refine if_tb (fun h1=>?_) (fun h1 h=>h1 h.kind)
 refine if_tb (fun h2=>?_) (fun h2 h=>h2 h.pos)
 exact tb_some ⟨fun h3=>⟨h1,h2,h3⟩,fun h=>h.time⟩
theorem s_OpOk(o:OpD):sOpOk o=some (tb (OpP o)):=by
 unfold sOpOk
 simp only [s_l1In,PN]
 refine if_tb (fun h1=>?_) (fun h1 h=>h1 h.kind)
 refine if_tb (fun h2=>?_) (fun h2 h=>h2 h.pos)
 exact tb_some ⟨fun h3=>⟨h1,h2,h3⟩,fun h=>h.time⟩
noncomputable def chgD(d:List UInt8)(o:OpD):List UInt8:=open Classical in if o.kind=3 then wrtD d o.pos o.data else if o.kind=4 then cutD d o.pos else d
def NoSet(x:ItemD)(o:OpD):Prop:=x.kind=2∨(x.kind=3∧¬o.kind=5)
noncomputable def setX(l:List ItemD)(o:OpD)(x:ItemD):List ItemD × Int:=open Classical in
 if NoSet x o then (l,4) else if 80<(chgD x.data o).length then (l,9) else (putI l ⟨x.path,x.kind,chgD x.data o,o.time⟩,0)
noncomputable def setF(l:List ItemD)(o:OpD):List ItemD × Int:=match l.find? (fun y=>tb (y.path=o.path)) with | some x=>setX l o x | none=>(l,2)
theorem setX_no{l:List ItemD}{o:OpD}{x:ItemD}(h:NoSet x o):setX l o x=(l,4):=if_pos h
theorem setX_big{l:List ItemD}{o:OpD}{x:ItemD}(h:¬NoSet x o)(h2:80<(chgD x.data o).length):setX l o x=(l,9):=by unfold setX;rw [if_neg h,if_pos h2]
theorem setX_ok{l:List ItemD}{o:OpD}{x:ItemD}(h:¬NoSet x o)(h2:¬80<(chgD x.data o).length):setX l o x=(putI l ⟨x.path,x.kind,chgD x.data o,o.time⟩,0):=by unfold setX;rw [if_neg h,if_neg h2]
theorem i_treeSet{l:List ItemD}(hf:Fits l)(ht:TreeOk l){o:OpD}(ho:OpFits o):itreeSet ⟨l⟩ o=some (⟨(setF l o).1⟩,(setF l o).2):=by
 refine wp_eq ?_
 unfold itreeSet setF bnt bnu
 refine wp_bnd _ (i_itemAt l o.path hf.1) ?_
 rintro r (⟨rfl,hr⟩ | ⟨i,x,rfl,hi,he⟩)
 ·rw [find_none' hr,c_lss,tb_pos (by omega)]
  exact wp_some rfl
 rw [find_at' ht.srt hi he]
 have hx:=ht.all i x hi
 have hxf:=hf.2 x (List.mem_of_getElem? hi)
 simp only [PN]
 rw [if_neg (show ¬ (i:Int)<0 by omega),gt_ok hi,bsome]
 have no:NoSet x o→Wp (fun y=>y=((⟨(setX l o x).1⟩:TreeD),(setX l o x).2)) (some ((⟨l⟩:TreeD),(4:Int))):=fun h=>wp_some (by rw [setX_no h])
 refine wp_bnd (fun r=>(r=.inl ()∧¬NoSet x o)∨(r=.inr ((⟨l⟩:TreeD),4)∧NoSet x o)) ?_ ?_
 ·refine wp_if (fun h=>wp_some (.inr ⟨rfl,.inl h⟩)) (fun h=>?_)
  refine wp_if (fun h2=>wp_if (fun h3=>wp_some (.inr ⟨rfl,.inr ⟨h2,h3⟩⟩)) (fun h3=>wp_some (.inl ⟨rfl,fun k=>k.elim h fun k=>h3 k.2⟩))) (fun h2=>wp_some (.inl ⟨rfl,fun k=>k.elim h fun k=>h2 k.1⟩))
 ·rintro _ (⟨rfl,h⟩ | ⟨rfl,h⟩)
  ·rw [Sum.elim_inl]
   refine wp_bnd (fun d=>d=chgD x.data o) ?_ ?_
   ·unfold chgD
    refine wp_if (fun h3=>?_) (fun h3=>wp_if (fun h4=>?_) (fun h4=>wp_some (by rw [if_neg h3,if_neg h4])))
    ·rw [i_Written _ _ _ hxf.2 ho.data,bsome,if_pos h3];exact wp_some rfl
    ·rw [i_Cut _ _ hxf.2,bsome,if_neg h3,if_pos h4];exact wp_some rfl
   ·rintro _ rfl
    refine wp_if (fun h5=>wp_some (by rw [setX_big h (by omega)])) (fun h5=>wp_some ?_)
    rw [setX_ok h (by omega),sl_eq,sl_eq,Int.toNat_natCast,List.set_set]
    rw [set_put (x:=⟨x.path,x.kind,chgD x.data o,o.time⟩) ht.srt hi rfl]
  ·rw [Sum.elim_inr];exact no h
theorem cut_fits{d:List UInt8}{n:Int}(hn:0≤n∧n≤1000):(cutD d n).length=n.toNat:=by
 unfold cutD
 rw [if_pos ⟨hn.1,by omega⟩,List.length_take,padZ_len];omega
theorem s_l14Data{d:List UInt8}{o:OpD}(hd:d.length≤80)(ho:OpFits o)(hp:OpP o):sl14Data d o=some (chgD d o,tb (¬80<(chgD d o).length)):=by
 unfold sl14Data chgD
 simp only [PN]
 by_cases h3:o.kind=3
 ·rw [if_pos h3,if_pos h3,s_Written _ _ _ (by omega) ho.data,bsome]
  congr 2;exact tb_congr (by omega)
 ·rw [if_neg h3,if_neg h3]
  by_cases h4:o.kind=4
  ·rw [if_pos h4,if_pos h4,s_Cut _ _ (by omega),bsome]
   have:=cut_fits (d:=d) hp.pos
   have:=hp.pos
   congr 2;exact tb_congr (by omega)
  ·rw [if_neg h4,if_neg h4,tb_pos (by omega)]
theorem s_l14Change{l:List ItemD}(hf:Fits l)(ht:TreeOk l){o:OpD}(ho:OpFits o)(hp:OpP o)(h0:¬o.path=[47]):sl14Change ⟨l⟩ o=some (⟨(setF l o).1⟩,(setF l o).2):=by
 refine wp_eq ?_
 have h40:=ht.num
 unfold sl14Change setF bnt
 rw [s_l14Copy l hf.1,bsome,s_TreeGet l _ hf.1,bsome]
 cases hx:l.find? (fun y=>tb (y.path=o.path)) with
 | none=>rw [treeGet_no h0 hx];exact wp_some rfl
 | some x =>
  rw [treeGet_yes h0 hx]
  have hm:=List.mem_of_find?_eq_some hx
  obtain⟨i,hi⟩:=List.mem_iff_getElem?.1 hm
  have hxi:=(ht.all i x hi).it
  simp only [cond_true,PN]
  refine wp_bnd (fun r=>(r=.inl ()∧¬NoSet x o)∨(r=.inr ((⟨l⟩:TreeD),4)∧NoSet x o)) ?_ ?_
  ·refine wp_if (fun h=>wp_some (.inr ⟨rfl,.inl h⟩)) (fun h=>?_)
   refine wp_if (fun h2=>wp_if (fun h3=>wp_some (.inr ⟨rfl,.inr ⟨h2,h3⟩⟩)) (fun h3=>wp_some (.inl ⟨rfl,fun k=>k.elim h fun k=>h3 k.2⟩))) (fun h2=>wp_some (.inl ⟨rfl,fun k=>k.elim h fun k=>h2 k.1⟩))
  ·rintro _ (⟨rfl,h⟩ | ⟨rfl,h⟩)
   ·rw [Sum.elim_inl,s_l14Data hxi.data ho hp,bsome]
    dsimp only
    rw [cond_tb]
    refine wp_if (fun h5=>?_) (fun h5=>wp_some (by rw [setX_big h (by omega)]))
    rw [s_Put l _ (by omega),bsome,setX_ok h h5]
    exact wp_some rfl
   ·rw [Sum.elim_inr];exact wp_some (by rw [setX_no h])
/-! Removing -/
def Child(l:List ItemD)(p:List UInt8):Prop := ∃y∈l,aboveF y.path=p
noncomputable def dropX(l:List ItemD)(o:OpD)(x:ItemD):List ItemD × Int:=open Classical in
 if ¬ (x.kind=2↔o.kind=7) then (l,4) else if Child l o.path then (l,8) else (l.filter (fun y=>tb (¬y.path=o.path)),0)
noncomputable def dropT(l:List ItemD)(o:OpD):List ItemD × Int:=match l.find? (fun y=>tb (y.path=o.path)) with | some x=>dropX l o x | none=>(l,2)
theorem dropX_no{l:List ItemD}{o:OpD}{x:ItemD}(h:¬ (x.kind=2↔o.kind=7)):dropX l o x=(l,4):=if_pos h
theorem dropX_busy{l:List ItemD}{o:OpD}{x:ItemD}(h:x.kind=2↔o.kind=7)(h2:Child l o.path):dropX l o x=(l,8):=by unfold dropX;rw [if_neg (fun k=>k h),if_pos h2]
theorem dropX_ok{l:List ItemD}{o:OpD}{x:ItemD}(h:x.kind=2↔o.kind=7)(h2:¬Child l o.path):dropX l o x=(l.filter (fun y=>tb (¬y.path=o.path)),0):=by unfold dropX;rw [if_neg (fun k=>k h),if_neg h2]
theorem g_child{l:List ItemD}(hf:Fits l)(k1:Int)(p k3:List UInt8)(k4:Int)(k5:List UInt8)(k6:Int):gslices_ContainsFunc_Item_itreeDrop_1 l k1 p k3 k4 k5 k6=some (tb (Child l p)):=by
 have hl:=hf.1
 unfold gslices_ContainsFunc_Item_itreeDrop_1 gslices_IndexFunc_Item_itreeDrop_1 bnt lpt
 simp only [itreeDrop_1,PN,bnd_assoc]
 refine bnd_first (fun i:Nat=>(i:Int)) l (fun i x=>¬aboveF x.path=p) (fun i _=>.inr (i:Int)) (.inl ()) rfl (fun i x hx _ h=>?_) (fun i x hx _ h=>?_) (fun h=>?_) (fun h=>?_) (fun k x hx hn hj=>?_)
 ·have:=len_lt hx
  rw [if_pos (by omega),gt_ok hx,bsome,i_Above _ (hf.2 x (List.mem_of_getElem? hx)).1,bsome,if_neg h,ir_add1 (by omega)]
 ·have:=len_lt hx
  rw [if_pos (by omega),gt_ok hx,bsome,i_Above _ (hf.2 x (List.mem_of_getElem? hx)).1,bsome,if_pos (Classical.not_not.1 h)]
 ·rw [if_neg (by omega)]
 ·show some (tb (0≤(-1:Int)))=_
  refine tb_some (iff_of_false (by omega) ?_)
  rintro⟨y,hy,e⟩
  obtain⟨i,hi⟩:=List.mem_iff_getElem?.1 hy
  exact h i y hi e
 ·show some (tb (0≤(k:Int)))=_
  exact tb_some (iff_of_true (by omega) ⟨x,List.mem_of_getElem? hx,Classical.not_not.1 hn⟩)
theorem i_treeDrop{l:List ItemD}(hf:Fits l)(ht:TreeOk l){o:OpD}(ho:OpFits o):itreeDrop ⟨l⟩ o=some (⟨(dropT l o).1⟩,(dropT l o).2):=by
 refine wp_eq ?_
 have h40:=ht.num
 unfold itreeDrop dropT bnu
 refine wp_bnd _ (i_itemAt l o.path hf.1) ?_
 rintro r (⟨rfl,hr⟩ | ⟨i,x,rfl,hi,he⟩)
 ·rw [find_none' hr,c_lss,tb_pos (by omega)]
  exact wp_some rfl
 rw [find_at' ht.srt hi he]
 have hlt:=len_lt hi
 simp only [PN]
 rw [if_neg (show ¬ (i:Int)<0 by omega),gt_ok hi,bsome]
 refine wp_bnd (fun b=>b=tb (¬ (x.kind=2↔o.kind=7))) ?_ ?_
 ·refine wp_if (fun h=>wp_if (fun h2=>wp_some ?_) (fun h2=>wp_some ?_)) (fun h=>wp_if (fun h2=>wp_some ?_) (fun h2=>wp_some ?_))
  ·rw [tb_neg fun k=>k (iff_of_true h h2)]
  ·rw [tb_pos fun k=>h2 (k.1 h)]
  ·rw [tb_pos fun k=>h (k.2 h2)]
  ·rw [tb_neg fun k=>k (iff_of_false h h2)]
 ·rintro _ rfl
  rw [cond_tb]
  refine wp_if (fun h=>wp_some (by rw [dropX_no h])) (fun h=>?_)
  have h:=Classical.not_not.1 h
  rw [g_child hf,bsome,cond_tb]
  refine wp_if (fun h2=>wp_some (by rw [dropX_busy h h2])) (fun h2=>?_)
  rw [ir_add1 (by omega)]
  unfold gslices_Delete_Item
  rw [if_pos ⟨by omega,by omega,by omega⟩,bsome,Int.toNat_natCast,Int.toNat_natCast,drop_filter ht.srt hi,dropX_ok h h2,he]
  exact wp_some rfl
theorem up_kind{l:List ItemD}(ht:TreeOk l){p:List UInt8}(h0:¬p=[47]){x:ItemD}(hx:l.find? (fun y=>tb (y.path=p))=some x)(hc:Child l p):x.kind=2:=by
 obtain⟨y,hy,e⟩:=hc
 obtain⟨i,hi⟩:=List.mem_iff_getElem?.1 hy
 have h:=(ht.all i y hi).dir
 rw [e,treeGet_yes h0 hx] at h
 exact h
theorem s_l14Without{l:List ItemD}(hf:Fits l)(p:List UInt8):sl14Without ⟨l⟩ p=some ⟨l.filter fun y=>tb (¬y.path=p)⟩:=by
 have hl:=hf.1
 unfold sl14Without bnu lpt
 simp only [PN]
 have hp:∀j,((l.take j).flatMap fun y=>if tb (¬y.path=p)=true then [y] else []).length≤l.length:=fun j=>by
  have:=flatMap_len (fun y:ItemD=>if tb (¬y.path=p)=true then [y] else []) 1 (l.take j) fun y _=>by split <;> simp
  rw [List.length_take] at this;omega
 have e:l.filter (fun y=>tb (¬y.path=p))=l.flatMap fun y=>if tb (¬y.path=p)=true then [y] else []:=by
  clear hp hf hl
  induction l with
  | nil=>rfl
  | cons x l ih=>rw [List.filter_cons,List.flatMap_cons,ih];split <;> simp
 rw [e]
 refine bnd_flat (fun i l=>((i:Int),l)) (fun y:ItemD=>if tb (¬y.path=p)=true then [y] else []) l [] _ rfl (fun i x hx=>?_) (by rw [if_neg (by omega)]) (by rw [List.nil_append])
 have:=len_lt hx
 have h2:=hp i
 rw [if_pos (by omega),gt_ok hx,bsome,ir_add1 (by omega),List.nil_append]
 by_cases h:x.path=p
 ·rw [if_neg (fun k=>k h),if_neg (by rw [tb_neg (fun k=>k h)];simp),List.append_nil]
 ·rw [if_pos h,if_pos (tb_pos h),ck_in (room48 (by omega) (by dsimp only;omega))]
theorem s_l14Remove{l:List ItemD}(hf:Fits l)(ht:TreeOk l){o:OpD}(ho:OpFits o)(h0:¬o.path=[47]):sl14Remove ⟨l⟩ o=some (⟨(dropT l o).1⟩,(dropT l o).2):=by
 refine wp_eq ?_
 unfold sl14Remove dropT bnu
 rw [s_TreeGet l _ hf.1,bsome,s_l14Copy l hf.1,bsome]
 cases hx:l.find? (fun y=>tb (y.path=o.path)) with
 | none=>rw [treeGet_no h0 hx];exact wp_some rfl
 | some x =>
  have hg:=treeGet_yes h0 hx
  rw [hg]
  simp only [cond_true,PN]
  refine wp_bnd (fun b=>b=tb (¬ (x.kind=2↔o.kind=7))) ?_ ?_
  ·refine wp_if (fun h=>wp_if (fun h2=>wp_some ?_) (fun h2=>wp_some ?_)) (fun h=>wp_if (fun h2=>wp_some ?_) (fun h2=>wp_some ?_))
   ·rw [tb_neg fun k=>k (iff_of_true h h2)]
   ·rw [tb_pos fun k=>h2 (k.1 h)]
   ·rw [tb_pos fun k=>h (k.2 h2)]
   ·rw [tb_neg fun k=>k (iff_of_false h h2)]
  ·rintro _ rfl
   rw [cond_tb]
   refine wp_if (fun h=>wp_some (by rw [dropX_no h])) (fun h=>?_)
   have h:=Classical.not_not.1 h
   rw [s_TreeNames hf,bsome]
   have hc:(0:Int)<((namesT l o.path).length:Int)↔Child l o.path:=by
    unfold namesT
    constructor
    ·intro k
     split at k
     ·rename_i hc
      obtain⟨z,hz⟩:=List.exists_mem_of_length_pos (l:=l.flatMap (nameE o.path)) (by omega)
      obtain⟨y,hy,hz⟩:=List.mem_flatMap.1 hz
      unfold nameE at hz
      split at hz
      ·exact ⟨y,hy,by assumption⟩
      ·cases hz
     ·simp at k
    ·intro k
     rw [if_pos ⟨ht,by rw [hg],by rw [hg];exact up_kind ht h0 hx k⟩]
     obtain⟨y,hy,e⟩:=k
     have:lastF y.path∈l.flatMap (nameE o.path):=List.mem_flatMap.2 ⟨y,hy,by unfold nameE;rw [if_pos e];simp⟩
     have:=List.length_pos_of_mem this
     omega
   by_cases h2:Child l o.path
   ·rw [if_pos (hc.2 h2),dropX_busy h h2];exact wp_some rfl
   ·rw [if_neg (fun k=>h2 (hc.1 k)),s_l14Without hf,bsome,dropX_ok h h2];exact wp_some rfl
end Go.Ar
end
section
namespace Go.Ar
open Go.Proofs
set_option linter.unusedVariables false
set_option linter.unusedSimpArgs false
set_option maxRecDepth 20000
/-! Renaming -/
theorem above_path{p:List UInt8}(h:PathOk p):aboveF p=pathOf ((namesOf p).take ((namesOf p).length-1)):=by
 unfold aboveF
 have hn:=(names_ok h).1
 rw [if_pos h,pathF_ok ⟨by rw [List.length_take];have:=hn.1;omega,fun x hx=>hn.2 x (List.mem_of_mem_take hx)⟩]
/-- What is above an item of a right tree is there. -/
theorem anc{l:List ItemD}(ht:TreeOk l){a:List (List UInt8)}(ha:¬a=[]):∀ (n:Nat) (y:ItemD) (b:List (List UInt8)),b.length=n→y∈l→namesOf y.path=a++b→pathOf a∈l.map (·.path)
 | 0,y,b,hb,hy,e=>by
  obtain rfl:=List.eq_nil_of_length_eq_zero hb
  rw [List.append_nil] at e
  obtain⟨i,hi⟩:=List.mem_iff_getElem?.1 hy
  rw [←e,(names_ok (ht.all i y hi).it.path).2]
  exact List.mem_map.2 ⟨y,hy,rfl⟩
 | n+1,y,b,hb,hy,e=>by
  obtain⟨i,hi⟩:=List.mem_iff_getElem?.1 hy
  have hk:=ht.all i y hi
  have hn:=(names_ok hk.it.path).1
  have hab:=above_path hk.it.path
  have ebl:b=b.take n++b.drop n:=(List.take_append_drop n b).symm
  have et:(namesOf y.path).take ((namesOf y.path).length-1)=a++b.take n:=by
   rw [e,List.length_append,hb,show a.length+(n+1)-1=a.length+n by omega,List.take_length_add_append]
  have hok:NamesOk (a++b.take n):=⟨by have:=hn.1;rw [e] at this;simp at this ⊢;omega,fun x hx=>hn.2 x (by rw [←et] at hx;exact List.mem_of_mem_take hx)⟩
  rw [et] at hab
  have hne:¬a++b.take n=[]:=fun h=>ha (List.append_eq_nil_iff.1 h).1
  have hroot:¬aboveF y.path=[47]:=by rw [hab];exact pathOf_root hok hne
  have hm:=(get_there hroot).1 hk.up
  obtain⟨z,hz,ez⟩:=List.mem_map.1 hm
  exact anc ht ha n z (b.take n) (by rw [List.length_take];omega) hz (by rw [ez,hab,(names_path hok).2])
noncomputable def newP(o:OpD)(p:List UInt8):List UInt8:=pathF (namesOf o.dst++(namesOf p).drop (namesOf o.path).length)
noncomputable def renI(o:OpD)(x:ItemD):ItemD:=@ite _ (WithinP x.path o.path) (Classical.propDecidable _) ⟨newP o x.path,x.kind,x.data,x.time⟩ x
def BadR(o:OpD)(x:ItemD):Prop:=WithinP x.path o.path∧newP o x.path=[]
noncomputable def renF(l:List ItemD)(o:OpD):List ItemD × Int:=open Classical in
 if ¬o.path∈l.map (·.path) then (l,2) else if ¬roomF l o.dst=0 then (l,roomF l o.dst) else if ∃x∈l,BadR o x then (l,1) else ((l.map (renI o)).foldl putI [],0)
/-- A path that may be renamed, and where it may go. -/
structure RenP (o:OpD):Prop where
 path:PathOk o.path
 root:¬o.path=[47]
 dst:PathOk o.dst
 droot:¬o.dst=[47]
 out:¬WithinP o.dst o.path
theorem pok_len{L:List (List UInt8)}(h0:¬L=[])(hn:∀x∈L,NameOk x):PathOk (pathOf L)↔NamesOk L:=by
 constructor
 ·have hp:=parts_path h0
  rw [parts_names hn] at hp
  rintro(h | ⟨_,h2,_⟩)
  ·rw [h] at hp
   have:=congrArg List.length hp
   rw [show parts 47 [47]=[[],[]] from rfl] at this
   simp at this
   exact ⟨by omega,hn⟩
  ·rw [hp] at h2
   simp at h2
   exact ⟨by omega,hn⟩
 ·exact fun h=>(names_path h).1
theorem new_names{o:OpD}{p:List UInt8}:∀x∈namesOf o.dst++(namesOf p).drop (namesOf o.path).length,NameOk x:=fun x hx=>(List.mem_append.1 hx).elim (names_nm x) fun h=>names_nm x (List.mem_of_mem_drop h)
theorem new_str{o:OpD}(ho:RenP o){p:List UInt8}(hw:WithinP p o.path):o.path <+: p∧o.dst++p.drop o.path.length=pathOf (namesOf o.dst++(namesOf p).drop (namesOf o.path).length):=by
 obtain⟨hp,hq,r,hr⟩:=hw
 have np:=names_ok hp
 have nq:=names_ok hq
 have nd:=names_ok ho.dst
 have q0:¬namesOf o.path=[]:=fun h=>ho.root ((names_nil hq).1 h)
 have d0:¬namesOf o.dst=[]:=fun h=>ho.droot ((names_nil ho.dst).1 h)
 have ep:p=o.path++r.flatMap fun x=>47::x:=by
  rw [←np.2,←hr,←nq.2,(names_path nq.1).2]
  unfold pathOf
  rw [if_neg q0,if_neg (fun h=>q0 (List.append_eq_nil_iff.1 h).1),flat_app]
 have ed:(namesOf p).drop (namesOf o.path).length=r:=by rw [←hr];simp
 refine ⟨⟨_,ep.symm⟩,?_⟩
 rw [ed]
 conv=>lhs;rw [ep]
 rw [List.drop_left]
 conv=>lhs;rw [←nd.2]
 unfold pathOf
 rw [if_neg d0,if_neg (fun h=>d0 (List.append_eq_nil_iff.1 h).1),flat_app]
theorem new_ok{o:OpD}(ho:RenP o){p:List UInt8}(hw:WithinP p o.path):(PathOk (o.dst++p.drop o.path.length)↔¬newP o p=[])∧(PathOk (o.dst++p.drop o.path.length)→o.dst++p.drop o.path.length=newP o p):=by
 have d0:¬namesOf o.dst=[]:=fun h=>ho.droot ((names_nil ho.dst).1 h)
 have h0:¬namesOf o.dst++(namesOf p).drop (namesOf o.path).length=[]:=fun h=>d0 (List.append_eq_nil_iff.1 h).1
 rw [(new_str ho hw).2,pok_len h0 new_names]
 unfold newP pathF
 refine ⟨⟨fun h=>?_,fun h=>?_⟩,fun h=>by rw [if_pos h]⟩
 ·rw [if_pos h]
  unfold pathOf
  rw [if_neg h0]
  intro e
  cases hd:namesOf o.dst with
  | nil=>exact d0 hd
  | cons a b=>rw [hd] at e;simp at e
 ·apply Classical.byContradiction
  intro hn
  rw [if_neg hn] at h
  exact h rfl
theorem ren_ne{l:List ItemD}(ht:TreeOk l){o:OpD}(ho:RenP o)(hr:roomF l o.dst=0)(hb:¬ ∃x∈l,BadR o x):(l.map (renI o)).Pairwise NeP:=by
 have hnd:=names_ok ho.dst
 have d0:¬namesOf o.dst=[]:=fun h=>ho.droot ((names_nil ho.dst).1 h)
 have hpath:∀x∈l,PathOk x.path:=fun x hx=>by
  obtain⟨i,hi⟩:=List.mem_iff_getElem?.1 hx
  exact (ht.all i x hi).it.path
 have hokn:∀x∈l,WithinP x.path o.path→NamesOk (namesOf o.dst++(namesOf x.path).drop (namesOf o.path).length)∧newP o x.path=pathOf (namesOf o.dst++(namesOf x.path).drop (namesOf o.path).length):=fun x hx hw=>by
  have hn:¬newP o x.path=[]:=fun e=>hb ⟨x,hx,hw,e⟩
  unfold newP pathF at hn ⊢
  split at hn
  ·rename_i h;exact ⟨h,by rw [if_pos h]⟩
  ·exact absurd rfl hn
 have mixed:∀x∈l,∀y∈l,WithinP x.path o.path→¬newP o x.path=y.path:=fun x hx y hy hw e=>by
  obtain⟨h1,h2⟩:=hokn x hx hw
  refine room_no hr ?_
  rw [←hnd.2]
  exact anc ht d0 _ y _ rfl hy (by rw [←e,h2,(names_path h1).2])
 rw [List.pairwise_map]
 refine ht.srt.ne.imp_of_mem fun {x y} hx hy hxy e=>?_
 unfold renI at e
 by_cases h1:WithinP x.path o.path
 ·by_cases h2:WithinP y.path o.path
  ·rw [if_pos h1,if_pos h2] at e
   obtain⟨a1,a2⟩:=hokn x hx h1
   obtain⟨b1,b2⟩:=hokn y hy h2
   dsimp only at e
   rw [a2,b2] at e
   have e:=List.append_cancel_left (pathOf_inj a1 b1 e)
   obtain⟨_,_,r,hr1⟩:=h1
   obtain⟨_,_,s,hs1⟩:=h2
   rw [←hr1,←hs1,List.drop_left,List.drop_left] at e
   exact hxy (names_inj (hpath x hx) (hpath y hy) (by rw [←hr1,←hs1,e]))
  ·rw [if_pos h1,if_neg h2] at e
   exact mixed x hx y hy h1 e
 ·by_cases h2:WithinP y.path o.path
  ·rw [if_neg h1,if_pos h2] at e
   exact mixed y hy x hx h2 e.symm
  ·rw [if_neg h1,if_neg h2] at e
   exact hxy e
theorem renF_none{l:List ItemD}{o:OpD}(h:¬o.path∈l.map (·.path)):renF l o=(l,2):=if_pos h
theorem renF_room{l:List ItemD}{o:OpD}(h:o.path∈l.map (·.path))(h2:¬roomF l o.dst=0):renF l o=(l,roomF l o.dst):=by unfold renF;rw [if_neg (fun k=>k h),if_pos h2]
theorem renF_bad{l:List ItemD}{o:OpD}(h:o.path∈l.map (·.path))(h2:roomF l o.dst=0)(h3:∃x∈l,BadR o x):renF l o=(l,1):=by unfold renF;rw [if_neg (fun k=>k h),if_neg (fun k=>k h2),if_pos h3]
theorem renF_ok{l:List ItemD}{o:OpD}(h:o.path∈l.map (·.path))(h2:roomF l o.dst=0)(h3:¬ ∃x∈l,BadR o x):renF l o=((l.map (renI o)).foldl putI [],0):=by unfold renF;rw [if_neg (fun k=>k h),if_neg (fun k=>k h2),if_neg h3]
theorem i_treeRename{l:List ItemD}(hf:Fits l)(ht:TreeOk l){o:OpD}(ho:OpFits o)(hp:RenP o):Wp (fun r=>r.2=(renF l o).2∧(r.2=0→r.1.items=(renF l o).1)) (itreeRename ⟨l⟩ o):=by
 have h40:=ht.num
 unfold itreeRename bnt lpt
 refine wp_bnd _ (i_itemAt l o.path hf.1) ?_
 rintro r (⟨rfl,hr⟩ | ⟨i,x,rfl,hi,he⟩)
 ·rw [renF_none (at_not hr),c_lss,tb_pos (by omega)]
  exact wp_some ⟨rfl,fun h=>absurd (show (2:Int)=0 from h) (by decide)⟩
 have hm:o.path∈l.map (·.path):=List.mem_map.2 ⟨x,List.mem_of_getElem? hi,he⟩
 simp only [PN]
 rw [if_neg (show ¬ (i:Int)<0 by omega),i_room hf o.dst ho.dst,bsome]
 refine wp_if (fun h=>wp_some ?_) (fun h=>?_)
 ·rw [renF_room hm h];exact ⟨rfl,fun k=>absurd k h⟩
 have h:=Classical.not_not.1 h
 refine wp_loop (fun s=>l.length-s.1.toNat) (fun s=>∃k:Nat,s.1=(k:Int)∧k≤l.length∧s.2=(l.take k).map (renI o)++l.drop k∧∀y∈l.take k,¬BadR o y)
  (fun r=>(r=.inl (l.map (renI o))∧¬ ∃y∈l,BadR o y)∨((∃m,r=.inr (m,1))∧∃y∈l,BadR o y)) ⟨0,rfl,by omega,by simp,by simp⟩ ?_ ?_
 ·rintro⟨_,m⟩ ⟨k,e1,hk,e2,hb⟩
  dsimp only at e1 e2 ⊢
  subst e1
  refine wp_if (fun hlt=>?_) (fun hge=>wp_out (.inl ?_))
  ·obtain⟨y,hy⟩:=get_some (l:=l) (i:=k) (by omega)
   have hmy:=List.mem_of_getElem? hy
   have hyf:=hf.2 y hmy
   have hkt:((l.take k).map (renI o)).length=k:=by simp;omega
   have hgy:m[k]?=some y:=by rw [e2,List.getElem?_append_right (by omega),hkt,Nat.sub_self,List.getElem?_drop];exact hy
   have hs:=take_snoc' hy
   have hset:∀z,m.set k z=(l.take k).map (renI o)++z::l.drop (k+1):=fun z=>by
    rw [e2,List.set_append_right _ _ (by omega),hkt,Nat.sub_self]
    rw [List.drop_eq_getElem_cons (by omega)];rfl
   rw [gt_ok hgy,bsome,i_Within _ _ hyf.1 ho.path,bsome,cond_tb]
   have back:¬BadR o y→∀m',m'=(l.take k).map (renI o)++renI o y::l.drop (k+1)→Wp (LpO (fun s:Int × List ItemD=>l.length-s.1.toNat) (fun s=>∃k:Nat,s.1=(k:Int)∧k≤l.length∧s.2=(l.take k).map (renI o)++l.drop k∧∀y∈l.take k,¬BadR o y)
     (fun r:List ItemD ⊕ (TreeD × Int)=>(r=.inl (l.map (renI o))∧¬ ∃y∈l,BadR o y)∨((∃m,r=.inr (m,1))∧∃y∈l,BadR o y)) ((k:Int),m)) (some (.inl (iop .add .i64 (k:Int) 1,m'))):=fun hnb m' hm'=>by
    rw [ir_add1 (by omega)]
    refine wp_back ⟨k+1,rfl,by omega,?_,fun z hz=>?_⟩ (by dsimp only;omega)
    ·dsimp only;rw [hm',hs];simp
    ·rw [hs] at hz
     rcases List.mem_append.1 hz with hz | hz
     ·exact hb z hz
     ·rw [List.mem_singleton.1 hz];exact hnb
   refine wp_if (fun hw=>?_) (fun hw=>?_)
   ·have hst:=new_str hp hw
    have hok:=new_ok hp hw
    rw [g_Trim _ _ hyf.1 (by have:=ho.path;omega),bsome,if_pos hst.1]
    have hdl:(y.path.drop o.path.length).length≤4000000000:=by rw [List.length_drop];omega
    rw [ck_in (room (by omega) (by have:=ho.dst;omega)),i_PathOk _ (by rw [hst.2];have:=pathOf_len (l:=namesOf o.dst++(namesOf y.path).drop (namesOf o.path).length) (by have:=names_len o.dst;have:=names_len y.path;simp;omega) (fun x hx=>by have:=(new_names x hx).1.2;omega);omega),bsome,cond_tb]
    refine wp_if (fun h1=>?_) (fun h1=>?_)
    ·rw [sl_eq,Int.toNat_natCast]
     refine back (fun hbd=>(hok.1.1 h1) hbd.2) _ ?_
     rw [hset]
     congr 2
     unfold renI
     rw [if_pos hw,hok.2 h1]
    ·exact wp_out (.inr ⟨⟨_,rfl⟩,y,hmy,hw,Classical.byContradiction fun hn=>h1 (hok.1.2 hn)⟩)
   ·refine back (fun hbd=>hw hbd.1) _ ?_
    rw [e2]
    congr 1
    rw [List.drop_eq_getElem_cons (by omega)]
    unfold renI
    rw [if_neg hw]
    congr 1
    rw [List.getElem?_eq_getElem (by omega)] at hy
    exact Option.some.inj hy
  ·obtain rfl:k=l.length:=by omega
   rw [List.take_length] at e2 hb
   rw [List.drop_length,List.append_nil] at e2
   exact ⟨by rw [e2],fun⟨y,hy,hbd⟩=>hb y hy hbd⟩
 ·rintro _ (⟨rfl,hb⟩ | ⟨⟨m,rfl⟩,hb⟩)
  ·rw [Sum.elim_inl]
   unfold gslices_SortFunc_Item_ibyPath
   rw [if_pos (by simp;omega),bsome,renF_ok hm h hb,sort_puts (ren_ne ht hp h hb)]
   exact wp_some ⟨rfl,fun _=>rfl⟩
  ·rw [Sum.elim_inr,renF_bad hm h hb]
   exact wp_some ⟨rfl,fun k=>absurd (show (1:Int)=0 from k) (by decide)⟩
theorem s_l14Rename{l:List ItemD}(hf:Fits l)(ht:TreeOk l){o:OpD}(ho:OpFits o)(hp:RenP o):sl14Rename ⟨l⟩ o=some (⟨(renF l o).1⟩,(renF l o).2):=by
 refine wp_eq ?_
 have h40:=ht.num
 unfold sl14Rename bnt lpt
 simp only [s_TreeGet l _ hf.1,s_l14Copy l hf.1,bsome,s_Above _ ho.dst,s_l14Dir hf,get_dec hp.root,get_dec hp.droot]
 simp only [PN]
 refine wp_if (fun hm=>?_) (fun hm=>wp_some (by rw [renF_none hm]))
 by_cases h1:(treeGet l (aboveF o.dst)).2=true
 ·by_cases h2:(treeGet l (aboveF o.dst)).1.kind=2
  ·rw [if_pos h1,if_pos h2,if_neg (fun h=>h rfl)]
   refine wp_if (fun h3=>?_) (fun h3=>?_)
   ·have hr:roomF l o.dst=3:=by unfold roomF;rw [if_pos h1,if_pos h2,if_pos h3]
    exact wp_some (by rw [renF_room hm (by rw [hr];decide),hr])
   ·have hr:roomF l o.dst=0:=by unfold roomF;rw [if_pos h1,if_pos h2,if_neg h3]
    refine wp_loop (fun s=>l.length-s.1.toNat) (fun s=>∃k:Nat,s.1=(k:Int)∧k≤l.length∧s.2=((l.take k).map (renI o)).foldl putI []∧∀y∈l.take k,¬BadR o y)
     (fun r=>(r=.inl ((l.map (renI o)).foldl putI [])∧¬ ∃y∈l,BadR o y)∨(r=.inr ((⟨l⟩:TreeD),1)∧∃y∈l,BadR o y)) ⟨0,rfl,by omega,by simp,by simp⟩ ?_ ?_
    ·rintro⟨_,m⟩ ⟨k,e1,hk,e2,hb⟩
     dsimp only at e1 e2 ⊢
     subst e1
     refine wp_if (fun hlt=>?_) (fun hge=>wp_out (.inl ?_))
     ·obtain⟨y,hy⟩:=get_some (l:=l) (i:=k) (by omega)
      have hmy:=List.mem_of_getElem? hy
      have hyf:=hf.2 y hmy
      have hs:=take_snoc' hy
      have hml:m.length≤1000:=by
       have:=puts_len ((l.take k).map (renI o)) []
       rw [List.length_map,List.length_take,List.length_nil] at this
       rw [e2];omega
      rw [gt_ok hy,bsome]
      refine wp_bnd (fun r=>(r=.inl (renI o y).path∧¬BadR o y)∨(r=.inr (.inr (.inr ((⟨l⟩:TreeD),1)))∧BadR o y)) ?_ ?_
      ·rw [s_Within _ _ hyf.1 ho.path,bsome,cond_tb]
       refine wp_if (fun hw=>?_) (fun hw=>wp_some (.inl ⟨by unfold renI;rw [if_neg hw],fun hbd=>hw hbd.1⟩))
       have hle:=hw.2.2.length_le
       have l1:=names_len y.path
       have l2:=names_len o.dst
       rw [s_Names _ ho.dst,bsome,s_Names _ hyf.1,bsome,s_Names _ ho.path,bsome]
       rw [ck_in (ins (by omega))]
       have esb:sb (namesOf y.path) ((namesOf o.path).length:Int) ((namesOf y.path).length:Int)=(namesOf y.path).drop (namesOf o.path).length:=by
        rw [sb_eq,Int.toNat_natCast,Int.toNat_natCast,List.take_of_length_le (by simp)]
       rw [esb,ck_in (room (by simp;omega) (by simp;omega)),s_PathOf (by simp;omega) (fun x hx=>by have:=(new_names (o:=o) (p:=y.path) x hx).1.2;omega),bsome]
       refine wp_if (fun h5=>wp_some (.inr ⟨rfl,hw,h5⟩)) (fun h5=>wp_some (.inl ⟨?_,fun hbd=>h5 hbd.2⟩))
       unfold renI
       rw [if_pos hw];rfl
      ·rintro _ (⟨rfl,hnb⟩ | ⟨rfl,hbd⟩)
       ·rw [Sum.elim_inl,s_Put m _ (by omega),bsome,ir_add1 (by omega)]
        refine wp_back ⟨k+1,rfl,by omega,?_,fun z hz=>?_⟩ (by dsimp only;omega)
        ·dsimp only
         have er:(⟨(renI o y).path,y.kind,y.data,y.time⟩:ItemD)=renI o y:=by unfold renI;split <;> rfl
         rw [hs,List.map_append,List.map_singleton,puts_snoc,←e2,er];rfl
        ·rw [hs] at hz
         rcases List.mem_append.1 hz with hz | hz
         ·exact hb z hz
         ·rw [List.mem_singleton.1 hz];exact hnb
       ·rw [Sum.elim_inr]
        exact wp_out (.inr ⟨rfl,y,hmy,hbd⟩)
     ·rw [List.take_of_length_le (by omega)] at e2 hb
      exact ⟨by rw [e2],fun⟨y,hy,hbd⟩=>hb y hy hbd⟩
    ·rintro _ (⟨rfl,hb⟩ | ⟨rfl,hb⟩)
     ·rw [Sum.elim_inl,renF_ok hm hr hb];exact wp_some rfl
     ·rw [Sum.elim_inr,renF_bad hm hr hb];exact wp_some rfl
  ·have hr:roomF l o.dst=4:=by unfold roomF;rw [if_pos h1,if_neg h2]
   rw [if_pos h1,if_neg h2,if_pos (by decide)]
   exact wp_some (by rw [renF_room hm (by rw [hr];decide),hr])
 ·have hr:roomF l o.dst=2:=by unfold roomF;rw [if_neg h1]
  rw [if_neg h1,if_pos (by decide)]
  exact wp_some (by rw [renF_room hm (by rw [hr];decide),hr])
end Go.Ar
end
section
namespace Go.Ar
open Go.Proofs
set_option linter.unusedVariables false
set_option linter.unusedSimpArgs false
set_option maxRecDepth 20000
/-! Whatever is asked of a tree -/
def BadPath(p:List UInt8):Prop:=¬PathOk p∨p=[47]
def BadOp(o:OpD):Prop:=BadPath o.path∨(o.kind=8∧(BadPath o.dst∨WithinP o.dst o.path))
noncomputable def doK(l:List ItemD)(o:OpD):List ItemD × Int:=open Classical in
 if o.kind=0∨o.kind=1∨o.kind=2 then newF l o else if o.kind=3∨o.kind=4∨o.kind=5 then setF l o else if o.kind=6∨o.kind=7 then dropT l o else renF l o
noncomputable def doF(l:List ItemD)(o:OpD):List ItemD × Int:=open Classical in
 if ¬ (TreeOk l∧OpP o) then (l,10) else if BadOp o then (l,1) else doK l o
theorem i_bad{p:List UInt8}(hp:p.length≤4000000000):iTreeDo_1 p=some (tb (BadPath p)):=by
 unfold iTreeDo_1
 simp only [i_PathOk _ hp,PN]
 by_cases h:PathOk p
 ·rw [if_pos h];exact tb_some ⟨fun k=>.inr k,fun k=>k.resolve_left fun k=>k h⟩
 ·rw [if_neg h,tb_pos (.inl h)]
theorem newF_no{l:List ItemD}{o:OpD}(h:¬ (newF l o).2=0):(newF l o).1=l:=by
 unfold newF at h ⊢
 split
 ·rfl
 ·rename_i h1
  rw [if_neg h1] at h
  split
  ·rfl
  ·rename_i h2
   rw [if_neg h2] at h
   split
   ·rfl
   ·rename_i h3
    rw [if_neg h3] at h
    exact absurd rfl h
theorem setF_no{l:List ItemD}{o:OpD}(h:¬ (setF l o).2=0):(setF l o).1=l:=by
 unfold setF at h ⊢
 split
 ·rename_i x hx
  rw [hx] at h
  unfold setX at h ⊢
  dsimp only at h
  split
  ·rfl
  ·rename_i h1
   rw [if_neg h1] at h
   split
   ·rfl
   ·rename_i h2
    rw [if_neg h2] at h
    exact absurd rfl h
 ·rfl
theorem dropT_no{l:List ItemD}{o:OpD}(h:¬ (dropT l o).2=0):(dropT l o).1=l:=by
 unfold dropT at h ⊢
 split
 ·rename_i x hx
  rw [hx] at h
  unfold dropX at h ⊢
  dsimp only at h
  split
  ·rfl
  ·rename_i h1
   rw [if_neg h1] at h
   split
   ·rfl
   ·rename_i h2
    rw [if_neg h2] at h
    exact absurd rfl h
 ·rfl
theorem renF_no{l:List ItemD}{o:OpD}(h:¬ (renF l o).2=0):(renF l o).1=l:=by
 unfold renF at h ⊢
 split
 ·rfl
 ·rename_i h1
  rw [if_neg h1] at h
  split
  ·rfl
  ·rename_i h2
   rw [if_neg h2] at h
   split
   ·rfl
   ·rename_i h3
    rw [if_neg h3] at h
    exact absurd rfl h
theorem or3{a b c:Prop}{da:Decidable a}{db:Decidable b}:Wp (fun r=>r=tb (a∨b∨c)) (@ite _ a da (some true) (@ite _ b db (some true) (some (tb c)))):=by
 refine wp_if (fun h=>wp_some (tb_pos (.inl h)).symm) (fun h=>wp_if (fun h2=>wp_some (tb_pos (.inr (.inl h2))).symm) (fun h2=>wp_some (tb_congr ⟨fun k=>.inr (.inr k),fun k=>(k.resolve_left h).resolve_left h2⟩)))
theorem or2{a c:Prop}{da:Decidable a}:Wp (fun r=>r=tb (a∨c)) (@ite _ a da (some true) (some (tb c))):=by
 refine wp_if (fun h=>wp_some (tb_pos (.inl h)).symm) (fun h=>wp_some (tb_congr ⟨fun k=>.inr k,fun k=>k.resolve_left h⟩))
theorem i_TreeDo{l:List ItemD}(hf:Fits l){o:OpD}(ho:OpFits o):iTreeDo ⟨l⟩ o=some (⟨(doF l o).1⟩,(doF l o).2):=by
 refine wp_eq ?_
 unfold iTreeDo bnu
 rw [i_TreeOk hf,bsome,i_OpOk,bsome,i_cloneTree l hf.1,bsome]
 refine wp_bnd (fun r=>r=tb (¬ (TreeOk l∧OpP o))) ?_ ?_
 ·simp only [PN]
  exact wp_if (fun h=>wp_some (tb_congr ⟨fun k q=>k q.2,fun k q=>k ⟨h,q⟩⟩)) (fun h=>wp_some (tb_pos fun q=>h q.1).symm)
 rintro _ rfl
 rw [cond_tb]
 refine wp_if (fun h=>wp_some (by unfold doF;rw [if_pos h])) (fun h=>?_)
 obtain⟨ht,hp⟩:=Classical.not_not.1 h
 refine wp_bnd (fun r=>r=tb (BadOp o)) ?_ ?_
 ·rw [i_bad ho.path,bsome,i_bad ho.dst,bsome,i_Within _ _ ho.dst ho.path,bsome]
  simp only [PN]
  refine wp_if (fun h1=>wp_some (tb_pos (.inl h1)).symm) (fun h1=>?_)
  refine wp_if (fun h2=>?_) (fun h2=>wp_some (tb_neg fun k=>k.elim h1 fun k=>h2 k.1).symm)
  exact wp_if (fun h3=>wp_some (tb_pos (.inr ⟨h2,.inl h3⟩)).symm) (fun h3=>wp_some (tb_congr ⟨fun k=>.inr ⟨h2,.inr k⟩,fun k=>(k.resolve_left h1).2.resolve_left h3⟩))
 rintro _ rfl
 rw [cond_tb]
 refine wp_if (fun hb=>wp_some (by unfold doF;rw [if_neg (fun k=>k ⟨ht,hp⟩),if_pos hb])) (fun hb=>?_)
 have ed:doF l o=doK l o:=by unfold doF;rw [if_neg (fun k=>k ⟨ht,hp⟩),if_neg hb]
 rw [ed]
 refine wp_call rfl ?_
 refine wp_bnd (fun r=>r.1=(doK l o).2∧(r.1=0→r.2=(doK l o).1)∧(¬r.1=0→(doK l o).1=l)) ?_ ?_
 ·refine wp_bnd _ (by simp only [PN];exact or3) ?_
  rintro _ rfl
  rw [cond_tb]
  refine wp_if (fun h1=>?_) (fun h1=>?_)
  ·have e:doK l o=newF l o:=if_pos h1
   rw [i_treeAdd hf ht ho,bsome,e]
   exact wp_some ⟨rfl,fun _=>rfl,newF_no⟩
  refine wp_bnd _ (by simp only [PN];exact or3) ?_
  rintro _ rfl
  rw [cond_tb]
  refine wp_if (fun h2=>?_) (fun h2=>?_)
  ·have e:doK l o=setF l o:=by unfold doK;rw [if_neg h1,if_pos h2]
   rw [i_treeSet hf ht ho,bsome,e]
   exact wp_some ⟨rfl,fun _=>rfl,setF_no⟩
  refine wp_bnd _ (by simp only [PN];exact or2) ?_
  rintro _ rfl
  rw [cond_tb]
  refine wp_if (fun h3=>?_) (fun h3=>?_)
  ·have e:doK l o=dropT l o:=by unfold doK;rw [if_neg h1,if_neg h2,if_pos h3]
   rw [i_treeDrop hf ht ho,bsome,e]
   exact wp_some ⟨rfl,fun _=>rfl,dropT_no⟩
  have h8:o.kind=8:=by have:=hp.kind;omega
  have e:doK l o=renF l o:=by unfold doK;rw [if_neg h1,if_neg h2,if_neg h3]
  have hren:RenP o:=by
   have q1:¬BadPath o.path:=fun k=>hb (.inl k)
   have q2:¬BadPath o.dst:=fun k=>hb (.inr ⟨h8,.inl k⟩)
   exact ⟨Classical.byContradiction fun k=>q1 (.inl k),fun k=>q1 (.inr k),Classical.byContradiction fun k=>q2 (.inl k),fun k=>q2 (.inr k),fun k=>hb (.inr ⟨h8,.inr k⟩)⟩
  simp only [PN]
  refine wp_if (fun _=>?_) (fun k=>absurd h8 k)
  refine wp_bnd _ (i_treeRename hf ht ho hren) ?_
  rintro⟨⟨t⟩,c⟩ ⟨k1,k2⟩
  rw [e]
  exact wp_some ⟨k1,k2,fun k=>renF_no (by rw [←k1];exact k)⟩
 ·rintro⟨c,t⟩ ⟨k1,k2,k3⟩
  dsimp only at k1 k2 k3 ⊢
  rw [c_neq,cond_tb]
  refine wp_if (fun h=>wp_some ?_) (fun h=>wp_some ?_)
  ·rw [k3 h,k1]
  ·have h:=Classical.not_not.1 h
   rw [k2 h,←k1,h]
theorem s_TreeDo{l:List ItemD}(hf:Fits l){o:OpD}(ho:OpFits o):sTreeDo ⟨l⟩ o=some (⟨(doF l o).1⟩,(doF l o).2):=by
 refine wp_eq ?_
 unfold sTreeDo bnu
 rw [s_TreeOk hf,bsome,s_OpOk,bsome,s_l14Copy l hf.1,bsome,s_PathOk _ ho.path,bsome,s_PathOk _ ho.dst,bsome,s_Within _ _ ho.dst ho.path,bsome]
 refine wp_bnd (fun r=>r=tb (¬ (TreeOk l∧OpP o))) ?_ ?_
 ·simp only [PN]
  exact wp_if (fun h=>wp_some (tb_congr ⟨fun k q=>k q.2,fun k q=>k ⟨h,q⟩⟩)) (fun h=>wp_some (tb_pos fun q=>h q.1).symm)
 rintro _ rfl
 rw [cond_tb]
 refine wp_if (fun h=>wp_some (by unfold doF;rw [if_pos h])) (fun h=>?_)
 obtain⟨ht,hp⟩:=Classical.not_not.1 h
 refine wp_bnd (fun r=>r=tb (BadPath o.path)) ?_ ?_
 ·simp only [PN]
  exact wp_if (fun h1=>wp_some (tb_congr ⟨fun k=>.inr k,fun k=>k.resolve_left fun k=>k h1⟩)) (fun h1=>wp_some (tb_pos (.inl h1)).symm)
 rintro _ rfl
 rw [cond_tb]
 refine wp_if (fun hb=>wp_some (by unfold doF;rw [if_neg (fun k=>k ⟨ht,hp⟩),if_pos (.inl hb)])) (fun hb=>?_)
 have hok:PathOk o.path:=Classical.byContradiction fun k=>hb (.inl k)
 have h0:¬o.path=[47]:=fun k=>hb (.inr k)
 have ed:¬ (o.kind=8∧(BadPath o.dst∨WithinP o.dst o.path))→doF l o=doK l o:=fun k=>by unfold doF;rw [if_neg (fun k=>k ⟨ht,hp⟩),if_neg (fun q=>q.elim hb k)]
 refine wp_bnd _ (by simp only [PN];exact or3) ?_
 rintro _ rfl
 rw [cond_tb]
 refine wp_if (fun h1=>?_) (fun h1=>?_)
 ·have e:doK l o=newF l o:=if_pos h1
  rw [s_l14New hf ht ho h0,bsome,ed (by omega),e];exact wp_some rfl
 refine wp_bnd _ (by simp only [PN];exact or3) ?_
 rintro _ rfl
 rw [cond_tb]
 refine wp_if (fun h2=>?_) (fun h2=>?_)
 ·have e:doK l o=setF l o:=by unfold doK;rw [if_neg h1,if_pos h2]
  rw [s_l14Change hf ht ho hp h0,bsome,ed (by omega),e];exact wp_some rfl
 refine wp_bnd _ (by simp only [PN];exact or2) ?_
 rintro _ rfl
 rw [cond_tb]
 refine wp_if (fun h3=>?_) (fun h3=>?_)
 ·have e:doK l o=dropT l o:=by unfold doK;rw [if_neg h1,if_neg h2,if_pos h3]
  rw [s_l14Remove hf ht ho h0,bsome,ed (by omega),e];exact wp_some rfl
 have h8:o.kind=8:=by have:=hp.kind;omega
 have e:doK l o=renF l o:=by unfold doK;rw [if_neg h1,if_neg h2,if_neg h3]
 refine wp_bnd (fun r=>r=tb (BadPath o.dst∨WithinP o.dst o.path)) ?_ ?_
 ·simp only [PN]
  refine wp_if (fun h4=>?_) (fun h4=>wp_some (tb_pos (.inl (.inl h4))).symm)
  exact wp_if (fun h5=>wp_some (tb_pos (.inl (.inr h5))).symm) (fun h5=>wp_some (tb_congr ⟨fun k=>.inr k,fun k=>k.resolve_left fun k=>k.elim (fun k=>k h4) h5⟩))
 rintro _ rfl
 rw [cond_tb]
 refine wp_if (fun h4=>wp_some (by unfold doF;rw [if_neg (fun k=>k ⟨ht,hp⟩),if_pos (.inr ⟨h8,h4⟩)])) (fun h4=>?_)
 have hren:RenP o:=⟨hok,h0,Classical.byContradiction fun k=>h4 (.inl (.inl k)),fun k=>h4 (.inl (.inr k)),fun k=>h4 (.inr k)⟩
 rw [s_l14Rename hf ht ho hren,bsome,ed (fun k=>h4 k.2),e];exact wp_some rfl
end Go.Ar
end
section
namespace Go.Ar
open Go.Proofs
set_option linter.unusedVariables false
set_option linter.unusedSimpArgs false
set_option maxRecDepth 20000
/-! How large the results are -/
theorem szL_bd{α:Type}(f:α→Nat)(l:List α)(n:Nat)(h:∀x∈l,f x≤n):szL f l≤(n+1)*l.length:=by
 induction l with
 | nil=>simp [szL,sumS]
 | cons x l ih =>
  have h1:=h x (by simp)
  have h2:=ih fun y hy=>h y (by simp [hy])
  simp only [szL,sumS,List.map_cons,List.sum_cons,List.length_cons,Nat.mul_add] at h2 ⊢
  omega
theorem pathOf28{l:List (List UInt8)}(h:NamesOk l):(pathOf l).length≤28:=by
 unfold pathOf
 split
 ·simp
 ·have:=flatMap_len (fun x:List UInt8=>47::x) 7 l fun x hx=>by have:=(h.2 x hx).1.2;simp;omega
  have:=h.1
  omega
theorem path28{p:List UInt8}(h:PathOk p):p.length≤28:=by
 have h1:=names_ok h
 have:=pathOf28 h1.1
 rwa [h1.2] at this
theorem putL_sub{x y:ItemD}:∀ (l:List ItemD) (b:Bool),y∈putL x l b→y=x∨y∈l
 | [],b,h=>by
  cases b with
  | true=>rw [putL] at h;simp at h
  | false=>rw [putL] at h;simp at h;exact .inl h
 | z::t,true,h=>by
  rw [putL_t] at h
  rcases List.mem_append.1 h with h | h
  ·split at h
   ·cases h
   ·rw [List.mem_singleton.1 h];exact .inr (by simp)
  ·rcases putL_sub t true h with h | h
   ·exact .inl h
   ·exact .inr (by simp [h])
 | z::t,false,h=>by
  have key:y∈(if x.path=z.path then [] else [z])++putL x t false∨y∈x::((if x.path=z.path then [] else [z])++putL x t true)→y=x∨y∈z::t:=by
   have hz:y∈(if x.path=z.path then [] else [z])→y∈z::t:=fun h=>by
    split at h
    ·cases h
    ·rw [List.mem_singleton.1 h];simp
   rintro(h | h)
   ·rcases List.mem_append.1 h with h | h
    ·exact .inr (hz h)
    ·rcases putL_sub t false h with h | h
     ·exact .inl h
     ·exact .inr (by simp [h])
   ·rcases List.mem_cons.1 h with h | h
    ·exact .inl h
    ·rcases List.mem_append.1 h with h | h
     ·exact .inr (hz h)
     ·rcases putL_sub t true h with h | h
      ·exact .inl h
      ·exact .inr (by simp [h])
  rw [putL_f] at h
  split at h
  ·exact key (.inr h)
  ·exact key (.inl h)
theorem puts_sub{y:ItemD}:∀ (xs acc:List ItemD),y∈xs.foldl putI acc→y∈xs∨y∈acc
 | [],acc,h=>.inr h
 | x::xs,acc,h=>by
  rcases puts_sub xs (putI acc x) h with h | h
  ·exact .inl (by simp [h])
  ·rcases putL_sub acc false h with h | h
   ·exact .inl (by simp [h])
   ·exact .inr h
def SmI(x:ItemD):Prop:=x.path.length≤28∧x.data.length≤80
theorem ItOk.small{x:ItemD}(h:ItOk x):SmI x:=⟨path28 h.path,h.data⟩
theorem TreeOk.small{l:List ItemD}(h:TreeOk l):∀x∈l,SmI x:=fun x hx=>by
 obtain⟨i,hi⟩:=List.mem_iff_getElem?.1 hx
 exact (h.all i x hi).it.small
theorem small_size{l:List ItemD}(h:∀x∈l,SmI x)(hl:l.length≤100):szL sizeItem l≤4000000:=by
 have:=szL_bd sizeItem l 108 fun x hx=>by have:=h x hx;unfold SmI at this;unfold sizeItem;omega
 omega
theorem doK_small{l:List ItemD}(ht:TreeOk l){o:OpD}(hb:¬BadOp o):(∀x∈(doK l o).1,SmI x)∧(doK l o).1.length≤100:=by
 have h40:=ht.num
 have hs:=ht.small
 have same:(∀x∈l,SmI x)∧l.length≤100:=⟨hs,by omega⟩
 have put:∀x,SmI x→(∀y∈putI l x,SmI y)∧(putI l x).length≤100:=fun x hx=>by
  refine ⟨fun y hy=>?_,?_⟩
  ·rcases putL_sub l false hy with h | h
   ·exact h▸hx
   ·exact hs y h
  ·have:=putL_len x l false;unfold putI;omega
 have hpo:PathOk o.path:=Classical.byContradiction fun k=>hb (.inl (.inl k))
 unfold doK
 split
 ·unfold newF
  split
  ·exact same
  ·split
   ·exact same
   ·split
    ·exact same
    ·refine put _ ⟨by rw [newI_path];exact path28 hpo,?_⟩
     unfold newI
     split
     ·simp
     ·split <;> (dsimp only;omega)
 ·split
  ·unfold setF
   split
   ·rename_i x hx
    unfold setX
    split
    ·exact same
    ·split
     ·exact same
     ·exact put _ ⟨(hs x (List.mem_of_find?_eq_some hx)).1,by dsimp only;omega⟩
   ·exact same
  ·split
   ·unfold dropT
    split
    ·unfold dropX
     split
     ·exact same
     ·split
      ·exact same
      ·exact ⟨fun y hy=>hs y (List.mem_filter.1 hy).1,by have:=List.length_filter_le (fun y:ItemD=>tb (¬y.path=o.path)) l;dsimp only;omega⟩
    ·exact same
   ·unfold renF
    split
    ·exact same
    ·split
     ·exact same
     ·split
      ·exact same
      ·refine ⟨fun y hy=>?_,?_⟩
       ·rcases puts_sub _ _ hy with h | h
        ·obtain⟨x,hx,rfl⟩:=List.mem_map.1 h
         unfold renI
         split
         ·refine ⟨?_,(hs x hx).2⟩
          dsimp only
          unfold newP pathF
          split
          ·exact pathOf28 (by assumption)
          ·simp
         ·exact hs x hx
        ·cases h
       ·have:=puts_len (l.map (renI o)) []
        simp at this;dsimp only;omega
theorem do_size{l:List ItemD}{o:OpD}(h:szL sizeItem l≤1048576):szL sizeItem (doF l o).1≤4000000:=by
 unfold doF
 split
 ·dsimp only;omega
 ·rename_i h1
  split
  ·dsimp only;omega
  ·rename_i h2
   have:=doK_small (Classical.not_not.1 h1).1 h2
   exact small_size this.1 this.2
theorem fits_size{l:List ItemD}(h:szL sizeItem l≤1048576):Fits l :=
 ⟨by have:=szL_len sizeItem l;omega,fun x hx=>by
  obtain⟨i,hi⟩:=List.mem_iff_getElem?.1 hx
  have:=szL_at sizeItem hi
  unfold sizeItem at this h
  constructor <;> omega⟩
theorem opfits_size{o:OpD}(h:sizeOp o≤1048576):OpFits o:=by
 unfold sizeOp at h
 exact ⟨by omega,by omega,by omega⟩
theorem stat_size(P:PoolD)(p:List UInt8):sizeItem (statF P p).1≤4000000:=by
 have key:sizeItem (statF P p).1≤108:=by
  unfold statF
  split
  ·split
   ·split
    ·dsimp only
     rcases get_mem (l:=poolT P) (p:=p) with h | h | h
     ·obtain⟨b,_,hx⟩:=poolT_tree h
      have:=tree_p28 hx;have:=tree_data hx
      unfold sizeItem;omega
     ·rw [h];decide
     ·rw [h];decide
    ·exact Nat.le_trans (by decide:sizeItem itemZ≤0) (by omega)
   ·exact Nat.le_trans (by decide:sizeItem itemZ≤0) (by omega)
  ·exact Nat.le_trans (by decide:sizeItem itemZ≤0) (by omega)
 omega
theorem find_size(P:PoolD)(k:Int):szL List.length (findF P k)≤4000000:=by
 have h1:=find_part k (poolT P) (poolT P).length
 rw [List.take_length] at h1
 have h2:=poolT_len P
 have:=szL_bd List.length (findF P k) 28 fun x hx=>by
  obtain⟨y,hy,hx⟩:=List.mem_flatMap.1 hx
  unfold findE at hx
  split at hx
  ·rw [List.mem_singleton.1 hx]
   obtain⟨b,_,h⟩:=poolT_tree hy
   exact tree_p28 h
  ·cases hx
 unfold findF at this ⊢
 omega
theorem names_size{l:List ItemD}(p:List UInt8)(hl:l.length≤40):szL List.length (namesT l p)≤4000000:=by
 have h1:=name_part p l l.length
 rw [List.take_length] at h1
 have:=szL_bd List.length (namesT l p) 6 fun x hx=>by
  unfold namesT at hx
  split at hx
  ·obtain⟨y,hy,hx⟩:=List.mem_flatMap.1 hx
   unfold nameE at hx
   split at hx
   ·rw [List.mem_singleton.1 hx]
    unfold lastF
    cases hg:(namesOf y.path)[(namesOf y.path).length-1]? with
    | none=>simp
    | some z=>exact (names_nm z (List.mem_of_getElem? hg)).1.2
   ·cases hx
  ·cases hx
 have h3:(namesT l p).length≤l.length:=by
  unfold namesT
  split
  ·exact h1
  ·simp
 omega
theorem list_size(P:PoolD)(p:List UInt8):szL List.length (listF P p).1≤4000000:=by
 unfold listF
 have e:szL List.length ([]:List (List UInt8))≤4000000:=by simp [szL,sumS]
 split
 ·split
  ·exact names_size p (poolT_len P)
  ·exact e
 ·exact e
end Go.Ar
end
section
namespace Go.Ar
open Go.Proofs
set_option linter.unusedVariables false
set_option linter.unusedSimpArgs false
set_option maxRecDepth 20000
theorem MkB.of{k:Int}{n s:Nat}(h:n≤8*s)(h0:0≤k)(h1:k+8*s≤1099511627776):MkB k n:=⟨h0,by omega⟩
theorem sneq_self(x:List UInt8):scmp .neq x x=false:=by rw [scmp_neq];simp
end Go.Ar
end
