import Derived.Test.YthhcbcokjlpahaaGreatArDcA
import Derived.Test.YthhcbcokjlpahaaGreatArGt0
namespace Go.Ar
open Go.Proofs
set_option linter.unusedVariables false
set_option linter.unusedSimpArgs false
set_option maxRecDepth 20000
/-! ### What the printed functions are made of -/
section
variable {α β σ ρ:Type}
noncomputable def ln:List α→Int:=Classical.choose (kp fun(l:List α)=>(l.reverse.length:Int))
theorem ln_eq(l:List α):ln l=(l.length:Int):=by unfold ln;rw [Classical.choose_spec (kp _),List.length_reverse]
noncomputable def ap:List α→List α→List α:=Classical.choose (kp fun(a b:List α)=>(b.reverse++a.reverse).reverse)
theorem ap_eq(a b:List α):ap a b=a++b:=by unfold ap;rw [Classical.choose_spec (kp _)];simp
noncomputable def sb:List α→Int→Int→List α:=Classical.choose (kp fun(l:List α) (lo hi:Int)=>((l.drop lo.toNat).take (hi.toNat-lo.toNat)).reverse.reverse)
theorem sb_eq(l:List α)(lo hi:Int):sb l lo hi=(l.drop lo.toNat).take (hi.toNat-lo.toNat):=by unfold sb;rw [Classical.choose_spec (kp _)];simp
noncomputable def sl:List α→Int→α→List α:=Classical.choose (kp fun(l:List α) (i:Int) (x:α)=>(l.set i.toNat x).reverse.reverse)
theorem sl_eq(l:List α)(i:Int)(x:α):sl l i x=l.set i.toNat x:=by unfold sl;rw [Classical.choose_spec (kp _)];simp
noncomputable def rp:Int→α→List α:=Classical.choose (kp fun(n:Int) (x:α)=>(List.replicate n.toNat x).reverse)
theorem rp_eq(n:Int)(x:α):rp n x=List.replicate n.toNat x:=by unfold rp;rw [Classical.choose_spec (kp _)];simp
/-- Records compared. -/
noncomputable def rq:α→α→Bool:=Classical.choose (kp fun(a b:α)=>@decide (b=a) (Classical.propDecidable _))
theorem rq_t(a b:α):rq a b=true↔a=b:=by unfold rq;rw [Classical.choose_spec (kp fun(a b:α)=>@decide (b=a) (Classical.propDecidable _))];exact (@decide_eq_true_iff _ (Classical.propDecidable _)).trans eq_comm
theorem vEq_rq{xs ys:List V}{a b:α}(h:xs=ys↔a=b):vEq xs ys=rq a b:=by
 rw [Bool.eq_iff_iff,rq_t,vEq_eq,←h];exact @decide_eq_true_iff _ (Classical.propDecidable _)
/-- The element at a place. -/
def gt(l:List α)(i:Int):Option α:=if 0≤i then l[i.toNat]? else none
/-- A condition without which there is no result. -/
noncomputable def ck(P:Prop)(x:Option α):Option α:=open Classical in if P then x else none
theorem ck_out{P:Prop}{x:Option α}{r:α}(h:ck P x=some r):P∧x=some r:=by
 unfold ck at h;split at h
 ·exact ⟨by assumption,h⟩
 ·cases h
theorem ck_in{P:Prop}{x:Option α}(h:P):ck P x=x:=if_pos h
def bnd(x:Option α)(f:α→Option β):Option β:=x.bind f
theorem bnd_out{x:Option α}{f:α→Option β}{r:β}(h:bnd x f=some r):∃y,x=some y∧f y=some r:=by
 unfold bnd at h;cases x with
 | none=>cases h
 | some y=>exact ⟨y,rfl,h⟩
theorem bnd_in{x:Option α}{f:α→Option β}{y:α}(h:x=some y):bnd x f=f y:=by rw [h];rfl
/-- Rounds of a loop. -/
def runN(f:σ→Option (σ ⊕ ρ)):Nat→σ→Option ρ
 | 0,_=>none
 | n+1,s=>match f s with
  | none=>none
  | some (.inl s')=>runN f n s'
  | some (.inr r)=>some r
theorem runN_one{f:σ→Option (σ ⊕ ρ)}:∀ {n m:Nat} {s:σ} {r r':ρ},runN f n s=some r→runN f m s=some r'→r=r'
 | 0,_,_,_,_,h,_=>by cases h
 | _+1,0,_,_,_,_,h=>by cases h
 | n+1,m+1,s,r,r',h,h'=>by
  unfold runN at h h'
  cases hf:f s with
  | none=>rw [hf] at h;cases h
  | some x =>
   rw [hf] at h h'
   cases x with
   | inl s'=>exact runN_one h h'
   | inr q=>cases h;cases h';rfl
open Classical in
noncomputable def lp(f:σ→Option (σ ⊕ ρ))(s:σ):Option ρ:=if h:∃r,∃n,runN f n s=some r then some (Classical.choose h) else none
theorem lp_of{f:σ→Option (σ ⊕ ρ)}{s:σ}{r:ρ}{n:Nat}(h:runN f n s=some r):lp f s=some r:=by
 have hx:∃r,∃n,runN f n s=some r:=⟨r,n,h⟩
 unfold lp
 rw [dif_pos hx]
 obtain⟨m,hm⟩:=Classical.choose_spec hx
 rw [runN_one hm h]
theorem lp_run{f:σ→Option (σ ⊕ ρ)}{s:σ}{r:ρ}(h:lp f s=some r):∃n,runN f n s=some r:=by
 unfold lp at h
 split at h
 ·rename_i hx
  obtain⟨m,hm⟩:=Classical.choose_spec hx
  injection h with h
  exact ⟨m,h▸hm⟩
 ·cases h
theorem runN_out{f:σ→Option (σ ⊕ ρ)}{n:Nat}{s:σ}{r:ρ}(h:runN f n s=some r):∃m,n=m+1∧∃x,f s=some x∧((∃s',x=.inl s'∧runN f m s'=some r)∨x=.inr r):=by
 cases n with
 | zero=>cases h
 | succ m =>
  refine ⟨m,rfl,?_⟩
  unfold runN at h
  cases hf:f s with
  | none=>rw [hf] at h;cases h
  | some x =>
   rw [hf] at h
   cases x with
   | inl s'=>exact ⟨_,rfl,.inl ⟨s',rfl,h⟩⟩
   | inr q=>cases h;exact ⟨_,rfl,.inr rfl⟩
theorem lp_step{f:σ→Option (σ ⊕ ρ)}{s s':σ}(h:f s=some (.inl s')):lp f s=lp f s':=by
 by_cases hx:∃r,lp f s'=some r
 ·obtain⟨r,hr⟩:=hx
  obtain⟨n,hn⟩:=lp_run hr
  rw [hr]
  exact lp_of (n:=n+1) (by unfold runN;rw [h];exact hn)
 ·cases hl:lp f s with
  | none=>cases hl':lp f s' with
   | none=>rfl
   | some r=>exact absurd ⟨r,hl'⟩ hx
  | some r =>
   obtain⟨n,hn⟩:=lp_run hl
   obtain⟨m,rfl,x,h1,h2⟩:=runN_out hn
   rw [h] at h1
   cases h1
   rcases h2 with ⟨s2,e,h2⟩ | e
   ·cases e;exact absurd ⟨r,lp_of h2⟩ hx
   ·cases e
theorem lp_end{f:σ→Option (σ ⊕ ρ)}{s:σ}{r:ρ}(h:f s=some (.inr r)):lp f s=some r:=lp_of (n:=1) (by unfold runN;rw [h])
/-- A loop whose states are known, up to its k-th round. -/
theorem lp_up{f:σ→Option (σ ⊕ ρ)}(g:Nat→σ)(k:Nat){r:ρ}(h:∀i,i<k→f (g i)=some (.inl (g (i+1))))(he:f (g k)=some (.inr r)):lp f (g 0)=some r:=by
 have key:∀j,j≤k→lp f (g 0)=lp f (g j):=by
  intro j
  induction j with
  | zero=>intro _;rfl
  | succ j ih=>intro hj;rw [ih (by omega)];exact lp_step (h j (by omega))
 rw [key k (Nat.le_refl _)]
 exact lp_end he
/-! ### In the goals -/
theorem llen_ln(f:α→List V)(l:List α):llen (rows f l)=ln l:=by rw [llen_rows,ln_eq]
theorem llen_lb(l:List UInt8):llen (bys l)=ln l:=by rw [llen_eq,bys_eq,List.length_map,ln_eq]
theorem llen_nil:llen []=0:=by rw [llen_eq];rfl
theorem app_nl(x:List (List V)):app [] x=x:=by rw [app_eq];rfl
theorem app_nr(x:List (List V)):app x []=x:=by rw [app_eq];exact List.append_nil x
theorem app_ap(f:α→List V)(a b:List α):app (rows f a) (rows f b)=rows f (ap a b):=by rw [app_rows,ap_eq]
theorem app_ab(a b:List UInt8):app (bys a) (bys b)=bys (ap a b):=by rw [app_eq,bys_eq,bys_eq,bys_eq,ap_eq,List.map_append]
theorem subL_sb(f:α→List V)(l:List α)(lo hi:Int):subL (rows f l) lo hi=rows f (sb l lo hi):=by rw [subL_rows,sb_eq]
theorem subL_bb(l:List UInt8)(lo hi:Int):subL (bys l) lo hi=bys (sb l lo hi):=by rw [subL_eq,bys_eq,bys_eq,sb_eq,List.map_take,List.map_drop]
theorem subL_n(lo hi:Int):subL [] lo hi=[]:=by rw [subL_eq];simp
theorem setAt_sl(f:α→List V)(l:List α)(i:Int)(x:α):setAt (rows f l) i (f x)=rows f (sl l i x):=by rw [setAt_rows,sl_eq]
theorem rep_rp(f:α→List V)(n:Int)(x:α):rep_ n (f x)=rows f (rp n x):=by rw [rep_eq,rows_eq,rp_eq,List.map_replicate]
noncomputable def sn:List (List V)→List V→List (List V):=Classical.choose (kp fun(x:List (List V)) (r:List V)=>app x [r])
theorem sn_eq(x:List (List V))(r:List V):sn x r=app x [r]:=by unfold sn;rw [Classical.choose_spec (kp _)]
theorem lit1(f:α→List V)(x:α):[f x]=rows f [x]:=rows_one f x
theorem sn_ap(f:α→List V)(l:List α)(x:α):sn (rows f l) (f x)=rows f (ap l [x]):=by rw [sn_eq,lit1,app_ap]
theorem lit2(f:α→List V)(x y:α):[f x,f y]=rows f [x,y]:=by rw [rows_eq];rfl
theorem lit3(f:α→List V)(x y z:α):[f x,f y,f z]=rows f [x,y,z]:=by rw [rows_eq];rfl
theorem lit4(f:α→List V)(x y z w:α):[f x,f y,f z,f w]=rows f [x,y,z,w]:=by rw [rows_eq];rfl
theorem lit6(f:α→List V)(x y z w u v:α):[f x,f y,f z,f w,f u,f v]=rows f [x,y,z,w,u,v]:=by rw [rows_eq];rfl
theorem shRows_f(f g:α→List V)(h:∀x,(f x).map shC=g x)(l:List α):shRows (rows f l)=rows g l:=by
 rw [shRows_eq,rows_eq,rows_eq,List.map_map]
 exact List.map_congr_left fun x _=>h x
theorem Sc_f(f:α→List V)(h:∀x,scals (f x)=true)(l:List α):Sc (rows f l)=True:=by
 rw [Sc_eq,rows_eq]
 simp only [List.mem_map,forall_exists_index,and_imp,forall_apply_eq_imp_iff₂,eq_iff_iff,iff_true]
 exact fun x _=>h x
theorem isB_b(l:List UInt8):IsB (bys l)=True:=by rw [IsB_eq,bys_eq];simp only [eq_iff_iff,iff_true];exact ⟨l,rfl⟩
theorem unb_byt(l:List UInt8):unb (bys l)=l:=by rw [bys_eq];exact unb_bys l
theorem isB_n:IsB []=True:=by rw [IsB_eq];simp only [eq_iff_iff,iff_true];exact ⟨[],rfl⟩
theorem unb_n:unb []=[]:=by have:=unb_byt [];rwa [bys_eq] at this
theorem Sc_n:Sc []=True:=by rw [Sc_eq];simp
/-- An element is there. -/
theorem gt_in{l:List α}{i:Int}{y:α}(h:gt l i=some y):InR i (ln l):=by
 unfold gt at h
 split at h
 ·have:=(List.getElem?_eq_some_iff.1 h).1
  rw [InR_eq,ln_eq];omega
 ·cases h
theorem gt_at{l:List α}{i:Int}{y:α}(f:α→List V)(h:gt l i=some y):at_ (rows f l) i=some (f y):=by
 unfold gt at h
 split at h
 ·exact at_rows (by assumption) h
 ·cases h
noncomputable def b2i:UInt8→Int:=Classical.choose (kp fun(b:UInt8)=>(b.toNat:Int))
theorem b2i_eq(b:UInt8):b2i b=(b.toNat:Int):=by unfold b2i;rw [Classical.choose_spec (kp _)]
theorem gt_ab{l:List UInt8}{i:Int}{y:UInt8}(h:gt l i=some y):at_ (bys l) i=some [.i .u8 (b2i y)]:=by rw [bys_rows,b2i_eq];exact gt_at bytR h
theorem gt_sl{l:List α}{i:Int}{y x:α}(h:gt l i=some y):gt (sl l i x) i=some x:=by
 unfold gt at h ⊢
 rw [sl_eq]
 split at h
 ·rename_i hi
  have:=(List.getElem?_eq_some_iff.1 h).1
  rw [if_pos hi];simp [this]
 ·cases h
theorem gt_ok{l:List α}{i:Nat}{y:α}(h:l[i]?=some y):gt l (i:Int)=some y:=by unfold gt;rw [if_pos (by omega)];simpa using h
theorem R6{E:Env}{ops:List Oper}{l:List (Oper × PRow)}{s0 acc:List V}{st:St}{K:St→Prop}(h:regC E ops 6 l s0 acc st K):Q (regD E ops) l s0 acc st K:=regD.rest 6 h
theorem A6{E:Env}{C:Nat}{tab:List (Nat × List PRow)}{i:Nat}{ops:Array Oper}{dr:Bool}{K:Ex→St→Prop}{st:St}(h:regU E C tab i ops dr K st):Q (regU E C tab) i ops dr K st:=awD.rest h
theorem CallK.introE{P:Program}{f:Nat}{own:Bool}{args args':List V}{g g':List (List V)}{K:V→Prop}{r:V}(ha:args=args')(hg:g=g')(h:Ret P f own args' g' r)(hk:K r):CallK P f own args g K:=by subst ha hg;exact CallK.intro h hk
/-- What the builtin copy leaves and yields. -/
noncomputable def cpl:Option (Int × Int)→List α→List α→List α:=Classical.choose (kp fun(u:Option (Int × Int)) (a b:List α)=>(a.take (vlo u)++b.take (vln u a.length)++a.drop (vlo u+(b.take (vln u a.length)).length)).reverse.reverse)
theorem cpl_eq(u:Option (Int × Int))(a b:List α):cpl u a b=a.take (vlo u)++b.take (vln u a.length)++a.drop (vlo u+(b.take (vln u a.length)).length):=by unfold cpl;rw [Classical.choose_spec (kp _),List.reverse_reverse]
noncomputable def cpc:Option (Int × Int)→List α→List α→Int:=Classical.choose (kp fun(u:Option (Int × Int)) (a b:List α)=>((min b.length (vln u a.length):Nat):Int))
theorem cpc_eq(u:Option (Int × Int))(a b:List α):cpc u a b=((min b.length (vln u a.length):Nat):Int):=by unfold cpc;rw [Classical.choose_spec (kp _)]
theorem cpy_cpl(f:α→List V)(u:Option (Int × Int))(a b:List α):cpy u (rows f a) (rows f b)=rows f (cpl u a b):=by
 rw [cpy_eq,cpl_eq,rows_eq,rows_eq,rows_eq,cpyF,ovr]
 simp only [List.map_append,List.map_take,List.map_drop,List.length_map,List.length_take]
theorem cpn_cpc(f:α→List V)(u:Option (Int × Int))(a b:List α):cpn u (rows f a) (rows f b)=cpc u a b:=by
 rw [cpn_eq,cpc_eq,rows_eq,rows_eq,cpnF,List.length_map,List.length_map]
theorem CpOk_int(a b:List Int):CpOk 1 (rows intR a) (rows intR b)=True:=by
 rw [CpOk_eq,rows_eq,rows_eq]
 simp only [List.mem_map,forall_exists_index,and_imp,forall_apply_eq_imp_iff₂,eq_iff_iff,iff_true]
 exact ⟨fun _ _=>rfl,fun _ _=>rfl,fun _ _=>rfl⟩
end
/-- The kept constants of the printed functions, folded again. -/
theorem F2:(∀ {α:Type} (h:Nonempty {y // y=fun(l:List α)=>(l.reverse.length:Int)}),(Classical.choice h).1=ln) ∧
 (∀ {α:Type} (h:Nonempty {y // y=fun(a b:List α)=>(b.reverse++a.reverse).reverse}),(Classical.choice h).1=ap) ∧
 (∀ {α:Type} (h:Nonempty {y // y=fun(l:List α) (lo hi:Int)=>((l.drop lo.toNat).take (hi.toNat-lo.toNat)).reverse.reverse}),(Classical.choice h).1=sb) ∧
 (∀ {α:Type} (h:Nonempty {y // y=fun(l:List α) (i:Int) (x:α)=>(l.set i.toNat x).reverse.reverse}),(Classical.choice h).1=sl) ∧
 (∀ {α:Type} (h:Nonempty {y // y=fun(n:Int) (x:α)=>(List.replicate n.toNat x).reverse}),(Classical.choice h).1=rp) ∧
 (∀ {α:Type} (h:Nonempty {y // y=fun(u:Option (Int × Int)) (a b:List α)=>(a.take (vlo u)++b.take (vln u a.length)++a.drop (vlo u+(b.take (vln u a.length)).length)).reverse.reverse}),(Classical.choice h).1=cpl) ∧
 (∀ {α:Type} (h:Nonempty {y // y=fun(u:Option (Int × Int)) (a b:List α)=>((min b.length (vln u a.length):Nat):Int)}),(Classical.choice h).1=cpc) ∧
 (∀h:Nonempty {y // y=OwnVs},(Classical.choice h).1=OwnK)∧(∀h:Nonempty {y // y=CutF},(Classical.choice h).1=CutK)∧(∀h:Nonempty {y // y=fun(b:UInt8)=>(b.toNat:Int)},(Classical.choice h).1=b2i) ∧
 (∀h:Nonempty {y // y=fun(a b:List V)=>@decide (a=b) (Classical.propDecidable _)},(Classical.choice h).1=vEq)∧(∀ {α:Type} (h:Nonempty {y // y=fun(a b:α)=>@decide (b=a) (Classical.propDecidable _)}),(Classical.choice h).1=rq) :=
 ⟨fun h=>(Classical.choice h).2.trans (Classical.choose_spec (kp _)).symm,fun h=>(Classical.choice h).2.trans (Classical.choose_spec (kp _)).symm,
  fun h=>(Classical.choice h).2.trans (Classical.choose_spec (kp _)).symm,fun h=>(Classical.choice h).2.trans (Classical.choose_spec (kp _)).symm,
  fun h=>(Classical.choice h).2.trans (Classical.choose_spec (kp _)).symm,fun h=>(Classical.choice h).2.trans (Classical.choose_spec (kp _)).symm,fun h=>(Classical.choice h).2.trans (Classical.choose_spec (kp _)).symm,fun h=>(Classical.choice h).2.trans OwnK_eq.symm,fun h=>(Classical.choice h).2.trans CutK_eq.symm,fun h=>(Classical.choice h).2.trans (Classical.choose_spec (kp _)).symm,fun h=>(Classical.choice h).2.trans (Classical.choose_spec (kp _)).symm,fun h=>(Classical.choice h).2.trans (Classical.choose_spec (kp _)).symm⟩
def booR(b:Bool):List V:=[.b b]
theorem own_booS(l:List Bool):OwnRs (rows booR l):=own_rows fun _ _=>⟨trivial,trivial⟩
theorem own_bysS(l:List UInt8):OwnRs (bys l):=by rw [bys_rows];exact own_rows fun _ _=>⟨trivial,trivial⟩
theorem rows_nil_iff{α:Type}(f:α→List V)(l:List α):rows f l=[]↔l=[]:=by rw [rows_eq];simp
theorem bys_nil_iff(l:List UInt8):bys l=[]↔l=[]:=by rw [bys_eq];simp
/-- What every printed proof rewrites with. -/
theorem N0:(∀ {α:Type} (f:α→List V) (u:Option (Int × Int)) (a b:List α),cpy u (rows f a) (rows f b)=rows f (cpl u a b))∧(∀ {α:Type} (f:α→List V) (u:Option (Int × Int)) (a b:List α),cpn u (rows f a) (rows f b)=cpc u a b)∧(∀a b:List Int,CpOk 1 (rows intR a) (rows intR b)=True) ∧
 (∀ {α:Type} (f:α→List V) (l:List α),llen (rows f l)=ln l)∧(∀l:List UInt8,llen (bys l)=ln l)∧llen []=0∧(∀x,app [] x=x)∧(∀x,app x []=x) ∧
 (∀ {α:Type} (f:α→List V) (a b:List α),app (rows f a) (rows f b)=rows f (ap a b))∧(∀a b:List UInt8,app (bys a) (bys b)=bys (ap a b)) ∧
 (∀ {α:Type} (f:α→List V) (l:List α) (lo hi:Int),subL (rows f l) lo hi=rows f (sb l lo hi))∧(∀ (l:List UInt8) (lo hi:Int),subL (bys l) lo hi=bys (sb l lo hi))∧(∀lo hi,subL [] lo hi=[]) ∧
 (∀l,IsB (bys l)=True)∧(∀l,unb (bys l)=l)∧IsB []=True∧unb []=[]∧Sc []=True∧(∀ {α:Type} (f:α→List V),rows f []=[])∧bys []=[]∧(∀h:Nonempty {y // y=fun(x:List (List V)) (r:List V)=>app x [r]},(Classical.choice h).1=sn) ∧
 (∀x r,app x [r]=sn x r)∧(∀r,llen [r]=1)∧(∀r s,llen [r,s]=2)∧(∀r s t,llen [r,s,t]=3)∧(∀r s t u,llen [r,s,t,u]=4)∧(∀ {α:Type} (x:α),ln [x]=1)∧(∀ {α:Type} (x y:α),ln [x,y]=2)∧(∀ {α:Type} (x y z:α),ln [x,y,z]=3)∧(∀ {α:Type} (x y z w:α),ln [x,y,z,w]=4) :=
 ⟨cpy_cpl,cpn_cpc,CpOk_int,llen_ln,llen_lb,llen_nil,app_nl,app_nr,app_ap,app_ab,subL_sb,subL_bb,subL_n,isB_b,unb_byt,isB_n,unb_n,Sc_n,rows_nil,by rw [bys_eq];rfl,fun h=>(Classical.choice h).2.trans (Classical.choose_spec (kp _)).symm,fun x r=>(sn_eq x r).symm,
  fun r=>by rw [llen_eq];rfl,fun r s=>by rw [llen_eq];rfl,fun r s t=>by rw [llen_eq];rfl,fun r s t u=>by rw [llen_eq];rfl,fun x=>by rw [ln_eq];rfl,fun x y=>by rw [ln_eq];rfl,fun x y z=>by rw [ln_eq];rfl,fun x y z w=>by rw [ln_eq];rfl⟩
/-- A result that is nil or a slice. -/
noncomputable def oc{α β:Type}(x:Option α)(n:Option β)(f:α→Option β):Option β:=match x with | none=>n | some y=>f y
def nlV{α:Type}(x:Option α)(f:α→V):V:=match x with | none=>.nil | some l=>f l
/-- A comparison with nil. -/
noncomputable def nq{β:Type}(e:Prop)(K:Bool→Option β):Option β:=open Classical in if e then (if K true=K false then K true else none) else K false
theorem nq_out{β:Type}{e:Prop}{K:Bool→Option β}{r:β}(h:nq e K=some r):∀n:Bool,(n=true→e)→K n=some r:=by
 intro n hn
 unfold nq at h
 split at h
 ·split at h
  ·rename_i h1
   cases n with
   | true=>exact h
   | false=>rw [←h1];exact h
  ·cases h
 ·rename_i he
  cases n with
  | true=>exact absurd (hn rfl) he
  | false=>exact h
theorem LeF.nr{α:Type}(f:Fl)(z:Nat)(g:α→List V):LeF .nil (.sl f z (rows g ([]:List α))):=by unfold LeF;exact rows_nil g
theorem LeF.nb(f:Fl)(z:Nat):LeF .nil (.sl f z (bys [])):=by unfold LeF;show bys []=[];rw [bys_eq];rfl
theorem LeF.tu{cs ds:List V}(h:LeFs cs ds):LeF (.tu cs) (.tu ds):=by unfold LeF;exact h
theorem LeFs.c{a b:V}{cs ds:List V}(h:LeF a b)(t:LeFs cs ds):LeFs (a::cs) (b::ds):=by unfold LeFs;exact ⟨h,t⟩
theorem LeFs.n:LeFs [] []:=by unfold LeFs;trivial
theorem CallK.introL{P:Program}{f:Nat}{own:Bool}{args args':List V}{g g':List (List V)}{K:V→Prop}{r:V}(ha:LeFs args args')(hg:g=g')(h:Ret P f own args' g' r)(hk:K r):CallK P f own args g K:=by subst hg;exact CallK.intro (h.args ha) hk
theorem LoopR{σ ρ:Type}{aw:(Ex→St→Prop)→St→Prop}{Qx:Ex→St→Prop}{st:St}{f:σ→Option (σ ⊕ ρ)}{s0:σ}{o:ρ}(h:lp f s0=some o)(kp km:List Nat)(ut:σ→List (Nat × V))(um:σ→List (Nat × List V))
  (h0:fgS kp km st=hdS kp km (ut s0) (um s0) st)
  (hr:∀ (B:σ→Prop) (s:σ) (x:σ ⊕ ρ),f s=some x→(∀s',x=.inl s'→B s')→(∀p,x=.inr p→p=o)→aw (fun e st''=>match e with | .normal=>∃s',B s'∧fgS kp km st''=hdS kp km (ut s') (um s') st | e=>Qx e st'') (hdS kp km (ut s) (um s) st)):LoopK aw Qx st:=by
 obtain⟨n0,hn0⟩:=lp_run h
 refine LoopK.intro kp km ut um (fun n s=>runN f n s=some o) ⟨n0,s0,hn0,h0⟩ fun n s hs=>?_
 obtain⟨m,rfl,x,hx,hc⟩:=runN_out hs
 have:=hr (fun s'=>∃k,k<m+1∧runN f k s'=some o) s x hx (fun s' e=>by
  rcases hc with ⟨s2,e2,hc⟩ | e2
  ·rw [e2] at e;cases e;exact ⟨m,Nat.lt_succ_self _,hc⟩
  ·rw [e2] at e;cases e) (fun p e=>by
  rcases hc with ⟨s2,e2,hc⟩ | e2
  ·rw [e2] at e;cases e
  ·rw [e2] at e;cases e;rfl)
 have e:(fun(e:Ex) (st'':St)=>match e with | .normal=>∃s',(∃k,k<m+1∧runN f k s'=some o)∧fgS kp km st''=hdS kp km (ut s') (um s') st | e=>Qx e st'')=(fun e st''=>match e with | .normal=>∃k s',(k<m+1∧runN f k s'=some o)∧fgS kp km st''=hdS kp km (ut s') (um s') st | e=>Qx e st''):=by
  funext e st''
  cases e with
  | normal=>exact propext ⟨fun⟨s',⟨k,h1,h2⟩,h3⟩=>⟨k,s',⟨h1,h2⟩,h3⟩,fun⟨k,s',⟨h1,h2⟩,h3⟩=>⟨s',⟨k,h1,h2⟩,h3⟩⟩
  | _=>rfl
 rw [e] at this
 exact this
theorem LoopRG{σ ρ:Type}{aw:(Ex→St→Prop)→St→Prop}{Qx:Ex→St→Prop}{st:St}{f:σ→Option (σ ⊕ ρ)}{s0:σ}{o:ρ}(h:lp f s0=some o)(kp km:List Nat)(ut:σ→List (Nat × V))(um:σ→List (Nat × List V))(ug:σ→List (List V))
  (h0:fgS kp km st=hdG kp km (ut s0) (um s0) (ug s0) st)
  (hr:∀ (B:σ→Prop) (s:σ) (x:σ ⊕ ρ),f s=some x→(∀s',x=.inl s'→B s')→(∀p,x=.inr p→p=o)→aw (fun e st''=>match e with | .normal=>∃s',B s'∧fgS kp km st''=hdG kp km (ut s') (um s') (ug s') st | e=>Qx e st'') (hdG kp km (ut s) (um s) (ug s) st)):LoopK aw Qx st:=by
 obtain⟨n0,hn0⟩:=lp_run h
 refine LoopK.introG kp km ut um ug (fun n s=>runN f n s=some o) ⟨n0,s0,hn0,h0⟩ fun n s hs=>?_
 obtain⟨m,rfl,x,hx,hc⟩:=runN_out hs
 have:=hr (fun s'=>∃k,k<m+1∧runN f k s'=some o) s x hx (fun s' e=>by
  rcases hc with ⟨s2,e2,hc⟩ | e2
  ·rw [e2] at e;cases e;exact ⟨m,Nat.lt_succ_self _,hc⟩
  ·rw [e2] at e;cases e) (fun p e=>by
  rcases hc with ⟨s2,e2,hc⟩ | e2
  ·rw [e2] at e;cases e
  ·rw [e2] at e;cases e;rfl)
 have e:(fun(e:Ex) (st'':St)=>match e with | .normal=>∃s',(∃k,k<m+1∧runN f k s'=some o)∧fgS kp km st''=hdG kp km (ut s') (um s') (ug s') st | e=>Qx e st'')=(fun e st''=>match e with | .normal=>∃k s',(k<m+1∧runN f k s'=some o)∧fgS kp km st''=hdG kp km (ut s') (um s') (ug s') st | e=>Qx e st''):=by
  funext e st''
  cases e with
  | normal=>exact propext ⟨fun⟨s',⟨k,h1,h2⟩,h3⟩=>⟨k,s',⟨h1,h2⟩,h3⟩,fun⟨k,s',⟨h1,h2⟩,h3⟩=>⟨s',⟨k,h1,h2⟩,h3⟩⟩
  | _=>rfl
 rw [e] at this
 exact this
theorem bys_n:bys []=[]:=by rw [bys_eq];rfl
theorem Z0:type_of% (And.intro @rows_nil bys_n):=⟨@rows_nil,bys_n⟩
/-- Bytes and numbers. -/
noncomputable def i2b:Int→UInt8:=Classical.choose (kp fun(x:Int)=>UInt8.ofNat x.toNat)
theorem i2b_eq(x:Int):i2b x=UInt8.ofNat x.toNat:=by unfold i2b;rw [Classical.choose_spec (kp _)]
theorem F3:(∀h:Nonempty {y // y=fun(x:Int)=>UInt8.ofNat x.toNat},(Classical.choice h).1=i2b):=fun h=>(Classical.choice h).2.trans (Classical.choose_spec (kp _)).symm
theorem i2b_to{x:Int}(h:0≤x)(h':x<256):(((i2b x).toNat:Nat):Int)=x:=by rw [i2b_eq];simp;omega
theorem wrp8_in(x:Int):0≤wrp .u8 x∧wrp .u8 x<256:=by
 rw [wrp_eq];simp only [IntKind.wrap,IntKind.bits,IntKind.signed];simp;omega
theorem bl(x:Int)(h:0≤x∧x<256):[V.i .u8 x]=[V.i .u8 ((i2b x).toNat:Int)]:=by rw [i2b_to h.1 h.2]
theorem u8_in(y:Int):0≤IntKind.u8.wrap y∧IntKind.u8.wrap y<256:=by
 simp only [IntKind.wrap,IntKind.bits,IntKind.signed];simp;omega
theorem add8_in(x y:Int):0≤iop .add .u8 x y∧iop .add .u8 x y<256:=by rw [iop_eq];exact u8_in _
theorem or8_in(x y:Int):0≤iop .or .u8 x y∧iop .or .u8 x y<256:=by rw [iop_eq];exact u8_in _
theorem bw(x:Int):[V.i .u8 (wrp .u8 x)]=bytR (i2b (wrp .u8 x)):=bl _ (wrp8_in x)
theorem bb(b:UInt8):[V.i .u8 (b2i b)]=bytR b:=by rw [b2i_eq];rfl
theorem by1(b:UInt8):[bytR b]=bys [b]:=by rw [bys_rows];exact lit1 bytR b
theorem sn_b(l:List UInt8)(b:UInt8):sn (bys l) (bytR b)=bys (ap l [b]):=by rw [sn_eq,by1,app_ab]
theorem N_Byte:(∀h:Nonempty {y // y=fun(x:Int)=>UInt8.ofNat x.toNat},(Classical.choice h).1=i2b)∧(∀n:Int,rep_ n [V.i .u8 0]=bys (rp n 0)) ∧
 (∀f z b,V.sl f z [[V.i .u8 (b2i b)]]=V.sl f z (bys [b]))∧(∀f z x,V.sl f z [[V.i .u8 (wrp .u8 x)]]=V.sl f z (bys [i2b (wrp .u8 x)])) ∧
 (∀l b,sn (bys l) [V.i .u8 (b2i b)]=bys (ap l [b]))∧(∀l x,sn (bys l) [V.i .u8 (wrp .u8 x)]=bys (ap l [i2b (wrp .u8 x)])) ∧
 (∀f z x y u w,V.sl f z [[V.i .u8 (wrp .u8 x)],[V.i .u8 (wrp .u8 y)],[V.i .u8 (wrp .u8 u)],[V.i .u8 (wrp .u8 w)]]=V.sl f z (bys [i2b (wrp .u8 x),i2b (wrp .u8 y),i2b (wrp .u8 u),i2b (wrp .u8 w)])) ∧
 (∀l x y u w,app l [[V.i .u8 (wrp .u8 x)],[V.i .u8 (wrp .u8 y)],[V.i .u8 (wrp .u8 u)],[V.i .u8 (wrp .u8 w)]]=app l (bys [i2b (wrp .u8 x),i2b (wrp .u8 y),i2b (wrp .u8 u),i2b (wrp .u8 w)])) ∧
 (∀ (l:List UInt8) (i:Int) (x:Int),setAt (bys l) i [V.i .u8 (wrp .u8 x)]=bys (sl l i (i2b (wrp .u8 x)))) ∧
 (∀ (l:List UInt8) (i:Int) (x y:Int),setAt (bys l) i [V.i .u8 (iop .add .u8 x y)]=bys (sl l i (i2b (iop .add .u8 x y)))) ∧
 (∀ (l:List UInt8) (i:Int) (x y:Int),setAt (bys l) i [V.i .u8 (iop .or .u8 x y)]=bys (sl l i (i2b (iop .or .u8 x y)))) ∧
 (∀x y u w,unb [[V.i .u8 (wrp .u8 x)],[V.i .u8 (wrp .u8 y)],[V.i .u8 (wrp .u8 u)],[V.i .u8 (wrp .u8 w)]]=[i2b (wrp .u8 x),i2b (wrp .u8 y),i2b (wrp .u8 u),i2b (wrp .u8 w)]) ∧
 (∀x y u w,IsB [[V.i .u8 (wrp .u8 x)],[V.i .u8 (wrp .u8 y)],[V.i .u8 (wrp .u8 u)],[V.i .u8 (wrp .u8 w)]]=True):=by
 have e4:∀x y u w:Int,[[V.i .u8 (wrp .u8 x)],[V.i .u8 (wrp .u8 y)],[V.i .u8 (wrp .u8 u)],[V.i .u8 (wrp .u8 w)]]=bys [i2b (wrp .u8 x),i2b (wrp .u8 y),i2b (wrp .u8 u),i2b (wrp .u8 w)]:=fun x y u w=>by
  rw [bw,bw,bw,bw,bys_rows];exact lit4 bytR _ _ _ _
 refine ⟨F3,fun n=>by rw [bys_rows,←rep_rp bytR n 0];rfl,fun f z b=>by rw [bb,by1],fun f z x=>by rw [bw,by1],fun l b=>by rw [bb,sn_b],fun l x=>by rw [bw,sn_b],
  fun f z x y u w=>by rw [e4],fun l x y u w=>by rw [e4],fun l i x=>by rw [bw,bys_rows,bys_rows];exact setAt_sl bytR l i _,
  fun l i x y=>by rw [bl _ (add8_in x y),bys_rows,bys_rows];exact setAt_sl bytR l i _,fun l i x y=>by rw [bl _ (or8_in x y),bys_rows,bys_rows];exact setAt_sl bytR l i _,fun x y u w=>by rw [e4,unb_byt],fun x y u w=>by rw [e4,isB_b]⟩
theorem beq(e:Bool):e=true∨e=false:=by cases e <;> simp
open Classical in
/-- What a recursion comes to. -/
noncomputable def rc{α:Type}(g:Nat→Option α):Option α:=if h:∃r,∃n,g n=some r then some (Classical.choose h) else none
theorem rc_out{α:Type}{g:Nat→Option α}{r:α}(h:rc g=some r):∃n,g n=some r:=by
 unfold rc at h
 split at h
 ·rename_i hx
  obtain⟨n,hn⟩:=Classical.choose_spec hx
  injection h with h
  exact ⟨n,h▸hn⟩
 ·cases h
theorem rc_in{α:Type}{g:Nat→Option α}{r:α}(hm:∀n r,g n=some r→g (n+1)=some r){n:Nat}(h:g n=some r):rc g=some r:=by
 have hx:∃r,∃n,g n=some r:=⟨r,n,h⟩
 unfold rc
 rw [dif_pos hx]
 obtain⟨m,hm'⟩:=Classical.choose_spec hx
 have up:∀k n r,g n=some r→g (n+k)=some r:=by
  intro k
  induction k with
  | zero=>intro n r h;exact h
  | succ k ih=>intro n r h;exact hm _ _ (ih n r h)
 have h1:=up m n r h
 have h2:=up n m _ hm'
 rw [Nat.add_comm] at h2
 rw [h1] at h2
 injection h2 with h2
 rw [←h2]
end Go.Ar
