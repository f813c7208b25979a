import Derived.Test.YthhcbcokjlpahaaGreatArT
import Derived.Test.YthhcbcokjlpahaaGreatArRM
namespace Go.Ar
open Go.Proofs
set_option linter.unusedVariables false
set_option maxRecDepth 20000
/-- Rows of a list. -/
noncomputable def rows{α:Type}:(α→List V)→List α→List (List V):=Classical.choose (kp (List.map:(α→List V)→List α→List (List V)))
theorem rows_eq{α:Type}(f:α→List V)(l:List α):rows f l=l.map f:=by unfold rows;rw [Classical.choose_spec (kp _)]
/-- Functions of ours that the evaluation leaves alone: Q f. -/
theorem kq{α:Sort _}(x:α):∃y,y=x∧True:=⟨x,rfl,trivial⟩
noncomputable def Q{α:Sort _}(x:α):α:=Classical.choose (kq x)
theorem Q_eq{α:Sort _}(x:α):Q x=x:=(Classical.choose_spec (kq x)).1
/-- The kept constants, folded again behind an evaluation. -/
theorem F:(∀h:Nonempty {y // y=icmpF},(Classical.choice h).1=icmp) ∧
 (∀h:Nonempty {y // y=iopF},(Classical.choice h).1=iop) ∧
 (∀h:Nonempty {y // y=scmpF},(Classical.choice h).1=scmp) ∧
 (∀h:Nonempty {y // y=CallF},(Classical.choice h).1=CallK) ∧
 (∀h:Nonempty {y // y=LoopF},(Classical.choice h).1=LoopK) ∧
 (∀h:Nonempty {y // y=LeF},(Classical.choice h).1=LeV) ∧
 (∀h:Nonempty {y // y=unbF},(Classical.choice h).1=unb) ∧
 (∀h:Nonempty {y // y=fun(xs:List (List V)) (i:Int)=>if 0≤i then xs[i.toNat]? else none},(Classical.choice h).1=at_) ∧
 (∀h:Nonempty {y // y=fun(xs:List (List V)) (i:Int) (r:List V)=>xs.set i.toNat r},(Classical.choice h).1=setAt) ∧
 (∀h:Nonempty {y // y=fun(xs:List (List V)) (lo hi:Int)=>(xs.drop lo.toNat).take (hi.toNat-lo.toNat)},(Classical.choice h).1=subL) ∧
 (∀h:Nonempty {y // y=fun(a b:List UInt8)=>a++b},(Classical.choice h).1=sapp) ∧
 (∀h:Nonempty {y // y=fun(a:List UInt8) (lo hi:Int)=>(a.drop lo.toNat).take (hi.toNat-lo.toNat)},(Classical.choice h).1=ssub) ∧
 (∀h:Nonempty {y // y=fun(a:List UInt8)=>(a.length:Int)},(Classical.choice h).1=slen) ∧
 (∀h:Nonempty {y // y=fun(a:List (List V))=>(a.length:Int)},(Classical.choice h).1=llen) ∧
 (∀h:Nonempty {y // y=fun(a:List UInt8) (i:Int)=>((a.getD i.toNat 0).toNat:Int)},(Classical.choice h).1=sget) ∧
 (∀h:Nonempty {y // y=fun(a b:Int)=>a+b},(Classical.choice h).1=plus) ∧
 (∀h:Nonempty {y // y=fun(n:Int) (r:List V)=>List.replicate n.toNat r},(Classical.choice h).1=rep_) ∧
 (∀h:Nonempty {y // y=fun(a b:List (List V))=>a++b},(Classical.choice h).1=app) ∧
 (∀h:Nonempty {y // y=fun(a:List UInt8)=>a.map fun b=>[V.i .u8 b.toNat]},(Classical.choice h).1=bys) ∧
 (∀h:Nonempty {y // y=fun(k:IntKind) (n:Int)=>k.wrap n},(Classical.choice h).1=wrp) ∧
 (∀h:Nonempty {y // y=fun(i n:Int)=>0≤i∧i<n},(Classical.choice h).1=InR) ∧
 (∀h:Nonempty {y // y=fun(lo hi n:Int)=>0≤lo∧lo≤hi∧hi≤n},(Classical.choice h).1=InS) ∧
 (∀h:Nonempty {y // y=fun(n by_:Int)=>0≤n∧n*by_≤140737488355328∧n≤140737488355328},(Classical.choice h).1=Room) ∧
 (∀h:Nonempty {y // y=fun(xs:List (List V))=>∃l:List UInt8,xs=l.map fun b=>[V.i .u8 b.toNat]},(Classical.choice h).1=IsB) ∧
 (∀h:Nonempty {y // y=fun(a b:Int)=>max a b},(Classical.choice h).1=imax) ∧
 (∀h:Nonempty {y // y=fun(a b:Int)=>min a b},(Classical.choice h).1=imin) ∧
 (∀h:Nonempty {y // y=fun(xs:List (List V))=>∀r∈xs,scals r=true},(Classical.choice h).1=Sc) ∧
 (∀h:Nonempty {y // y=fun(xs:List (List V))=>xs.map fun r=>r.map shC},(Classical.choice h).1=shRows) ∧
 (∀h:Nonempty {y // y=Tryz.prog},(Classical.choice h).1=pg) ∧
 (∀ {α:Type} (h:Nonempty {y // y=(List.map:(α→List V)→List α→List (List V))}),(Classical.choice h).1=rows) ∧
 (∀ {α:Type} (a:α) (l:List α) (P:Prop),((a::l=[]→False)∧P)=P) ∧
 (∀h:Nonempty {y // y=CallMF},(Classical.choice h).1=CallMK) ∧
 (∀ {α:Type} (x:α) (h:Nonempty {y // y=x∧True}),(Classical.choice h).1=Q x) ∧
 (∀h:Nonempty {y // y=cpyF},(Classical.choice h).1=cpy) ∧
 (∀h:Nonempty {y // y=cpnF},(Classical.choice h).1=cpn) ∧
 (∀h:Nonempty {y // y=fun(z:Nat) (xs ys:List (List V))=>(∀r∈xs,scals r=true)∧(∀r∈ys,scals r=true)∧∀r∈ys,r.length=z},(Classical.choice h).1=CpOk) ∧
 (∀P:Prop,(True∧P)=P) ∧
 (∀n:Nat,Int.ofNat n=(n:Int)) :=
 ⟨fun h=>(Classical.choice h).2.trans icmp_eq.symm,
  fun h=>(Classical.choice h).2.trans iop_eq.symm,
  fun h=>(Classical.choice h).2.trans scmp_eq.symm,
  fun h=>(Classical.choice h).2.trans CallK_eq.symm,
  fun h=>(Classical.choice h).2.trans LoopK_eq.symm,
  fun h=>(Classical.choice h).2.trans LeV_eq.symm,
  fun h=>(Classical.choice h).2.trans (Classical.choose_spec (kp unbF)).symm,
  fun h=>(Classical.choice h).2.trans (Classical.choose_spec (kp _)).symm,
  fun h=>(Classical.choice h).2.trans (Classical.choose_spec (kp _)).symm,
  fun h=>(Classical.choice h).2.trans (Classical.choose_spec (kp _)).symm,
  fun h=>(Classical.choice h).2.trans (Classical.choose_spec (kp _)).symm,
  fun h=>(Classical.choice h).2.trans (Classical.choose_spec (kp _)).symm,
  fun h=>(Classical.choice h).2.trans (Classical.choose_spec (kp _)).symm,
  fun h=>(Classical.choice h).2.trans (Classical.choose_spec (kp _)).symm,
  fun h=>(Classical.choice h).2.trans (Classical.choose_spec (kp _)).symm,
  fun h=>(Classical.choice h).2.trans (Classical.choose_spec (kp _)).symm,
  fun h=>(Classical.choice h).2.trans (Classical.choose_spec (kp _)).symm,
  fun h=>(Classical.choice h).2.trans (Classical.choose_spec (kp _)).symm,
  fun h=>(Classical.choice h).2.trans (Classical.choose_spec (kp _)).symm,
  fun h=>(Classical.choice h).2.trans (Classical.choose_spec (kp _)).symm,
  fun h=>(Classical.choice h).2.trans (Classical.choose_spec (kp _)).symm,
  fun h=>(Classical.choice h).2.trans (Classical.choose_spec (kp _)).symm,
  fun h=>(Classical.choice h).2.trans (Classical.choose_spec (kp _)).symm,
  fun h=>(Classical.choice h).2.trans (Classical.choose_spec (kp _)).symm,
  fun h=>(Classical.choice h).2.trans (Classical.choose_spec (kp _)).symm,
  fun h=>(Classical.choice h).2.trans (Classical.choose_spec (kp _)).symm,
  fun h=>(Classical.choice h).2.trans (Classical.choose_spec (kp _)).symm,
  fun h=>(Classical.choice h).2.trans (Classical.choose_spec (kp _)).symm,
  fun h=>(Classical.choice h).2.trans pg_eq.symm,
  fun h=>(Classical.choice h).2.trans (Classical.choose_spec (kp _)).symm,
  fun a l P=>propext ⟨fun h=>h.2,fun h=>⟨(fun e=>by cases e),h⟩⟩,
  fun h=>(Classical.choice h).2.trans CallMK_eq.symm,
  fun x h=>(Classical.choice h).2.1.trans (Q_eq x).symm,
  fun h=>(Classical.choice h).2.trans cpy_eq.symm,
  fun h=>(Classical.choice h).2.trans cpn_eq.symm,
  fun h=>(Classical.choice h).2.trans (Classical.choose_spec (kp _)).symm,
  fun P=>propext ⟨fun h=>h.2,fun h=>⟨trivial,h⟩⟩,
  fun n=>rfl⟩
/-! What they say, for the last step. -/
theorem icmp_eql(a b:Int):icmp .eql a b=decide (a=b):=by rw [icmp_eq];simp only [icmpF];rw [Bool.eq_iff_iff];simp
theorem icmp_neq(a b:Int):icmp .neq a b=decide (a≠b):=by rw [icmp_eq];simp only [icmpF];rw [Bool.eq_iff_iff];simp
theorem icmp_lss(a b:Int):icmp .lss a b=decide (a<b):=by rw [icmp_eq];rfl
theorem icmp_leq(a b:Int):icmp .leq a b=decide (a≤b):=by rw [icmp_eq];rfl
theorem icmp_gtr(a b:Int):icmp .gtr a b=decide (b<a):=by rw [icmp_eq];rfl
theorem icmp_geq(a b:Int):icmp .geq a b=decide (b≤a):=by rw [icmp_eq];rfl
theorem scmp_eql(a b:List UInt8):scmp .eql a b=decide (a=b):=by rw [scmp_eq];simp only [scmpF];rw [Bool.eq_iff_iff];simp
theorem scmp_neq(a b:List UInt8):scmp .neq a b=decide (a≠b):=by rw [scmp_eq];simp only [scmpF];rw [Bool.eq_iff_iff];simp
theorem wrap_i64{x:Int}(h : -9223372036854775808≤x)(h':x≤9223372036854775807):IntKind.i64.wrap x=x:=by
 simp [IntKind.wrap,IntKind.bits,IntKind.signed];omega
theorem iop_add(a b:Int):iop .add .i64 a b=IntKind.i64.wrap (a+b):=by rw [iop_eq];rfl
theorem iop_sub(a b:Int):iop .sub .i64 a b=IntKind.i64.wrap (a-b):=by rw [iop_eq];rfl
theorem iop_mul(a b:Int):iop .mul .i64 a b=IntKind.i64.wrap (a*b):=by rw [iop_eq];rfl
theorem llen_rows{α:Type}(f:α→List V)(l:List α):llen (rows f l)=(l.length:Int):=by rw [llen_eq,rows_eq,List.length_map]
theorem at_rows{α:Type}{f:α→List V}{l:List α}{i:Int}{x:α}(h0:0≤i)(h:l[i.toNat]?=some x):at_ (rows f l) i=some (f x):=by
 rw [at_eq,if_pos h0,rows_eq,List.getElem?_map,h];rfl
theorem app_rows{α:Type}(f:α→List V)(a b:List α):app (rows f a) (rows f b)=rows f (a++b):=by rw [app_eq,rows_eq,rows_eq,rows_eq,List.map_append]
theorem subL_rows{α:Type}(f:α→List V)(l:List α)(lo hi:Int):subL (rows f l) lo hi=rows f ((l.drop lo.toNat).take (hi.toNat-lo.toNat)):=by rw [subL_eq,rows_eq,rows_eq,←List.map_drop,←List.map_take]
theorem setAt_rows{α:Type}(f:α→List V)(l:List α)(i:Int)(x:α):setAt (rows f l) i (f x)=rows f (l.set i.toNat x):=by rw [setAt_eq,rows_eq,rows_eq,List.map_set]
theorem rows_nil{α:Type}(f:α→List V):rows f []=[]:=by rw [rows_eq];rfl
theorem rows_one{α:Type}(f:α→List V)(x:α):[f x]=rows f [x]:=by rw [rows_eq];rfl
/-- A function's contract, the usual way: what it borrows it only looks at, what it returns is its own. -/
theorem ret0 {f : Nat} {fn : Func} {cd : Code} {args : List V} {g : List (List V)} {r : V} (hf : Tryz.prog.funcs[f]? = some fn) (hb : fn.body = some cd) (hd : okCd (env (fun _ => false) []) cd = true) (hnm : (fn.name == "runtime.NumGoroutine") = false) (ho : OwnV r)
  (hk:aw (env (fun _=>false) []) cd (fun e st=>match e with | .exit _=>False | _=>valL (env (fun _=>false) []) st fn.results.toList fun vs _=>bif okA (outV vs) then LeV (outV vs) r else False)
   { t:=args++List.replicate (fn.ntmps-args.length) (.tu []),m:=List.replicate fn.ntmps [],g:=g }):Ret pg f true args g r :=
 ret_of_aw (env_ok _ _) rfl (fun _=>rfl) pg_mixed (pg_func hf) hb hd hnm (fun _=>ho) hk
/-- A long piece of code, a part at a time: behind n steps the rest waits. -/
noncomputable def awN(E:Env):Nat→Code→(Ex→St→Prop)→St→Prop
 | n+1,.seq x y=>fun Qx st=>aw E x (fun e st'=>match e with | .normal=>awN E n y Qx st' | e=>Qx e st') st
 | 0,cd=>fun Qx st=>Q aw E cd Qx st
 | _+1,cd=>fun Qx st=>aw E cd Qx st
theorem awN_eq{E:Env}:∀ (n:Nat) (cd:Code),awN E n cd=aw E cd:=by
 intro n
 induction n with
 | zero=>intro cd;funext Qx st;unfold awN;rw [Q_eq]
 | succ n ih =>
  intro cd
  cases cd with
  | seq x y =>
   funext Qx st
   unfold awN
   rw [ih y]
   conv=>rhs;unfold aw
   refine congrArg (fun q=>aw E x q st) ?_
   funext e st'
   cases e <;> rfl
  | _=>funext Qx st;simp only [awN]
theorem awN.go{E:Env}(n:Nat){cd:Code}{Qx:Ex→St→Prop}{st:St}(h:awN E n cd Qx st):aw E cd Qx st:=by rwa [awN_eq] at h
def prEq(a b:PRow):Bool:=(match a.tt,b.tt with | true,true=>true | false,false=>true | _,_=>false) && (a.ms == b.ms && a.tu == b.tu)
theorem prEq_eq{a b:PRow}(h:prEq a b=true):a=b:=by
 obtain⟨t,m,u⟩:=a
 obtain⟨t',m',u'⟩:=b
 simp only [prEq,Bool.and_eq_true,beq_iff_eq] at h
 obtain⟨h1,rfl,rfl⟩:=h
 cases t <;> cases t' <;> first | rfl | cases h1
def prsEq:List PRow→List PRow→Bool
 | [],[]=>true
 | a::l,b::m=>prEq a b && prsEq l m
 | _,_=>false
theorem prsEq_eq:∀ {a b:List PRow},prsEq a b=true→a=b
 | [],[],_=>rfl
 | a::l,b::m,h=>by
  simp only [prsEq,Bool.and_eq_true] at h
  rw [prEq_eq h.1,prsEq_eq h.2]
 | [],_::_,h=>by cases h
 | _::_,[],h=>by cases h
def tabT:List (Nat × List PRow)→Nat→Option (List PRow)
 | [],_=>none
 | (k,r)::l,n=>bif Nat.beq k n then some r else tabT l n
/-- The rows of drawn regions, as they are given, are right. -/
def okT(E:Env)(tab:List (Nat × List PRow)):Code→Bool
 | .loop x=>okT E tab x
 | .seq x y=>okT E tab x && okT E tab y
 | .cond _ y z=>okT E tab y && okT E tab z
 | .block _ x=>okT E tab x
 | .region i ops true=>(match tabT tab i with | some r=>prsEq r (rowsO E ops.toList) | none=>true)
 | _=>true
/-- A drawn region in parts: behind n operations the rest waits. -/
noncomputable def regC(E:Env)(ops:List Oper):Nat→List (Oper × PRow)→List V→List V→St→(St→Prop)→Prop
 | _,[],_,_,st,K=>K st
 | 0,(o,r)::rest,s0,acc,st,K=>Q (regD E ops) ((o,r)::rest) s0 acc st K
 | n+1,(o,r)::rest,s0,acc,st,K =>
  (match r.tt with
  | true=>gdA ops o st (fun _=>opA E o st fun st'=>regC E ops n rest st'.t [] st' K) (fun _=>regC E ops n rest (pu st o.dst (.tu [])).t [] (pu st o.dst (.tu [])) K)
  | false=>stepP E ops o (maskS r.ms st) fun p=>(match chkP o.dst r p s0 acc with | true=>regC E ops n rest s0 (p.vs o.dst++acc) (apP o.dst p st) K | false=>False))
theorem regC_eq{E:Env}{ops:List Oper}:∀ (n:Nat) (l:List (Oper × PRow)) (s0 acc:List V) (st:St) (K:St→Prop),regC E ops n l s0 acc st K=regD E ops l s0 acc st K
 | _,[],_,_,_,_=>by simp only [regC,regD]
 | 0,(o,r)::rest,s0,acc,st,K=>by simp only [regC,Q_eq]
 | n+1,(o,r)::rest,s0,acc,st,K=>by
  simp only [regC,regD]
  simp only [regC_eq n rest]
  cases r.tt with
  | true=>rfl
  | false =>
   refine congrArg (stepP E ops o (maskS r.ms st)) ?_
   funext p
   cases chkP o.dst r p s0 acc <;> rfl
theorem regD.rest{E:Env}{ops:List Oper}{l:List (Oper × PRow)}{s0 acc:List V}{st:St}{K:St→Prop}(n:Nat)(h:regC E ops n l s0 acc st K):Q (regD E ops) l s0 acc st K:=by rw [Q_eq,←regC_eq n];exact h
noncomputable def regT(E:Env)(C:Nat)(tab:List (Nat × List PRow))(i:Nat)(ops:Array Oper)(dr:Bool)(K:Ex→St→Prop)(st:St):Prop :=
 match dr with
 | true=>(match tabT tab i with | some r=>regC E ops.toList C (ops.toList.zip r) st.t [] st (K .normal) | none=>aw E (.region i ops true) K st)
 | false=>aw E (.region i ops false) K st
/-- Code in parts: behind n regions the rest waits, and goes on for B regions when it is taken up. -/
noncomputable def awF(E:Env)(C:Nat)(tab:List (Nat × List PRow))(B:Nat):Code→(Nat→Ex→St→Prop)→Nat→St→Prop
 | .region i ops dr,K,0,st=>Q (regT E C tab) i ops dr (K B) st
 | .region i ops dr,K,n+1,st=>regT E C tab i ops dr (K n) st
 | .skip,K,n,st=>K n .normal st
 | .seq x y,K,n,st=>awF E C tab B x (fun n e st'=>match e with | .normal=>awF E C tab B y K n st' | e=>K n e st') n st
 | .cond x y z,K,n,st=>(match ev st x with | .b t=>(match t with | true=>awF E C tab B y K n st | false=>awF E C tab B z K n st) | _=>False)
 | .block id x,K,n,st=>awF E C tab B x (fun n e st'=>match e with | .exit m=>bif Nat.beq m id then K n .normal st' else K n (.exit m) st' | e=>K n e st') n st
 | .exit m,K,n,st=>K n (.exit m) st
 | .ret,K,n,st=>K n .ret st
 | .loop x,K,n,st=>LoopK (fun Qx st=>awF E C tab B x (fun _=>Qx) B st) (K n) st
 | cd,K,n,st=>aw E cd (K n) st
theorem regT_eq{E:Env}{C:Nat}{tab:List (Nat × List PRow)}{i:Nat}{ops:Array Oper}{dr:Bool}(hok:okT E tab (.region i ops dr)=true)(K:Ex→St→Prop)(st:St):regT E C tab i ops dr K st=aw E (.region i ops dr) K st:=by
 unfold regT
 cases dr with
 | false=>rfl
 | true =>
  simp only [okT] at hok
  cases ht:tabT tab i with
  | none=>rfl
  | some r =>
   rw [ht] at hok
   simp only
   rw [prsEq_eq hok,regC_eq]
   unfold aw
   rfl
theorem awF_eq{E:Env}{C:Nat}{tab:List (Nat × List PRow)}{B:Nat}:∀ (cd:Code),okT E tab cd=true→∀ (K:Nat→Ex→St→Prop) (K0:Ex→St→Prop),(∀n,K n=K0)→∀n st,awF E C tab B cd K n st=aw E cd K0 st:=by
 intro cd
 induction cd with
 | region i ops dr =>
  intro hok K K0 h n st
  cases n with
  | zero=>unfold awF;rw [Q_eq,h];exact regT_eq hok K0 st
  | succ n=>unfold awF;rw [h];exact regT_eq hok K0 st
 | seq x y hx hy =>
  intro hok K K0 h n st
  simp only [okT,Bool.and_eq_true] at hok
  unfold awF aw
  refine hx hok.1 _ _ (fun n=>?_) n st
  funext e st'
  cases e with
  | normal=>exact hy hok.2 K K0 h n st'
  | _=>rw [h]
 | cond x y z hy hz =>
  intro hok K K0 h n st
  simp only [okT,Bool.and_eq_true] at hok
  unfold awF aw
  simp only [hy hok.1 K K0 h,hz hok.2 K K0 h]
  cases ev st x with
  | b t=>cases t <;> rfl
  | _=>rfl
 | block id x hx =>
  intro hok K K0 h n st
  simp only [okT] at hok
  unfold awF aw
  refine hx hok _ _ (fun n=>?_) n st
  funext e st'
  cases e <;> simp only [h]
 | skip=>intro hok K K0 h n st;unfold awF aw;rw [h]
 | exit m=>intro hok K K0 h n st;unfold awF aw;rw [h]
 | ret=>intro hok K K0 h n st;unfold awF aw;rw [h]
 | loop x hx =>
  intro hok K K0 h n st
  simp only [okT] at hok
  unfold awF aw
  rw [h]
  have e:(fun Qx st=>awF E C tab B x (fun _=>Qx) B st)=aw E x:=by
   funext Qx st
   exact hx hok (fun _=>Qx) Qx (fun _=>rfl) B st
  rw [e]
 | _=>intro hok K K0 h n st;simp only [awF,h]
theorem awF.goC{E:Env}(B C:Nat)(tab:List (Nat × List PRow)){cd:Code}{Qx:Ex→St→Prop}{st:St}(hok:okT E tab cd=true)(h:awF E C tab B cd (fun _=>Qx) B st):aw E cd Qx st:=by
 rwa [awF_eq cd hok (fun _=>Qx) Qx (fun _=>rfl)] at h
theorem awF.rest{E:Env}{C:Nat}{tab:List (Nat × List PRow)}{i:Nat}{ops:Array Oper}{dr:Bool}{K:Ex→St→Prop}{st:St}(h:regT E C tab i ops dr K st):Q (regT E C tab) i ops dr K st:=by rw [Q_eq];exact h
theorem awF.go{E:Env}(B:Nat)(tab:List (Nat × List PRow)){cd:Code}{Qx:Ex→St→Prop}{st:St}(hok:okT E tab cd=true)(h:awF E 1000 tab B cd (fun _=>Qx) B st):aw E cd Qx st:=awF.goC B 1000 tab hok h
theorem awN.rest{E:Env}{cd:Code}{Qx:Ex→St→Prop}{st:St}(h:aw E cd Qx st):Q aw E cd Qx st:=by rw [Q_eq];exact h
theorem isPu_ti{E E':Env}(h:E.ti=E'.ti)(o:Oper):isPu E o=isPu E' o:=by unfold isPu;rw [h]
theorem bfs_ti{E E':Env}(h:E.ti=E'.ti):∀ (os:List Oper) (tb:List Bf),bfs E os tb=bfs E' os tb
 | [],_=>rfl
 | o::os,tb=>by unfold bfs;rw [isPu_ti h,bfs_ti h os]
theorem okPl_ti{E E':Env}(h:E.ti=E'.ti)(ops:Array Oper):okPl E ops=okPl E' ops:=by
 unfold okPl rowsO tbl
 simp only [bfs_ti h,isPu_ti h]
theorem okCd_ti{E E':Env}(h:E.ti=E'.ti)(cd:Code):okCd E cd=okCd E' cd:=by
 induction cd with
 | seq x y hx hy=>unfold okCd;rw [hx,hy]
 | cond x y z hy hz=>unfold okCd;rw [hy,hz]
 | block n x hx=>unfold okCd;exact hx
 | loop x hx=>unfold okCd;exact hx
 | region n ops draw=>unfold okCd;rw [okPl_ti h]
 | _=>simp only [okCd]
/-- The contract of a function that writes into the roots it is handed. -/
theorem ret0M {f : Nat} {fn : Func} {cd : Code} {vals : List Value} {args gs gs' : List V} {r : V} (hf : Tryz.prog.funcs[f]? = some fn) (hb : fn.body = some cd) (hd : okCd (env (fun _ => false) []) cd = true) (hnm : (fn.name == "runtime.NumGoroutine") = false)
  (hr:scalT r=true) (h1:OwnVs gs) (h1':allSl gs=true) (h2:OwnVs gs') (h2':allSl gs'=true) (hl':gs'.length=vals.length)
  (hk:aw (envM vals) cd (fun e st=>match e with | .exit _=>False | _=>valL (envM vals) st fn.results.toList fun vs st2=>bif okA (outV vs) then LeV (outV vs) r∧st2.g=gRows gs' else False)
   { t:=args++List.replicate (fn.ntmps-args.length) (.tu []),m:=List.replicate fn.ntmps [],g:=gRows gs }):RetM pg f vals args gs r gs' :=
 ret_of_awM (envM_ok vals) rfl (fun _=>rfl) (fun _=>rfl) pg_mixed (pg_func hf) hb ((okCd_ti (E:=envM vals) (E':=env (fun _=>false) []) rfl cd).trans hd) hnm hr h1 h1' h2 h2' hl' hk
theorem LeV.to{v r r':V}(hr:r=r')(h:LeF v r):LeV v r':=by rw [LeV_eq];exact hr▸h
theorem LeV.tb{x y:Bool}{r:V}(hr:V.b y=r)(h:x=y):LeV (.b x) r:=by subst h;exact LeV.to hr (LeF.rfl' _)
theorem LeV.ti{k:IntKind}{x y:Int}{r:V}(hr:V.i k y=r)(h:x=y):LeV (.i k x) r:=by subst h;exact LeV.to hr (LeF.rfl' _)
theorem LeV.ts{x y:List UInt8}{r:V}(hr:V.s y=r)(h:x=y):LeV (.s x) r:=by subst h;exact LeV.to hr (LeF.rfl' _)
theorem at_rowsN{α:Type}{f:α→List V}{l:List α}{i:Nat}{x:α}(h:l[i]?=some x):at_ (rows f l) (i:Int)=some (f x):=at_rows (by omega) (by simpa using h)
theorem inr_rowsN{α:Type}{f:α→List V}{l:List α}{i:Nat}{x:α}(h:l[i]?=some x):InR (i:Int) (llen (rows f l)):=by
 rw [InR_eq,llen_rows]
 have:=(List.getElem?_eq_some_iff.1 h).1
 omega
theorem get_lt{α:Type}{l:List α}{i:Nat}(h:i<l.length):∃x,l[i]?=some x:=⟨_,List.getElem?_eq_getElem h⟩
theorem add_one{i n:Nat}(h:i<n)(hn:n≤4611686018427387904):iop .add .i64 (i:Int) 1=((i+1:Nat):Int):=by
 rw [iop_add,wrap_i64 (by omega) (by omega)];omega
/-! Rows of plain things. -/
def intR(n:Int):List V:=[.i .i64 n]
def strR(s:List UInt8):List V:=[.s s]
def bytR(n:UInt8):List V:=[.i .u8 n.toNat]
theorem bys_rows(l:List UInt8):bys l=rows bytR l:=by rw [bys_eq,rows_eq];rfl
theorem own_rows{α:Type}{f:α→List V}{l:List α}(h:∀x∈l,OwnVs (f x)):OwnRs (rows f l):=by
 rw [rows_eq]
 induction l with
 | nil=>trivial
 | cons x l ih=>exact ⟨h x (by simp),ih fun y hy=>h y (by simp [hy])⟩
end Go.Ar
