import Derived.Test.YthhcbcokjlpahaaGreatArOC
namespace Go.Ar
set_option linter.unusedVariables false
set_option linter.unusedSimpArgs false
section ops
variable {E:Env} {c:Cx} {o:Oper}
/-! ### Calls -/
def vrE(E:Env)(g:Nat):Bool:=(E.gx g).isSome
theorem vrE_ok{E:Env}{c:Cx}(hfit:Fit E c):∀g,vrE E g=true→∃v,c.gl g=.val v:=fun g h=>by
 unfold vrE at h
 cases hx:E.gx g with
 | none=>rw [hx] at h;cases h
 | some u=>exact ⟨u,hfit.gx g u hx⟩
/-- A call that only borrows. -/
noncomputable def callQ(E:Env)(st:St)(x:Operand)(args:List Operand)(K:V→Prop):Prop :=
 match ev st x with
 | .fn f caps=>brL E st 0 (args.map (ev st)++caps) fun vs g=>CallK E.P f true vs g fun r=>bif okA r then K r else False
 | _=>False
/-- The arguments that are given away. -/
noncomputable def mvd(E:Env):St→List Bool→List Operand→(List (Option V)→St→Prop)→Prop
 | st,_,[],K=>K [] st
 | st,[],x::xs,K=>mvd E st [] xs fun vs st'=>K (none::vs) st'
 | st,b::bs,x::xs,K=>bif b then coA { E with lend:=false } st x fun v st'=>mvd E st' bs xs fun vs st''=>K (some v::vs) st'' else mvd E st bs xs fun vs st'=>K (none::vs) st'
def others:List (Option V)→List V→List V
 | none::vs,x::xs=>x::others vs xs
 | some _::vs,_::xs=>others vs xs
 | _,_=>[]
def somes:List (Option V)→List V
 | []=>[]
 | none::vs=>somes vs
 | some v::vs=>v::somes vs
def mrg:List (Option V)→List V→List V
 | [],bs=>bs
 | some v::vs,bs=>v::mrg vs bs
 | none::vs,b::bs=>b::mrg vs bs
 | none::vs,[]=>mrg vs []
noncomputable def OwnK:List V→Prop:=Classical.choose (kp OwnVs)
theorem OwnK_eq:OwnK=OwnVs:=Classical.choose_spec (kp OwnVs)
/-- A call to which some of its arguments are given away. -/
noncomputable def callV(E:Env)(st:St)(f:Nat)(x:Operand)(args:List Operand)(K:V→St→Prop):Prop :=
 mvd E st (E.mv f) args fun vs st'=>OwnK (somes vs) ∧
  (match ev st' x with
  | .fn f' caps=>brL E st' 0 (others vs (args.map (ev st'))++caps) fun bs g=>CallK E.P f' true (mrg vs bs) g fun r=>bif okA r then K r { st' with t:=killW (vrE E) st' st'.t } else False
  | _=>False)
/-- Calls of functions that write into an argument. -/
def del{α:Type}:Nat→List α→List α
 | _,[]=>[]
 | 0,_::xs=>xs
 | n+1,x::xs=>x::del n xs
def insV:Nat→V→List V→List V
 | 0,v,bs=>v::bs
 | _+1,v,[]=>[v]
 | n+1,v,b::bs=>b::insV n v bs
noncomputable def callMB(E:Env)(st1:St)(f' j:Nat)(args:List Operand)(v:V)(hs:List (Pl × Nat × Value))(gs:List V)(K:V→St→Prop):Prop :=
 brL E st1 0 ((del j args).map (ev st1)) fun bs g=>match g with
  | []=>CallMK E.P f' (hs.map fun x=>x.2.2) (insV j v bs) gs fun r gs'=>fillHs E { st1 with t:=killW (vrE E) st1 st1.t } hs gs' fun st2=>K r st2
  | _=>False
noncomputable def callM(E:Env)(st:St)(j:Nat)(x:Operand)(args:List Operand)(K:V→St→Prop):Prop :=
 match ev st x with
 | .fn f' [] =>
  (match args[j]? with
  | some y =>
   (match ev st y with
   | .ag cs=>bif flatVs cs then takeHs E st 0 cs fun cs' hs gs st1=>callMB E st1 f' j args (.ag cs') hs gs K else False
   | .rf p z none=>takeH E st p z fun hv xs st1=>callMB E st1 f' j args (.rf ⟨.gl 0,[],0⟩ z none) [(p,z,hv)] [.sl .own z xs] K
   | .cv (k,z) u=>(match E.gx k with
    | some u'=>u'=u∧takeH E st ⟨.gl k,[],0⟩ z fun hv xs st1=>callMB E st1 f' j args (.rf ⟨.gl 0,[],0⟩ z none) [(⟨.gl k,[],0⟩,z,hv)] [.sl .own z xs] K
    | none=>False)
   | _=>False)
  | none=>False)
 | _=>False
noncomputable def callA(E:Env)(st:St)(x:Operand)(args:List Operand)(K:V→St→Prop):Prop :=
 match ev st x with
 | .fn f caps =>
  (match E.ln f with
  | true =>
   (match caps with
   | []=>coL { E with lend:=true } st args fun vs st'=>bif okAs vs then CallK E.P f false (shVs vs) [] fun r=>(bif okA r then K r st' else False) else False
   | _=>False)
  | false=>(match E.mu f with | some j=>callM E st j x args K | none=>(match E.mv f with | []=>callQ E st x args fun r=>K r st | _=>callV E st f x args K)))
 | _=>False
theorem Fit.lendy(h:Fit E c):Fit { E with lend:=true } c:=⟨h.gm,h.gv,h.gx⟩
theorem run_call{P:Program}{a:Act}{w:World}{o:Oper}{x:Operand}{args:Array Operand}{ts:Array TypeId}{f:Nat}{caps:Array Value}{fn:Func}(ho:o.op=.call { callee:=.value x,args:=args,argTypes:=ts })
  (hx : a.eval x = .func (.func f) #[] caps) (hf : P.funcs[f]? = some fn) (hb : fn.body.isNone = false) (hn : (fn.name == "runtime.NumGoroutine") = false) :
  (execOp a.eval o).run P w=.ok (.enter f (args.map a.eval++caps)) w:=by
 have hn' : ¬ fn.name = "runtime.NumGoroutine" := by simpa using hn
 have hb':¬fn.body=none:=by intro e;rw [e] at hb;cases hb
 simp [execOp,ho,resolve,hx,Deferred.ofValue,invoke,callFunc,hf,hb',hn']
theorem callQ_sound(hfit:Fit E c){x:Operand}{args:Array Operand}{ts:Array TypeId}(ho:o.op=.call { callee:=.value x,args:=args,argTypes:=ts }) :
  OpQ E c o fun st K=>callQ E st x args.toList K:=by
 intro st a w G K N Q h hk hN
 unfold callQ at hk
 obtain⟨Tx,hTx,hx⟩:=h.evB x
 split at hk
 ·rename_i f caps hg
  rw [hg] at hx
  simp only [RepT] at hx
  obtain⟨cvs,hxv,hcaps⟩:=hx
  obtain⟨vs',g,srcs,k1,k2,k3,k4⟩:=brL_sound h hfit (S:=Old w) (fun b hb=>hb.elim (fun hb=>(h.ob b hb).1) (fun hb=>(h.sb b hb).1)) _ _ 0 [] _ rfl (RepW.app (RepTs.weak _ _ _ hTx hcaps) _ _ (h.evs args.toList)) hk
  rw [CallK_eq] at k1
  obtain⟨r,⟨⟨fn,f1,f2,f3⟩,hret⟩,k7⟩:=k1
  cases hro:okA r with
  | false=>rw [hro] at k7;exact k7.elim
  | true =>
   rw [hro] at k7
   have hcall:=hret w (Old w) (fun _=>False) srcs _ (fun b hb=>hb) (fun _ h=>h.elim) k4 k3
   unfold Oper.wp
   rw [run_call ho hxv f1 f2 f3,Oper.upon_enter]
   have hae:args.map a.eval++cvs.toArray=((args.toList.map a.eval++cvs).toArray):=by
    apply Array.ext';simp
   rw [hae]
   refine hcall.mono fun e w' hp=>?_
   obtain⟨v,Sh',T2,rfl,hpv,hpw⟩:=hp
   have hbl:RowKit.Below w.heap.size w w':=⟨hpw.os,hpw.tape,hpw.output,hpw.sz,fun b hb=>hpw.fr b hb (fun h=>h)⟩
   exact hN r v w' T2 k7 hbl (hpv.rep (fun b hb=>hpw.sh b (h.sb b hb).1) (fun e=>by cases e) hro) (fun b hb=>by
    obtain⟨z1,z2⟩:=hpw.t' b hb
    rcases z2 with z2 | z2
    ·exact ⟨z2,z1⟩
    ·exact z2.elim)
 ·exact hk.elim
/-- Some of the arguments' values, held by nobody else. -/
def RepO(w:World)(Sh:Nat→Prop)(ρ:Rt→Option Sr):List (Option V)→List Value→(Nat→Prop)→Prop
 | [],[],_=>True
 | none::vs,_::us,T=>RepO w Sh ρ vs us T
 | some v::vs,u::us,T=>∃T1 T2,RepT w Sh ρ v u T1∧RepO w Sh ρ vs us T2∧(∀x,T1 x→T x∧¬T2 x)∧(∀x,T2 x→T x)
 | _,_,_=>False
theorem mvd_sound(hfit:Fit E c){a:Act}{w:World}:∀ (xs:List Operand) (bs:List Bool) (st:St) (G:Gh) (K:List (Option V)→St→Prop),Rel c st a w G→mvd E st bs xs K →
  ∃ (vs:List (Option V)) (st':St) (G':Gh) (T':Nat→Prop),K vs st'∧Rel c st' a w G'∧RepO w G'.Sh (Ar.rho c G') vs (xs.map a.eval) T'∧Free c w G' T'∧Later w G G'∧(∀b,T' b→G.ow b≠.no)
 | [],bs,st,G,K,h,hk=>by
  unfold mvd at hk
  exact ⟨[],st,G,fun _=>False,hk,h,trivial,none_free,Later.refl _ _,fun _ h=>h.elim⟩
 | x::xs,bs,st,G,K,h,hk=>by
  have skip:∀bs',(mvd E st bs' xs fun vs st'=>K (none::vs) st')→∃ (vs:List (Option V)) (st':St) (G':Gh) (T':Nat→Prop),K vs st'∧Rel c st' a w G'∧RepO w G'.Sh (Ar.rho c G') vs ((x::xs).map a.eval) T'∧Free c w G' T'∧Later w G G'∧(∀b,T' b→G.ow b≠.no):=by
   intro bs' hk
   obtain⟨vs,st',G',T',k1,k2,k3,k4,k5,k6⟩:=mvd_sound hfit xs bs' st G _ h hk
   exact ⟨none::vs,st',G',T',k1,k2,k3,k4,k5,k6⟩
  cases bs with
  | nil=>unfold mvd at hk;exact skip [] hk
  | cons b bs =>
   unfold mvd at hk
   cases b with
   | false=>exact skip bs hk
   | true =>
    simp only [cond_true] at hk
    obtain⟨V',st1,G1,T1,k1,k2,k3,k4,k5,k6⟩:=coA_sound (E:={ E with lend:=false }) ⟨hfit.gm,hfit.gv,hfit.gx⟩ h hk
    obtain⟨vs,st2,G2,T2,q1,q2,q3,q4,q5,q6⟩:=mvd_sound hfit xs bs st1 G1 _ k2 k1
    refine ⟨some V' :: vs,st2,G2,(fun b=>T1 b∨T2 b),q1,q2,?_,fun b hb=>hb.elim (q5.free k4 b) (q4 b),k5.trans q5,fun b hb=>hb.elim (k6 b) (fun hb e=>q6 b hb (k5.no b e))⟩
    exact ⟨T1,T2,q5.repT (fun b hb=>(k4 b hb).1) k3,q3,fun x hx=>⟨.inl hx,fun hh=>q6 x hh (k4 x hx).1⟩,fun x hx=>.inr hx⟩
theorem others_rep{w:World}{Sh B:Nat→Prop}{ρ ρ2:Rt→Option Sr}{Sh2:Nat→Prop}:∀ (vs:List (Option V)) (us:List Value) (T:Nat→Prop) (xs:List V),RepO w Sh2 ρ2 vs us T→RepW w Sh B ρ xs us→∃us',RepW w Sh B ρ (others vs xs) us' ∧
  ∀ (S H:Nat→Prop) (ρ':Rt→Option Sr) (bs cs:List V) (ws:List Value),OwnVs (somes vs)→(∀b,T b→¬Sh2 b→¬S b∧H b)→(∀b,H b→True)→RepTs w S ρ' bs (us' ++ ws) (fun _=>False)→RepTs w S ρ' (mrg vs bs) (us++ws) (fun b=>T b∧¬Sh2 b)
 | [],[],T,xs,h,hw=>by
  cases xs with
  | nil=>exact ⟨[],trivial,fun S H ρ' bs cs ws ho hT hH hb=>RepTs.mono _ _ _ _ (fun _ h=>h.elim) hb⟩
  | cons _ _=>exact hw.elim
 | none::vs,u::us,T,xs,h,hw=>by
  cases xs with
  | nil=>exact hw.elim
  | cons x xs =>
   obtain⟨us',k1,k2⟩:=others_rep vs us T xs h hw.2
   refine ⟨u::us',⟨hw.1,k1⟩,fun S H ρ' bs cs ws ho hT hH hb=>?_⟩
   cases bs with
   | nil=>simp only [List.cons_append,RepTs] at hb
   | cons b bs =>
    simp only [List.cons_append,RepTs] at hb
    obtain⟨T1,T2,h1,h2,d1,d2⟩:=hb
    simp only [mrg,List.cons_append,RepTs]
    exact ⟨fun _=>False,_,RepT.mono _ _ _ _ (fun x hx=>(d1 x hx).1) h1,k2 S H ρ' bs cs ws ho hT hH (RepTs.mono _ _ _ _ d2 h2),fun _ h=>h.elim,fun _ h=>h⟩
 | some v::vs,u::us,T,xs,h,hw=>by
  cases xs with
  | nil=>exact hw.elim
  | cons x xs =>
   obtain⟨T1,T2,h1,h2,d1,d2⟩:=h
   obtain⟨us',k1,k2⟩:=others_rep vs us T2 xs h2 hw.2
   refine ⟨us',k1,fun S H ρ' bs cs ws ho hT hH hb=>?_⟩
   simp only [somes,OwnVs] at ho
   simp only [mrg,List.cons_append,RepTs]
   exact ⟨_,_,RepT.own_re v u T1 ho.1 (fun b hb hn=>(hT b (d1 b hb).1 hn).1) h1,k2 S H ρ' bs cs ws ho.2 (fun b hb hn=>hT b (d2 b hb) hn) hH hb,
    fun x hx=>⟨⟨(d1 x hx.1).1,hx.2⟩,fun hh=>(d1 x hx.1).2 hh.1⟩,fun x hx=>⟨d2 x hx.1,hx.2⟩⟩
 | [],_::_,_,_,h,_=>h.elim
 | none::_,[],_,_,h,_=>h.elim
 | some _::_,[],_,_,h,_=>h.elim
theorem callV_sound(hfit:Fit E c){x:Operand}{args:Array Operand}{ts:Array TypeId}(ho:o.op=.call { callee:=.value x,args:=args,argTypes:=ts })(f:Nat) :
  OpS E c o fun st K=>callV E st f x args.toList fun v st'=>K (pu st' o.dst v):=by
 intro st a w G K N Q h hk hN
 unfold callV at hk
 obtain⟨vs,st',G',T',⟨k0,k1⟩,k2,k3,k4,k5,k6⟩:=mvd_sound hfit _ _ st G _ h hk
 rw [OwnK_eq] at k0
 obtain⟨Tx,hTx,hx⟩:=k2.evB x
 split at k1
 ·rename_i f' caps hg
  rw [hg] at hx
  simp only [RepT] at hx
  obtain⟨cvs,hxv,hcaps⟩:=hx
  obtain⟨us',o1,o2⟩:=others_rep vs _ T' _ k3 (k2.evs args.toList)
  have hS:∀b,G'.ow b≠.no∨G'.Sh b→(b<w.heap.size∧¬ (T' b∧¬G'.Sh b)):=by
   intro b hb
   rcases hb with hb | hb
   ·exact ⟨(k2.ob b hb).1,fun hh=>hb (k4 b hh.1).1⟩
   ·exact ⟨(k2.sb b hb).1,fun hh=>hh.2 hb⟩
  obtain⟨bs,g,srcs,b1,b2,b3,b4⟩:=brL_sound k2 hfit (S:=fun b=>b<w.heap.size∧¬ (T' b∧¬G'.Sh b)) hS _ _ 0 [] _ rfl (RepW.app (RepTs.weak _ _ _ hTx hcaps) _ _ o1) k1
  rw [CallK_eq] at b1
  obtain⟨r,⟨⟨fn,f1,f2,f3⟩,hret⟩,k7⟩:=b1
  cases hro:okA r with
  | false=>rw [hro] at k7;exact k7.elim
  | true =>
   rw [hro] at k7
   have hargs:=o2 (fun b=>b<w.heap.size∧¬ (T' b∧¬G'.Sh b)) (fun b=>T' b∧¬G'.Sh b) (rg ([]++srcs)) bs caps cvs k0 (fun b h1 h2=>⟨fun hh=>hh.2 ⟨h1,h2⟩,h1,h2⟩) (fun _ _=>trivial) b4
   have hcall:=hret w _ (fun b=>T' b∧¬G'.Sh b) srcs _ (fun b hb=>hb.1) (fun b hb=>(k4 b hb.1).2.1) hargs b3
   unfold Oper.wp
   rw [run_call ho hxv f1 f2 f3,Oper.upon_enter]
   have hae:args.map a.eval++cvs.toArray=((args.toList.map a.eval++cvs).toArray):=by
    apply Array.ext';simp
   rw [hae]
   refine hcall.mono fun e w' hp=>?_
   obtain⟨v,Sh',T2,rfl,hpv,hpw⟩:=hp
   have hno:∀b,w.heap.size≤b→G'.ow b=.no:=fun b hb=>by
    cases ho':G'.ow b with
    | no=>rfl
    | _=>have:=(k2.ob b (by rw [ho'];simp)).1;omega
   have hchg:=k2.chg (vrE_ok hfit) (w':=w') (fun b hb hh=>hpw.fr b hb (fun hx=>hh.elim (fun e=>e (k4 b hx.1).1) hx.2)) (fun b q1 q2=>hpw.fr b (Nat.lt_of_lt_of_le q1 k2.sz) (fun hx=>(k4 b hx.1).2.2.elim (fun e=>by omega) q2)) hpw.sz hpw.os hpw.tape hpw.output
   obtain⟨G3,hG⟩:=hchg.put1 o.dst (v:=r) (u:=v) (T:=T2) (hpv.rep (fun b hb=>hpw.sh b (hS b (.inr hb))) (fun e=>by cases e) hro) (fun b hb=>by
    obtain⟨z1,z2⟩:=hpw.t' b hb
    rcases z2 with z2 | z2
    ·exact ⟨hno b z2,z1,.inl (Nat.le_trans k2.sz z2)⟩
    ·exact ⟨(k4 b z2.1).1,z1,(k4 b z2.1).2.2⟩)
   exact hN _ _ _ _ k7 hG
 ·exact k1.elim
theorem scalV_rep{w w':World}{S S':Nat→Prop}{ρ ρ':Rt→Option Sr}{v:V}{u:Value}{T T':Nat→Prop}(hs:scalT v=true)(h:RepT w S ρ v u T):RepT w' S' ρ' v u T':=by
 rcases scalT_or hs with rfl | hs
 ·simp only [RepT] at h ⊢
  obtain⟨vs,h1,h2⟩:=h
  cases vs with
  | nil=>exact ⟨[],h1,by simp only [RepTs]⟩
  | cons _ _=>simp only [RepTs] at h2
 cases v with
 | b _=>exact h
 | i _ _=>exact h
 | s _=>exact h
 | _=>cases hs
theorem insV_rep{w:World}{S:Nat→Prop}{ρ:Rt→Option Sr}{a:Act}:∀ (j:Nat) (args:List Operand) (y:Operand) (v:V) (bs:List V),args[j]?=some y→RepT w S ρ v (a.eval y) (fun _=>False)→RepTs w S ρ bs ((del j args).map a.eval) (fun _=>False) →
  RepTs w S ρ (insV j v bs) (args.map a.eval) (fun _=>False)
 | _,[],_,_,_,h,_,_=>by simp at h
 | 0,x::xs,y,v,bs,h,hv,hb=>by
  obtain rfl:x=y:=by simpa using h
  simp only [insV,List.map_cons,RepTs]
  exact ⟨fun _=>False,fun _=>False,hv,hb,fun _ hh=>hh.elim,fun _ hh=>hh⟩
 | n+1,x::xs,y,v,[],h,hv,hb=>by simp only [del,List.map_cons,RepTs] at hb
 | n+1,x::xs,y,v,b::bs,h,hv,hb=>by
  simp only [del,List.map_cons,RepTs] at hb
  obtain⟨T1,T2,h1,h2,d1,d2⟩:=hb
  simp only [insV,List.map_cons,RepTs]
  exact ⟨fun _=>False,fun _=>False,RepT.mono _ _ _ _ (fun x hx=>(d1 x hx).1) h1,insV_rep n xs y v bs (by simpa using h) hv (RepTs.mono _ _ _ _ d2 h2),fun _ hh=>hh.elim,fun _ hh=>hh⟩
theorem cv_rf{st:St}{a:Act}{w:World}{G:Gh}(h:Rel c st a w G)(hfit:Fit E c){k z:Nat}{u:Value}{K:Value→List (List V)→St→Prop}(hgx:E.gx k=some u)(hk:takeH E st ⟨.gl k,[],0⟩ z K):RepT w G.Sh (Ar.rho c G) (.rf ⟨.gl k,[],0⟩ z none) u (fun _=>False):=by
 have hsl:∃x n c,u=.slice x n c:=by
  unfold takeH at hk
  simp only [hgx] at hk
  split at hk
  ·rename_i z' xs hg
   have hgl:=hfit.gx k u hgx
   have hgb:=(h.gb k _ (getD_nil_some (by rw [hg];simp))).resolve_left (by rw [hg];simp)
   cases hb:((z' == z && Nat.beq (0:Nat) 0) && E.own) with
   | false=>rw [hb] at hk;exact hk.elim
   | true =>
    simp only [Bool.and_eq_true] at hb
    have hgm:=hfit.gm
    rw [hb.2] at hgm
    simp only [cond_true] at hgm
    rw [hg] at hgb
    unfold GOkN at hgb
    rw [hgm,hgl] at hgb
    obtain⟨_,f,z2,ys,e1,hr⟩:=hgb
    simp only [RepC] at hr
    rcases hr with hr | ⟨b,o,cc,hr,_⟩
    ·exact ⟨_,_,_,hr.1.choose_spec⟩
    ·exact ⟨_,_,_,hr⟩
  ·exact hk.elim
 simp only [RepT]
 exact ⟨.val u,.val u,u,by simp only [Ar.rho];rw [hfit.gx k u hgx],rfl,rfl,rfl,hsl⟩
theorem callMB_sound(hfit:Fit E c){x:Operand}{args:Array Operand}{ts:Array TypeId}(ho:o.op=.call { callee:=.value x,args:=args,argTypes:=ts }){st1:St}{a:Act}{w:World}{G G1:Gh}{K:V→St→Prop}{N:Act→World→Prop}{Q:Exit→Act→World→Prop}
  {f' j:Nat} {y:Operand} {v:V} {hs:List (Pl × Nat × Value)} {gs:List V} {T:Nat→Prop} (hxv:a.eval x=.func (.func f') #[] #[]) (hy:args.toList[j]?=some y)
  (ht:Took c w a G G1 st1 gs (hs.map fun x=>x.2.2) T) (hv:∀ (w':World) (S:Nat→Prop),RepT w' S (rg ((hs.map fun x=>x.2.2).map Sr.val)) v (a.eval y) (fun _=>False))
  (hk:callMB E st1 f' j args.toList v hs gs fun v st'=>K v st') (hN:∀ (r:V) (u:Value) (st':St) (w':World) (G':Gh),K r st'→Rel c st' a w' G'→scalT r=true→RepT w' (fun _=>False) (fun _=>none) r u (fun _=>False)→N (a.put o.dst u) w'):o.wp E.P a w N Q:=by
 have h1:=ht.rel
 unfold callMB at hk
 have hS:∀b,G1.ow b≠.no∨G1.Sh b→(b<w.heap.size∧¬ (T b∧¬G1.Sh b)):=by
  intro b hb
  rcases hb with hb | hb
  ·exact ⟨(h1.ob b hb).1,fun hh=>hb (ht.free b hh.1).1⟩
  ·exact ⟨(h1.sb b hb).1,fun hh=>hh.2 hb⟩
 obtain⟨bs,g,srcs,b1,b2,b3,b4⟩:=brL_sound h1 hfit (S:=fun b=>b<w.heap.size∧¬ (T b∧¬G1.Sh b)) hS _ _ 0 [] _ rfl (h1.evs (del j args.toList)) hk
 split at b1
 ·rw [CallMK_eq] at b1
  obtain⟨r,gs',⟨⟨fn,f1,f2,f3⟩,m1,m2,m3,hret⟩,k7⟩:=b1
  have hsrc:srcs=[]:=List.eq_nil_of_length_eq_zero b2
  subst hsrc
  have hargs:RepTs w (fun b=>b<w.heap.size∧¬ (T b∧¬G1.Sh b)) (rg ((hs.map fun x=>x.2.2).map Sr.val)) (insV j v bs) (args.toList.map a.eval) (fun _=>False) :=
   insV_rep j _ y v bs hy (hv w _) (RepTs.rmono (fun r s hh=>by cases r <;> simp [rg] at hh) _ _ _ b4)
  have hown:=RepTs.own_re (S:=fun b=>b<w.heap.size∧¬ (T b∧¬G1.Sh b)) (ρ':=fun _=>none) gs _ T m2 (fun b q1 q2 hh=>hh.2 ⟨q1,q2⟩) ht.rep
  have hcall:=hret w _ (fun b=>T b∧¬G1.Sh b) _ (fun b hb=>hb.1) (fun b hb=>(ht.free b hb.1).2.1) hargs hown
  unfold Oper.wp
  rw [run_call ho hxv f1 f2 f3,Oper.upon_enter]
  have hae:args.map a.eval ++ #[]=((args.toList.map a.eval).toArray):=by
   apply Array.ext';simp
  rw [hae]
  refine hcall.mono fun e w' hp=>?_
  obtain⟨u,Sh',T2,rfl,hr,hg,hpw⟩:=hp
  have hno:∀b,w.heap.size≤b→G1.ow b=.no:=fun b hb=>by
   cases ho':G1.ow b with
   | no=>rfl
   | _=>have:=(h1.ob b (by rw [ho'];simp)).1;omega
  have hchg:=h1.chg (vrE_ok hfit) (w':=w') (fun b hb hh=>hpw.fr b hb (fun hx=>hh.elim (fun e=>e (ht.free b hx.1).1) hx.2)) (fun b q1 q2=>hpw.fr b (Nat.lt_of_lt_of_le q1 h1.sz) (fun hx=>(ht.free b hx.1).2.2.elim (fun e=>by omega) q2)) hpw.sz hpw.os hpw.tape hpw.output
  have hrep:=hg G1.Sh (fun b hb=>hpw.sh b (hS b (.inr hb)))
  obtain⟨st2,G2,q1,q2⟩:=fillHs_sound hfit hs gs' _ G1 T2 _ hchg hrep (fun b hb=>by
   obtain⟨z1,z2⟩:=hpw.t' b hb
   rcases z2 with z2 | z2
   ·exact ⟨hno b z2,z1,.inl (Nat.le_trans h1.sz z2)⟩
   ·exact ⟨(ht.free b z2.1).1,z1,(ht.free b z2.1).2.2⟩) k7
  exact hN r u st2 w' G2 q1 q2 m1 hr
 ·exact b1.elim
theorem callM_sound(hfit:Fit E c){x:Operand}{args:Array Operand}{ts:Array TypeId}(ho:o.op=.call { callee:=.value x,args:=args,argTypes:=ts })(j:Nat) :
  OpS E c o fun st K=>callM E st j x args.toList fun v st'=>K (pu st' o.dst v):=by
 intro st a w G K N Q h hk hN
 have fin:∀ (r:V) (u:Value) (st':St) (w':World) (G':Gh),K (pu st' o.dst r)→Rel c st' a w' G'→scalT r=true→RepT w' (fun _=>False) (fun _=>none) r u (fun _=>False)→N (a.put o.dst u) w':=by
  intro r u st' w' G' hk' hr hs hu
  obtain⟨G3,hG⟩:=hr.put0 o.dst (v:=r) (u:=u) (scalV_rep hs hu)
  exact hN _ _ _ _ hk' hG
 unfold callM at hk
 obtain⟨Tx,hTx,hx⟩:=h.evB x
 split at hk
 ·rename_i f' hg
  rw [hg] at hx
  simp only [RepT] at hx
  obtain⟨cvs,hxv,hcaps⟩:=hx
  have hc0:cvs=[]:=by
   cases cvs with
   | nil=>rfl
   | cons _ _=>simp only [RepTs] at hcaps
  subst hc0
  split at hk
  ·rename_i y hy
   obtain⟨Ty,hTy,hv⟩:=h.evB y
   split at hk
   ·rename_i cs hcs
    rw [hcs] at hv
    simp only [RepT] at hv
    obtain⟨vs,hv1,hv2⟩:=hv
    cases hf:flatVs cs with
    | false=>rw [hf] at hk;exact hk.elim
    | true =>
     rw [hf] at hk
     simp only [cond_true] at hk
     obtain⟨cs',hs,gs,st1,G1,T,q1,q2,q3⟩:=takeHs_sound hfit cs vs st G 0 _ h (flatVs_rep _ _ _ hf hv2) hk
     refine callMB_sound hfit ho hxv hy q3 (fun w' S=>?_) q1 fin
     simp only [RepT]
     exact ⟨vs,hv1,q2 w' S _⟩
   ·rename_i p z hrf
    rw [hrf] at hv
    obtain⟨xs,st1,G1,T,q1,q2,q3,q4,q5,q6⟩:=takeH_sound h hfit hv hk
    have hsl:∃x n c,a.eval y=.slice x n c:=by
     simp only [RepC] at q3
     rcases q3 with hr | ⟨b,o,cc,hr,_⟩
     ·exact ⟨_,_,_,hr.1.choose_spec⟩
     ·exact ⟨_,_,_,hr⟩
    refine callMB_sound hfit ho hxv hy (Took.cons (gs:=[]) (vals:=[]) (T2:=fun _=>False) q3 q4 q5 q6 ⟨q2,by simp only [RepTs],fun b hb=>hb.elim,Later.refl w G1,fun b hb=>hb.elim⟩) (fun w' S=>?_) q1 fin
    simp only [RepT]
    exact ⟨.val (a.eval y),.val (a.eval y),a.eval y,rfl,rfl,rfl,rfl,hsl⟩
   ·rename_i k z u hcv
    rw [hcv] at hv
    split at hk
    ·rename_i u' hgx
     obtain⟨rfl,hk⟩:=hk
     simp only [RepT] at hv
     obtain⟨hv,_⟩:=hv
     rw [←hv] at hgx
     have hv:=cv_rf h hfit hgx hk
     obtain⟨xs,st1,G1,T,q1,q2,q3,q4,q5,q6⟩:=takeH_sound h hfit (T0:=fun _=>False) hv hk
     have hsl:∃x n c,a.eval y=.slice x n c:=by
      simp only [RepC] at q3
      rcases q3 with hr | ⟨b,o,cc,hr,_⟩
      ·exact ⟨_,_,_,hr.1.choose_spec⟩
      ·exact ⟨_,_,_,hr⟩
     refine callMB_sound hfit ho hxv hy (Took.cons (gs:=[]) (vals:=[]) (T2:=fun _=>False) q3 q4 q5 q6 ⟨q2,by simp only [RepTs],fun b hb=>hb.elim,Later.refl w G1,fun b hb=>hb.elim⟩) (fun w' S=>?_) q1 fin
     simp only [RepT]
     exact ⟨.val (a.eval y),.val (a.eval y),a.eval y,rfl,rfl,rfl,rfl,hsl⟩
    ·exact hk.elim
   ·exact hk.elim
  ·exact hk.elim
 ·exact hk.elim
theorem call_sound(hfit:Fit E c){x:Operand}{args:Array Operand}{ts:Array TypeId}(ho:o.op=.call { callee:=.value x,args:=args,argTypes:=ts }) :
  OpS E c o fun st K=>callA E st x args.toList fun v st'=>K (pu st' o.dst v):=by
 intro st a w G K N Q h hk hN
 unfold callA at hk
 obtain⟨Tx,hx⟩:=h.ev x
 split at hk
 ·rename_i f caps hg
  rw [hg] at hx
  simp only [RepT] at hx
  obtain⟨cvs,hxv,hcaps⟩:=hx
  cases hln:E.ln f with
  | true =>
   rw [hln] at hk
   simp only at hk
   split at hk
   ·have hc0:cvs=[]:=by
     cases cvs with
     | nil=>rfl
     | cons _ _=>simp only [RepTs] at hcaps
    subst hc0
    obtain⟨Vs,st',G',T',k1,k2,k3,k4,k5,k6⟩:=coL_sound hfit.lendy _ st G _ h hk
    cases hok:okAs Vs with
    | false=>rw [hok] at k1;exact k1.elim
    | true =>
     rw [hok] at k1
     simp only [cond_true] at k1
     rw [CallK_eq] at k1
     obtain⟨r,⟨⟨fn,f1,f2,f3⟩,hret⟩,k7⟩:=k1
     cases hro:okA r with
     | false=>rw [hro] at k7;exact k7.elim
     | true =>
      rw [hro] at k7
      have hrel:=k2.moreSh (fun b=>G'.Sh b∨T' b) (fun b hb=>.inl hb) (fun b hb=>hb.imp id (fun hb=>k4 b hb))
      have hargs:=shVs_rep (ρ':=rg []) (Sh2:=fun b=>G'.Sh b∨T' b) (fun b hb=>.inl hb) _ _ _ hok (fun b hb=>.inr hb) k3
      have hcall:=hret w (fun b=>G'.Sh b∨T' b) (fun _=>False) [] _ (fun b hb=>(hrel.sb b hb).1) (fun _ h=>h.elim) hargs (fun k row hh=>by simp at hh)
      unfold Oper.wp
      rw [run_call ho hxv f1 f2 f3,Oper.upon_enter]
      have hae:args.map a.eval ++ #[]=((args.toList.map a.eval).toArray):=by
       apply Array.ext';simp
      rw [show ([]:List Value).toArray = #[] from rfl,hae]
      refine hcall.mono fun e w' hp=>?_
      obtain⟨v,Sh',T2,rfl,hpv,hpw⟩:=hp
      have hbl:RowKit.Below w.heap.size w w':=⟨hpw.os,hpw.tape,hpw.output,hpw.sz,fun b hb=>hpw.fr b hb (fun h=>h)⟩
      have hno:∀b,w.heap.size≤b→G'.ow b=.no:=fun b hb=>by
       cases ho':G'.ow b with
       | no=>rfl
       | _=>have:=(hrel.ob b (by show G'.ow b≠.no;rw [ho'];simp)).1;omega
      have hrel2:=(hrel.ext hbl).moreSh Sh' (fun b hb=>hpw.sh b hb) (fun b hb=>by
       obtain⟨z1,z2⟩:=hpw.sh' b hb
       rcases z2 with z2 | z2 | z2
       ·exact .inl z2
       ·exact .inr ⟨hno b z2,z1,.inl (Nat.le_trans hrel.sz z2)⟩
       ·exact z2.elim)
      obtain⟨G3,hG⟩:=hrel2.put1 o.dst (v:=r) (u:=v) (T:=T2) (hpv.rep (fun _ h=>h) (fun _=>rfl) hro) (fun b hb=>by
       obtain⟨z1,z2⟩:=hpw.t' b hb
       rcases z2 with z2 | z2
       ·exact ⟨hno b z2,z1,.inl (Nat.le_trans hrel.sz z2)⟩
       ·exact z2.elim)
      exact hN _ _ _ _ k7 hG
   ·exact hk.elim
  | false =>
   rw [hln] at hk
   simp only at hk
   split at hk
   ·rename_i j hj
    refine callM_sound hfit ho j st a w G K N Q h ?_ hN
    exact hk
   split at hk
   ·exact (callQ_sound hfit ho).toS st a w G K N Q h hk hN
   ·exact callV_sound hfit ho f st a w G K N Q h hk hN
 ·exact hk.elim
/-! ### The operations, together -/
noncomputable def opA(E:Env)(o:Oper)(st:St)(K:St→Prop):Prop :=
 match o.op with
 | .move x=>mvA st x fun v st'=>K (pu st' o.dst v)
 | .assign x=>coA E st x fun v st'=>K (pu st' o.dst v)
 | .pick x y z=>(match ev st x with | .b t=>(match t with | true=>mvA st y fun v st'=>K (pu st' o.dst v) | false=>mvA st z fun v st'=>K (pu st' o.dst v)) | _=>False)
 | .alloc t=>allocA E t o.dst st K
 | .box t x=>boxA E t x o.dst st K
 | .load t x=>loadA E t x st fun v=>K (pu st o.dst v)
 | .store t x y=>storeA E t x y o.dst st K
 | .nilCheck x=>(match ev st x with | .pt p=>K (pu st o.dst (.pt p)) | _=>False)
 | .fieldAddr t x j=>fieldAddrA E t x j st fun v=>K (pu st o.dst v)
 | .binOp op t x y _=>binA E st op t (ev st x) (ev st y) fun v=>K (pu st o.dst v)
 | .unOp op _ x=>unA st op (ev st x) fun v=>K (pu st o.dst v)
 | .index t x ix=>sixA E st t (ev st x) (ev st ix) fun v=>K (pu st o.dst v)
 | .indexAddr t x ix=>ixA E st t x (ev st ix) fun v=>K (pu st o.dst v)
 | .slice t x lo hi mx=>slA E st t x lo hi mx fun v=>K (pu st o.dst v)
 | .makeSlice t l cc=>mkA E st t (ev st l) (ev st cc) fun v=>K (pu st o.dst v)
 | .buildSlice t len parts=>bsA E st t len parts.toList fun v st'=>K (pu st' o.dst v)
 | .build t parts=>buA E st t parts.toList fun v st'=>K (pu st' o.dst v)
 | .field t x j=>(match cp (ev st x) with | true=>fdA E t (ev st x) j fun v=>K (pu st o.dst v) | false=>fdM E st t x j fun v st'=>K (pu st' o.dst v))
 | .extract x j=>exA st x j fun v st'=>K (pu st' o.dst v)
 | .makeFunc (.func f) first caps=>(match first.toList with | []=>mvL st caps.toList fun vs st'=>K (pu st' o.dst (.fn f vs)) | _=>False)
 | .convert src dst x=>(match Nat.beq src dst && isSk (E.ti src).k with | true=>cvM E st src x fun v st'=>K (pu st' o.dst v) | false=>cvA E st src dst (ev st x) fun v=>K (pu st o.dst v))
 | .call cl=>(match cl.callee with
  | .builtin .append=>appA E st cl.argTypes.toList cl.args.toList fun v st'=>K (pu st' o.dst v)
  | .builtin .copy=>copyQ E st cl.argTypes.toList cl.args.toList fun s x v=>K (pu { st with t:=st.t.set s x } o.dst v)
  | .builtin b=>buiA E st b cl.argTypes.toList cl.args.toList fun v=>K (pu st o.dst v)
  | .value x=>callA E st x cl.args.toList fun v st'=>K (pu st' o.dst v)
  | _=>False)
 | _=>False
theorem opA_sound(hE:EnvOk E)(hfit:Fit E c):OpS E c o (opA E o):=by
 intro st a w G K N Q h hk hN
 unfold opA at hk
 split at hk
 ·rename_i x ho;exact move_sound ho st a w G K N Q h hk hN
 ·rename_i x ho;exact assign_sound hfit ho st a w G K N Q h hk hN
 ·rename_i x y z ho;exact pick_sound ho st a w G K N Q h hk hN
 ·rename_i t ho;exact alloc_sound hE ho st a w G K N Q h hk hN
 ·rename_i t x ho;exact box_sound hE hfit ho st a w G K N Q h hk hN
 ·rename_i t x ho;exact (load_sound hE hfit ho).toS st a w G K N Q h hk hN
 ·rename_i t x y ho;exact store_sound hE hfit ho st a w G K N Q h hk hN
 ·rename_i x ho;exact (nilCheck_sound ho).toS st a w G K N Q h hk hN
 ·rename_i t x j ho;exact (fieldAddr_sound hE ho).toS st a w G K N Q h hk hN
 ·rename_i op t x y yt ho;exact (binA_sound hE hfit ho).toS st a w G K N Q h hk hN
 ·rename_i op t x ho;exact (unOp_sound ho).toS st a w G K N Q h hk hN
 ·rename_i t x ix ho;exact (index_sound hE ho).toS st a w G K N Q h hk hN
 ·rename_i t x ix ho;exact (indexAddr_sound hE hfit ho).toS st a w G K N Q h hk hN
 ·rename_i t x lo hi mx ho;exact (slice_sound hE hfit ho).toS st a w G K N Q h hk hN
 ·rename_i t l cc ho;exact (makeSlice_sound hE ho).toS st a w G K N Q h hk hN
 ·rename_i t len parts ho;exact buildSlice_sound hE hfit ho st a w G K N Q h hk hN
 ·rename_i t parts ho;exact build_sound hE ho st a w G K N Q h hk hN
 ·rename_i t x j ho
  split at hk
  ·exact (field_sound hE ho).toS st a w G K N Q h hk hN
  ·exact fieldM_sound hE ho st a w G K N Q h hk hN
 ·rename_i x j ho;exact extract_sound ho st a w G K N Q h hk hN
 ·rename_i f first caps ho
  split at hk
  ·rename_i hf
   have hf:first = #[]:=Array.ext' (by simpa using hf)
   subst hf
   exact makeFunc_sound ho st a w G K N Q h hk hN
  ·exact hk.elim
 ·rename_i src dst x ho
  split at hk
  ·rename_i hc
   simp only [Bool.and_eq_true] at hc
   have e:=Nat.eq_of_beq_eq_true hc.1
   subst e
   exact cvM_sound hE hfit ho st a w G K N Q h hk hN
  ·exact (convert_sound hE hfit ho).toS st a w G K N Q h hk hN
 ·rename_i cl ho
  obtain⟨callee,args,ts⟩:=cl
  simp only at hk
  split at hk
  ·exact append_sound hE hfit ho st a w G K N Q h hk hN
  ·obtain⟨s,x,n,w',k1,k2,k3,k4⟩:=copyQ_sound hE hfit h ho hk
   obtain⟨G',hG⟩:=(k4 st h rfl).put0 o.dst (v:=.i .i64 n) (u:=.int .i64 n) rfl
   exact wp_value k3 (hN _ _ _ _ k1 hG)
  ·exact (builtin_sound hE hfit ho).toS st a w G K N Q h hk hN
  ·exact call_sound hfit ho st a w G K N Q h hk hN
  ·exact hk.elim
 ·exact hk.elim
/-! ### The quiet operations, together -/
/-- An operand that is only looked at. -/
def qmv(st:St)(x:Operand)(K:V→Prop):Prop :=
 match x with
 | .tmp s =>
  (match st.t.getD s .un with
  | .un=>False
  | .sl .shr z xs=>K (.sl .shr z xs)
  | .sl _ z _=>K (.rf ⟨.tp s,[],0⟩ z none)
  | v=>bif cp v then K v else False)
 | .const v=>K (cst v)
 | .func f=>K (.fn f [])
 | .global _=>False
theorem qmv_sound{st:St}{a:Act}{w:World}{G:Gh}(h:Rel c st a w G){x:Operand}{K:V→Prop}(hk:qmv st x K):∃v,K v∧RepT w G.Sh (Ar.rho c G) v (a.eval x) (fun _=>False):=by
 unfold qmv at hk
 split at hk
 ·rename_i s
  have ht:=h.tmp s
  split at hk
  ·exact hk.elim
  ·rename_i z xs hg
   rw [hg] at ht
   exact ⟨_,hk,cp_T _ _ _ _ rfl ht⟩
  ·rename_i f z xs hf hg
   have hs:=getD_some hg (by simp)
   rw [hg] at ht
   refine ⟨_,hk,?_⟩
   simp only [RepT]
   refine ⟨.val (G.tv s),.val (G.tv s),G.tv s,rfl,rfl,rfl,?_⟩
   refine ⟨h.tv s f z xs hs,?_⟩
   rw [h.tv s f z xs hs] at ht
   have ht':RepC w G.Sh .own (.sl f z xs) (G.tv s) _:=ht
   simp only [RepC] at ht'
   rcases ht' with ⟨⟨_,e⟩,_⟩ | ⟨b,o,c,e,_⟩
   ·exact ⟨_,_,_,e⟩
   ·exact ⟨_,_,_,e⟩
  ·cases hc:cp (st.t.getD s .un) with
   | true=>rw [hc] at hk;exact ⟨_,hk,cp_T _ _ _ _ hc ht⟩
   | false=>rw [hc] at hk;exact hk.elim
 ·exact ⟨_,hk,cst_rep _ _⟩
 ·exact ⟨_,hk,by simp only [RepT];exact ⟨[],rfl,by simp only [RepTs]⟩⟩
 ·exact hk.elim
/-- A component that is only looked at. -/
def qex(st:St)(x:Operand)(j:Nat)(K:V→Prop):Prop :=
 match x with
 | .tmp s =>
  (match st.t.getD s .un with
  | .tu cs=>(match nthV cs j with | some v=>bif cp v then K v else False | none=>False)
  | _=>False)
 | _=>False
/-- A record of plain parts. -/
def cpL(st:St):List Operand→Bool
 | []=>true
 | x::xs=>cp (ev st x) && cpL st xs
noncomputable def buQ(E:Env)(st:St)(t:Nat)(parts:List (Nat × Operand))(K:V→Prop):Prop :=
 match (E.ti t).k with
 | .strct fs=>bif cpL st (parts.map (·.2)) then bdP fs (parts.map (·.1)) ((parts.map (·.2)).map (ev st)) (E.ti t).zr fun cells=>K (.ag cells) else False
 | _=>False
theorem cpL_sound{st:St}{a:Act}{w:World}{G:Gh}(h:Rel c st a w G):∀xs:List Operand,cpL st xs=true→RepTs w G.Sh (Ar.rho c G) (xs.map (ev st)) (xs.map a.eval) (fun _=>False)
 | [],_=>by simp only [List.map_nil,RepTs]
 | x::xs,hc=>by
  simp only [cpL,Bool.and_eq_true] at hc
  obtain⟨T,hx⟩:=h.ev x
  simp only [List.map_cons,RepTs]
  exact ⟨fun _=>False,fun _=>False,cp_T _ _ _ _ hc.1 hx,cpL_sound h xs hc.2,fun _ h=>h.elim,fun _ h=>h⟩
theorem buildQ_sound(hE:EnvOk E){t:Nat}{parts:Array (Nat × Operand)}(ho:o.op=.build t parts):OpQ E c o fun st K=>buQ E st t parts.toList K:=by
 intro st a w G K N Q h hk hN
 unfold buQ at hk
 split at hk
 ·rename_i fs hks
  cases hc:cpL st (parts.toList.map (·.2)) with
  | false=>rw [hc] at hk;exact hk.elim
  | true =>
   rw [hc] at hk
   simp only [cond_true] at hk
   have hT:=hE t (by rw [hks];rfl)
   have hu:=hT.und
   rw [hks] at hu
   obtain⟨F,hF,hfs⟩:=hu
   obtain⟨xi,z,i1,i2,i3,i4,i5,i6,i7,i8⟩:=hT.info
   have k3:=cpL_sound h _ hc
   obtain⟨cells',vals',q1,q2,q3⟩:=bdP_sound _ _ _ (E.ti t).zr z.cells.toList (fun _=>False) (fun _=>False) k3 (repTs_of_Cs _ _ _ i7 (i8 w G.Sh)) (fun _ h=>h.elim) hk
   have hb:E.P.built t (parts.map fun p=>(p.1,a.eval p.2)).toList=some vals'.toArray:=by
    have e1:(parts.map fun p=>(p.1,a.eval p.2)).toList=(parts.toList.map (·.1)).zip ((parts.toList.map (·.2)).map a.eval):=by
     rw [Array.toList_map,List.map_map,List.zip_map',List.map_inj_left]
     intro p _;rfl
    unfold Program.built
    rw [i1,hF,e1]
    simp only [i4,hfs.all]
    exact q3
   refine wp_value (v:=.agg vals'.toArray) (w':=w) (by simp [execOp,ho,run_build w t _ _ hb]) (hN (.ag cells') _ _ (fun _=>False) q1 (RowKit.Below.refl _ _) ?_ noneT)
   simp only [RepT]
   exact ⟨vals',rfl,RepTs.mono _ _ _ _ (fun x hx=>hx.elim False.elim id) q2⟩
 ·exact hk.elim
/-- A slice of plain parts. -/
noncomputable def bs0(E:Env)(st:St)(t len:Nat)(parts:List (Nat × Operand))(K:V→Prop):Prop :=
 match (E.ti t).k with
 | .slice e=>bif ((kn (E.ti e).k && isSeq 0 parts && Nat.beq parts.length len && Nat.ble (len*(E.ti e).sz+len) 16777216) && cpL st (parts.map (·.2))) && okL (E.ti e).sz ((parts.map (·.2)).map (ev st)) then
   K (.sl .own (E.ti e).sz (((parts.map (·.2)).map (ev st)).map fun v=>fits (E.ti e).zr (cellsOf v))) else False
 | _=>False
theorem bs0_sound(hE:EnvOk E){t len:Nat}{parts:Array (Nat × Operand)}(ho:o.op=.buildSlice t len parts):OpQ E c o fun st K=>bs0 E st t len parts.toList K:=by
 intro st a w G K N Q h hk hN
 unfold bs0 at hk
 split at hk
 ·rename_i e hks
  have hu:=(hE t (by rw [hks];rfl)).und
  rw [hks] at hu
  have hu:E.P.underlying t=some (.slice e):=hu
  cases hcond:(((kn (E.ti e).k && isSeq 0 parts.toList && Nat.beq parts.toList.length len && Nat.ble (len*(E.ti e).sz+len) 16777216) && cpL st (parts.toList.map (·.2))) && okL (E.ti e).sz ((parts.toList.map (·.2)).map (ev st))) with
  | false=>rw [hcond] at hk;exact hk.elim
  | true =>
   rw [hcond] at hk
   simp only [cond_true] at hk
   simp only [Bool.and_eq_true] at hcond
   obtain⟨⟨⟨⟨⟨hke,hsq⟩,hln⟩,h24⟩,hcp⟩,hok⟩:=hcond
   have hln:=Nat.eq_of_beq_eq_true hln
   have h24:=Nat.le_of_ble_eq_true h24
   obtain⟨xi,z,i1,i2,i3,i4,i5,i6,i7,i8⟩:=(hE e hke).info
   obtain⟨q1,q2,q3,q4⟩:=okL_rep (E.ti e).zr _ _ _ hok (cpL_sound h _ hcp)
   have hparts:(parts.map fun p=>(p.1,a.eval p.2)).toList=seqFrom 0 ((parts.toList.map (·.2)).map a.eval):=by
    rw [Array.toList_map]
    conv=>lhs;rw [isSeq_eq _ _ hsq]
    rw [seqFrom_map]
   have hulen:((parts.toList.map (·.2)).map a.eval).length=len:=by simpa using hln
   generalize (parts.toList.map (·.2)).map a.eval=us at *
   generalize (parts.toList.map (·.2)).map (ev st)=Vs at *
   have hfill:=fill_seq (size:=(E.ti e).sz) us 0
   have hfl:∀ (zc:Array Value),zc.size=len*(E.ti e).sz→Instr.fill (fun i=>some (i*(E.ti e).sz,(E.ti e).sz)) zc (seqFrom 0 us)=some (us.flatMap (·.cells.toList)).toArray:=by
    intro zc hzc
    have:=hfill zc q3 (by rw [hzc,hulen,Nat.zero_add])
    simpa using this
   have hsz:(us.flatMap (·.cells.toList)).length=len*(E.ti e).sz:=by
    have e1:=q1.len
    rw [←e1,List.length_flatten]
    have e2:(Vs.map fun v=>fits (E.ti e).zr (cellsOf v)).map List.length=List.replicate Vs.length (E.ti e).sz:=by
     refine List.eq_replicate_iff.2 ⟨by simp,fun n hn=>?_⟩
     obtain⟨r,hr,rfl⟩:=List.mem_map.1 hn
     exact q2 r hr
    rw [e2,List.sum_replicate_nat,q4,hulen]
   have hrun:(Instr.buildSlice t len (parts.map fun p=>(p.1,a.eval p.2))).run E.P w=.ok (.slice (some ⟨w.heap.size,0,none⟩) len len) (w.alloc (.cells (us.flatMap (·.cells.toList)).toArray e)):=by
    have h24':¬ (len*(E.ti e).sz > 2 ^ 24):=by omega
    by_cases h0:len*(E.ti e).sz=0
    ·have hf0:=hfl #[] h0.symm
     have hp2:=hparts
     rw [Array.toList_map] at hp2
     simp [Instr.buildSlice,run_underlying hu,sizeOf,typeInfo,i1,i2,h0,hp2,newRow,Array.range_zero',hf0]
    ·have hf0:=hfl ((Array.range (len*(E.ti e).sz)).map (z.cells[· % z.cells.size]!)) (by simp)
     simp only [Instr.buildSlice,Sem.run_bind,run_underlying hu,Result.andThen_ok,sizeOf,typeInfo,zeroValue,Sem.run_pure,run_program,i1,i2,i4,if_neg h0,if_neg h24',hparts,hf0,newRow]
     simp
   have hrep:=fresh_row (w:=w) (w':=w.alloc (.cells (us.flatMap (·.cells.toList)).toArray e)) (Sh:=G.Sh) (e:=e) (fz:=(0,0)) (cc:=len)
    (fun b hb=>(h.sb b hb).1) (fun b hb=>hb.elim) q1 q2 (alloc_at _ _) (.inl rfl) (fun b hb=>alloc_heap_lt _ _ _ hb)
    (fun j v hj=>by simpa using hj) (by simp only [List.size_toArray];omega) (by rw [List.length_map];omega) (by simp only [maxLen];omega)
   have e3:(Vs.map fun v=>fits (E.ti e).zr (cellsOf v)).length=len:=by rw [List.length_map];omega
   rw [e3] at hrep
   refine wp_value (v:=.slice (some ⟨w.heap.size,0,none⟩) len len) ?_ (hN _ _ _ (fun b=>b=w.heap.size∨False) hk ((RowKit.Below.refl _ w).alloc (Nat.le_refl _) (Obj.cells (us.flatMap (fun x:Value=>x.cells.toList)).toArray e)) ?_ ?_)
   ·simp [execOp,ho,hrun]
   ·simp only [RepT];exact hrep
   ·intro b hb
    have hb:b=w.heap.size:=hb.elim id False.elim
    subst hb
    exact ⟨Nat.le_refl _,by simp⟩
 ·exact hk.elim
noncomputable def qA(E:Env)(o:Oper)(st:St)(K:V→Prop):Prop :=
 match o.op with
 | .move x=>qmv st x K
 | .pick x y z=>(match ev st x with | .b t=>(match t with | true=>qmv st y K | false=>qmv st z K) | _=>False)
 | .load t x=>loadA E t x st K
 | .nilCheck x=>(match ev st x with | .pt p=>K (.pt p) | _=>False)
 | .fieldAddr t x j=>fieldAddrA E t x j st K
 | .binOp op t x y _=>binA E st op t (ev st x) (ev st y) K
 | .unOp op _ x=>unA st op (ev st x) K
 | .index t x ix=>sixA E st t (ev st x) (ev st ix) K
 | .indexAddr t x ix=>ixA E st t x (ev st ix) K
 | .slice t x lo hi mx=>slA E st t x lo hi mx K
 | .makeSlice t l cc=>mkA E st t (ev st l) (ev st cc) K
 | .field t x j=>fdA E t (ev st x) j K
 | .convert src dst x=>cvA E st src dst (ev st x) K
 | .build t parts=>buQ E st t parts.toList K
 | .buildSlice t len parts=>bs0 E st t len parts.toList K
 | .extract x j=>qex st x j K
 | .call cl=>(match cl.callee with
  | .builtin .append=>False
  | .builtin b=>buiA E st b cl.argTypes.toList cl.args.toList K
  | .value x=>(match ev st x with | .fn f _=>bif E.ln f then False else callQ E st x cl.args.toList K | _=>False)
  | _=>False)
 | _=>False
theorem qex_sound{x:Operand}{j:Nat}(ho:o.op=.extract x j):OpQ E c o fun st K=>qex st x j K:=by
 intro st a w G K N Q h hk hN
 unfold qex at hk
 split at hk
 ·rename_i s
  have ht:=h.tmp s
  split at hk
  ·rename_i cs hg
   rw [hg] at ht
   simp only [RepT] at ht
   obtain⟨vs,h1,h2⟩:=ht
   split at hk
   ·rename_i v hj
    rw [nthV_eq] at hj
    obtain⟨u,T1,k1,k2,k3,k4⟩:=RepTs.focus cs vs _ j v h2 hj
    have hrun:(execOp a.eval o).run E.P w=.ok (.value u) w:=by
     have hx:a.eval (.tmp s)=.tuple vs.toArray:=h1
     simp [execOp,ho,hx,Instr.extract,k1]
    cases hc:cp v with
    | true =>
     rw [hc] at hk
     exact wp_value hrun (hN _ _ _ _ hk (RowKit.Below.refl _ _) (cp_T _ _ _ _ hc k2) noneT)
    | false=>rw [hc] at hk;exact hk.elim
   ·exact hk.elim
  ·exact hk.elim
 ·exact hk.elim
theorem qA_sound(hE:EnvOk E)(hfit:Fit E c):OpQ E c o (qA E o):=by
 intro st a w G K N Q h hk hN
 unfold qA at hk
 split at hk
 ·rename_i x ho
  obtain⟨v,k1,k2⟩:=qmv_sound h hk
  exact wp_value (w':=w) (by simp [execOp,ho]) (hN _ _ _ _ k1 (RowKit.Below.refl _ _) k2 noneT)
 ·rename_i x y z ho
  obtain⟨T,hx⟩:=h.ev x
  split at hk
  ·rename_i t hg
   rw [hg] at hx
   have hx:a.eval x=.bool t:=hx
   cases t with
   | true =>
    obtain⟨v,k1,k2⟩:=qmv_sound h hk
    exact wp_value (w':=w) (by simp [execOp,ho,hx,asBool]) (hN _ _ _ _ k1 (RowKit.Below.refl _ _) k2 noneT)
   | false =>
    obtain⟨v,k1,k2⟩:=qmv_sound h hk
    exact wp_value (w':=w) (by simp [execOp,ho,hx,asBool]) (hN _ _ _ _ k1 (RowKit.Below.refl _ _) k2 noneT)
  ·exact hk.elim
 ·rename_i t x ho;exact load_sound hE hfit ho st a w G K N Q h hk hN
 ·rename_i x ho;exact nilCheck_sound ho st a w G K N Q h hk hN
 ·rename_i t x j ho;exact fieldAddr_sound hE ho st a w G K N Q h hk hN
 ·rename_i op t x y yt ho;exact binA_sound hE hfit ho st a w G K N Q h hk hN
 ·rename_i op t x ho;exact unOp_sound ho st a w G K N Q h hk hN
 ·rename_i t x ix ho;exact index_sound hE ho st a w G K N Q h hk hN
 ·rename_i t x ix ho;exact indexAddr_sound hE hfit ho st a w G K N Q h hk hN
 ·rename_i t x lo hi mx ho;exact slice_sound hE hfit ho st a w G K N Q h hk hN
 ·rename_i t l cc ho;exact makeSlice_sound hE ho st a w G K N Q h hk hN
 ·rename_i t x j ho;exact field_sound hE ho st a w G K N Q h hk hN
 ·rename_i src dst x ho;exact convert_sound hE hfit ho st a w G K N Q h hk hN
 ·rename_i t parts ho;exact buildQ_sound hE ho st a w G K N Q h hk hN
 ·rename_i t len parts ho;exact bs0_sound hE ho st a w G K N Q h hk hN
 ·rename_i x j ho;exact qex_sound ho st a w G K N Q h hk hN
 ·rename_i cl ho
  obtain⟨callee,args,ts⟩:=cl
  simp only at hk
  split at hk
  ·exact hk.elim
  ·exact builtin_sound hE hfit ho st a w G K N Q h hk hN
  ·rename_i x
   split at hk
   ·rename_i f caps hg
    cases hln:E.ln f with
    | true=>rw [hln] at hk;exact hk.elim
    | false=>rw [hln] at hk;exact callQ_sound hfit ho st a w G K N Q h hk hN
   ·exact hk.elim
  ·exact hk.elim
 ·exact hk.elim
end ops
end Go.Ar
