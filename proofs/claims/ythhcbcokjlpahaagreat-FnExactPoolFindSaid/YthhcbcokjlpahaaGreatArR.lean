import Derived.Test.YthhcbcokjlpahaaGreatArQ
namespace Go.Ar
set_option linter.unusedVariables false
set_option linter.unusedSimpArgs false
section
variable {E:Env} {c:Cx}
/-- The results, consumed. -/
noncomputable def valL(E:Env):St→List ResultVar→(List V→St→Prop)→Prop
 | st,[],K=>K [] st
 | st,.tmp t::rs,K=>coA E st (.tmp t) fun v st'=>valL E st' rs fun vs st''=>K (v::vs) st''
 | st,.cell x t::rs,K =>
  (match st.t.getD x .un with
  | .pt p=>bif kn (E.ti t).k then
    navK (mdR E.own p.r) (rowOf st p.r) p.ps fun md row=>row≠[] ∧
     (bif isAg (E.ti t).k then
      (bif Nat.beq ((row.drop p.o).take (E.ti t).sz).length (E.ti t).sz then coCs E st (vws p.r p.ps p.o md ((row.drop p.o).take (E.ti t).sz)) fun cs st'=>valL E st' rs fun vs st''=>K (.ag cs::vs) st'' else False)
     else (match (row.drop p.o).take 1 with
     | [cl]=>coCs E st [vw p.r p.ps p.o md cl] fun v1 st'=>(match v1 with | [v]=>valL E st' rs fun vs st''=>K (v::vs) st'' | _=>False)
     | _=>False))
   else False
  | _=>False)
def resOf(fn:Func)(a:Act):ResultVar→Sem Value
 | .tmp t=>pure (a.tmps.getD t undef)
 | .cell x t=>do loadVar t (← asAddr (a.tmps.getD x undef))
theorem valL_sound(hE:EnvOk E)(hfit:Fit E c){fn:Func}{a:Act}{w:World}:∀ (rs:List ResultVar) (st:St) (G:Gh) (K:List V→St→Prop),Rel c st a w G→valL E st rs K →
  ∃us:List Value,(rs.mapM (resOf fn a)).run E.P w=.ok us w∧HandedL c a w G us K
 | [],st,G,K,h,hk=>⟨[],rfl,HandedL.nil h hk⟩
 | .tmp t::rs,st,G,K,h,hk=>by
  simp only [valL] at hk
  have hh:=coA_sound hfit h hk
  obtain⟨V',st',G',T',k1,k2,k3,k4,k5,k6⟩:=hh
  obtain⟨us,r1,r2⟩:=valL_sound hE hfit (fn:=fn) rs st' G' _ k2 k1
  refine ⟨a.tmps.getD t undef::us,by simp [List.mapM_cons,resOf,r1],?_⟩
  obtain⟨Vs,st2,G2,T2,q1,q2,q3,q4,q5,q6⟩:=r2
  refine ⟨V' :: Vs,st2,G2,(fun b=>T' b∨T2 b),q1,q2,?_,fun b hb=>hb.elim (q5.free k4 b) (q4 b),k5.trans q5,fun b hb=>hb.elim (k6 b) (fun hb e=>q6 b hb (k5.no b e))⟩
  simp only [RepTs]
  exact ⟨T',T2,q5.repT (fun b hb=>(k4 b hb).1) k3,q3,fun x hx=>⟨.inl hx,fun hh=>q6 x hh (k4 x hx).1⟩,fun x hx=>.inr hx⟩
 | .cell x t::rs,st,G,K,h,hk=>by
  simp only [valL] at hk
  have hx:=h.tmp x
  split at hk
  ·rename_i p hg
   rw [hg] at hx
   simp only [RepT] at hx
   obtain⟨src,b,o',hsrc,hres,hu⟩:=hx
   cases hkn:kn (E.ti t).k with
   | false=>rw [hkn] at hk;exact hk.elim
   | true =>
    rw [hkn] at hk
    simp only [cond_true] at hk
    obtain⟨md',row',T',k1,kB,kb,k2⟩:=h.nav hfit.gm hsrc hres hk
    have hT:=hE t hkn
    have hag:=und_agg hT hkn w
    cases hia:isAg (E.ti t).k with
    | true =>
     rw [hia] at k2 hag
     simp only [cond_true] at k2
     cases hl:Nat.beq ((row'.drop p.o).take (E.ti t).sz).length (E.ti t).sz with
     | false=>rw [hl] at k2;exact k2.elim
     | true =>
      rw [hl] at k2
      have hlen:=Nat.eq_of_beq_eq_true hl
      simp only [cond_true] at k2
      obtain⟨vals,q1,q2,q3⟩:=vws_sound (ρ:=Ar.rho c G) hsrc hres _ p.o _ (RepRow.take (E.ti t).sz _ _ _ (RepRow.drop p.o _ _ _ k1))
      obtain⟨xi,z,i1,i2,_⟩:=hT.info
      have hsz:vals.length=xi.size:=by rw [q1,hlen,i2]
      have hld:=run_loadCells_list (P:=E.P) w ⟨b,o' + p.o,none⟩ vals (fun j v hj=>by rw [Addr.add_lit];exact q2 j v hj)
      rw [hsz] at hld
      have hrun:(resOf fn a (.cell x t)).run E.P w=.ok (.agg vals.toArray) w:=by
       simp [resOf,hu,asAddr,loadVar,hag,sizeOf,typeInfo,i1,hld]
      obtain⟨cs',st',G',T2,s1,s2,s3,s4,s5,s6⟩:=coCs_sound hfit _ _ st G _ _ h q3 none_free k2
      obtain⟨us,r1,r2⟩:=valL_sound hE hfit (fn:=fn) rs st' G' _ s2 s1
      refine ⟨.agg vals.toArray::us,by simp [List.mapM_cons,hrun,r1],?_⟩
      obtain⟨Vs,st2,G2,T3,t1,t2,t3,t4,t5,t6⟩:=r2
      refine ⟨.ag cs' :: Vs,st2,G2,(fun b=>T2 b∨T3 b),t1,t2,?_,fun b hb=>hb.elim (t5.free s4 b) (t4 b),s5.trans t5,fun b hb=>hb.elim (fun hb=>(s6 b hb).elim False.elim id) (fun hb e=>t6 b hb (s5.no b e))⟩
      simp only [RepTs]
      exact ⟨T2,T3,t5.repT (v:=.ag cs') (fun b hb=>(s4 b hb).1) (by simp only [RepT];exact ⟨vals,rfl,s3⟩),t3,fun x hx=>⟨.inl hx,fun hh=>t6 x hh (s4 x hx).1⟩,fun x hx=>.inr hx⟩
    | false =>
    rw [hia] at k2 hag
    simp only [cond_false] at k2
    split at k2
    ·rename_i cl hcl
     obtain⟨vals,q1,q2,q3⟩:=vws_sound (ρ:=Ar.rho c G) hsrc hres _ p.o _ (RepRow.take 1 _ _ _ (RepRow.drop p.o _ _ _ k1))
     rw [hcl] at q1 q3
     obtain⟨v,rfl⟩:∃v,vals=[v]:=by
      cases vals with
      | nil=>simp at q1
      | cons v vs=>cases vs with
       | nil=>exact ⟨v,rfl⟩
       | cons _ _=>simp at q1
     have hc0:=q2 0 v rfl
     rw [Nat.add_zero] at hc0
     have hrun:(resOf fn a (.cell x t)).run E.P w=.ok v w:=by
      simp [resOf,hu,asAddr,loadVar,hag,hc0]
     have q3':RepTs w G.Sh (Ar.rho c G) [vw p.r p.ps p.o md' cl] [v] (fun _=>False):=by
      simpa [vws] using q3
     obtain⟨cs',st',G',T2,s1,s2,s3,s4,s5,s6⟩:=coCs_sound hfit _ _ st G _ _ h q3' none_free k2
     split at s1
     ·rename_i v'
      simp only [RepTs] at s3
      obtain⟨S1,S2,s3,_,d1,_⟩:=s3
      obtain⟨us,r1,r2⟩:=valL_sound hE hfit (fn:=fn) rs st' G' _ s2 s1
      refine ⟨v::us,by simp [List.mapM_cons,hrun,r1],?_⟩
      obtain⟨Vs,st2,G2,T3,q1,q2,q3,q4,q5,q6⟩:=r2
      have hS1:Free c w G' S1:=fun b hb=>s4 b (d1 b hb).1
      refine ⟨v' :: Vs,st2,G2,(fun b=>S1 b∨T3 b),q1,q2,?_,fun b hb=>hb.elim (q5.free hS1 b) (q4 b),s5.trans q5,fun b hb=>hb.elim (fun hb=>(s6 b (d1 b hb).1).elim False.elim id) (fun hb e=>q6 b hb (s5.no b e))⟩
      simp only [RepTs]
      exact ⟨S1,T3,q5.repT (fun b hb=>(hS1 b hb).1) s3,q3,fun x hx=>⟨.inl hx,fun hh=>q6 x hh (hS1 x hx).1⟩,fun x hx=>.inr hx⟩
     ·exact s1.elim
    ·exact k2.elim
  ·exact hk.elim
/-- The value that comes out. -/
def outV:List V→V
 | [v]=>v
 | vs=>.tu vs
/-- The titles, one temporary each. -/
theorem RepTs.slots{w:World}{Sh:Nat→Prop}{ρ:Rt→Option Sr}:∀ (cs:List V) (vs:List Value) (T:Nat→Prop) (k:Nat),RepTs w Sh ρ cs vs T →
  ∃ow:Nat→Slot,(∀ (j:Nat) (cl:V) (v:Value),cs[j]?=some cl→vs[j]?=some v→RepT w Sh ρ cl v (fun b=>ow b=.tm (k+j)))∧(∀b,ow b≠.no→T b)∧(∀b s,ow b=.tm s→k≤s)∧(∀b,ow b=.no∨∃s,ow b=.tm s)
 | [],[],T,k,_=>⟨fun _=>.no,fun j cl v h=>by simp at h,fun b h=>absurd rfl h,fun b s h=>(by cases h),fun b=>.inl rfl⟩
 | c::cs,v::vs,T,k,h=>by
  simp only [RepTs] at h
  obtain⟨T1,T2,h1,h2,d1,d2⟩:=h
  obtain⟨ow,k1,k2,k3,k4⟩:=RepTs.slots cs vs T2 (k+1) h2
  refine ⟨give ow T1 (.tm k),fun j cl u hc hv=>?_,fun b hb=>?_,fun b s hb=>?_,fun b=>?_⟩
  ·cases j with
   | zero =>
    simp only [List.getElem?_cons_zero,Option.some.injEq] at hc hv
    subst hc hv
    exact RepT.mono _ _ _ _ (fun b hb=>by rw [give_yes hb,Nat.add_zero]) h1
   | succ j =>
    simp only [List.getElem?_cons_succ] at hc hv
    refine RepT.mono _ _ _ _ (fun b hb=>?_) (k1 j cl u hc hv)
    have hn:¬T1 b:=fun hh=>(d1 b hh).2 (k2 b (by rw [hb];simp))
    rw [give_no hn,hb,show k+1+j=k+(j+1) by omega]
  ·by_cases e:T1 b
   ·exact (d1 b e).1
   ·rw [give_no e] at hb;exact d2 b (k2 b hb)
  ·by_cases e:T1 b
   ·rw [give_yes e] at hb;injection hb with hb;omega
   ·rw [give_no e] at hb;have:=k3 b s hb;omega
  ·by_cases e:T1 b
   ·exact .inr ⟨k,give_yes e⟩
   ·rw [give_no e];exact k4 b
 | [],_::_,_,_,h=>by simp only [RepTs] at h
 | _::_,[],_,_,h=>by simp only [RepTs] at h
/-- A function's contract out of its code's abstract run. -/
theorem ret_of_snd{f:Nat}{fn:Func}{cd:Code}{own:Bool}{args:List V}{g:List (List V)}{r:V}{X:(Ex→St→Prop)→St→Prop}(hE:EnvOk E)(hown:E.own=false)(hgx:∀g,E.gx g=none)(hf:E.P.funcs[f]?=some fn)(hb:fn.body=some cd)
  (hX:∀c,Fit E c→∀ (Q:Ex→St→Prop) (R:Exit→Act→World→Prop) (st:St) (a:Act) (w:World) (G:Gh),Rel c st a w G→X Q st→ExQ Q c R→cd.wp E.P R a w)
  (hnm : (fn.name == "runtime.NumGoroutine") = false) (ho : own = true → OwnV r)
  (hk:X (fun e st=>match e with | .exit _=>False | _=>valL E st fn.results.toList fun vs _=>bif okA (outV vs) then LeV (outV vs) r else False)
   { t:=args++List.replicate (fn.ntmps-args.length) (.tu []),m:=List.replicate fn.ntmps [],g:=g }):Ret E.P f own args g r:=by
 refine ⟨⟨fn,hf,by rw [hb];rfl,hnm⟩,fun w Sh H l vs hSh hH hargs hg=>?_⟩
 refine calls_of_wp hf hb ?_
 obtain⟨ow,k1,k2,k3,k4⟩:=RepTs.slots args vs H 0 hargs
 have hlen:=hargs.len
 let cx:Cx:={ w0:=w,Sh0:=Sh,H:=H,gm:=.shr,gl:=fun k=>l.getD k (.val undef) }
 have hfit:Fit E cx:=⟨by rw [hown];rfl,(fun e=>by rw [hown] at e;cases e),fun g u e=>(by rw [hgx] at e;cases e)⟩
 let A:Act:={ tmps:=vs.toArray++Array.replicate (fn.ntmps-vs.toArray.size) undef,defers:=[] }
 let G:Gh:={ ow:=ow,Sh:=Sh,bx:=fun _=>0,tv:=fun t=>A.tmps.getD t undef }
 have hrg:∀r s,rg l r=some s→Ar.rho cx G r=some s:=by
  intro r s hr
  cases r with
  | gl k =>
   simp only [rg] at hr
   simp only [Ar.rho]
   show some (l.getD k (.val undef))=some s
   simp [List.getD_eq_getElem?_getD,hr]
  | _=>simp [rg] at hr
 have hA:∀t,A.tmps.getD t undef=(vs[t]?).getD undef:=by
  intro t
  show (vs.toArray++Array.replicate (fn.ntmps-vs.toArray.size) undef).getD t undef=_
  rw [Array.getD_eq_getD_getElem?]
  by_cases hlt:t<vs.length
  ·rw [Array.getElem?_append_left (by simpa using hlt)]
   simp
  ·rw [Array.getElem?_append_right (by simpa using hlt)]
   rw [List.getElem?_eq_none (by omega)]
   simp only [Array.getElem?_replicate]
   split <;> rfl
 have hrel:Rel cx { t:=args++List.replicate (fn.ntmps-args.length) (.tu []),m:=List.replicate fn.ntmps [],g:=g } A w G:=by
  refine ⟨?_,rfl,?_,fun t f z xs _=>rfl,?_,?_,?_,fun b hb=>⟨hSh b hb,.inl hb⟩,fun _ hb=>hb,fun _ _ _=>rfl,Nat.le_refl _,rfl,rfl,rfl⟩
  ·show (vs.toArray++Array.replicate (fn.ntmps-vs.toArray.size) undef).size=_
   simp [hlen]
  ·intro t v ht
   simp only at ht
   rw [hA]
   by_cases hlt:t<args.length
   ·rw [List.getElem?_append_left hlt] at ht
    have hv:vs[t]?=some (vs[t]'(by omega)):=List.getElem?_eq_getElem (by omega)
    have:=k1 t v _ ht hv
    rw [hv]
    rw [Nat.zero_add] at this
    exact RepT.rmono hrg _ _ _ this
   ·rw [List.getElem?_append_right (by omega),List.getElem?_replicate] at ht
    split at ht
    ·injection ht with ht
     subst ht
     rw [List.getElem?_eq_none (by omega)]
     simp only [RepT]
     exact ⟨[],rfl,by simp only [RepTs]⟩
    ·cases ht
  ·intro t row ht hr
   simp only [List.getElem?_replicate] at ht
   split at ht
   ·injection ht with ht;exact absurd ht.symm hr
   ·cases ht
  ·intro k row hh
   rcases hg k row hh with e | ⟨b,o,h1,h2,h3⟩
   ·exact .inl e
   ·refine .inr ?_
    unfold GOkN
    show (match Fl.shr,l.getD k (.val undef) with
     | .own,.mem b o=>_ | .own,.val v=>_ | _,.mem b o=>_ | _,.val v=>_)
    have:l.getD k (.val undef)=.mem b o:=by simp [List.getD_eq_getElem?_getD,h1]
    rw [this]
    exact .inr ⟨h2,h3⟩
  ·intro b hb
   have:=k2 b hb
   exact ⟨hH b this,.inr this⟩
 refine hX cx hfit _ _ _ A w G hrel hk fun e st' a' w' G' hq h'=>?_
 have fin:(valL E st' fn.results.toList fun vs _=>bif okA (outV vs) then LeV (outV vs) r else False) →
   a'.defers=[]∧∃v,(results fn a'.tmps).run E.P w'=.ok v w'∧Post own w Sh H r (.returned v) w':=by
  intro hv
  obtain⟨us,r1,Vs,st2,G2,T2,q1,q2,q3,q4,q5,q6⟩:=valL_sound hE hfit (fn:=fn) fn.results.toList st' G' _ h' hv
  cases hok:okA (outV Vs) with
  | false=>rw [hok] at q1;exact q1.elim
  | true =>
   rw [hok] at q1
   have q1:LeV (outV Vs) r:=q1
   rw [LeV_eq] at q1
   refine ⟨h'.df,(if h:us.length=1 then us[0] else .tuple us.toArray),?_,_,G2.Sh,T2,rfl,?_,?_⟩
   ·have e0:results fn a'.tmps=(fn.results.mapM (resOf fn a') >>= fun vs=>pure (if h:vs.size=1 then vs[0] else Value.tuple vs)):=by
     unfold results
     congr 1
    have hm:(fn.results.mapM (resOf fn a')).run E.P w'=.ok us.toArray w':=by
     rw [Array.mapM_eq_mapM_toList]
     simp [r1]
    rw [e0,Sem.run_bind,hm]
    simp only [Result.andThen_ok,Sem.run_pure,List.size_toArray]
    by_cases h1:us.length=1
    ·simp [h1]
    ·simp [h1]
   ·have hrep:RepT w' G2.Sh (fun _=>none) (outV Vs) (if h:us.length=1 then us[0] else .tuple us.toArray) T2:=by
     have hl:=q3.len
     refine RepT.noρ (ρ:=Ar.rho cx G2) _ _ _ hok ?_
     by_cases h1:us.length=1
     ·rw [dif_pos h1]
      obtain⟨u,rfl⟩:=List.length_eq_one_iff.1 h1
      rw [h1] at hl
      obtain⟨v,rfl⟩:=List.length_eq_one_iff.1 hl
      simp only [RepTs] at q3
      obtain⟨S1,S2,z1,_,d1,_⟩:=q3
      exact RepT.mono _ _ _ _ (fun b hb=>(d1 b hb).1) z1
     ·rw [dif_neg h1]
      have e2:outV Vs=.tu Vs:=by
       cases Vs with
       | nil=>rfl
       | cons v Vs =>
        cases Vs with
        | nil=>exact absurd hl.symm h1
        | cons _ _=>rfl
      rw [e2]
      simp only [RepT]
      exact ⟨us,rfl,q3⟩
    cases own with
    | true=>exact fun S hS=>RepT.less hS _ _ _ (ho rfl) (LeF.rep _ _ _ _ q1 hrep)
    | false=>exact LeF.rep _ _ _ _ q1 hrep
   ·exact ⟨q2.s0,fun b hb=>q2.sb b hb,fun b hb=>⟨(q4 b hb).2.1,(q4 b hb).2.2⟩,q2.fr,q2.sz,q2.eos,q2.etape,q2.eout⟩
 cases e with
 | normal=>exact fin hq
 | ret=>exact fin hq
 | exit n=>exact hq.elim
theorem ret_of_aw{f:Nat}{fn:Func}{cd:Code}{own:Bool}{args:List V}{g:List (List V)}{r:V}(hE:EnvOk E)(hown:E.own=false)(hgx:∀g,E.gx g=none)(hm:E.P.follows .mixedOrders=true)(hf:E.P.funcs[f]?=some fn)(hb:fn.body=some cd)(hd:okCd E cd=true)
  (hnm : (fn.name == "runtime.NumGoroutine") = false) (ho : own = true → OwnV r)
  (hk:aw E cd (fun e st=>match e with | .exit _=>False | _=>valL E st fn.results.toList fun vs _=>bif okA (outV vs) then LeV (outV vs) r else False)
   { t:=args++List.replicate (fn.ntmps-args.length) (.tu []),m:=List.replicate fn.ntmps [],g:=g }):Ret E.P f own args g r :=
 ret_of_snd (X:=aw E cd) hE hown hgx hf hb (fun c hfit Q R st a w G h hk hQ=>aw_sound hE hfit hm cd Q R st a w G hd h hk hQ) hnm ho hk
end
end Go.Ar
