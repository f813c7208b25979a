import Derived.Test.YthhcbcokjlpahaaGreatArR
namespace Go.Ar
set_option linter.unusedVariables false
set_option linter.unusedSimpArgs false
theorem toG_tm{ow:Nat→Slot}{b t:Nat}(h:ow b=.tm t):toG ow b=.gc t:=by unfold toG;rw [h]
theorem toG_ne{ow:Nat→Slot}{b:Nat}(h:toG ow b≠.no):ow b≠.no:=by
 intro e;unfold toG at h;rw [e] at h;exact h rfl
theorem allSl_get:∀ {gs:List V} {n:Nat} {v:V},allSl gs=true→gs[n]?=some v→∃z xs,v=.sl .own z xs
 | [],_,_,_,h=>by simp at h
 | .sl .own z xs::gs,0,v,_,h=>⟨z,xs,by simpa using h.symm⟩
 | .sl .own z xs::gs,n+1,v,ha,h=>allSl_get (gs:=gs) (n:=n) (by simpa [allSl] using ha) (by simpa using h)
/-- Pieces with titles of their own, together. -/
theorem RepTs.joinG{w:World}{Sh:Nat→Prop}{ρ:Rt→Option Sr}{ow:Nat→Slot}:∀ (cs:List V) (vs:List Value) (k:Nat),cs.length=vs.length→(∀ (j:Nat) (cl:V) (v:Value),cs[j]?=some cl→vs[j]?=some v→RepT w Sh ρ cl v (fun b=>ow b=.gc (k+j))) →
  RepTs w Sh ρ cs vs (fun b=>∃j,k≤j∧ow b=.gc j)
 | [],[],_,_,_=>by simp only [RepTs]
 | cl::cs,v::vs,k,hl,h=>by
  simp only [RepTs]
  refine ⟨fun b=>ow b=.gc k,fun b=>∃j,k+1≤j∧ow b=.gc j,h 0 cl v rfl rfl,RepTs.joinG cs vs (k+1) (by simpa using hl) (fun j c u h1 h2=>?_),?_,?_⟩
  ·have:=h (j+1) c u (by simpa using h1) (by simpa using h2)
   rwa [show k+(j+1)=k+1+j by omega] at this
  ·intro b hb
   refine ⟨⟨k,Nat.le_refl _,hb⟩,fun⟨j,hj,e⟩=>?_⟩
   rw [hb] at e;injection e with e;omega
  ·rintro b ⟨j,hj,e⟩;exact ⟨j,by omega,e⟩
 | [],_::_,_,hl,_=>by simp at hl
 | _::_,[],_,hl,_=>by simp at hl
def gRows(gs:List V):List (List V):=gs.map fun v=>[v]
section
variable {E:Env}
/-- A contract with roots that are written, out of the code's abstract run. -/
theorem ret_of_sndM{f:Nat}{fn:Func}{cd:Code}{vals:List Value}{args gs gs':List V}{r:V}{X:(Ex→St→Prop)→St→Prop}(hE:EnvOk E)(hown:E.own=true)(hgv:∀g,E.gv g=true)(hgx:∀g,E.gx g=vals[g]?)(hf:E.P.funcs[f]?=some fn)(hb:fn.body=some cd)
  (hX:∀c,Fit E c→∀ (Q:Ex→St→Prop) (R:Exit→Act→World→Prop) (st:St) (a:Act) (w:World) (G:Gh),Rel c st a w G→X Q st→ExQ Q c R→cd.wp E.P R a w)
  (hnm : (fn.name == "runtime.NumGoroutine") = false) (hr : scalT r = true) (h1 : OwnVs gs) (h1' : allSl gs = true) (h2 : OwnVs gs') (h2' : allSl gs' = true) (hl' : gs'.length = vals.length)
  (hk:X (fun e st=>match e with | .exit _=>False | _=>valL E st fn.results.toList fun vs st2=>bif okA (outV vs) then LeV (outV vs) r∧st2.g=gRows gs' else False)
   { t:=args++List.replicate (fn.ntmps-args.length) (.tu []),m:=List.replicate fn.ntmps [],g:=gRows gs }):RetM E.P f vals args gs r gs':=by
 refine ⟨⟨fn,hf,by rw [hb];rfl,hnm⟩,hr,h1,h2',fun w Sh H vs hSh hH hargs hg=>?_⟩
 refine calls_of_wp hf hb ?_
 obtain⟨ow0,k1,k2,k3,k4⟩:=RepTs.slots gs vals H 0 hg
 have hglen:=hg.len
 have hlen:=hargs.len
 let l:List Sr:=vals.map Sr.val
 let cx:Cx:={ w0:=w,Sh0:=Sh,H:=H,gm:=.own,gl:=fun k=>l.getD k (.val undef) }
 have hgl:∀k u,vals[k]?=some u→cx.gl k=.val u:=by
  intro k u hu
  show l.getD k (.val undef)=.val u
  simp [l,List.getD_eq_getElem?_getD,hu]
 have hfit:Fit E cx:=⟨by rw [hown];rfl,fun _ g=>.inl (hgv g),fun g u e=>hgl g u (by rw [hgx] at e;exact e)⟩
 let A:Act:={ tmps:=vs.toArray++Array.replicate (fn.ntmps-vs.toArray.size) undef,defers:=[] }
 let G:Gh:={ ow:=toG ow0,Sh:=Sh,bx:=fun _=>0,tv:=fun t=>A.tmps.getD t undef }
 have hrg:∀r s,rg l r=some s→Ar.rho cx G r=some s:=by
  intro r s hr
  cases r with
  | gl k =>
   simp only [rg] at hr
   simp only [Ar.rho]
   show some (l.getD k (.val undef))=some s
   simp [List.getD_eq_getElem?_getD,hr]
  | _=>simp [rg] at hr
 have hA:∀t,A.tmps.getD t undef=(vs[t]?).getD undef:=by
  intro t
  show (vs.toArray++Array.replicate (fn.ntmps-vs.toArray.size) undef).getD t undef=_
  rw [Array.getD_eq_getD_getElem?]
  by_cases hlt:t<vs.length
  ·rw [Array.getElem?_append_left (by simpa using hlt)]
   simp
  ·rw [Array.getElem?_append_right (by simpa using hlt)]
   rw [List.getElem?_eq_none (by omega)]
   simp only [Array.getElem?_replicate]
   split <;> rfl
 have hpt:∀ (cs:List V) (us:List Value),RepTs w Sh (rg l) cs us (fun _=>False)→∀ (j:Nat) (cl:V) (v:Value),cs[j]?=some cl→us[j]?=some v→RepT w Sh (rg l) cl v (fun _=>False):=by
  intro cs
  induction cs with
  | nil=>intro us _ j cl v h;simp at h
  | cons c cs ih =>
   intro us hh j cl v hj hv
   cases us with
   | nil=>simp at hv
   | cons u us =>
    simp only [RepTs] at hh
    obtain⟨T1,T2,z1,z2,d1,d2⟩:=hh
    cases j with
    | zero =>
     obtain rfl:c=cl:=by simpa using hj
     obtain rfl:u=v:=by simpa using hv
     exact RepT.mono _ _ _ _ (fun b hb=>(d1 b hb).1) z1
    | succ j=>exact ih us (RepTs.mono _ _ _ _ d2 z2) j cl v (by simpa using hj) (by simpa using hv)
 have hrel:Rel cx { t:=args++List.replicate (fn.ntmps-args.length) (.tu []),m:=List.replicate fn.ntmps [],g:=gRows gs } A w G:=by
  refine ⟨?_,rfl,?_,fun t f z xs _=>rfl,?_,?_,?_,fun b hb=>⟨hSh b hb,.inl hb⟩,fun _ hb=>hb,fun _ _ _=>rfl,Nat.le_refl _,rfl,rfl,rfl⟩
  ·show (vs.toArray++Array.replicate (fn.ntmps-vs.toArray.size) undef).size=_
   simp [hlen]
  ·intro t v ht
   simp only at ht
   rw [hA]
   by_cases hlt:t<args.length
   ·rw [List.getElem?_append_left hlt] at ht
    have hv:vs[t]?=some (vs[t]'(by omega)):=List.getElem?_eq_getElem (by omega)
    rw [hv]
    exact RepT.mono _ _ _ _ (fun _ hh=>hh.elim) (RepT.rmono hrg _ _ _ (hpt args vs hargs t v _ ht hv))
   ·rw [List.getElem?_append_right (by omega),List.getElem?_replicate] at ht
    split at ht
    ·injection ht with ht
     subst ht
     rw [List.getElem?_eq_none (by omega)]
     simp only [RepT]
     exact ⟨[],rfl,by simp only [RepTs]⟩
    ·cases ht
  ·intro t row ht hr
   simp only [List.getElem?_replicate] at ht
   split at ht
   ·injection ht with ht;exact absurd ht.symm hr
   ·cases ht
  ·intro k row hh
   simp only [gRows,List.getElem?_map] at hh
   cases hgk:gs[k]? with
   | none=>rw [hgk] at hh;cases hh
   | some v =>
    rw [hgk] at hh
    simp only [Option.map_some,Option.some.injEq] at hh
    subst hh
    obtain⟨z,xs,rfl⟩:=allSl_get h1' hgk
    have hlt:k<vals.length:=by rw [←hglen];exact (List.getElem?_eq_some_iff.1 hgk).1
    have hv:vals[k]?=some (vals[k]'hlt):=List.getElem?_eq_getElem hlt
    refine .inr ?_
    unfold GOkN
    rw [show cx.gm=.own from rfl,hgl k _ hv]
    have:=k1 k _ _ hgk hv
    rw [Nat.zero_add] at this
    exact ⟨trivial,_,_,_,rfl,RepC.mono _ _ _ _ (fun b hb=>toG_tm hb) this⟩
  ·intro b hb
   have:=k2 b (toG_ne hb)
   exact ⟨hH b this,.inr this⟩
 refine hX cx hfit _ _ _ A w G hrel hk fun e st' a' w' G' hq h'=>?_
 have fin:(valL E st' fn.results.toList fun vs st2=>bif okA (outV vs) then LeV (outV vs) r∧st2.g=gRows gs' else False) →
   a'.defers=[]∧∃v,(results fn a'.tmps).run E.P w'=.ok v w'∧PostM w Sh H r vals gs' (.returned v) w':=by
  intro hv
  obtain⟨us,r1,Vs,st2,G2,T2,q1,q2,q3,q4,q5,q6⟩:=valL_sound hE hfit (fn:=fn) fn.results.toList st' G' _ h' hv
  cases hok:okA (outV Vs) with
  | false=>rw [hok] at q1;exact q1.elim
  | true =>
   rw [hok] at q1
   have q1:LeV (outV Vs) r∧st2.g=gRows gs':=q1
   obtain⟨q1,qo⟩:=q1
   rw [LeV_eq] at q1
   refine ⟨h'.df,(if h:us.length=1 then us[0] else .tuple us.toArray),?_,_,G2.Sh,(fun b=>∃j,0≤j∧G2.ow b=.gc j),rfl,?_,?_,?_⟩
   ·have e0:results fn a'.tmps=(fn.results.mapM (resOf fn a') >>= fun vs=>pure (if h:vs.size=1 then vs[0] else Value.tuple vs)):=by
     unfold results
     congr 1
    have hm:(fn.results.mapM (resOf fn a')).run E.P w'=.ok us.toArray w':=by
     rw [Array.mapM_eq_mapM_toList]
     simp [r1]
    rw [e0,Sem.run_bind,hm]
    simp only [Result.andThen_ok,Sem.run_pure,List.size_toArray]
    by_cases h1:us.length=1
    ·simp [h1]
    ·simp [h1]
   ·have hrep:RepT w' G2.Sh (fun _=>none) (outV Vs) (if h:us.length=1 then us[0] else .tuple us.toArray) T2:=by
     have hl:=q3.len
     refine RepT.noρ (ρ:=Ar.rho cx G2) _ _ _ hok ?_
     by_cases h1:us.length=1
     ·rw [dif_pos h1]
      obtain⟨u,rfl⟩:=List.length_eq_one_iff.1 h1
      rw [h1] at hl
      obtain⟨v,rfl⟩:=List.length_eq_one_iff.1 hl
      simp only [RepTs] at q3
      obtain⟨S1,S2,z1,_,d1,_⟩:=q3
      exact RepT.mono _ _ _ _ (fun b hb=>(d1 b hb).1) z1
     ·rw [dif_neg h1]
      have e2:outV Vs=.tu Vs:=by
       cases Vs with
       | nil=>rfl
       | cons v Vs =>
        cases Vs with
        | nil=>exact absurd hl.symm h1
        | cons _ _=>rfl
      rw [e2]
      simp only [RepT]
      exact ⟨us,rfl,q3⟩
    exact scalV_rep hr (LeF.rep _ _ _ _ q1 hrep)
   ·intro S hS
    refine RepTs.less hS _ _ _ h2 (RepTs.joinG (ρ:=fun _=>none) gs' vals 0 hl' fun j cl v hj hvj=>?_)
    obtain⟨z,xs,rfl⟩:=allSl_get h2' hj
    have hgb:=(q2.gb j [.sl .own z xs] (by rw [qo];simp [gRows,hj])).resolve_left (by simp)
    unfold GOkN at hgb
    rw [show cx.gm=.own from rfl,hgl j v hvj] at hgb
    obtain⟨_,f,z',ys,e1,hrr⟩:=hgb
    injection e1 with e1 _
    injection e1 with e1 e2 e3
    subst e1 e2 e3
    rw [Nat.zero_add]
    exact hrr
   ·refine ⟨q2.s0,fun b hb=>q2.sb b hb,?_,q2.fr,q2.sz,q2.eos,q2.etape,q2.eout⟩
    rintro b ⟨j,_,hb⟩
    exact q2.ob b (by rw [hb];exact fun e=>by cases e)
 cases e with
 | normal=>exact fin hq
 | ret=>exact fin hq
 | exit n=>exact hq.elim
/-- A contract with roots that are written, out of the code's abstract run. -/
theorem ret_of_awM{f:Nat}{fn:Func}{cd:Code}{vals:List Value}{args gs gs':List V}{r:V}(hE:EnvOk E)(hown:E.own=true)(hgv:∀g,E.gv g=true)(hgx:∀g,E.gx g=vals[g]?)(hm:E.P.follows .mixedOrders=true)(hf:E.P.funcs[f]?=some fn)(hb:fn.body=some cd)(hd:okCd E cd=true)
  (hnm : (fn.name == "runtime.NumGoroutine") = false) (hr : scalT r = true) (h1 : OwnVs gs) (h1' : allSl gs = true) (h2 : OwnVs gs') (h2' : allSl gs' = true) (hl' : gs'.length = vals.length)
  (hk:aw E cd (fun e st=>match e with | .exit _=>False | _=>valL E st fn.results.toList fun vs st2=>bif okA (outV vs) then LeV (outV vs) r∧st2.g=gRows gs' else False)
   { t:=args++List.replicate (fn.ntmps-args.length) (.tu []),m:=List.replicate fn.ntmps [],g:=gRows gs }):RetM E.P f vals args gs r gs' :=
 ret_of_sndM hE hown hgv hgx hf hb (fun c hfit Q R st a w G h hk hQ=>aw_sound hE hfit hm cd _ _ _ a w G hd h hk hQ) hnm hr h1 h1' h2 h2' hl' hk
end
end Go.Ar
