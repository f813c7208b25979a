import Derived.Test.YthhcbcokjlpahaaGreatArF
namespace Go.Ar
set_option linter.unusedVariables false
set_option linter.unusedSimpArgs false
/-! ### A slice of a slice -/
def Bd(x:Option Value)(d n:Int):Prop:=(x=none∧n=d)∨∃k,x=some (.int k n)
theorem run_bounds{P:Program}{w:World}{s:Bool}{len cap:Nat}{lo hi:Option Value}{l h:Int}(hl:Bd lo 0 l)(hh:Bd hi len h)(h0:0≤l)(h1:l≤h)(h2:h≤len)(h3:len≤cap) :
  (Instr.sliceBounds s len cap lo hi none).run P w=.ok (l.toNat,h.toNat,cap) w:=by
 have eh:(h.toNat:Int)=h:=Int.toNat_of_nonneg (by omega)
 have h4:h≤cap:=by omega
 have h5:0≤h:=by omega
 rcases hl with ⟨rfl,rfl⟩ | ⟨kl,rfl⟩
 ·rcases hh with ⟨rfl,rfl⟩ | ⟨kh,rfl⟩
  ·simp [Instr.sliceBounds]
  ·simp [Instr.sliceBounds,run_sliceBound,h4,h5]
 ·rcases hh with ⟨rfl,rfl⟩ | ⟨kh,rfl⟩
  ·simp [Instr.sliceBounds,run_sliceBound,h0,h1]
  ·simp [Instr.sliceBounds,run_sliceBound,h0,h1,h4,h5,eh]
def bdA(st:St)(x:Option Operand)(d:Int)(K:Int→Prop):Prop :=
 match x with
 | none=>K d
 | some y=>(match ev st y with | .i _ n=>K n | _=>False)
theorem bdA_sound{c:Cx}{st:St}{a:Act}{w:World}{G:Gh}(h:Rel c st a w G){x:Option Operand}{d:Int}{K:Int→Prop}(hk:bdA st x d K):∃n,Bd (x.map a.eval) d n∧K n:=by
 unfold bdA at hk
 split at hk
 ·exact ⟨d,.inl ⟨rfl,rfl⟩,hk⟩
 ·rename_i y
  split at hk
  ·rename_i k n hg
   obtain⟨T,hx⟩:=h.ev y
   rw [hg] at hx
   have hx:a.eval y=.int k n:=hx
   exact ⟨n,.inr ⟨k,by simp [hx]⟩,hk⟩
  ·exact hk.elim
theorem slice_run{E:Env}{w w2:World}{Sh:Nat→Prop}{md f:Fl}{z:Nat}{xs:List (List V)}{v:Value}{T:Nat→Prop}{t e:Nat}{x:TypeInfo}(hu:E.P.underlying t=some (.slice e))(hI:E.P.info? e=some x)(hz:x.size=z)
  (hC:RepC w Sh md (.sl f z xs) v T) {lo hi:Option Value} {l h:Int} (hl:Bd lo 0 l) (hh:Bd hi xs.length h) (h0:0≤l) (h1:l≤h) (h2:h≤xs.length) :
  ∃r,(Instr.sliceAt t v lo hi none).run E.P w2=.ok r w2∧subV z (some (l,h)) v r:=by
 rcases hC.hdr with ⟨⟨al,rfl⟩,rfl⟩ | ⟨b,o,c,rfl,q1,q2,_⟩
 ·have hb:=run_bounds (P:=E.P) (w:=w2) (s:=true) (len:=0) (cap:=0) hl hh h0 h1 h2 (Nat.le_refl _)
  have e1:l.toNat=0:=by simp at h2;omega
  have e2:h.toNat=0:=by simp at h2;omega
  cases al with
  | none =>
   refine ⟨.slice none 0 0,?_,.inl ⟨⟨_,rfl⟩,⟨_,rfl⟩⟩⟩
   simp [Instr.sliceAt,Instr.slice,run_underlying hu,hb,sizeOf,typeInfo,hI,e1,e2]
  | some a =>
   refine ⟨.slice (some a) 0 0,?_,.inl ⟨⟨_,rfl⟩,⟨_,rfl⟩⟩⟩
   simp [Instr.sliceAt,Instr.slice,run_underlying hu,hb,sizeOf,typeInfo,hI,e1,e2]
 ·have hb:=run_bounds (P:=E.P) (w:=w2) (s:=true) hl hh h0 h1 h2 q1
  refine ⟨_,?_,.inr ⟨b,o,xs.length,c,c,rfl,by omega,by omega,q1,by omega,Nat.le_refl _,rfl⟩⟩
  by_cases hcl:c=l.toNat
  ·subst hcl
   simp [Instr.sliceAt,Instr.slice,run_underlying hu,hb,sizeOf,typeInfo,hI]
  ·simp [Instr.sliceAt,Instr.slice,run_underlying hu,hb,sizeOf,typeInfo,hI,hcl,Addr.add_lit,hz]
theorem slice_run3{E:Env}{w w2:World}{Sh:Nat→Prop}{md f:Fl}{z:Nat}{xs:List (List V)}{v:Value}{T:Nat→Prop}{t e:Nat}{x:TypeInfo}(hu:E.P.underlying t=some (.slice e))(hI:E.P.info? e=some x)(hz:x.size=z)
  (hC:RepC w Sh md (.sl f z xs) v T) {lo:Option Value} {l h m:Int} {kh km:IntKind} (hl:Bd lo 0 l) (h0:0≤l) (h1:l≤h) (h2:h≤m) (h3:m≤xs.length) :
  ∃r,(Instr.sliceAt t v lo (some (.int kh h)) (some (.int km m))).run E.P w2=.ok r w2∧subV z (some (l,h)) v r:=by
 have hb:∀len cap:Nat,m≤cap→(Instr.sliceBounds true len cap lo (some (.int kh h)) (some (.int km m))).run E.P w2=.ok (l.toNat,h.toNat,m.toNat) w2:=by
  intro len cap hc
  have e1:(m.toNat:Int)=m:=Int.toNat_of_nonneg (by omega)
  have e2:(h.toNat:Int)=h:=Int.toNat_of_nonneg (by omega)
  have h5:0≤h:=by omega
  have h6:0≤m:=by omega
  rcases hl with ⟨rfl,rfl⟩ | ⟨kl,rfl⟩
  ·simp [Instr.sliceBounds,run_sliceBound,hc,h2,h5,h6,e1]
  ·simp [Instr.sliceBounds,run_sliceBound,h0,h1,hc,h2,h5,h6,e1,e2]
 rcases hC.hdr with ⟨⟨al,rfl⟩,rfl⟩ | ⟨b,o,c,rfl,q1,q2,_⟩
 ·have hb:=hb 0 0 (by simpa using h3)
  have e0:m.toNat=0:=by simp at h3;omega
  have e1:l.toNat=0:=by simp at h3;omega
  have e2:h.toNat=0:=by simp at h3;omega
  cases al with
  | none =>
   refine ⟨.slice none 0 0,?_,.inl ⟨⟨_,rfl⟩,⟨_,rfl⟩⟩⟩
   simp [Instr.sliceAt,Instr.slice,run_underlying hu,hb,sizeOf,typeInfo,hI,e0,e1,e2]
  | some a =>
   refine ⟨.slice (some a) 0 0,?_,.inl ⟨⟨_,rfl⟩,⟨_,rfl⟩⟩⟩
   simp [Instr.sliceAt,Instr.slice,run_underlying hu,hb,sizeOf,typeInfo,hI,e0,e1,e2]
 ·have hb:=hb xs.length c (by omega)
  refine ⟨_,?_,.inr ⟨b,o,xs.length,c,m.toNat,rfl,by omega,by omega,q1,by omega,by omega,rfl⟩⟩
  by_cases hcl:m.toNat=l.toNat
  ·simp [Instr.sliceAt,Instr.slice,run_underlying hu,hb,sizeOf,typeInfo,hI,hcl]
  ·simp [Instr.sliceAt,Instr.slice,run_underlying hu,hb,sizeOf,typeInfo,hI,hcl,Addr.add_lit,hz]
section ops
variable {E:Env} {c:Cx} {o:Oper}
noncomputable def slA(E:Env)(st:St)(t:Nat)(x:Operand)(lo hi mx:Option Operand)(K:V→Prop):Prop :=
 match mx,(E.ti t).k with
 | none,.str =>
  (match ev st x with
  | .s l=>bdA st lo 0 fun lo=>bdA st hi (slen l) fun hi=>InS lo hi (slen l)∧K (.s (ssub l lo hi))
  | _=>False)
 | none,.slice e =>
  bif kn (E.ti e).k then
  (match x with
  | .tmp s =>
   (match st.t.getD s .un with
   | .sl .shr z xs=>bif z == (E.ti e).sz then bdA st lo 0 fun lo=>bdA st hi (llen xs) fun hi=>InS lo hi (llen xs)∧K (.sl .shr z (subL xs lo hi)) else False
   | .sl _ z xs=>bif z == (E.ti e).sz then bdA st lo 0 fun lo=>bdA st hi (llen xs) fun hi=>InS lo hi (llen xs)∧K (.rf ⟨.tp s,[],0⟩ z (some (lo,hi))) else False
   | .rf p z none=>bif z == (E.ti e).sz then dfA E st p z none (fun xs=>bdA st lo 0 fun lo=>bdA st hi (llen xs) fun hi=>InS lo hi (llen xs)∧K (.rf p z (some (lo,hi)))) else False
   | _=>False)
  | _=>False) else False
 | some mo,.slice e =>
  bif kn (E.ti e).k then
  (match x,hi with
  | .tmp s,some ho =>
   (match st.t.getD s .un,ev st ho,ev st mo with
   | .rf p z none,.i _ hn,.i _ mn=>bif z == (E.ti e).sz then dfA E st p z none (fun xs=>bdA st lo 0 fun lo=>InS lo hn mn∧InS 0 mn (llen xs)∧K (.rf p z (some (lo,hn)))) else False
   | _,_,_=>False)
  | _,_=>False) else False
 | _,_=>False
theorem slice_sound(hE:EnvOk E)(hfit:Fit E c){t:Nat}{x:Operand}{lo hi mx:Option Operand}(ho:o.op=.slice t x lo hi mx):OpQ E c o fun st K=>slA E st t x lo hi mx K:=by
 intro st a w G K N Q h hk hN
 unfold slA at hk
 split at hk
 ·rename_i hks
  have hu:=(hE t (by rw [hks];rfl)).und
  rw [hks] at hu
  have hu:E.P.underlying t=some .string:=hu
  obtain⟨T,hx⟩:=h.ev x
  split at hk
  ·rename_i l hg
   rw [hg] at hx
   have hx:a.eval x=.string ⟨l.toArray⟩:=hx
   obtain⟨n1,b1,hk⟩:=bdA_sound h hk
   obtain⟨n2,b2,k1,k2⟩:=bdA_sound h hk
   rw [slen_eq] at b2
   rw [InS_eq,slen_eq] at k1
   rw [ssub_eq] at k2
   have hsz:(⟨l.toArray⟩:ByteArray).size=l.length:=by show l.toArray.size=_;simp
   have hb:=run_bounds (P:=E.P) (w:=w) (s:=false) (len:=l.length) (cap:=l.length) b1 b2 k1.1 k1.2.1 k1.2.2 (Nat.le_refl _)
   have hG:=h.rep0 (v:=.s ((l.drop n1.toNat).take (n2.toNat-n1.toNat))) (u:=.string ⟨((l.drop n1.toNat).take (n2.toNat-n1.toNat)).toArray⟩) rfl
   refine wp_value (v:=.string ⟨((l.drop n1.toNat).take (n2.toNat-n1.toNat)).toArray⟩) (w':=w) ?_ (hN _ _ _ _ k2 (RowKit.Below.refl _ _) hG noneT)
   have hex:(⟨l.toArray⟩:ByteArray).extract n1.toNat n2.toNat=⟨((l.drop n1.toNat).take (n2.toNat-n1.toNat)).toArray⟩:=by
    apply ByteArray.ext
    simp [ByteArray.data_extract,List.extract_eq_take_drop]
   simp [execOp,ho,hx,Instr.sliceAt,Instr.slice,run_underlying hu,hsz,hb,hex]
  ·exact hk.elim
 ·rename_i e hks
  have hu:=(hE t (by rw [hks];rfl)).und
  rw [hks] at hu
  have hu:E.P.underlying t=some (.slice e):=hu
  cases hke:kn (E.ti e).k with
  | false=>rw [hke] at hk;exact hk.elim
  | true =>
   rw [hke] at hk
   simp only [cond_true] at hk
   obtain⟨xi,zz,i1,i2,_⟩:=(hE e hke).info
   split at hk
   ·rename_i s
    have ht:=h.tmp s
    split at hk
    ·rename_i z xs hg
     rw [hg] at ht
     cases hz:(z == (E.ti e).sz) with
     | false=>rw [hz] at hk;exact hk.elim
     | true =>
      rw [hz] at hk
      obtain rfl:z=(E.ti e).sz:=by simpa using hz
      simp only [cond_true] at hk
      obtain⟨n1,b1,hk⟩:=bdA_sound h hk
      obtain⟨n2,b2,k1,k2⟩:=bdA_sound h hk
      rw [llen_eq] at b2
      rw [InS_eq,llen_eq] at k1
      have hC:RepC w G.Sh .own (.sl .shr (E.ti e).sz xs) (a.tmps.getD s undef) _:=ht
      obtain⟨r,hr,hs⟩:=slice_run (w2:=w) hu i1 i2 hC b1 b2 k1.1 k1.2.1 k1.2.2
      have hG:=h.rep0 (v:=.sl .shr (E.ti e).sz (subL xs n1 n2)) (u:=r) (RepC.shr_of (md:=.own) rfl (RepC.sub hC hs))
      exact wp_value (v:=r) (w':=w) (by
       have hr':(Instr.sliceAt t (a.eval (.tmp s)) (lo.map a.eval) (hi.map a.eval) none).run E.P w=.ok r w:=hr
       simp [execOp,ho,hr']) (hN _ _ _ _ k2 (RowKit.Below.refl _ _) hG noneT)
    ·rename_i f z xs hf hg
     rw [hg] at ht
     cases hz:(z == (E.ti e).sz) with
     | false=>rw [hz] at hk;exact hk.elim
     | true =>
      rw [hz] at hk
      obtain rfl:z=(E.ti e).sz:=by simpa using hz
      simp only [cond_true] at hk
      obtain⟨n1,b1,hk⟩:=bdA_sound h hk
      obtain⟨n2,b2,k1,k2⟩:=bdA_sound h hk
      rw [llen_eq] at b2
      rw [InS_eq,llen_eq] at k1
      have hC:RepC w G.Sh .own (.sl f (E.ti e).sz xs) (a.tmps.getD s undef) _:=ht
      obtain⟨r,hr,hs⟩:=slice_run (w2:=w) hu i1 i2 hC b1 b2 k1.1 k1.2.1 k1.2.2
      have htv:=h.tv s f _ xs (getD_some hg (by simp))
      have hG:=h.rep0 (v:=.rf ⟨.tp s,[],0⟩ (E.ti e).sz (some (n1,n2))) (u:=r) (by
       simp only [RepT]
       exact ⟨.val (G.tv s),.val (G.tv s),G.tv s,rfl,rfl,rfl,htv▸hs⟩)
      exact wp_value (v:=r) (w':=w) (by
       have hr':(Instr.sliceAt t (a.eval (.tmp s)) (lo.map a.eval) (hi.map a.eval) none).run E.P w=.ok r w:=hr
       simp [execOp,ho,hr']) (hN _ _ _ _ k2 (RowKit.Below.refl _ _) hG noneT)
    ·rename_i p z hg
     rw [hg] at ht
     cases hz:(z == (E.ti e).sz) with
     | false=>rw [hz] at hk;exact hk.elim
     | true =>
      rw [hz] at hk
      obtain rfl:z=(E.ti e).sz:=by simpa using hz
      simp only [cond_true] at hk
      obtain⟨md,f,xs,T,hk,hC,hTB⟩:=dfA_sound h hfit ht hk
      obtain⟨n1,b1,hk⟩:=bdA_sound h hk
      obtain⟨n2,b2,k1,k2⟩:=bdA_sound h hk
      rw [llen_eq] at b2
      rw [InS_eq,llen_eq] at k1
      obtain⟨r,hr,hs⟩:=slice_run (w2:=w) hu i1 i2 hC b1 b2 k1.1 k1.2.1 k1.2.2
      simp only [RepT] at ht
      obtain⟨src,s',hv0,hsrc,hres,hcell,hsub,_⟩:=ht
      have hG:=h.rep0 (v:=.rf p (E.ti e).sz (some (n1,n2))) (u:=r) (by
       simp only [RepT]
       exact ⟨src,s',_,hsrc,hres,hcell,hsub▸hs⟩)
      exact wp_value (v:=r) (w':=w) (by
       have hr':(Instr.sliceAt t (a.eval (.tmp s)) (lo.map a.eval) (hi.map a.eval) none).run E.P w=.ok r w:=hr
       simp [execOp,ho,hr']) (hN _ _ _ _ k2 (RowKit.Below.refl _ _) hG noneT)
    ·exact hk.elim
   ·exact hk.elim
 ·rename_i mo e hks
  have hu:=(hE t (by rw [hks];rfl)).und
  rw [hks] at hu
  have hu:E.P.underlying t=some (.slice e):=hu
  cases hke:kn (E.ti e).k with
  | false=>rw [hke] at hk;exact hk.elim
  | true =>
   rw [hke] at hk
   simp only [cond_true] at hk
   obtain⟨xi,zz,i1,i2,_⟩:=(hE e hke).info
   split at hk
   ·rename_i s hop
    have ht:=h.tmp s
    obtain⟨Th,hh⟩:=h.ev hop
    obtain⟨Tm,hm⟩:=h.ev mo
    split at hk
    ·rename_i p z kh hn km mn hg hgh hgm
     rw [hg] at ht
     rw [hgh] at hh
     rw [hgm] at hm
     have hh:a.eval hop=.int kh hn:=hh
     have hm:a.eval mo=.int km mn:=hm
     cases hz:(z == (E.ti e).sz) with
     | false=>rw [hz] at hk;exact hk.elim
     | true =>
      rw [hz] at hk
      obtain rfl:z=(E.ti e).sz:=by simpa using hz
      simp only [cond_true] at hk
      obtain⟨md,f,xs,T,hk,hC,hTB⟩:=dfA_sound h hfit ht hk
      obtain⟨n1,b1,k0,k1,k2⟩:=bdA_sound h hk
      rw [InS_eq] at k0
      rw [InS_eq,llen_eq] at k1
      obtain⟨r,hr,hs⟩:=slice_run3 (w2:=w) hu i1 i2 hC b1 k0.1 k0.2.1 k0.2.2 k1.2.2
      simp only [RepT] at ht
      obtain⟨src,s',hv0,hsrc,hres,hcell,hsub,_⟩:=ht
      have hG:=h.rep0 (v:=.rf p (E.ti e).sz (some (n1,hn))) (u:=r) (by
       simp only [RepT]
       exact ⟨src,s',_,hsrc,hres,hcell,hsub▸hs⟩)
      exact wp_value (v:=r) (w':=w) (by
       have hr':(Instr.sliceAt t (a.eval (.tmp s)) (lo.map a.eval) (some (.int kh hn)) (some (.int km mn))).run E.P w=.ok r w:=hr
       simp [execOp,ho,hh,hm,hr']) (hN _ _ _ _ k2 (RowKit.Below.refl _ _) hG noneT)
    ·exact hk.elim
   ·exact hk.elim
 ·exact hk.elim
/-! ### A component of a tuple; a function value; a field -/
theorem RepTs.focus{w:World}{Sh:Nat→Prop}{ρ:Rt→Option Sr}:∀ (cs:List V) (vs:List Value) (T:Nat→Prop) (j:Nat) (cl:V),RepTs w Sh ρ cs vs T→cs[j]?=some cl →
  ∃ (v:Value) (T1:Nat→Prop),vs[j]?=some v∧RepT w Sh ρ cl v T1∧(∀x,T1 x→T x)∧RepTs w Sh ρ (cs.set j .un) vs (fun x=>T x∧¬T1 x)
 | c::cs,v::vs,T,0,cl,h,hc=>by
  simp only [RepTs] at h
  obtain⟨T1,T2,h1,h2,d1,d2⟩:=h
  obtain rfl:c=cl:=by simpa using hc
  refine ⟨v,T1,rfl,h1,fun x hx=>(d1 x hx).1,?_⟩
  simp only [List.set_cons_zero,RepTs]
  exact ⟨fun _=>False,T2,trivial,h2,fun _ h=>h.elim,fun x hx=>⟨d2 x hx,fun hh=>(d1 x hh).2 hx⟩⟩
 | c::cs,v::vs,T,j+1,cl,h,hc=>by
  simp only [RepTs] at h
  obtain⟨T1,T2,h1,h2,d1,d2⟩:=h
  obtain⟨u,S,k1,k2,k3,k4⟩:=RepTs.focus cs vs T2 j cl h2 (by simpa using hc)
  refine ⟨u,S,by simpa using k1,k2,fun x hx=>d2 x (k3 x hx),?_⟩
  simp only [List.set_cons_succ,RepTs]
  exact ⟨T1,_,h1,k4,fun x hx=>⟨⟨(d1 x hx).1,fun hh=>(d1 x hx).2 (k3 x hh)⟩,fun hh=>(d1 x hx).2 hh.1⟩,fun x hx=>⟨d2 x hx.1,hx.2⟩⟩
 | [],[],_,_,_,_,hc=>by simp at hc
 | [],_::_,_,_,_,h,_=>by simp only [RepTs] at h
 | _::_,[],_,_,_,h,_=>by simp only [RepTs] at h
/-- The list's access, for the evaluation. -/
def nthV:List V→Nat→Option V
 | [],_=>none
 | c::_,0=>some c
 | _::cs,n+1=>nthV cs n
theorem nthV_eq:∀ (cs:List V) (j:Nat),nthV cs j=cs[j]?
 | [],_=>rfl
 | c::_,0=>rfl
 | _::cs,n+1=>by rw [nthV,nthV_eq cs n,List.getElem?_cons_succ]
def exA(st:St)(x:Operand)(j:Nat)(K:V→St→Prop):Prop :=
 match x with
 | .tmp s =>
  (match st.t.getD s .un with
  | .tu cs=>(match nthV cs j with | some v=>(match cp v with | true=>K v st | false=>K v { st with t:=st.t.set s (.tu (cs.set j .un)) }) | none=>False)
  | _=>False)
 | _=>False
theorem extract_sound{x:Operand}{j:Nat}(ho:o.op=.extract x j):OpS E c o fun st K=>exA st x j fun v st'=>K (pu st' o.dst v):=by
 intro st a w G K N Q h hk hN
 unfold exA at hk
 split at hk
 ·rename_i s
  have ht:=h.tmp s
  split at hk
  ·rename_i cs hg
   have hs:=getD_some hg (by simp)
   rw [hg] at ht
   simp only [RepT] at ht
   obtain⟨vs,h1,h2⟩:=ht
   split at hk
   ·rename_i v hj
    rw [nthV_eq] at hj
    obtain⟨u,T1,k1,k2,k3,k4⟩:=RepTs.focus cs vs _ j v h2 hj
    have hrun:(execOp a.eval o).run E.P w=.ok (.value u) w:=by
     have hx:a.eval (.tmp s)=.tuple vs.toArray:=h1
     simp [execOp,ho,hx,Instr.extract,k1]
    cases hc:cp v with
    | true =>
     rw [hc] at hk
     obtain⟨G',hG⟩:=h.put0 o.dst (cp_T _ _ _ _ hc k2)
     exact wp_value hrun (hN _ _ _ _ hk hG)
    | false =>
     rw [hc] at hk
     have ht2:=h.turn s (.tu cs) (.tu (cs.set j .un)) T1 G.Sh hs k3 (fun _ hb=>hb) (fun _ hb=>.inl hb) (by simp only [RepT];exact ⟨vs,h1,k4⟩) (fun e=>by cases e)
     have hno:∀b,T1 b→give G.ow T1 .no b=.no:=fun b hb=>give_yes hb
     obtain⟨G',hG⟩:=ht2.put1 o.dst (T:=T1) k2 (fun b hb=>by
      have:=h.ob b (by rw [k3 b hb];simp)
      exact ⟨hno b hb,this⟩)
     exact wp_value hrun (hN _ _ _ _ hk hG)
   ·exact hk.elim
  ·exact hk.elim
 ·exact hk.elim
/-- Several operands, handed on. -/
def mvL:St→List Operand→(List V→St→Prop)→Prop
 | st,[],K=>K [] st
 | st,x::xs,K=>mvA st x fun v st'=>mvL st' xs fun vs st''=>K (v::vs) st''
noncomputable def coL(E:Env):St→List Operand→(List V→St→Prop)→Prop
 | st,[],K=>K [] st
 | st,x::xs,K=>coA E st x fun v st'=>coL E st' xs fun vs st''=>K (v::vs) st''
def HandedL(c:Cx)(a:Act)(w:World)(G:Gh)(us:List Value)(K:List V→St→Prop):Prop :=
 ∃ (Vs:List V) (st':St) (G':Gh) (T':Nat→Prop),K Vs st'∧Rel c st' a w G'∧RepTs w G'.Sh (Ar.rho c G') Vs us T'∧Free c w G' T'∧Later w G G'∧(∀b,T' b→G.ow b≠.no)
theorem HandedL.nil{st:St}{a:Act}{w:World}{G:Gh}{K:List V→St→Prop}(h:Rel c st a w G)(hk:K [] st):HandedL c a w G [] K :=
 ⟨[],st,G,fun _=>False,hk,h,by simp only [RepTs],none_free,Later.refl _ _,fun _ h=>h.elim⟩
theorem HandedL.cons{a:Act}{w:World}{G:Gh}{u:Value}{us:List Value}{K:List V→St→Prop}{F:V→St→Prop}(h1:Handed c a w G u F)
  (hn:∀v st' G',Rel c st' a w G'→F v st'→HandedL c a w G' us fun vs st''=>K (v::vs) st''):HandedL c a w G (u::us) K:=by
 obtain⟨V',st',G',T',k1,k2,k3,k4,k5,k6⟩:=h1
 obtain⟨Vs,st2,G2,T2,q1,q2,q3,q4,q5,q6⟩:=hn V' st' G' k2 k1
 refine ⟨V' :: Vs,st2,G2,(fun b=>T' b∨T2 b),q1,q2,?_,fun b hb=>hb.elim (q5.free k4 b) (q4 b),k5.trans q5,fun b hb=>hb.elim (k6 b) (fun hb e=>q6 b hb (k5.no b e))⟩
 simp only [RepTs]
 exact ⟨T',T2,q5.repT (fun b hb=>(k4 b hb).1) k3,q3,fun x hx=>⟨.inl hx,fun hh=>q6 x hh (k4 x hx).1⟩,fun x hx=>.inr hx⟩
theorem mvL_sound{a:Act}{w:World}:∀ (xs:List Operand) (st:St) (G:Gh) (K:List V→St→Prop),Rel c st a w G→mvL st xs K→HandedL c a w G (xs.map a.eval) K
 | [],st,G,K,h,hk=>HandedL.nil h hk
 | x::xs,st,G,K,h,hk=>HandedL.cons (mvA_sound h hk) fun v st' G' h' hk'=>mvL_sound xs st' G' _ h' hk'
theorem coL_sound(hfit:Fit E c){a:Act}{w:World}:∀ (xs:List Operand) (st:St) (G:Gh) (K:List V→St→Prop),Rel c st a w G→coL E st xs K→HandedL c a w G (xs.map a.eval) K
 | [],st,G,K,h,hk=>HandedL.nil h hk
 | x::xs,st,G,K,h,hk=>HandedL.cons (coA_sound hfit h hk) fun v st' G' h' hk'=>coL_sound hfit xs st' G' _ h' hk'
theorem makeFunc_sound{f:Nat}{caps:Array Operand}(ho:o.op=.makeFunc (.func f) #[] caps):OpS E c o fun st K=>mvL st caps.toList fun vs st'=>K (pu st' o.dst (.fn f vs)):=by
 intro st a w G K N Q h hk hN
 obtain⟨Vs,st',G',T',k1,k2,k3,k4,k5,k6⟩:=mvL_sound _ st G _ h hk
 obtain⟨G2,hG⟩:=k2.put1 o.dst (v:=.fn f Vs) (u:=.func (.func f) #[] (caps.map a.eval)) (T:=T') (by simp only [RepT];exact ⟨_,by rw [←Array.toList_map],k3⟩) k4
 exact wp_value (v:=.func (.func f) #[] (caps.map a.eval)) (w':=w) (by simp [execOp,ho,Instr.makeFunc]) (hN _ _ _ _ k1 hG)
end ops
end Go.Ar
