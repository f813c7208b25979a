import Derived.Test.YthhcbcokjlpahaaGreatArL
namespace Go.Ar
set_option linter.unusedVariables false
set_option linter.unusedSimpArgs false
/-! ### append, of states -/
noncomputable def Sc:List (List V)→Prop:=Classical.choose (kp fun(xs:List (List V))=>∀r∈xs,scals r=true)
theorem Sc_eq(xs:List (List V)):Sc xs = ∀r∈xs,scals r=true:=by unfold Sc;rw [Classical.choose_spec (kp fun(xs:List (List V))=>∀r∈xs,scals r=true)]
def shC:V→V
 | .sl _ z xs=>.sl .shr z xs
 | v=>v
noncomputable def shRows:List (List V)→List (List V):=Classical.choose (kp fun(xs:List (List V))=>xs.map fun r=>r.map shC)
theorem shRows_eq(xs:List (List V)):shRows xs=xs.map fun r=>r.map shC:=by unfold shRows;rw [Classical.choose_spec (kp fun(xs:List (List V))=>xs.map fun r=>r.map shC)]
theorem shC_rep{w:World}{Sh:Nat→Prop}{c:V}{v:Value}{T:Nat→Prop}(h:RepC w Sh .shr c v T):RepC w Sh .own (shC c) v (fun _=>False):=by
 cases c with
 | sl f z xs=>exact RepC.shr_of (md:=.shr) rfl h
 | _=>exact h
theorem scal_rep{w:World}{Sh:Nat→Prop}{md:Fl}{c:V}{v:Value}{T:Nat→Prop}(hc:scal c=true)(h:RepC w Sh md c v T):RepC w Sh .own c v (fun _=>False):=by
 cases c <;> first | exact h | (simp [scal] at hc)
theorem row_cells{w:World}{Sh:Nat→Prop}{md:Fl}{b:Nat}{f:V→V}{P:V→Prop}(hf:∀c v T,P c→RepC w Sh md c v T→RepC w Sh .own (f c) v (fun _=>False)):∀ (r:List V) (o:Nat) (T:Nat→Prop),(∀c∈r,P c)→RepRow w Sh md r b o T →
  ∃vs,RepCs w Sh (r.map f) vs (fun _=>False)∧(∀j v,vs[j]?=some v→w.cell? ⟨b,o+j,none⟩=some v)
 | [],o,T,_,_=>⟨[],trivial,by simp⟩
 | c::cs,o,T,hp,h=>by
  simp only [RepRow] at h
  obtain⟨v,T1,T2,h0,h1,h2,d1,d2⟩:=h
  obtain⟨vs,k1,k2⟩:=row_cells hf cs (o+1) T2 (fun c hc=>hp c (by simp [hc])) h2
  refine ⟨v::vs,⟨fun _=>False,fun _=>False,hf c v T1 (hp c (by simp)) h1,k1,fun _ h=>h.elim,fun _ h=>h⟩,fun j u hj=>?_⟩
  cases j with
  | zero=>simp at hj;subst hj;exact h0
  | succ j=>have:=k2 j u (by simpa using hj);rwa [show o+1+j=o+(j+1) by omega] at this
theorem rows_cells{w:World}{Sh:Nat→Prop}{md:Fl}{b z:Nat}{f:V→V}{P:V→Prop}(hf:∀c v T,P c→RepC w Sh md c v T→RepC w Sh .own (f c) v (fun _=>False)):∀ (xs:List (List V)) (o:Nat) (T:Nat→Prop),(∀r∈xs,∀c∈r,P c)→RepRows w Sh md z xs b o T →
  ∃vs,RepCs w Sh (xs.map fun r=>r.map f).flatten vs (fun _=>False)∧(∀j v,vs[j]?=some v→w.cell? ⟨b,o+j,none⟩=some v)∧(∀r∈xs,r.length=z)
 | [],o,T,_,_=>⟨[],trivial,by simp,by simp⟩
 | r::rs,o,T,hp,h=>by
  simp only [RepRows] at h
  obtain⟨hr,T1,T2,h1,h2,d1,d2⟩:=h
  obtain⟨v1,k1,k2⟩:=row_cells hf r o T1 (hp r (by simp)) h1
  obtain⟨v2,q1,q2,q3⟩:=rows_cells hf rs (o+z) T2 (fun r hr=>hp r (by simp [hr])) h2
  refine ⟨v1++v2,?_,fun j v hj=>?_,fun r' h'=>?_⟩
  ·simp only [List.map_cons,List.flatten_cons]
   exact RepCs.mono _ _ _ _ (fun x hx=>hx.elim id id) (RepCs.join q1 _ v1 _ k1 (fun x hx=>hx.elim))
  ·have hl:=k1.len
   simp only [List.length_map] at hl
   by_cases hlt:j<v1.length
   ·rw [List.getElem?_append_left hlt] at hj
    exact k2 j v hj
   ·rw [List.getElem?_append_right (by omega)] at hj
    have:=q2 _ v hj
    rwa [show o+z+(j-v1.length)=o+j by omega] at this
  ·rcases List.mem_cons.1 h' with rfl | h'
   ·exact hr
   ·exact q3 r' h'
theorem flat_len{z:Nat}{xs:List (List V)}(h:∀r∈xs,r.length=z):xs.flatten.length=xs.length*z:=by
 rw [List.length_flatten]
 have e2:xs.map List.length=List.replicate xs.length z:=by
  refine List.eq_replicate_iff.2 ⟨by simp,fun n hn=>?_⟩
  obtain⟨r,hr,rfl⟩:=List.mem_map.1 hn
  exact h r hr
 rw [e2,List.sum_replicate_nat]
theorem scals_all:∀ (r:List V),scals r=true→∀c∈r,scal c=true
 | [],_,_,h=>by cases h
 | c::cs,h,d,hd=>by
  simp only [scals,Bool.and_eq_true] at h
  rcases List.mem_cons.1 hd with rfl | hd
  ·exact h.1
  ·exact scals_all cs h.2 d hd
section ops
variable {E:Env} {c:Cx} {o:Oper}
noncomputable def srcA(E:Env)(st:St)(e tx:Nat)(y:Operand)(K:List (List V)→St→Prop):Prop :=
 match (E.ti tx).k with
 | .str=>(match ev st y,(E.ti e).k with | .s l,.int .u8=>bif Nat.beq (E.ti e).sz 1 then K (bys l) st else False | _,_=>False)
 | .slice _ =>
  (match ev st y with
  | .nil=>K [] st
  | .sl .own z ys=>bif z == (E.ti e).sz then (match y with | .tmp s=>K ys { st with t:=st.t.set s .un } | _=>False) else False
  | .sl .shr z ys=>bif z == (E.ti e).sz then K (shRows ys) st else False
  | .rf p z u=>bif z == (E.ti e).sz then (match scals (E.ti e).zr with | true=>dfA E st p z u fun ys=>Sc ys∧K ys st | false=>takeA { E with lend:=false } st p z u fun v st'=>(match v with | .sl .own z' ys=>bif z' == (E.ti e).sz then K ys st' else False | _=>False)) else False
  | _=>False)
 | _=>False
theorem Fit.unlend(h:Fit E c):Fit { E with lend:=false } c:=⟨h.gm,h.gv,h.gx⟩
theorem src_own{w:World}{Sh T:Nat→Prop}{tx e' z:Nat}{ys:List (List V)}{v:Value}(hu:E.P.underlying tx=some (.slice e'))(h:RepC w Sh .own (.sl .own z ys) v T) :
  ∃ (news:List Value) (T2:Nat→Prop),Src E.P z tx v ys.length news w∧RepCs w Sh ys.flatten news T2∧(∀r∈ys,r.length=z)∧(∀b,T2 b→T b):=by
 simp only [RepC] at h
 rcases h with ⟨⟨al,rfl⟩,rfl⟩ | ⟨b,o,c,rfl,h1,h2,h⟩
 ·refine ⟨[],fun _=>False,?_,trivial,by simp,fun _ h=>h.elim⟩
  cases al with
  | none=>exact Src.ofNil w hu 0
  | some a=>exact Src.ofSlice w hu a 0 0 [] (by simp) (fun j u h=>by simp at h) (by simp)
 ·rcases h with ⟨hm,_⟩ | ⟨hm,_⟩ | ⟨_,h3,h4,h5,h6⟩
  ·cases hm
  ·cases hm
  obtain⟨vs,k1,k2,k3⟩:=cs_of_rows ys o _ h6
  have hlen:vs.length=ys.length*z:=by rw [←k1.len,flat_len k3]
  have hone:=k1.one
  exact ⟨vs,_,Src.ofSlice w hu ⟨b,o,none⟩ _ c vs hlen (fun j u hj=>by rw [Addr.add_lit];exact k2 j u hj) hone,k1,k3,fun b hb=>hb.1⟩
theorem src_rows{w:World}{Sh T:Nat→Prop}{md fl:Fl}{tx e' z:Nat}{ys:List (List V)}{v:Value}{f:V→V}{P:V→Prop}(hf:∀c v T,P c→RepC w Sh (md.meet fl) c v T→RepC w Sh .own (f c) v (fun _=>False))
  (hp:∀r∈ys,∀c∈r,P c) (hu:E.P.underlying tx=some (.slice e')) (h:RepC w Sh md (.sl fl z ys) v T) :
  ∃ (news:List Value),Src E.P z tx v (ys.map fun r=>r.map f).length news w∧RepCs w Sh (ys.map fun r=>r.map f).flatten news (fun _=>False)∧(∀r∈ys.map fun r=>r.map f,r.length=z):=by
 rcases h.hdr with ⟨⟨al,rfl⟩,rfl⟩ | ⟨b,o,c,rfl,h1,h2,T',h6⟩
 ·refine ⟨[],?_,trivial,by simp⟩
  cases al with
  | none=>exact Src.ofNil w hu 0
  | some a=>exact Src.ofSlice w hu a 0 0 [] (by simp) (fun j u h=>by simp at h) (by simp)
 ·obtain⟨vs,k1,k2,k3⟩:=rows_cells hf ys o _ hp h6
  have k3':∀r∈ys.map fun r=>r.map f,r.length=z:=by
   intro r hr
   obtain⟨r',hr',rfl⟩:=List.mem_map.1 hr
   simp [k3 r' hr']
  have hlen:vs.length=ys.length*z:=by rw [←k1.len,flat_len k3',List.length_map]
  rw [List.length_map]
  exact ⟨vs,Src.ofSlice w hu ⟨b,o,none⟩ _ c vs hlen (fun j u hj=>by rw [Addr.add_lit];exact k2 j u hj) k1.one,k1,k3'⟩
theorem map_id_id(ys:List (List V)):(ys.map fun r=>r.map id)=ys:=by
 simp
theorem srcA_sound(hE:EnvOk E)(hfit:Fit E c){st:St}{a:Act}{w:World}{G:Gh}{e tx:Nat}{y:Operand}{K:List (List V)→St→Prop}(h:Rel c st a w G)(hk:srcA E st e tx y K) :
  ∃ (ys:List (List V)) (st':St) (G':Gh) (T2:Nat→Prop) (news:List Value),K ys st'∧Rel c st' a w G'∧Src E.P (E.ti e).sz tx (a.eval y) ys.length news w∧RepCs w G'.Sh ys.flatten news T2∧(∀r∈ys,r.length=(E.ti e).sz)∧Free c w G' T2∧Later w G G'∧(∀b,T2 b→G.ow b≠.no):=by
 unfold srcA at hk
 obtain⟨T,hy⟩:=h.ev y
 split at hk
 ·rename_i hks
  have hu:=(hE tx (by rw [hks];rfl)).und
  rw [hks] at hu
  have hu:E.P.underlying tx=some .string:=hu
  split at hk
  ·rename_i l hg hke
   cases hz:Nat.beq (E.ti e).sz 1 with
   | false=>rw [hz] at hk;exact hk.elim
   | true =>
    rw [hz] at hk
    have hz:=Nat.eq_of_beq_eq_true hz
    simp only [cond_true,bys_eq] at hk
    rw [hg] at hy
    have hy:a.eval y=.string ⟨l.toArray⟩:=hy
    have hsrc:=Src.ofString (P:=E.P) w hu ⟨l.toArray⟩
    have hsz:(⟨l.toArray⟩:ByteArray).size=l.length:=by show l.toArray.size=_;simp
    have hbc:byteCells ⟨l.toArray⟩=l.map fun b=>Value.int .u8 (b.toNat:Int):=by simp [byteCells]
    rw [hsz,hbc] at hsrc
    refine ⟨_,st,G,fun _=>False,_,hk,h,by rw [hy,hz,List.length_map];exact hsrc,by rw [bys_flatten];exact bys_cs l,fun r hr=>?_,none_free,Later.refl _ _,fun _ h=>h.elim⟩
    obtain⟨b,_,rfl⟩:=List.mem_map.1 hr
    exact hz.symm
  ·exact hk.elim
 ·rename_i e' hks
  have hu:=(hE tx (by rw [hks];rfl)).und
  rw [hks] at hu
  have hu:E.P.underlying tx=some (.slice e'):=hu
  split at hk
  ·rename_i hg
   rw [hg] at hy
   have hy:a.eval y=.slice none 0 0:=hy
   exact ⟨[],st,G,fun _=>False,[],hk,h,by rw [hy];exact Src.ofNil w hu 0,trivial,by simp,none_free,Later.refl _ _,fun _ h=>h.elim⟩
  ·rename_i z ys hg
   rw [hg] at hy
   cases hz:(z == (E.ti e).sz) with
   | false=>rw [hz] at hk;exact hk.elim
   | true =>
    rw [hz] at hk
    obtain rfl:z=(E.ti e).sz:=by simpa using hz
    simp only [cond_true] at hk
    split at hk
    ·rename_i s
     have hg':st.t.getD s .un=.sl .own (E.ti e).sz ys:=hg
     have ht:=h.tmp s
     rw [hg'] at ht
     obtain⟨news,T2,k1,k2,k3,k4⟩:=src_own hu (v:=a.tmps.getD s undef) ht
     obtain⟨q1,q2,q3⟩:=h.leave s _ (getD_some hg' (by simp))
     exact ⟨ys,_,_,T2,news,hk,q1,k1,k2,k3,fun b hb=>q2 b (k4 b hb),q3,fun b hb=>by rw [k4 b hb];simp⟩
    ·exact hk.elim
  ·rename_i z ys hg
   rw [hg] at hy
   cases hz:(z == (E.ti e).sz) with
   | false=>rw [hz] at hk;exact hk.elim
   | true =>
    rw [hz] at hk
    obtain rfl:z=(E.ti e).sz:=by simpa using hz
    simp only [cond_true,shRows_eq] at hk
    obtain⟨news,k1,k2,k3⟩:=src_rows (md:=.own) (fl:=.shr) (f:=shC) (P:=fun _=>True) (fun c v T _ hh=>shC_rep hh) (fun _ _ _ _=>trivial) hu hy
    exact ⟨_,st,G,_,news,hk,h,k1,k2,k3,none_free,Later.refl _ _,fun _ h=>h.elim⟩
  ·rename_i p z u hg
   rw [hg] at hy
   cases hz:(z == (E.ti e).sz) with
   | false=>rw [hz] at hk;exact hk.elim
   | true =>
    rw [hz] at hk
    obtain rfl:z=(E.ti e).sz:=by simpa using hz
    simp only [cond_true] at hk
    cases hsc:scals (E.ti e).zr with
    | true =>
     rw [hsc] at hk
     simp only [cond_true] at hk
     obtain⟨md,f,ys,T3,⟨hs,k1⟩,k2,hTB⟩:=dfA_sound h hfit hy hk
     rw [Sc_eq] at hs
     obtain⟨news,q1,q2,q3⟩:=src_rows (f:=id) (P:=fun c=>scal c=true) (fun c v T hc hh=>scal_rep hc hh) (fun r hr=>scals_all r (hs r hr)) hu k2
     rw [map_id_id] at q1 q2 q3
     exact ⟨ys,st,G,_,news,k1,h,q1,q2,q3,none_free,Later.refl _ _,fun _ h=>h.elim⟩
    | false =>
     rw [hsc] at hk
     simp only [cond_false] at hk
     obtain⟨V',st',G',T',k1,k2,k3,k4,k5,k6,_⟩:=takeA_sound h hfit.unlend hy hk
     split at k1
     ·rename_i z' ys
      cases hz':(z' == (E.ti e).sz) with
      | false=>rw [hz'] at k1;exact k1.elim
      | true =>
       rw [hz'] at k1
       obtain rfl:z'=(E.ti e).sz:=by simpa using hz'
       obtain⟨news,T2,q1,q2,q3,q4⟩:=src_own hu (v:=a.eval y) k3
       exact ⟨ys,st',G',T2,news,k1,k2,q1,q2,q3,fun b hb=>k4 b (q4 b hb),k5,fun b hb=>k6 b (q4 b hb)⟩
     ·exact k1.elim
  ·exact hk.elim
 ·exact hk.elim
/-! The destination -/
inductive KM where
 | no | all | at (p:Pl)
def killM(E:Env)(m:KM)(st:St)(K:St→Prop):Prop :=
 match m with
 | .no=>K st
 | .all=>K { st with t:=killH [] 0 st.t }
 | .at p=>keepOk st.t p E.kp∧K { st with t:=killH E.kp 0 st.t }
noncomputable def dstA(E:Env)(st:St)(e:Nat)(x:Operand)(K:List (List V)→KM→St→Prop):Prop :=
 match ev st x with
 | .nil=>K [] .no st
 | .sl .own z xs=>(match x with | .tmp s=>bif z == (E.ti e).sz then K xs .all { st with t:=st.t.set s .un } else False | _=>False)
 | .rf p z u=>takeA { E with lend:=false } st p z u fun v st'=>(match v with | .sl .own z' xs=>bif z' == (E.ti e).sz then K xs (.at p) st' else False | _=>False)
 | _=>False
/-- What the world may turn to without a temporary's notice. -/
def KMok(c:Cx)(G:Gh)(w:World)(T1:Nat→Prop):KM→Prop
 | .no=>∀b,¬T1 b
 | .all=>True
 | .at p=>∀w'':World,(∀x,¬T1 x→w''.heap[x]?=w.heap[x]?)→∀ (q:Pl) (s:Sr),q.r=p.r→pfx q.ps p.ps→Ar.rho c G q.r=some s→res w'' s q.ps=res w s q.ps
theorem dstA_sound(hfit:Fit E c){st:St}{a:Act}{w:World}{G:Gh}{e:Nat}{x:Operand}{K:List (List V)→KM→St→Prop}(h:Rel c st a w G)(hk:dstA E st e x K) :
  ∃ (xs:List (List V)) (m:KM) (st':St) (G':Gh) (T1:Nat→Prop),K xs m st'∧Rel c st' a w G'∧RepC w G'.Sh .own (.sl .own (E.ti e).sz xs) (a.eval x) T1∧Free c w G' T1∧Later w G G'∧KMok c G w T1 m:=by
 unfold dstA at hk
 obtain⟨T,hx⟩:=h.ev x
 split at hk
 ·rename_i hg
  rw [hg] at hx
  have hx:a.eval x=.slice none 0 0:=hx
  exact ⟨[],.no,st,G,fun _=>False,hk,h,by simp only [RepC];exact .inl ⟨⟨none,hx⟩,trivial⟩,none_free,Later.refl _ _,fun _ h=>h⟩
 ·rename_i z xs hg
  split at hk
  ·rename_i s
   cases hz:(z == (E.ti e).sz) with
   | false=>rw [hz] at hk;exact hk.elim
   | true =>
    rw [hz] at hk
    obtain rfl:z=(E.ti e).sz:=by simpa using hz
    have hg':st.t.getD s .un=.sl .own (E.ti e).sz xs:=hg
    have ht:=h.tmp s
    rw [hg'] at ht
    obtain⟨q1,q2,q3⟩:=h.leave s _ (getD_some hg' (by simp))
    exact ⟨xs,.all,_,_,_,hk,q1,ht,q2,q3,trivial⟩
  ·exact hk.elim
 ·rename_i p z u hg
  rw [hg] at hx
  obtain⟨V',st',G',T',k1,k2,k3,k4,k5,k6,k7⟩:=takeA_sound h hfit.unlend hx hk
  split at k1
  ·rename_i z' xs
   cases hz':(z' == (E.ti e).sz) with
   | false=>rw [hz'] at k1;exact k1.elim
   | true =>
    rw [hz'] at k1
    obtain rfl:z'=(E.ti e).sz:=by simpa using hz'
    exact ⟨xs,.at p,st',G',T',k1,k2,k3,k4,k5,k7⟩
  ·exact k1.elim
 ·exact hk.elim
theorem Wr.below{w w':World}{T:Nat→Prop}(h:Wr w w' T)(hT:∀b,¬T b):RowKit.Below w.heap.size w w':=⟨h.os,h.tape,h.output,h.size,fun b hb=>h.heap b hb (hT b)⟩
/-- A world change within free titles: the references that are kept stand. -/
theorem Rel.wr{st:St}{a:Act}{w w':World}{G:Gh}{T1:Nat→Prop}{t':List V}(h:Rel c st a w G)(hw:Wr w w' T1)(hf:Free c w G T1)(hS1:∀b,T1 b→¬G.Sh b)(hl:t'.length=st.t.length)
  (ht:∀ (s:Nat) (v:V),t'[s]?=some v→v=.un∨(st.t[s]?=some v∧(deep v=false∨∃q,v=.pt q∧∀s0,Ar.rho c G q.r=some s0→∀s1,res w s0 q.ps=some s1→res w' s0 q.ps=some s1))) :
  Rel c { st with t:=t' } a w' G:=by
 have hS:∀b,G.Sh b→w'.heap[b]?=w.heap[b]?:=fun b hb'=>hw.heap b (h.sb b hb').1 (fun hh=>hS1 b hh hb')
 have hO:∀b,G.ow b≠.no→w'.heap[b]?=w.heap[b]?:=fun b hb'=>hw.heap b (h.ob b hb').1 (fun hh=>hb' (hf b hh).1)
 refine ⟨by rw [h.tl];exact hl.symm,h.df,?_,?_,?_,fun g row hg=>(h.gb g row hg).frame hS hO,?_,?_,h.s0,?_,Nat.le_trans h.sz hw.size,hw.os.trans h.eos,hw.tape.trans h.etape,hw.output.trans h.eout⟩
 ·intro s v hs
  rcases ht s v hs with rfl | ⟨hs',hd | ⟨q,rfl,hq⟩⟩
  ·trivial
  ·exact RepT.frame2 (fun n s e=>⟨_,(Option.some.inj e).symm⟩) hS _ _ _ hd (fun b hb=>hO b (by rw [hb];simp)) (h.tm s v hs')
  ·have:=h.tm s _ hs'
   simp only [RepT] at this ⊢
   obtain⟨s1,b1,o1,r1,r2,r3⟩:=this
   exact ⟨s1,b1,o1,r1,hq s1 r1 _ r2,r3⟩
 ·intro s f z xs hs
  rcases ht s _ hs with e | ⟨hs',_⟩
  ·cases e
  ·exact h.tv s f z xs hs'
 ·intro t row ht hr
  obtain⟨h1,h2,h3,h4⟩:=h.mb t row ht hr
  exact ⟨h1,h2,h3.frame (hO _ (by rw [h1];simp)),RepRow.frame hS _ _ _ _ _ (fun b hb=>hO b (by rw [hb];simp)) (fun j _=>cell_of_heap (hO _ (by rw [h1];simp)) _) h4⟩
 ·intro b hb'
  have:=h.ob b hb'
  exact ⟨Nat.lt_of_lt_of_le this.1 hw.size,this.2⟩
 ·intro b hb'
  have:=h.sb b hb'
  exact ⟨Nat.lt_of_lt_of_le this.1 hw.size,this.2⟩
 ·intro b h1 h2
  rw [hw.heap b (Nat.lt_of_lt_of_le h1 h.sz) (fun hh=>(hf b hh).2.2.elim (by omega) h2)]
  exact h.fr b h1 h2
theorem killM_sound{st:St}{a:Act}{w w':World}{G:Gh}{T1:Nat→Prop}{m:KM}{K:St→Prop}(h:Rel c st a w G)(hw:Wr w w' T1)(hf:Free c w G T1)(hS1:∀b,T1 b→¬G.Sh b)
  (hm:KMok c G w T1 m) (hk:killM E m st K):∃st',K st'∧Rel c st' a w' G:=by
 unfold killM at hk
 split at hk
 ·exact ⟨st,hk,h.ext (hw.below hm)⟩
 ·refine ⟨_,hk,h.wr hw hf hS1 (killH_length _ _ _) fun s v hs=>?_⟩
  obtain⟨v0,k1,k2⟩:=killH_get _ _ _ _ _ hs
  rcases k2 with rfl | ⟨rfl,k2⟩
  ·exact .inl rfl
  ·rcases k2 with k2 | k2
   ·exact .inr ⟨k1,.inl k2⟩
   ·simp at k2
 ·rename_i p
  refine ⟨_,hk.2,h.wr hw hf hS1 (killH_length _ _ _) fun s v hs=>?_⟩
  obtain⟨v0,k1,k2⟩:=killH_get _ _ _ _ _ hs
  rcases k2 with rfl | ⟨rfl,k2⟩
  ·exact .inl rfl
  ·rcases k2 with k2 | k2
   ·exact .inr ⟨k1,.inl k2⟩
   ·rw [Nat.zero_add] at k2
    rcases keepOk_get _ hk.1 s k2 v k1 with hd | ⟨q,rfl,hq1,hq2⟩
    ·exact .inr ⟨k1,.inl hd⟩
    ·refine .inr ⟨k1,.inr ⟨q,rfl,fun s0 hs0 s1 hs1=>?_⟩⟩
     rcases hw.or with hb | hb
     ·exact res_frame (fun ad v ha _=>(World.cell?_of_block (hb.block _ (cell_lt ha))).trans ha) _ _ _ hs1
     ·rw [hm w' hb q s0 hq1 hq2 hs0];exact hs1
noncomputable def appA(E:Env)(st:St)(ts:List Nat)(args:List Operand)(K:V→St→Prop):Prop :=
 match ts,args with
 | [t,tx],[x,y] =>
  (match (E.ti t).k with
  | .slice e=>bif kn (E.ti e).k then
    dstA E st e x fun xs m st1=>srcA E st1 e tx y fun ys st2=>Room (plus (llen xs) (llen ys)) (E.ti e).by_∧killM E m st2 (K (.sl .own (E.ti e).sz (app xs ys)))
   else False
  | _=>False)
 | _,_=>False
theorem append_sound(hE:EnvOk E)(hfit:Fit E c){args:Array Operand}{ts:Array TypeId}(ho:o.op=.call { callee:=.builtin .append,args:=args,argTypes:=ts }) :
  OpS E c o fun st K=>appA E st ts.toList args.toList fun v st'=>K (pu st' o.dst v):=by
 intro st a w G K N Q h hk hN
 unfold appA at hk
 split at hk
 ·rename_i t tx x y e1 e2
  have e1:ts = #[t,tx]:=Array.ext' (by simpa using e1)
  have e2:args = #[x,y]:=Array.ext' (by simpa using e2)
  subst e1 e2
  split at hk
  ·rename_i e hks
   have hu:=(hE t (by rw [hks];rfl)).und
   rw [hks] at hu
   have hu:E.P.underlying t=some (.slice e):=hu
   cases hke:kn (E.ti e).k with
   | false=>rw [hke] at hk;exact hk.elim
   | true =>
    rw [hke] at hk
    simp only [cond_true] at hk
    obtain⟨xs,m,st1,G1,T1,k1,k2,k3,k4,k5,k6⟩:=dstA_sound hfit h hk
    obtain⟨ys,st2,G2,T2,news,⟨q0,q1⟩,q2,q3,q4,q5,q6,q7,q8⟩:=srcA_sound hE hfit k2 k1
    rw [Room_eq,plus_eq,llen_eq,llen_eq] at q0
    rw [app_eq] at q1
    have k3':RepC w G2.Sh .own (.sl .own (E.ti e).sz xs) (a.eval x) T1:=RepC.shr_mono q7.sh _ _ _ (fun _ b hb hs=>(q7.sh' b hs).elim id (fun hn=>absurd (k4 b hb).1 hn)) k3
    have hf1:Free c w G2 T1:=q7.free k4
    have hd:∀b,T1 b→¬T2 b:=fun b hb hb2=>q8 b hb2 (k4 b hb).1
    obtain⟨r,w',T',r1,r2,r3,r4,T1',r5,k8⟩:=app_run (ty:=o.type) hu (hE e hke) (fun b hb=>(q2.sb b hb).1) (fun b hb=>(hf1 b hb).2.1) (fun b hb=>(q6 b hb).2.1) k3' q3 q4 q5 hd (by simpa using q0.2.1) (by omega)
    have hρ:Ar.rho c G2=Ar.rho c G:=by rw [q7.rho,k5.rho]
    have hm:KMok c G2 w T1' m:=by
     cases m with
     | no=>exact fun b hb=>k6 b (k8 b hb).1
     | all=>trivial
     | «at» p=>exact fun w'' hw'' q s h1 h2 h3=>k6 w'' (fun x hx=>hw'' x (fun hh=>hx (k8 x hh).1)) q s h1 h2 (by rw [←hρ];exact h3)
    obtain⟨st3,s1,s2⟩:=killM_sound q2 r5 (fun b hb=>hf1 b (k8 b hb).1) (fun b hb=>(k8 b hb).2) hm q1
    obtain⟨G3,hG⟩:=s2.put1 o.dst (v:=.sl .own (E.ti e).sz (xs++ys)) (u:=r) (T:=T') r2 (by
     intro b hb
     rcases r3 b hb with hb1 | hb1 | hb1
     ·obtain⟨z1,z2,z3⟩:=hf1 b hb1
      exact ⟨z1,r4 b hb,z3⟩
     ·obtain⟨z1,z2,z3⟩:=q6 b hb1
      exact ⟨z1,r4 b hb,z3⟩
     ·refine ⟨?_,r4 b hb,.inl (Nat.le_trans q2.sz hb1)⟩
      cases ho':G2.ow b with
      | no=>rfl
      | _=>have:=(q2.ob b (by rw [ho'];simp)).1;omega)
    refine wp_value (v:=r) (w':=w') ?_ (hN _ _ _ _ s1 hG)
    simp [execOp,ho,resolve,invoke,builtin,r1]
  ·exact hk.elim
 ·exact hk.elim
end ops
end Go.Ar
