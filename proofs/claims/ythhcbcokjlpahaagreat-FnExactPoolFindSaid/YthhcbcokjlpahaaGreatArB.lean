import Derived.Test.YthhcbcokjlpahaaGreatArA
namespace Go.Ar
set_option linter.unusedVariables false
set_option linter.unusedSimpArgs false
/-! ### References that a header's change may strike -/
mutual
def deep:V→Bool
 | .rf p _ _=>(match p.ps with | []=>(match p.r with | .tp _=>false | _=>true) | _=>true)
 | .pt p=>(match p.ps with | []=>false | _=>true)
 | .ag cs=>deeps cs
 | .tu cs=>deeps cs
 | .fn _ cs=>deeps cs
 | _=>false
def deeps:List V→Bool
 | []=>false
 | c::cs=>deep c || deeps cs
end
mutual
theorem RepT.frame2{w w':World}{Sh:Nat→Prop}{ρ:Rt→Option Sr}(hρ:∀n s,ρ (.tp n)=some s→∃v,s=.val v)(hS:∀b,Sh b→w'.heap[b]?=w.heap[b]?):∀ (c:V) (v:Value) (T:Nat→Prop),deep c=false→(∀b,T b→w'.heap[b]?=w.heap[b]?)→RepT w Sh ρ c v T→RepT w' Sh ρ c v T
 | .b _,_,_,_,_,h | .i _ _,_,_,_,_,h | .cv _ _,_,_,_,_,h | .s _,_,_,_,_,h | .nil,_,_,_,_,h | .un,_,_,_,_,h=>h
 | .sl f z xs,v,T,_,hT,h=>RepC.frame hS .own (.sl f z xs) v T hT h
 | .pt p,v,T,hd,_,h=>by
  simp only [RepT] at h ⊢
  obtain⟨s,b,o,h1,h2,h3⟩:=h
  have hp:p.ps=[]:=by
   cases hp:p.ps with
   | nil=>rfl
   | cons x y=>simp [deep,hp] at hd
  rw [hp] at h2 ⊢
  exact ⟨s,b,o,h1,h2,h3⟩
 | .rf p z u,v,T,hd,_,h=>by
  obtain⟨r,ps,o⟩:=p
  cases ps with
  | cons x y=>simp [deep] at hd
  | nil =>
   cases r with
   | tp n =>
    simp only [RepT] at h ⊢
    obtain⟨s,s',hv,h1,h2,h3,h4⟩:=h
    refine ⟨s,s',hv,h1,h2,?_,h4⟩
    obtain⟨v',rfl⟩:=hρ n s h1
    cases h2
    exact h3
   | _=>simp [deep] at hd
 | .ag cs,v,T,hd,hT,h=>by
  simp only [deep] at hd
  simp only [RepT] at h ⊢
  obtain⟨vs,h1,h2⟩:=h
  exact ⟨vs,h1,RepTs.frame2 hρ hS cs vs T hd hT h2⟩
 | .tu cs,v,T,hd,hT,h=>by
  simp only [deep] at hd
  simp only [RepT] at h ⊢
  obtain⟨vs,h1,h2⟩:=h
  exact ⟨vs,h1,RepTs.frame2 hρ hS cs vs T hd hT h2⟩
 | .fn f cs,v,T,hd,hT,h=>by
  simp only [deep] at hd
  simp only [RepT] at h ⊢
  obtain⟨vs,h1,h2⟩:=h
  exact ⟨vs,h1,RepTs.frame2 hρ hS cs vs T hd hT h2⟩
theorem RepTs.frame2{w w':World}{Sh:Nat→Prop}{ρ:Rt→Option Sr}(hρ:∀n s,ρ (.tp n)=some s→∃v,s=.val v)(hS:∀b,Sh b→w'.heap[b]?=w.heap[b]?):∀ (cs:List V) (vs:List Value) (T:Nat→Prop),deeps cs=false→(∀b,T b→w'.heap[b]?=w.heap[b]?)→RepTs w Sh ρ cs vs T→RepTs w' Sh ρ cs vs T
 | [],[],_,_,_,_=>by simp only [RepTs]
 | c::cs,v::vs,T,hd,hT,h=>by
  simp only [deeps,Bool.or_eq_false_iff] at hd
  simp only [RepTs] at h ⊢
  obtain⟨T1,T2,h1,h2,d1,d2⟩:=h
  exact ⟨T1,T2,RepT.frame2 hρ hS c v T1 hd.1 (fun x hx=>hT x (d1 x hx).1) h1,RepTs.frame2 hρ hS cs vs T2 hd.2 (fun x hx=>hT x (d2 x hx)) h2,d1,d2⟩
 | [],_::_,_,_,_,h=>by simp only [RepTs] at h
 | _::_,[],_,_,_,h=>by simp only [RepTs] at h
end
/-- All references below a root are struck, but those of the temporaries in kp. -/
def killH:List Nat→Nat→List V→List V
 | _,_,[]=>[]
 | kp,j,v::t=>(bif kp.any (Nat.beq j) then v else bif deep v then .un else v)::killH kp (j+1) t
theorem killH_length(kp:List Nat):∀ (t:List V) (j:Nat),(killH kp j t).length=t.length
 | [],_=>rfl
 | _::t,j=>by simp [killH,killH_length kp t (j+1)]
theorem killH_get(kp:List Nat):∀ (t:List V) (j s:Nat) (v:V),(killH kp j t)[s]?=some v→∃v0,t[s]?=some v0∧(v=.un∨(v=v0∧(deep v0=false∨kp.any (Nat.beq (j+s))=true)))
 | [],_,_,_,h=>by simp [killH] at h
 | v0::t,j,0,v,h=>by
  simp only [killH,List.getElem?_cons_zero,Option.some.injEq] at h
  refine ⟨v0,rfl,?_⟩
  cases hk:kp.any (Nat.beq j) with
  | true=>rw [hk] at h;exact .inr ⟨h.symm,.inr (by simp [hk])⟩
  | false =>
   rw [hk] at h
   cases hd:deep v0 with
   | true=>rw [hd] at h;exact .inl h.symm
   | false=>rw [hd] at h;exact .inr ⟨h.symm,.inl rfl⟩
 | v0::t,j,s+1,v,h=>by
  simp only [killH,List.getElem?_cons_succ] at h
  obtain⟨v1,h1,h2⟩:=killH_get kp t (j+1) s v h
  refine ⟨v1,by simpa using h1,?_⟩
  rwa [show j+1+s=j+(s+1) by omega] at h2
/-- The temporaries that are kept are pointers on the way to the place that changes. -/
def keepOk(t:List V)(p:Pl):List Nat→Prop
 | []=>True
 | j::js=>(match t.getD j .un with | .pt q=>(bif Rt.beq q.r p.r then pfx q.ps p.ps else q.ps=[]) | v=>deep v=false)∧keepOk t p js
theorem keepOk_get{t:List V}{p:Pl}:∀ (js:List Nat),keepOk t p js→∀j,js.any (Nat.beq j)=true→∀v,t[j]?=some v→deep v=false∨∃q,v=.pt q∧q.r=p.r∧pfx q.ps p.ps
 | [],_,_,hj,_,_=>by simp at hj
 | k::js,h,j,hj,v,hv=>by
  obtain⟨h1,h2⟩:=h
  simp only [List.any_cons,Bool.or_eq_true] at hj
  rcases hj with hj | hj
  ·have:j=k:=Nat.eq_of_beq_eq_true hj
   subst this
   have hg:t.getD j .un=v:=by simp [List.getD_eq_getElem?_getD,hv]
   rw [hg] at h1
   cases v with
   | pt q =>
    simp only at h1
    cases hb:Rt.beq q.r p.r with
    | true=>rw [hb] at h1;exact .inr ⟨q,rfl,(Rt.beq_iff _ _).1 hb,h1⟩
    | false=>rw [hb] at h1;simp only [cond_false] at h1;exact .inl (by simp [deep,h1])
   | _=>exact .inl h1
  ·exact keepOk_get js h2 j hj v hv
/-- A new variable of the call's own. -/
theorem Rel.newBox{c:Cx}{st:St}{a:Act}{w:World}{G:Gh}(h:Rel c st a w G)(d:Nat)(row:List V)(vals:List Value)(e:TypeId)(T:Nat→Prop)
  (hv:RepCs w G.Sh row vals T) (hT:∀b,T b→G.ow b=.no) (hTb:∀b,T b→b<w.heap.size∧(c.w0.heap.size≤b∨c.H b)) :
  ∃G',Rel c { st with t:=(killR (.bx d) st.t).set d (.pt ⟨.bx d,[],0⟩),m:=st.m.set d row } (a.put (some d) (.pointer (some ⟨w.heap.size,0,none⟩))) (w.alloc (.cells vals.toArray e)) G':=by
 have hext:RowKit.Below w.heap.size w (w.alloc (.cells vals.toArray e)):=(RowKit.Below.refl _ _).alloc (Nat.le_refl _) _
 have h':=h.ext hext
 have hnoN:G.ow w.heap.size=.no:=by
  cases ho:G.ow w.heap.size with
  | no=>rfl
  | _=>have:=(h.ob w.heap.size (by rw [ho];simp)).1;omega
 have hnoS:¬G.Sh w.heap.size:=fun hh=>by have:=(h.sb _ hh).1;omega
 have hTn:¬T w.heap.size:=fun hh=>by have:=(hTb _ hh).1;omega
 refine ⟨{ G with ow:=give (give G.ow T (.bc d)) (fun b=>b=w.heap.size) (.bb d),bx:=fun t=>if t=d then w.heap.size else G.bx t },?_⟩
 have hf:∀b,T b→G.ow b=.no∨G.ow b=.bc d:=fun b hb=>.inl (hT b hb)
 have hk:∀b s,G.ow b=s→s≠.no→give (give G.ow T (.bc d)) (fun b=>b=w.heap.size) (.bb d) b=s:=by
  intro b s hb hn
  rw [give_no (fun e=>hn (by rw [←hb,e,hnoN])),give_keep hf hb hn]
 have hρ:∀r',r'≠Rt.bx d→Ar.rho c { G with ow:=give (give G.ow T (.bc d)) (fun b=>b=w.heap.size) (.bb d),bx:=fun t=>if t=d then w.heap.size else G.bx t } r'=Ar.rho c G r':=by
  intro r' hr
  cases r' with
  | tp t=>rfl
  | gl g=>rfl
  | bx t=>simp only [Ar.rho];rw [if_neg (fun e=>hr (by rw [e]))]
 refine ⟨?_,h.df,?_,?_,?_,?_,?_,?_,h.s0,h'.fr,h'.sz,h'.eos,h'.etape,h'.eout⟩
 ·simp [Act.put,killR,h.tl]
 ·intro t v ht
  by_cases htd:t=d
  ·subst htd
   simp only [List.getElem?_set] at ht
   simp at ht
   obtain⟨hlt,rfl⟩:=ht
   have:(a.put (some t) (.pointer (some ⟨w.heap.size,0,none⟩))).tmps.getD t undef=.pointer (some ⟨w.heap.size,0,none⟩):=getD_set_same _ _ _ _ (by rw [h.tl];simpa [killR] using hlt)
   rw [this]
   simp only [RepT]
   exact ⟨_,w.heap.size,0,rfl,by simp [res],by simp⟩
  ·have:(a.put (some d) (.pointer (some ⟨w.heap.size,0,none⟩))).tmps.getD t undef=a.tmps.getD t undef:=getD_set_other _ _ _ _ _ htd
   rw [this]
   simp only at ht
   rw [List.getElem?_set_ne (Ne.symm htd)] at ht
   obtain⟨v1,h1,h2⟩:=killR_get ht
   rcases h2 with ⟨rfl,h2⟩ | rfl
   ·exact RepT.mono _ _ _ _ (fun b hb=>hk b _ hb (by simp)) (RepT.rho hρ _ _ _ h2 (h'.tm t _ h1))
   ·trivial
 ·intro t f z xs ht
  by_cases htd:t=d
  ·subst htd
   simp only [List.getElem?_set] at ht
   simp at ht
  ·have:(a.put (some d) (.pointer (some ⟨w.heap.size,0,none⟩))).tmps.getD t undef=a.tmps.getD t undef:=getD_set_other _ _ _ _ _ htd
   rw [this]
   simp only at ht
   rw [List.getElem?_set_ne (Ne.symm htd)] at ht
   obtain⟨v1,h1,h2⟩:=killR_get ht
   rcases h2 with ⟨rfl,h2⟩ | h2
   ·exact h.tv t f z xs h1
   ·cases h2
 ·intro t row' ht hr
  by_cases htd:t=d
  ·subst htd
   simp only [List.getElem?_set] at ht
   simp at ht
   obtain⟨hlt,rfl⟩:=ht
   simp only
   refine ⟨give_yes rfl,hnoS,?_,?_⟩
   ·exact ⟨vals.toArray,e,(0,0),heap_alloc_new w _,by simp [hv.len],by simp⟩
   ·refine RepCs.row (fun x hx=>hext.block x (h.sb x hx).1) row vals (fun b=>give (give G.ow T (.bc t)) (fun b=>b=w.heap.size) (.bb t) b=.bc t) 0 (fun x hx=>?_) (fun j v hj=>?_) ?_
    ·by_cases e1:x=w.heap.size
     ·rw [give_yes (T:=fun b=>b=w.heap.size) e1] at hx;cases hx
     ·rw [give_no (T:=fun b=>b=w.heap.size) e1] at hx
      by_cases e2:T x
      ·exact hext.block x (hTb x e2).1
      ·rw [give_no e2] at hx
       exact hext.block x (h.ob x (by rw [hx];simp)).1
    ·rw [Nat.zero_add]
     rw [if_pos trivial,World.cell?_alloc_new]
     simpa using hj
    ·clear hf hk hρ
     have key:∀ (cs:List V) (vs:List Value) (T T':Nat→Prop),(∀x,T x→T' x)→RepCs w G.Sh cs vs T→RepCs w G.Sh cs vs T':=by
      intro cs vs T T' hTT h
      cases cs with
      | nil=>cases vs with
       | nil=>trivial
       | cons _ _=>exact h.elim
      | cons c cs=>cases vs with
       | nil=>exact h.elim
       | cons v vs =>
        obtain⟨T1,T2,h1,h2,d1,d2⟩:=h
        exact ⟨T1,T2,h1,h2,fun x hx=>⟨hTT x (d1 x hx).1,(d1 x hx).2⟩,fun x hx=>hTT x (d2 x hx)⟩
     exact key _ _ _ _ (fun x hx=>by rw [give_no (T:=fun b=>b=w.heap.size) (fun e1=>hTn (by rw [←e1];exact hx)),give_yes hx]) hv
  ·simp only at ht
   rw [List.getElem?_set_ne (Ne.symm htd)] at ht
   obtain⟨k1,k2,k3,k4⟩:=h'.mb t row' ht hr
   simp only [if_neg htd]
   exact ⟨hk _ _ k1 (by simp),k2,k3,RepRow.mono _ _ _ _ _ (fun b hb=>hk b _ hb (by simp)) k4⟩
 ·intro g row' hg
  exact (h'.gb g row' hg).ow (fun b hb=>hk b _ hb (by simp)) (fun b hb=>hk b _ hb (by simp))
 ·intro b hb
  simp only at hb
  by_cases e1:b=w.heap.size
  ·subst e1
   exact ⟨by simp,.inl h.sz⟩
  ·rw [give_no (T:=fun b=>b=w.heap.size) e1] at hb
   by_cases e2:T b
   ·have:=hTb b e2
    exact ⟨by simp;omega,this.2⟩
   ·rw [give_no e2] at hb;exact h'.ob b hb
 ·exact h'.sb
/-! ### Reading through a place -/
def RootN(w:World)(Sh:Nat→Prop)(md:Fl)(src:Sr)(row:List V)(B:Nat→Prop):Prop :=
 match src with
 | .mem b o=>∃T,(∀b,T b→B b)∧(B b∨Sh b)∧RepRow w Sh md row b o T
 | .val v=>∃cl T,(∀b,T b→B b)∧row=[cl]∧RepC w Sh md cl v T
theorem root_nav{w:World}{Sh:Nat→Prop}{md:Fl}{src:Sr}{row:List V}{ps:List (Nat × Int × Nat)}{K:Fl→List V→Prop}{b' o':Nat}{B:Nat→Prop}
  (h:RootN w Sh md src row B) (hk:navK md row ps K) (hres:res w src ps=some (.mem b' o')) :
  ∃ (md':Fl) (row':List V) (T':Nat→Prop),RepRow w Sh md' row' b' o' T'∧(∀b,T' b→B b)∧(B b'∨Sh b')∧K md' row':=by
 cases src with
 | mem b o =>
  obtain⟨T,hB,hb,h⟩:=h
  obtain⟨md',row',b1,o1,T',h1,h2,h3,h5,h4⟩:=navK_sound ps md row b o T K h hk
  rw [h1] at hres
  injection hres with hres
  injection hres with e1 e2
  subst e1 e2
  exact ⟨md',row',T',h2,fun b hb=>hB b (h3 b hb),(by rcases h5 with rfl | h5 | h5;exact hb;exact .inl (hB _ h5);exact .inr h5),h4⟩
 | val v =>
  obtain⟨cl,T,hB,rfl,h⟩:=h
  cases ps with
  | nil=>simp [res] at hres
  | cons p ps =>
   obtain⟨k,i,z⟩:=p
   unfold navK at hk
   split at hk
   ·rename_i f z' xs hg
    have hz:z'=z:=by
     cases hb:(z' == z) with
     | true=>simpa using hb
     | false=>rw [hb] at hk;exact hk.elim
    subst hz
    simp only [beq_self_eq_true,cond_true] at hk
    obtain⟨r,hr,hk⟩:=hk
    have hk0:k=0:=by
     have:=getD_some hg (by simp)
     cases k with
     | zero=>rfl
     | succ k=>simp at this
    subst hk0
    obtain rfl:cl=.sl f z' xs:=by simpa using hg
    rw [at_eq] at hr
    have h0:0≤i:=by by_cases h:0≤i;exact h;rw [if_neg h] at hr;cases hr
    rw [if_pos h0] at hr
    simp only [RepC] at h
    rcases h with ⟨_,rfl⟩ | ⟨b1,o1,c,rfl,h1,h2,hc⟩
    ·simp at hr
    ·have hrr:∃T',RepRows w Sh (md.meet f) z' xs b1 o1 T'∧(∀x,T' x→T x)∧(T b1∨Sh b1):=by
      rcases hc with ⟨hm,hq,h⟩ | ⟨hm,hq,_,_,h⟩ | ⟨hm,hq,_,_,h⟩
      ·exact ⟨fun _=>False,by rw [hm];exact h,fun _ h=>h.elim,.inr (hq (by rintro rfl;simp at hr))⟩
      ·exact ⟨fun x=>T x∧x≠b1,by rw [hm];exact h,fun _ h=>h.1,.inl hq⟩
      ·exact ⟨fun x=>T x∧x≠b1,by rw [hm];exact h,fun _ h=>h.1,.inl hq⟩
     obtain⟨T',hrr,hTT,hb1⟩:=hrr
     obtain⟨S1,S2,hl,hrow,q1,_,_⟩:=RepRows.focus xs o1 T' i.toNat r hrr hr
     rw [res_cons (s:=.val _) (w:=w) rfl] at hres
     obtain⟨md',row',b2,o2,T'',g1,g2,g3,g5,g4⟩:=navK_sound ps (md.meet f) r b1 (o1+i.toNat*z') S1 K hrow hk
     rw [g1] at hres
     injection hres with hres
     injection hres with e1 e2
     subst e1 e2
     exact ⟨md',row',T'',g2,fun b hb=>hB b (hTT b (q1 b (g3 b hb)).1),(by
      rcases g5 with rfl | g5 | g5
      ·exact hb1.imp (hB _) id
      ·exact .inl (hB _ (hTT _ (q1 _ g5).1))
      ·exact .inr g5),g4⟩
   ·exact hk.elim
def mdR(own:Bool):Rt→Fl
 | .gl _=>bif own then .own else .shr
 | _=>.own
/-- Through a pointer: the place's row. -/
theorem Rel.nav{c:Cx}{st:St}{a:Act}{w:World}{G:Gh}(h:Rel c st a w G){own:Bool}(hgm:c.gm=bif own then .own else .shr){p:Pl}{K:Fl→List V→Prop}{src:Sr}{b' o':Nat}
  (hsrc:Ar.rho c G p.r=some src) (hres:res w src p.ps=some (.mem b' o')) (hk:navK (mdR own p.r) (rowOf st p.r) p.ps (fun md row=>row≠[]∧K md row)) :
  ∃ (md':Fl) (row':List V) (T':Nat→Prop),RepRow w G.Sh md' row' b' o' T'∧(∀b,T' b→G.ow b≠.no)∧(G.ow b'≠.no∨G.Sh b')∧K md' row':=by
 have hne:rowOf st p.r≠[]:=by
  intro e
  rw [e] at hk
  cases hps:p.ps with
  | nil=>rw [hps] at hk;exact hk.1 rfl
  | cons x y =>
   rw [hps] at hk
   obtain⟨k,i,z⟩:=x
   simp [navK] at hk
 have hN:RootN w G.Sh (mdR own p.r) src (rowOf st p.r) (fun b=>G.ow b≠.no):=by
  obtain⟨r,ps,o⟩:=p
  cases r with
  | bx t =>
   obtain⟨h1,h2,h3,h4⟩:=h.mb t _ (getD_nil_some hne) hne
   obtain rfl:Sr.mem (G.bx t) 0=src:=by simpa [Ar.rho] using hsrc
   exact ⟨_,fun b hb=>by (show G.ow b≠.no;rw [show G.ow b=_ from hb];simp),.inl (by show G.ow _≠.no;rw [h1];simp),h4⟩
  | tp t =>
   obtain rfl:Sr.val (G.tv t)=src:=by simpa [Ar.rho] using hsrc
   cases ps with
   | nil=>simp [res] at hres
   | cons x y =>
    obtain⟨k,i,z⟩:=x
    simp only [navK,rowOf] at hk
    split at hk
    ·rename_i f z' xs hg
     have hk0:k=0:=by
      have:=getD_some hg (by simp)
      cases k with
      | zero=>rfl
      | succ k=>simp at this
     subst hk0
     have hg':st.t.getD t .un=.sl f z' xs:=by simpa using hg
     have ht:=getD_some hg' (by simp)
     have:=h.tm t _ ht
     rw [h.tv t f z' xs ht] at this
     exact ⟨_,_,fun b hb=>by (show G.ow b≠.no;rw [show G.ow b=_ from hb];simp),by simp only [rowOf,hg'],this⟩
    ·exact hk.elim
  | gl g =>
   obtain rfl:c.gl g=src:=by simpa [Ar.rho] using hsrc
   have hg:=(h.gb g _ (getD_nil_some hne)).resolve_left hne
   unfold GOkN at hg
   cases own with
   | true =>
    simp only [cond_true] at hgm
    rw [hgm] at hg
    cases hc:c.gl g with
    | mem b o =>
     rw [hc] at hg
     obtain⟨_,rfl,h3,_,_,h6⟩:=hg
     exact ⟨_,fun b hb=>by (show G.ow b≠.no;rw [show G.ow b=_ from hb];simp),.inl (by show G.ow _≠.no;rw [h3];simp),h6⟩
    | val v =>
     rw [hc] at hg
     obtain⟨_,f,z,xs,h1,h2⟩:=hg
     exact ⟨_,_,fun b hb=>by (show G.ow b≠.no;rw [show G.ow b=_ from hb];simp),h1,h2⟩
   | false =>
    simp only [cond_false] at hgm
    rw [hgm] at hg
    cases hc:c.gl g with
    | mem b o =>
     rw [hc] at hg
     rcases hg with h0 | ⟨h1,h2⟩
     ·exact absurd h0 hne
     ·exact ⟨_,fun _ h=>h.elim,.inr h1,h2⟩
    | val v =>
     rw [hc] at hg
     rcases hg with h0 | ⟨cl,h1,h2⟩
     ·exact absurd h0 hne
     ·exact ⟨_,_,fun _ h=>h.elim,h1,h2⟩
 obtain⟨md',row',T',h1,h2,h4,_,h3⟩:=root_nav hN hk hres
 exact ⟨md',row',T',h1,h2,h4,h3⟩
/-- A cell as it is seen when it is loaded from a place. -/
def vw(r:Rt)(ps:List (Nat × Int × Nat))(o:Nat)(md:Fl):V→V
 | .sl f z xs=>(match md.meet f with | .shr=>.sl .shr z xs | _=>.rf ⟨r,ps,o⟩ z none)
 | c=>c
def vws(r:Rt)(ps:List (Nat × Int × Nat))(o:Nat)(md:Fl):List V→List V
 | []=>[]
 | c::cs=>vw r ps o md c::vws r ps (o+1) md cs
theorem RepC.shr_of{w:World}{Sh:Nat→Prop}{md f:Fl}{z:Nat}{xs:List (List V)}{v:Value}{T T':Nat→Prop}(hm:md.meet f=.shr)(h:RepC w Sh md (.sl f z xs) v T):RepC w Sh .own (.sl .shr z xs) v T':=by
 simp only [RepC] at h ⊢
 rcases h with h | ⟨b,o,c,hv,h1,h2,h⟩
 ·exact .inl h
 ·refine .inr ⟨b,o,c,hv,h1,h2,.inl ⟨rfl,?_⟩⟩
  rcases h with ⟨_,h⟩ | ⟨hm',_⟩ | ⟨hm',_⟩
  ·exact h
  ·rw [hm] at hm';cases hm'
  ·rw [hm] at hm';cases hm'
theorem vw_sound{w:World}{Sh:Nat→Prop}{ρ:Rt→Option Sr}{md:Fl}{c:V}{v:Value}{T:Nat→Prop}{r:Rt}{ps:List (Nat × Int × Nat)}{k b o:Nat}{src:Sr}
  (h:RepC w Sh md c v T) (hr:ρ r=some src) (hres:res w src ps=some (.mem b o)) (hc:w.cell? ⟨b,o+k,none⟩=some v):RepT w Sh ρ (vw r ps k md c) v (fun _=>False):=by
 cases c with
 | sl f z xs =>
  simp only [vw]
  have hsl:∃x n c,v=.slice x n c:=by
   simp only [RepC] at h
   rcases h with ⟨⟨al,rfl⟩,_⟩ | ⟨b,o,c,rfl,_⟩
   ·exact ⟨_,_,_,rfl⟩
   ·exact ⟨_,_,_,rfl⟩
  split
  ·rename_i hm
   exact RepC.shr_of hm h
  ·simp only [RepT]
   exact ⟨src,.mem b o,v,hr,hres,hc,rfl,hsl⟩
 | b x=>exact h
 | i k n=>exact h
 | cv k u=>exact h
 | s l=>exact h
 | nil=>exact h
 | un=>trivial
 | _=>exact h.elim
theorem vws_sound{w:World}{Sh:Nat→Prop}{ρ:Rt→Option Sr}{md:Fl}{r:Rt}{ps:List (Nat × Int × Nat)}{b o:Nat}{src:Sr}(hr:ρ r=some src)(hres:res w src ps=some (.mem b o)) :
  ∀ (cs:List V) (k:Nat) (T:Nat→Prop),RepRow w Sh md cs b (o+k) T→∃vals:List Value,vals.length=cs.length∧(∀j v,vals[j]?=some v→w.cell? ⟨b,o+k+j,none⟩=some v)∧RepTs w Sh ρ (vws r ps k md cs) vals (fun _=>False)
 | [],k,T,_=>⟨[],rfl,fun j v h=>by simp at h,by simp only [vws,RepTs]⟩
 | c::cs,k,T,h=>by
  simp only [RepRow] at h
  obtain⟨v,T1,T2,hv,h1,h2,_,_⟩:=h
  obtain⟨vals,k1,k2,k3⟩:=vws_sound hr hres cs (k+1) T2 (by rwa [show o+(k+1)=o+k+1 by omega])
  refine ⟨v::vals,by simp [k1],?_,?_⟩
  ·intro j u hj
   cases j with
   | zero=>simp at hj;subst hj;exact hv
   | succ j =>
    have:=k2 j u (by simpa using hj)
    rwa [show o+(k+1)+j=o+k+(j+1) by omega] at this
  ·simp only [vws,RepTs]
   exact ⟨fun _=>False,fun _=>False,vw_sound h1 hr hres hv,k3,fun _ h=>h.elim,fun _ h=>h.elim⟩
theorem RepRow.drop{w:World}{Sh:Nat→Prop}{md:Fl}{b:Nat}:∀ (k:Nat) (row:List V) (o:Nat) (T:Nat→Prop),RepRow w Sh md row b o T→RepRow w Sh md (row.drop k) b (o+k) T
 | 0,_,_,_,h=>by simpa using h
 | k+1,[],_,_,_=>by simp only [List.drop_nil,RepRow]
 | k+1,c::cs,o,T,h=>by
  simp only [RepRow] at h
  obtain⟨v,T1,T2,_,_,h2,_,d2⟩:=h
  have:=RepRow.drop k cs (o+1) T2 h2
  rw [show o+1+k=o+(k+1) by omega] at this
  exact RepRow.mono _ _ _ _ _ d2 this
theorem RepRow.take{w:World}{Sh:Nat→Prop}{md:Fl}{b:Nat}:∀ (n:Nat) (row:List V) (o:Nat) (T:Nat→Prop),RepRow w Sh md row b o T→RepRow w Sh md (row.take n) b o T
 | 0,_,_,_,_=>by simp only [List.take_zero,RepRow]
 | n+1,[],_,_,_=>by simp only [List.take_nil,RepRow]
 | n+1,c::cs,o,T,h=>by
  simp only [RepRow] at h
  obtain⟨v,T1,T2,hv,h1,h2,d1,d2⟩:=h
  simp only [List.take_succ_cons,RepRow]
  exact ⟨v,T1,T2,hv,h1,RepRow.take n cs (o+1) T2 h2,d1,d2⟩
/-! ### A slice of a slice -/
noncomputable def subL:List (List V)→Int→Int→List (List V):=Classical.choose (kp fun(xs:List (List V)) (lo hi:Int)=>(xs.drop lo.toNat).take (hi.toNat-lo.toNat))
theorem subL_eq(xs:List (List V))(lo hi:Int):subL xs lo hi=(xs.drop lo.toNat).take (hi.toNat-lo.toNat):=by
 unfold subL;rw [Classical.choose_spec (kp fun(xs:List (List V)) (lo hi:Int)=>(xs.drop lo.toNat).take (hi.toNat-lo.toNat))]
noncomputable def sub(u:Option (Int × Int))(xs:List (List V)):List (List V) :=
 match u with
 | none=>xs
 | some (lo,hi)=>subL xs lo hi
theorem RepRows.drop{w:World}{Sh:Nat→Prop}{md:Fl}{z b:Nat}:∀ (k:Nat) (xs:List (List V)) (o:Nat) (T:Nat→Prop),RepRows w Sh md z xs b o T→RepRows w Sh md z (xs.drop k) b (o+k*z) T
 | 0,_,_,_,h=>by simpa using h
 | k+1,[],_,_,_=>by simp only [List.drop_nil,RepRows]
 | k+1,r::rs,o,T,h=>by
  simp only [RepRows] at h
  obtain⟨_,T1,T2,_,h2,_,d2⟩:=h
  have:=RepRows.drop k rs (o+z) T2 h2
  rw [show o+z+k*z=o+(k+1)*z by rw [Nat.add_mul,Nat.one_mul];omega] at this
  exact RepRows.mono _ _ _ _ _ _ d2 this
theorem RepRows.take{w:World}{Sh:Nat→Prop}{md:Fl}{z b:Nat}:∀ (n:Nat) (xs:List (List V)) (o:Nat) (T:Nat→Prop),RepRows w Sh md z xs b o T→RepRows w Sh md z (xs.take n) b o T
 | 0,_,_,_,_=>by simp only [List.take_zero,RepRows]
 | n+1,[],_,_,_=>by simp only [List.take_nil,RepRows]
 | n+1,r::rs,o,T,h=>by
  simp only [RepRows] at h
  obtain⟨hl,T1,T2,h1,h2,d1,d2⟩:=h
  simp only [List.take_succ_cons,RepRows]
  exact ⟨hl,T1,T2,h1,RepRows.take n rs (o+z) T2 h2,d1,d2⟩
/-- The value behind 'x[lo:hi]' stands for the rows from lo to hi. -/
theorem RepC.sub{w:World}{Sh:Nat→Prop}{md f:Fl}{z:Nat}{xs:List (List V)}{hv v:Value}{T:Nat→Prop}{u:Option (Int × Int)}(h:RepC w Sh md (.sl f z xs) hv T)(hu:subV z u hv v):RepC w Sh md (.sl f z (sub u xs)) v T:=by
 cases u with
 | none=>obtain⟨rfl,_⟩:=hu;exact h
 | some p =>
  obtain⟨lo,hi⟩:=p
  rcases hu with ⟨⟨al,rfl⟩,⟨al',rfl⟩⟩ | ⟨b,o,len,cap,mm,rfl,h1,h2,h3,hm1,hm2,rfl⟩
  ·simp only [RepC] at h ⊢
   rcases h with ⟨_,rfl⟩ | ⟨b',o',c,hv,_⟩
   ·left;exact ⟨⟨_,rfl⟩,by simp [Ar.sub,subL_eq]⟩
   ·injection hv with e1 e2 e3
    have hx:xs=[]:=List.eq_nil_of_length_eq_zero e2.symm
    subst hx
    left;exact ⟨⟨_,rfl⟩,by simp [Ar.sub,subL_eq]⟩
  simp only [RepC] at h ⊢
  rcases h with ⟨⟨al,h⟩,hx⟩ | ⟨b',o',c,hv,k1,k2,h⟩
  ·injection h with e1 e2 e3
   subst hx e2 e3
   left
   refine ⟨⟨some (if mm=lo.toNat then ⟨b,o,none⟩ else ⟨b,o+lo.toNat*z,none⟩),?_⟩,by simp [Ar.sub,subL_eq]⟩
   congr 1 <;> omega
  ·injection hv with e1 e2 e3
   injection e1 with e1
   injection e1 with e4 e5 _
   subst e4 e5 e2 e3
   have hlen:(Ar.sub (some (lo,hi)) xs).length=hi.toNat-lo.toNat:=by
    simp only [Ar.sub,subL_eq,List.length_take,List.length_drop];omega
   have hrows:∀m T,RepRows w Sh m z xs b o T→RepRows w Sh m z (Ar.sub (some (lo,hi)) xs) b (o+lo.toNat*z) T:=by
    intro m T hh
    simp only [Ar.sub,subL_eq]
    exact RepRows.take _ _ _ _ (RepRows.drop _ _ _ _ hh)
   by_cases hcl:mm=lo.toNat
   ·-- nothing is left behind it
    have hn:Ar.sub (some (lo,hi)) xs=[]:=List.eq_nil_of_length_eq_zero (by omega)
    refine .inr ⟨b,o,mm-lo.toNat,by rw [if_pos hcl,hlen],by omega,by omega,?_⟩
    rw [hn]
    rcases h with ⟨hm,h4,h5⟩ | ⟨hm,h4,h5,h6,h7⟩ | ⟨hm,h4,h5,h6,h7⟩
    ·exact .inl ⟨hm,fun e=>absurd rfl e,by simp only [RepRows]⟩
    ·refine .inr (.inl ⟨hm,h4,h5,?_,by simp only [RepRows]⟩)
     obtain⟨cur,e,fz,g1,g2,g3⟩:=h6
     exact ⟨cur,e,fz,g1,by rw [hcl];simp;omega,g3⟩
    ·refine .inr (.inr ⟨hm,h4,h5,?_,by simp only [RepRows]⟩)
     obtain⟨cur,e,fz,g1,g2,g3⟩:=h6
     exact ⟨cur,e,fz,g1,by rw [hcl];simp;omega,g3⟩
   ·have hbk:BlockOk w b o (cap*z)→BlockOk w b (o+lo.toNat*z) ((mm-lo.toNat)*z):=by
     rintro⟨cur,e,fz,g1,g2,g3⟩
     have he:lo.toNat*z+(mm-lo.toNat)*z≤cap*z:=by rw [←Nat.add_mul];exact Nat.mul_le_mul_right z (by omega)
     exact ⟨cur,e,fz,g1,by omega,g3⟩
    refine .inr ⟨b,o+lo.toNat*z,mm-lo.toNat,by rw [if_neg hcl,hlen],by omega,by omega,?_⟩
    rcases h with ⟨hm,h4,h5⟩ | ⟨hm,h4,h5,h6,h7⟩ | ⟨hm,h4,h5,h6,h7⟩
    ·refine .inl ⟨hm,fun e=>h4 (fun e'=>e (by rw [e'];simp [Ar.sub,subL_eq])),hrows _ _ h5⟩
    ·exact .inr (.inl ⟨hm,h4,h5,hbk h6,hrows _ _ h7⟩)
    ·exact .inr (.inr ⟨hm,h4,h5,hbk h6,hrows _ _ h7⟩)
/-! ### Types, the environment of a function -/
inductive TK where
 | no | bool | int (k:IntKind) | str | slice (e:Nat) | strct (fs:List (Nat × Nat × Bool)) | ptr | fn
structure TI where
 k:TK
 sz:Nat
 by_:Nat
 zr:List V
structure Env where
 P:Program
 ti:Nat→TI
 own:Bool
 gv:Nat→Bool
 lend:Bool
 kp:List Nat
 ln:Nat→Bool
 mv:Nat→List Bool
 gx:Nat→Option Value
 mu:Nat→Option Nat
/-- The context fits: the globals are handed in to be written (the one global 0), or are there to be read. -/
structure Fit (E:Env) (c:Cx):Prop where
 gm:c.gm=bif E.own then .own else .shr
 gv:E.own=true→∀g,E.gv g=true∨∃b o,c.gl g=.mem b o
 gx:∀g u,E.gx g=some u→c.gl g=.val u
def wrOk(E:Env)(r:Rt)(ps:List (Nat × Int × Nat)):Bool :=
 match r with
 | .gl g=>E.own && (match ps with | [] => !(E.gv g) | _=>true)
 | _=>true
def takeF(lend:Bool)(o z:Nat)(u:Option (Int × Int))(row1:List V)(K':List V→V→Prop):Prop :=
 match row1.getD o .un with
 | .sl .shr _ _=>False
 | .sl f z' xs=>bif z' == z then (match lend with | true=>K' (row1.set o (.sl .shr z' xs)) (.sl .lent z' (sub u xs)) | false=>K' (row1.set o .un) (.sl f z' (sub u xs))) else False
 | _=>False
noncomputable def takeA(E:Env)(st:St)(p:Pl)(z:Nat)(u:Option (Int × Int))(K:V→St→Prop):Prop :=
 match p.r,p.ps with
 | .tp s,[] =>
  (match st.t.getD s .un with
  | .sl .shr _ _=>False
  | .sl f z' xs=>bif z' == z && Nat.beq p.o 0 then (match E.lend with | true=>K (.sl .lent z' (sub u xs)) { st with t:=st.t.set s (.sl .shr z' xs) } | false=>K (.sl f z' (sub u xs)) { st with t:=st.t.set s .un }) else False
  | _=>False)
 | r,ps=>bif wrOk E r ps then updK (rowOf st r) ps (fun row1 K'=>row1≠[]∧takeF E.lend p.o z u row1 K') (fun row' v=>K v (setRow st r row')) else False
theorem RepC.toLent{w:World}{Sh Sh':Nat→Prop}{f:Fl}{z:Nat}{xs:List (List V)}{v:Value}{T:Nat→Prop}(hf:f≠.shr)(hs:∀b,Sh b→Sh' b)(hT:∀b,T b→Sh' b)(h:RepC w Sh .own (.sl f z xs) v T):RepC w Sh' .own (.sl .lent z xs) v T:=by
 have h1:=RepC.lend hs _ v T hT h
 simp only [RepC] at h1 ⊢
 rcases h1 with h1 | ⟨b,o,c,hv,k1,k2,h1⟩
 ·exact .inl h1
 ·refine .inr ⟨b,o,c,hv,k1,k2,?_⟩
  rcases h1 with ⟨hm,_⟩ | ⟨hm,h3⟩ | ⟨hm,_⟩
  ·cases f <;> simp [Fl.meet] at hm hf
  ·exact .inr (.inl ⟨rfl,h3⟩)
  ·cases f <;> simp [Fl.meet] at hm
theorem RepC.toShr{w:World}{Sh:Nat→Prop}{z:Nat}{xs:List (List V)}{v:Value}{T T':Nat→Prop}(h:RepC w Sh .own (.sl .lent z xs) v T):RepC w Sh .own (.sl .shr z xs) v T':=by
 simp only [RepC] at h ⊢
 rcases h with h1 | ⟨b,o,c,hv,k1,k2,h1⟩
 ·exact .inl h1
 ·refine .inr ⟨b,o,c,hv,k1,k2,.inl ⟨rfl,?_⟩⟩
  rcases h1 with ⟨hm,_⟩ | ⟨hm,h3,h4,h5,h6⟩ | ⟨hm,_⟩
  ·cases hm
  ·exact ⟨fun _=>h4,RepRows.share _ _ _ _ _ _ h6⟩
  ·cases hm
/-- What comes behind a change of the ghost part. -/
structure Later (w:World) (G G':Gh):Prop where
 bx:G'.bx=G.bx
 tv:G'.tv=G.tv
 no:∀b,G.ow b=.no→G'.ow b=.no
 sh:∀b,G.Sh b→G'.Sh b
 sh':∀b,G'.Sh b→G.Sh b∨G.ow b≠.no
theorem Later.refl(w:World)(G:Gh):Later w G G:=⟨rfl,rfl,fun _ h=>h,fun _ h=>h,fun _ h=>.inl h⟩
theorem Later.trans{w:World}{G1 G2 G3:Gh}(h:Later w G1 G2)(k:Later w G2 G3):Later w G1 G3 :=
 ⟨k.bx.trans h.bx,k.tv.trans h.tv,fun b hb=>k.no b (h.no b hb),fun b hb=>k.sh b (h.sh b hb),fun b hb=>(k.sh' b hb).elim (h.sh' b) (fun hn=>.inr (fun e=>hn (h.no b e)))⟩
theorem Later.rho{w:World}{c:Cx}{G G':Gh}(h:Later w G G'):Ar.rho c G'=Ar.rho c G:=by
 funext r
 cases r with
 | bx t=>simp only [Ar.rho,h.bx]
 | tp t=>simp only [Ar.rho,h.tv]
 | gl g=>rfl
theorem Later.repT{w:World}{c:Cx}{G G':Gh}(h:Later w G G'){v:V}{u:Value}{T:Nat→Prop}(hT:∀b,T b→G.ow b=.no)(hv:RepT w G.Sh (Ar.rho c G) v u T):RepT w G'.Sh (Ar.rho c G') v u T:=by
 rw [h.rho]
 exact RepT.shr_mono h.sh _ _ _ (fun b hb hs=>(h.sh' b hs).elim id (fun hn=>absurd (hT b hb) hn)) hv
theorem Later.repTs{w:World}{c:Cx}{G G':Gh}(h:Later w G G'){v:List V}{u:List Value}{T:Nat→Prop}(hT:∀b,T b→G.ow b=.no)(hv:RepTs w G.Sh (Ar.rho c G) v u T):RepTs w G'.Sh (Ar.rho c G') v u T:=by
 rw [h.rho]
 exact RepTs.shr_mono h.sh _ _ _ (fun b hb hs=>(h.sh' b hs).elim id (fun hn=>absurd (hT b hb) hn)) hv
/-- Titles that nobody holds and that may be given. -/
def Free(c:Cx)(w:World)(G:Gh)(T:Nat→Prop):Prop := ∀b,T b→G.ow b=.no∧b<w.heap.size∧(c.w0.heap.size≤b∨c.H b)
/-- A temporary's value is turned into another one, some titles becoming free. -/
theorem Rel.turn{c:Cx}{st:St}{a:Act}{w:World}{G:Gh}(h:Rel c st a w G)(s:Nat)(v v':V)(T1:Nat→Prop)(Sh':Nat→Prop)(hs:st.t[s]?=some v)
  (hT1:∀b,T1 b→G.ow b=.tm s) (hs1:∀x,G.Sh x→Sh' x) (hs2:∀x,Sh' x→G.Sh x∨T1 x)
  (hv':RepT w Sh' (Ar.rho c G) v' (a.tmps.getD s undef) (fun b=>G.ow b=.tm s∧¬T1 b)) (hsl:isSl v'=true→isSl v=true) :
  Rel c { st with t:=st.t.set s v' } a w { G with ow:=give G.ow T1 .no,Sh:=Sh' }:=by
 have hk:∀b s',G.ow b=s'→s'≠.tm s→give G.ow T1 .no b=s':=fun b s' hb hn=>by rw [give_no (fun h=>hn (by rw [←hb,hT1 b h])),hb]
 have hsk:∀b s',G.ow b=s'→s'≠.tm s→Sh' b→G.Sh b:=fun b s' hb hn hh=>(hs2 b hh).elim id (fun h=>absurd (by rw [←hb,hT1 b h]) hn)
 refine ⟨by simp [h.tl],h.df,?_,?_,?_,?_,?_,?_,fun b hb=>hs1 b (h.s0 b hb),h.fr,h.sz,h.eos,h.etape,h.eout⟩
 ·intro t x ht
  by_cases hts:t=s
  ·subst hts
   simp only [List.getElem?_set] at ht
   simp at ht
   obtain⟨_,rfl⟩:=ht
   exact RepT.mono _ _ _ _ (fun b hb=>by show give _ _ _ b=_;rw [give_no hb.2,hb.1]) hv'
  ·simp only at ht
   rw [List.getElem?_set_ne (Ne.symm hts)] at ht
   exact RepT.mono _ _ _ _ (fun b hb=>hk b _ hb (by simpa using hts)) (RepT.shr_mono hs1 _ _ _ (fun b hb=>hsk b _ hb (by simpa using hts)) (h.tm t x ht))
 ·intro t f z xs ht
  by_cases hts:t=s
  ·subst hts
   simp only [List.getElem?_set] at ht
   simp at ht
   obtain⟨_,rfl⟩:=ht
   have:=hsl rfl
   cases v with
   | sl f' z' xs'=>exact h.tv t f' z' xs' hs
   | _=>cases this
  ·simp only at ht
   rw [List.getElem?_set_ne (Ne.symm hts)] at ht
   exact h.tv t f z xs ht
 ·intro t row ht hr
  obtain⟨k1,k2,k3,k4⟩:=h.mb t row ht hr
  exact ⟨hk _ _ k1 (by simp),fun hh=>k2 (hsk _ _ k1 (by simp) hh),k3,RepRow.mono _ _ _ _ _ (fun b hb=>hk b _ hb (by simp)) (RepRow.shr_mono hs1 _ _ _ _ (fun _ b hb=>hsk b _ hb (by simp)) k4)⟩
 ·intro g row hg
  have:=h.gb g row hg
  rcases this with this | this
  ·exact .inl this
  refine .inr ?_
  unfold GOkN at this ⊢
  split at this
  ·obtain⟨g1,g2,g3,g4,g5,g6⟩:=this
   exact ⟨g1,g2,hk _ _ g3 (by simp),fun hh=>g4 (hsk _ _ g3 (by simp) hh),g5,RepRow.mono _ _ _ _ _ (fun b hb=>hk b _ hb (by simp)) (RepRow.shr_mono hs1 _ _ _ _ (fun _ b hb=>hsk b _ hb (by simp)) g6)⟩
  ·obtain⟨g1,f,z,xs,g2,g3⟩:=this
   exact ⟨g1,f,z,xs,g2,RepC.mono _ _ _ _ (fun b hb=>hk b _ hb (by simp)) (RepC.shr_mono hs1 _ _ _ (fun _ b hb=>hsk b _ hb (by simp)) g3)⟩
  ·rcases this with g1 | ⟨g1,g2⟩
   ·exact .inl g1
   ·exact .inr ⟨hs1 _ g1,RepRow.shr_mono hs1 _ _ _ _ (fun _ _ h=>h.elim) g2⟩
  ·rcases this with g1 | ⟨cl,g1,g2⟩
   ·exact .inl g1
   ·exact .inr ⟨cl,g1,RepC.shr_mono hs1 _ _ _ (fun _ _ h=>h.elim) g2⟩
 ·intro b hb
  simp only at hb
  by_cases e:T1 b
  ·rw [give_yes e] at hb;exact absurd rfl hb
  ·rw [give_no e] at hb;exact h.ob b hb
 ·intro b hb
  rcases hs2 b hb with hh | hh
  ·exact h.sb b hh
  ·have:=h.ob b (by rw [hT1 b hh];simp)
   exact ⟨this.1,.inr this.2⟩
theorem updK_tp{t:List V}{s:Nat}{ps:List (Nat × Int × Nat)}{f:List V→(List V→V→Prop)→Prop}{K:List V→V→Prop}(hps:ps≠[])(hk:updK [t.getD s .un] ps f K):isSl (t.getD s .un)=true:=by
 cases ps with
 | nil=>exact absurd rfl hps
 | cons x y =>
  obtain⟨k,i,zz⟩:=x
  simp only [updK] at hk
  split at hk
  ·rename_i z1 xs1 hg
   have hk0:k=0:=by
    have:=getD_some hg (by simp)
    cases k with
    | zero=>rfl
    | succ k=>simp at this
   subst hk0
   have:t.getD s .un=.sl .own z1 xs1:=by simpa using hg
   rw [this];rfl
  ·exact hk.elim
/-- A change below a root that may be written, in whatever world it is made. -/
theorem Rel.upd{E:Env}{c:Cx}{st:St}{a:Act}{w:World}{G:Gh}(h:Rel c st a w G)(hfit:Fit E c){r:Rt}{ps:List (Nat × Int × Nat)}{f:List V→(List V→V→Prop)→Prop}{K:List V→V→Prop}
  (hw:wrOk E r ps=true) (hps:∀t,r=.tp t→ps≠[]) (hk:updK (rowOf st r) ps (fun row1 K'=>row1≠[]∧f row1 K') K) :
  ∃src,Ar.rho c G r=some src∧∃ (row1:List V) (b' o':Nat) (T':Nat→Prop) (K':List V→V→Prop),res w src ps=some (.mem b' o')∧RepRow w G.Sh .own row1 b' o' T'∧(∀x,T' x→G.ow x=csl r)∧¬T' b'∧¬G.Sh b'∧(G.ow b'=csl r∨G.ow b'=bsl r)∧BlockOk w b' o' row1.length∧f row1 K' ∧
   (∀w'':World,(∀x,¬T' x→x≠b'→w''.heap[x]?=w.heap[x]?)→∀ps0,pfx ps0 ps→res w'' src ps0=res w src ps0) ∧
   ∀ (row2:List V) (x:V) (w':World) (Sh':Nat→Prop) (T2:Nat→Prop) (t':List V),K' row2 x→row2.length=row1.length→Upd w w' b' o' row1.length→w'.heap.size=w.heap.size→w'.os=w.os→w'.tape=w.tape→w'.output=w.output →
    (∀x,G.Sh x→Sh' x)→(∀x,Sh' x→G.Sh x∨(T' x∧¬T2 x))→(∀x,T2 x→T' x∨(G.ow x=.no∧x<w.heap.size∧(c.w0.heap.size≤x∨c.H x)))→RepRow w' Sh' .own row2 b' o' T2 →
    t'.length=st.t.length→(∀ (s:Nat) (v:V),t'[s]?=some v→r≠.tp s→RepT w' G.Sh (Ar.rho c G) v (a.tmps.getD s undef) (fun b=>G.ow b=.tm s))→(∀ (s:Nat) (v:V),t'[s]?=some v→isSl v=true→st.t[s]?=some v) →
    ∃row',K row' x∧Rel c (setRow { st with t:=t' } r row') a w' { G with ow:=give (give G.ow (fun x=>T' x∧¬T2 x) .no) T2 (csl r),Sh:=Sh' }:=by
 have hgl:∀g,r=.gl g→c.gm=.own∧True:=by
  intro g hg
  rw [hg] at hw
  simp only [wrOk,Bool.and_eq_true] at hw
  have:=hfit.gm
  rw [hw.1] at this
  exact ⟨this,trivial⟩
 have htp:∀t,r=.tp t→isSl (st.t.getD t .un)=true:=by
  intro t ht
  subst ht
  exact updK_tp (hps t rfl) hk
 have hne:rowOf st r≠[]:=by
  intro e
  rw [e] at hk
  cases ps with
  | nil=>exact hk.1 rfl
  | cons x y=>obtain⟨k,i,zz⟩:=x;simp [updK] at hk
 obtain⟨src,hsrc,hroot⟩:=h.root r hne htp (fun g hg=>(hgl g hg).1)
 have hvalps:(∃v,src=.val v)→ps≠[]:=by
  rintro⟨v1,rfl⟩ e
  subst e
  cases r with
  | bx t=>simp [Ar.rho] at hsrc
  | tp t=>exact hps t rfl rfl
  | gl g =>
   obtain⟨hgm,_⟩:=hgl g rfl
   simp only [wrOk,Bool.and_eq_true] at hw
   have hown:E.own=true:=by simpa using hw.1
   rcases hfit.gv hown g with hg | ⟨b,o,hg⟩
   ·have:=hw.2;rw [hg] at this;cases this
   ·have:c.gl g=.val v1:=by simpa [Ar.rho] using hsrc
    rw [hg] at this;cases this
 obtain⟨row1,b',o',T',K',g1,g2,g3,g4,g5,g6,g7,g8,⟨_,g9⟩,g10,H⟩:=root_upd hroot hk (csl_ne r) (csl_no r) (bsl_no r) (fun b hb=>(h.ob b hb).1) (fun b hb=>(h.sb b hb).1) hvalps
 refine ⟨src,hsrc,row1,b',o',T',K',g1,g2,g3,g4,g5,g6,g8,g9,g10,?_⟩
 intro row2 x w' Sh' T2 t' q1 q2 q3 q4 q5 q6 q7 q8 q9 q10 q11 q12 q13 q14
 obtain⟨row',k1,k2,k3⟩:=H row2 x w' Sh' T2 q1 q2 q3 q4 q8 q9 (fun y hy=>(q10 y hy).imp id (fun hh=>hh.1)) q11
 exact ⟨row',k1,h.setRoot r hsrc k2 hne hgl htp k3 g3 q10 g6 g5 q3 q4 q5 q6 q7 q8 q9 q12 q13 q14⟩
theorem takeA_sound{E:Env}{c:Cx}{st:St}{a:Act}{w:World}{G:Gh}(h:Rel c st a w G)(hfit:Fit E c){p:Pl}{z:Nat}{u:Option (Int × Int)}{v:Value}{T0:Nat→Prop}{K:V→St→Prop}
  (hv:RepT w G.Sh (Ar.rho c G) (.rf p z u) v T0) (hk:takeA E st p z u K) :
  ∃ (V':V) (st':St) (G':Gh) (T':Nat→Prop),K V' st'∧Rel c st' a w G'∧RepT w G'.Sh (Ar.rho c G') V' v T'∧Free c w G' T'∧Later w G G'∧(∀b,T' b→G.ow b≠.no) ∧
   (∀w'':World,(∀x,¬T' x→w''.heap[x]?=w.heap[x]?)→∀ (q:Pl) (s:Sr),q.r=p.r→pfx q.ps p.ps→Ar.rho c G q.r=some s→res w'' s q.ps=res w s q.ps):=by
 simp only [RepT] at hv
 obtain⟨src,s',hv0,hsrc,hres,hcell,hsub⟩:=hv
 unfold takeA at hk
 split at hk
 ·rename_i s hpr hps
  rw [hps] at hres
  rw [hpr] at hsrc
  obtain rfl:src=s':=by simpa [res] using hres
  obtain rfl:Sr.val (G.tv s)=src:=by simpa [Ar.rho] using hsrc
  split at hk
  ·exact hk.elim
  ·rename_i f z' xs hf hg
   have ht:=getD_some hg (by simp)
   have hf':f≠.shr:=hf
   cases hb:(z' == z && Nat.beq p.o 0) with
   | false=>rw [hb] at hk;exact hk.elim
   | true =>
    rw [hb] at hk
    simp only [cond_true] at hk
    simp only [Bool.and_eq_true,beq_iff_eq] at hb
    obtain⟨rfl,hb2⟩:=hb
    have ho:p.o=0:=Nat.eq_of_beq_eq_true hb2
    rw [ho] at hcell
    simp only [Sr.cell,if_true,Option.some.injEq] at hcell
    subst hcell
    have hr:=h.tm s _ ht
    rw [h.tv s f z' xs ht] at hr
    have hfree:∀Sh',Free c w { G with ow:=give G.ow (fun b=>G.ow b=.tm s) .no,Sh:=Sh' } (fun b=>G.ow b=.tm s):=fun Sh' b hb=>by
     have:=h.ob b (by rw [hb];simp)
     exact ⟨give_yes (T:=fun b=>G.ow b=.tm s) hb,this.1,this.2⟩
    have hlat:∀Sh':Nat→Prop,(∀b,G.Sh b→Sh' b)→(∀b,Sh' b→G.Sh b∨G.ow b=.tm s)→Later w G { G with ow:=give G.ow (fun b=>G.ow b=.tm s) .no,Sh:=Sh' }:=fun Sh' k1 k2 =>
     ⟨rfl,rfl,fun b hb=>by
      show give G.ow (fun b=>G.ow b=.tm s) .no b=.no
      by_cases e:G.ow b=.tm s
      ·rw [hb] at e;cases e
      ·rw [give_no (T:=fun b=>G.ow b=.tm s) e,hb],k1,fun b hb=>(k2 b hb).imp id (fun e=>by rw [e];simp)⟩
    have hpre:∀w'':World,(∀x,¬G.ow x=.tm s→w''.heap[x]?=w.heap[x]?)→∀ (q:Pl) (s:Sr),q.r=p.r→pfx q.ps p.ps→Ar.rho c G q.r=some s→res w'' s q.ps=res w s q.ps:=by
     intro w'' _ q s1 _ hq _
     rw [hps] at hq
     cases hqs:q.ps with
     | nil=>rfl
     | cons _ _=>rw [hqs] at hq;exact hq.elim
    cases hl:E.lend with
    | false =>
     rw [hl] at hk
     simp only [cond_false] at hk
     refine ⟨_,_,{ G with ow:=give G.ow (fun b=>G.ow b=.tm s) .no,Sh:=G.Sh },(fun b=>G.ow b=.tm s),hk,h.turn s _ .un (fun b=>G.ow b=.tm s) G.Sh ht (fun _ hb=>hb) (fun _ hb=>hb) (fun _ hb=>.inl hb) trivial (fun e=>by cases e),?_,hfree _,hlat _ (fun _ hb=>hb) (fun _ hb=>.inl hb),fun b hb=>by (show G.ow b≠.no;rw [show G.ow b=_ from hb];simp),hpre⟩
     exact RepC.sub hr hsub
    | true =>
     rw [hl] at hk
     simp only [cond_true] at hk
     have hlent:RepC w (fun b=>G.Sh b∨G.ow b=.tm s) .own (.sl .lent z' xs) (G.tv s) (fun b=>G.ow b=.tm s):=RepC.toLent hf' (fun _ hb=>.inl hb) (fun _ hb=>.inr hb) hr
     refine ⟨_,_,{ G with ow:=give G.ow (fun b=>G.ow b=.tm s) .no,Sh:=fun b=>G.Sh b∨G.ow b=.tm s },(fun b=>G.ow b=.tm s),hk,h.turn s _ _ (fun b=>G.ow b=.tm s) _ ht (fun _ hb=>hb) (fun _ hb=>.inl hb) (fun _ hb=>hb) ?_ (fun _=>rfl),?_,hfree _,hlat _ (fun _ hb=>.inl hb) (fun _ hb=>hb),fun b hb=>by (show G.ow b≠.no;rw [show G.ow b=_ from hb];simp),hpre⟩
     ·rw [h.tv s f z' xs ht]
      exact RepC.toShr hlent
     ·exact RepC.sub hlent hsub
  ·exact hk.elim
 ·rename_i hnot
  cases hw:wrOk E p.r p.ps with
  | false=>rw [hw] at hk;exact hk.elim
  | true =>
   rw [hw] at hk
   simp only [cond_true] at hk
   have hps:∀t,p.r=.tp t→p.ps≠[]:=fun t ht e=>hnot t ht e
   obtain⟨src',hsrc',row1,b',o',T',K',g1,g2,g3,g4,g5,g6,g7,g8,g9,H⟩:=h.upd hfit hw hps hk
   rw [hsrc] at hsrc'
   injection hsrc' with hsrc'
   subst hsrc'
   rw [g1] at hres
   injection hres with hres
   subst hres
   simp only [Sr.cell] at hcell
   unfold takeF at g8
   split at g8
   ·exact g8.elim
   ·rename_i f z' xs hf hg
    have hf':f≠.shr:=hf
    cases hb:(z' == z) with
    | false=>rw [hb] at g8;exact g8.elim
    | true =>
     rw [hb] at g8
     obtain rfl:z'=z:=by simpa using hb
     simp only [cond_true] at g8
     obtain⟨v1,T1,T2,k1,k2,k3,k4,k5⟩:=RepRow.focus row1 o' T' p.o _ g2 (getD_some hg (by simp))
     rw [hcell] at k1
     injection k1 with k1
     subst k1
     have hfree:∀Sh',Free c w { G with ow:=give (give G.ow (fun x=>T' x∧¬T2 x) .no) T2 (csl p.r),Sh:=Sh' } T1:=fun Sh' b hb=>by
      have hT':=(k3 b hb).1
      have:=h.ob b (by rw [g3 b hT'];exact csl_no _)
      exact ⟨by show give _ _ _ b=_;rw [give_no (k3 b hb).2];exact give_yes ⟨hT',(k3 b hb).2⟩,this.1,this.2⟩
     have hlat:∀Sh':Nat→Prop,(∀b,G.Sh b→Sh' b)→(∀b,Sh' b→G.Sh b∨T1 b)→Later w G { G with ow:=give (give G.ow (fun x=>T' x∧¬T2 x) .no) T2 (csl p.r),Sh:=Sh' }:=fun Sh' q1 q2 =>
      ⟨rfl,rfl,fun b hb=>by
       have hn:¬T' b:=fun hh=>csl_no p.r (by rw [←g3 b hh,hb])
       show give _ _ _ b=_
       rw [give_no (fun hh=>hn (k4 b hh)),give_no (fun hh=>hn hh.1),hb],q1,fun b hb=>(q2 b hb).imp id (fun hh=>by rw [g3 b (k3 b hh).1];exact csl_no _)⟩
     have hpre:∀w'':World,(∀x,¬T1 x→w''.heap[x]?=w.heap[x]?)→∀ (q:Pl) (s:Sr),q.r=p.r→pfx q.ps p.ps→Ar.rho c G q.r=some s→res w'' s q.ps=res w s q.ps:=by
      intro w'' hw'' q s1 hq1 hq2 hq3
      rw [hq1,hsrc] at hq3
      injection hq3 with hq3
      subst hq3
      exact g9 w'' (fun x hx _=>hw'' x (fun hh=>hx (k3 x hh).1)) _ hq2
     cases hl:E.lend with
     | false =>
      rw [hl] at g8
      simp only [cond_false] at g8
      have hr2:=k5 w G.Sh .un hv0 (fun _=>False) (fun _ _=>rfl) (fun _ _=>rfl) (fun _ _ _=>rfl) (fun _ hh=>hh) (fun _ _ hh=>hh) (fun _ hh=>hh.elim) hcell (show RepC w G.Sh .own .un hv0 _ from k2.one)
      obtain⟨row',q1,q2⟩:=H _ _ w G.Sh T2 st.t g8 (by simp) (Upd.refl w b' o' row1.length) rfl rfl rfl rfl (fun _ hh=>hh) (fun _ hh=>.inl hh) (fun b hb=>.inl (k4 b hb)) (RepRow.mono _ _ _ _ _ (fun b hb=>hb.elim False.elim id) hr2)
       rfl (fun s v hs _=>h.tm s v hs) (fun s v hs _=>hs)
      exact ⟨_,_,_,T1,q1,q2,RepC.sub k2 hsub,hfree _,hlat _ (fun _ hh=>hh) (fun _ hh=>.inl hh),fun b hb=>by rw [g3 b (k3 b hb).1];exact csl_no _,hpre⟩
     | true =>
      rw [hl] at g8
      simp only [cond_true] at g8
      have hlent:RepC w (fun b=>G.Sh b∨T1 b) .own (.sl .lent z' xs) hv0 T1:=RepC.toLent hf' (fun _ hb=>.inl hb) (fun _ hb=>.inr hb) k2
      have hr2:=k5 w (fun b=>G.Sh b∨T1 b) (.sl .shr z' xs) hv0 (fun _=>False) (fun _ _=>rfl) (fun _ _=>rfl) (fun _ _ _=>rfl) (fun _ hh=>.inl hh) (fun x hx hh=>hh.elim id (fun hh=>absurd hx (k3 x hh).2)) (fun _ hh=>hh.elim) hcell (RepC.toShr hlent)
      obtain⟨row',q1,q2⟩:=H _ _ w (fun b=>G.Sh b∨T1 b) T2 st.t g8 (by simp) (Upd.refl w b' o' row1.length) rfl rfl rfl rfl (fun _ hh=>.inl hh) (fun x hh=>hh.imp id (fun hh=>⟨(k3 x hh).1,(k3 x hh).2⟩)) (fun b hb=>.inl (k4 b hb)) (RepRow.mono _ _ _ _ _ (fun b hb=>hb.elim False.elim id) hr2)
       rfl (fun s v hs _=>h.tm s v hs) (fun s v hs _=>hs)
      exact ⟨_,_,_,T1,q1,q2,RepC.sub hlent hsub,hfree _,hlat _ (fun _ hh=>.inl hh) (fun _ hh=>hh),fun b hb=>by rw [g3 b (k3 b hb).1];exact csl_no _,hpre⟩
   ·exact g8.elim
/-! ### Stores -/
def splice:List V→Nat→List V→List V
 | row,_,[]=>row
 | row,o,c::cs=>splice (row.set o c) (o+1) cs
def scal:V→Bool
 | .b _=>true | .i _ _=>true | .s _=>true
 | _=>false
def scals:List V→Bool
 | []=>true
 | c::cs=>scal c && scals cs
def stF(o:Nat)(cells row1:List V)(K':List V→V→Prop):Prop :=
 bif Nat.beq ((row1.drop o).take cells.length).length cells.length then K' (splice row1 o (fits ((row1.drop o).take cells.length) cells)) (.b (scals ((row1.drop o).take cells.length))) else False
noncomputable def stA(E:Env)(st:St)(p:Pl)(cells:List V)(K:St→Prop):Prop :=
 bif (wrOk E p.r p.ps && plains cells) && Nat.ble 1 cells.length then
  updK (rowOf st p.r) p.ps (fun row1 K'=>row1≠[]∧stF p.o cells row1 K') (fun row' x =>
   match x with
   | .b true=>K (setRow st p.r row')
   | _=>keepOk st.t p E.kp∧K (setRow { st with t:=killH E.kp 0 st.t } p.r row'))
 else False
theorem splice_length:∀ (cs row:List V) (o:Nat),(splice row o cs).length=row.length
 | [],_,_=>rfl
 | c::cs,row,o=>by simp [splice,splice_length cs]
theorem RepCs.frame{w w':World}{Sh:Nat→Prop}(hS:∀b,Sh b→w'.heap[b]?=w.heap[b]?):∀ (cs:List V) (vs:List Value) (T:Nat→Prop),(∀b,T b→w'.heap[b]?=w.heap[b]?)→RepCs w Sh cs vs T→RepCs w' Sh cs vs T
 | [],[],_,_,_=>trivial
 | c::cs,v::vs,T,hT,h=>by
  obtain⟨T1,T2,h1,h2,d1,d2⟩:=h
  exact ⟨T1,T2,RepC.frame hS _ _ _ _ (fun x hx=>hT x (d1 x hx).1) h1,RepCs.frame hS cs vs T2 (fun x hx=>hT x (d2 x hx)) h2,d1,d2⟩
 | [],_::_,_,_,h=>h.elim
 | _::_,[],_,_,h=>h.elim
theorem splice_sound{Sh:Nat→Prop}{b o:Nat}(hsb:¬Sh b):∀ (cs:List V) (vs:List Value) (w:World) (row:List V) (k:Nat) (T Tv:Nat→Prop),RepRow w Sh .own row b o T→RepCs w Sh cs vs Tv →
  (∀x,Tv x→¬T x)→¬T b→¬Tv b→k+cs.length≤row.length→RepRow (w.setCells b (o+k) vs) Sh .own (splice row k cs) b o (fun x=>T x∨Tv x)
 | [],[],w,row,k,T,Tv,h,_,_,_,_,_=>RepRow.mono _ _ _ _ _ (fun _ hx=>.inl hx) h
 | c::cs,v::vs,w,row,k,T,Tv,h,hc,hd,hb,hbv,hl=>by
  obtain⟨S1,S2,h1,h2,d1,d2⟩:=hc
  simp only [List.length_cons] at hl
  have hk:k<row.length:=by omega
  obtain⟨v0,T1,T2,k1,k2,k3,k4,k5⟩:=RepRow.focus row o T k _ h (List.getElem?_eq_getElem hk)
  have hU:=Upd.setCell w b (o+k) v
  have hS:∀x,Sh x→(w.setCell ⟨b,o+k,none⟩ v).heap[x]?=w.heap[x]?:=fun x hx=>hU.heap x (fun e=>hsb (e▸hx))
  have hstep:=k5 (w.setCell ⟨b,o+k,none⟩ v) Sh c v S1 hS (fun x hx=>hU.heap x (fun e=>hb (e▸k4 x hx))) (fun j _ hj=>hU.cell _ (by omega)) (fun _ hx=>hx) (fun _ _ hx=>hx)
   (fun x hx hh=>hd x (d1 x hx).1 (k4 x hh)) (World.cell?_setCell_same _ _ _ k1) (RepC.frame hS _ _ _ _ (fun x hx=>hU.heap x (fun e=>hbv (e▸(d1 x hx).1))) h1)
  have hrest:=splice_sound hsb cs vs (w.setCell ⟨b,o+k,none⟩ v) (row.set k c) (k+1) (fun x=>S1 x∨T2 x) S2 hstep (RepCs.frame hS _ _ _ (fun x hx=>hU.heap x (fun e=>hbv (e▸d2 x hx))) h2)
   (fun x hx hh=>hh.elim (fun hh=>(d1 x hh).2 hx) (fun hh=>hd x (d2 x hx) (k4 x hh))) (fun hh=>hh.elim (fun hh=>hbv (d1 b hh).1) (fun hh=>hb (k4 b hh))) (fun hh=>hbv (d2 b hh)) (by simp;omega)
  simp only [World.setCells,splice]
  rw [show o+k+1=o+(k+1) by omega]
  refine RepRow.mono _ _ _ _ _ ?_ hrest
  intro x hx
  rcases hx with (hx | hx) | hx
  ·exact .inr (d1 x hx).1
  ·exact .inl (k4 x hx)
  ·exact .inr (d2 x hx)
 | [],_::_,_,_,_,_,_,_,hc,_,_,_,_=>hc.elim
 | _::_,[],_,_,_,_,_,_,hc,_,_,_,_=>hc.elim
theorem scals_cells{w:World}{Sh:Nat→Prop}{md:Fl}{b:Nat}:∀ (cs:List V) (o:Nat) (T:Nat→Prop),scals cs=true→RepRow w Sh md cs b o T→∀j,j<cs.length→∃v,w.cell? ⟨b,o+j,none⟩=some v∧isSliceV v=false
 | [],_,_,_,_,j,hj=>by simp at hj
 | c::cs,o,T,hs,h,0,hj=>by
  simp only [scals,Bool.and_eq_true] at hs
  simp only [RepRow] at h
  obtain⟨v,T1,T2,h1,h2,_⟩:=h
  refine ⟨v,h1,?_⟩
  cases c with
  | b x=>have:v=_:=h2;subst this;rfl
  | i k n=>have:v=_:=h2;subst this;rfl
  | s l=>have:v=_:=h2;subst this;rfl
  | _=>simp [scal] at hs
 | c::cs,o,T,hs,h,j+1,hj=>by
  simp only [scals,Bool.and_eq_true] at hs
  simp only [RepRow] at h
  obtain⟨v,T1,T2,_,_,h2,_⟩:=h
  have:=scals_cells cs (o+1) T2 hs.2 h2 j (by simpa using hj)
  rwa [show o+1+j=o+(j+1) by omega] at this
theorem stA_sound{E:Env}{c:Cx}{st:St}{a:Act}{w:World}{G:Gh}(h:Rel c st a w G)(hfit:Fit E c){p:Pl}{u:Value}{T0:Nat→Prop}{cells:List V}{vals:List Value}{Tv:Nat→Prop}{K:St→Prop}
  (hp:RepT w G.Sh (Ar.rho c G) (.pt p) u T0) (hc:RepCs w G.Sh cells vals Tv) (hfree:Free c w G Tv) (hk:stA E st p cells K) :
  ∃b o,u=.pointer (some ⟨b,o,none⟩)∧BlockOk w b o vals.length∧(∀v∈vals,v.oneCell'=true)∧∃ (st':St) (G':Gh),K st'∧Rel c st' a (w.setCells b o vals) G':=by
 unfold stA at hk
 cases hw:((wrOk E p.r p.ps && plains cells) && Nat.ble 1 cells.length) with
 | false=>rw [hw] at hk;exact hk.elim
 | true =>
  rw [hw] at hk
  simp only [cond_true] at hk
  simp only [Bool.and_eq_true] at hw
  obtain⟨hw,hz⟩:=hw
  have hz:1≤cells.length:=Nat.le_of_ble_eq_true hz
  simp only [RepT] at hp
  obtain⟨src0,b0,o0,hsrc0,hres0,hu⟩:=hp
  have hps:∀t,p.r=.tp t→p.ps≠[]:=by
   intro t ht e
   rw [ht] at hsrc0
   rw [e] at hres0
   obtain rfl:Sr.val (G.tv t)=src0:=by simpa [Ar.rho] using hsrc0
   simp [res] at hres0
  obtain⟨src,hsrc,row1,b',o',T',K',g1,g2,g3,g4,g5,g6,gb,g8,g9,H⟩:=h.upd hfit hw.1 hps hk
  rw [hsrc0] at hsrc
  injection hsrc with hsrc
  subst hsrc
  rw [g1] at hres0
  injection hres0 with hres0
  injection hres0 with e1 e2
  subst e1 e2
  unfold stF at g8
  cases hb:Nat.beq ((row1.drop p.o).take cells.length).length cells.length with
  | false=>rw [hb] at g8;exact g8.elim
  | true =>
   rw [hb] at g8
   simp only [cond_true] at g8
   have hlen:=Nat.eq_of_beq_eq_true hb
   simp only [List.length_take,List.length_drop] at hlen
   have hcl:=hc.len
   have hone:=plains_one _ _ _ hw.2 hc
   generalize hold:(row1.drop p.o).take cells.length=old at g8
   have hcf:RepCs w G.Sh (fits old cells) vals Tv:=fits_rep _ _ _ _ hc
   have hfl:(fits old cells).length=cells.length:=fits_length _ _
   have hle:p.o+cells.length≤row1.length:=by omega
   have hbk:BlockOk w b' (o' + p.o) vals.length:=by
    obtain⟨cur,e,fz,q1,q2,q3⟩:=gb
    exact ⟨cur,e,fz,q1,by omega,q3⟩
   refine ⟨b',o' + p.o,hu,hbk,hone,?_⟩
   have hTv:∀x,Tv x→¬T' x:=fun x hx hh=>csl_no p.r (by rw [←g3 x hh,(hfree x hx).1])
   have hTvb:¬Tv b':=fun hh=>by
    have:=(hfree b' hh).1
    rcases g6 with e | e <;> rw [e] at this
    ·exact csl_no _ this
    ·exact bsl_no _ this
   have hsp:=splice_sound g5 (fits old cells) vals w row1 p.o T' Tv g2 hcf hTv g4 hTvb (by omega)
   have hU:Upd w (w.setCells b' (o' + p.o) vals) b' o' row1.length:=(Upd.setCells b' vals (o' + p.o) w).weaken (by omega) (by omega)
   obtain⟨z1,z2,z3,z4⟩:=setCells_size b' vals (o' + p.o) w
   have hS:∀x,G.Sh x→(w.setCells b' (o' + p.o) vals).heap[x]?=w.heap[x]?:=fun x hx=>hU.heap x (fun e=>g5 (e▸hx))
   have hOt:∀ (s:Nat),p.r≠.tp s→∀x,G.ow x=.tm s→(w.setCells b' (o' + p.o) vals).heap[x]?=w.heap[x]?:=by
    intro s hs x hx
    refine hU.heap x (fun e=>?_)
    subst e
    rcases g6 with e | e
    ·rw [hx] at e;cases hr:p.r <;> rw [hr] at e <;> simp [csl] at e;exact hs (by rw [hr,e])
    ·rw [hx] at e;cases hr:p.r <;> rw [hr] at e <;> simp [bsl] at e
   have fin:=fun t' q=>H (splice row1 p.o (fits old cells)) (.b (scals old)) (w.setCells b' (o' + p.o) vals) G.Sh (fun x=>T' x∨Tv x) t' g8 (splice_length _ _ _) hU z1 z2 z3 z4 (fun _ hx=>hx) (fun _ hx=>.inl hx)
    (fun x hx=>hx.imp id (fun hx=>hfree x hx)) hsp q
   cases hsc:scals old with
   | true =>
    have hfr:∀ (s:Nat) (v:V),st.t[s]?=some v→p.r≠.tp s→RepT (w.setCells b' (o' + p.o) vals) G.Sh (Ar.rho c G) v (a.tmps.getD s undef) (fun b=>G.ow b=.tm s):=by
     intro s v hs hr
     refine RepT.frame hS ?_ _ _ _ (hOt s hr) (h.tm s v hs)
     intro ad v0 hv0 hsl
     by_cases hin:ad=⟨b',ad.off,none⟩∧o' + p.o≤ad.off∧ad.off<o' + p.o+vals.length
     ·obtain⟨e,l1,l2⟩:=hin
      have hrow:=RepRow.take cells.length _ _ _ (RepRow.drop p.o _ _ _ g2)
      rw [hold] at hrow
      obtain⟨v2,k1,k2⟩:=scals_cells old _ _ hsc hrow (ad.off-(o' + p.o)) (by rw [←hold];simp;omega)
      rw [show o' + p.o+(ad.off-(o' + p.o))=ad.off by omega,←e,hv0] at k1
      injection k1 with k1
      subst k1
      rw [hsl] at k2;cases k2
     ·rw [World.cell?_setCells_out]
      ·exact hv0
      ·intro e1 e2
       by_cases l1:ad.off<o' + p.o
       ·exact .inl l1
       ·refine .inr ?_
        by_cases l2:ad.off<o' + p.o+vals.length
        ·exact absurd ⟨by cases ad;simp_all,by omega,l2⟩ hin
        ·omega
    obtain⟨row',q1,q2⟩:=fin st.t rfl hfr (fun s v hs _=>hs)
    rw [hsc] at q1
    exact ⟨_,_,q1,q2⟩
   | false =>
    have hfr:∀ (s:Nat) (v:V),(killH E.kp 0 st.t)[s]?=some v→p.r≠.tp s→RepT (w.setCells b' (o' + p.o) vals) G.Sh (Ar.rho c G) v (a.tmps.getD s undef) (fun b=>G.ow b=.tm s):=by
     intro s v hs hr
     obtain⟨v0,k1,k2⟩:=killH_get _ _ _ _ _ hs
     rcases k2 with rfl | ⟨rfl,k2⟩
     ·trivial
     ·have hkeep:deep v=false∨∃q,v=.pt q∧q.r=p.r∧pfx q.ps p.ps:=by
       rcases k2 with k2 | k2
       ·exact .inl k2
       ·rw [Nat.zero_add] at k2
        have hko:keepOk st.t p E.kp:=by
         have:=H (splice row1 p.o (fits old cells)) (.b (scals old)) (w.setCells b' (o' + p.o) vals) G.Sh (fun x=>T' x∨Tv x) (st.t.map fun _=>.un) g8 (splice_length _ _ _) hU z1 z2 z3 z4 (fun _ hx=>hx) (fun _ hx=>.inl hx)
          (fun x hx=>hx.imp id (fun hx=>hfree x hx)) hsp (by simp) (fun s v hs _=>by simp at hs;obtain⟨_,_,rfl⟩:=hs;trivial) (fun s v hs hsl=>by simp at hs;obtain⟨_,_,rfl⟩:=hs;cases hsl)
         obtain⟨row',q1,_⟩:=this
         rw [hsc] at q1
         exact q1.1
        exact keepOk_get _ hko s k2 v k1
      rcases hkeep with hd | ⟨q,rfl,hq1,hq2⟩
      ·exact RepT.frame2 (fun n s e=>⟨_,(Option.some.inj e).symm⟩) hS _ _ _ hd (hOt s hr) (h.tm s v k1)
      ·have:=h.tm s _ k1
       simp only [RepT] at this ⊢
       obtain⟨s1,b1,o1,r1,r2,r3⟩:=this
       rw [hq1,hsrc0] at r1
       injection r1 with r1
       subst r1
       refine ⟨src0,b1,o1,by rw [hq1];exact hsrc0,?_,r3⟩
       rw [g9 _ (fun x _ hx=>hU.heap x hx) _ hq2]
       exact r2
    have hfs:∀ (s:Nat) (v:V),(killH E.kp 0 st.t)[s]?=some v→isSl v=true→st.t[s]?=some v:=by
     intro s v hs hsl
     obtain⟨v0,k1,k2⟩:=killH_get _ _ _ _ _ hs
     rcases k2 with rfl | ⟨rfl,_⟩
     ·cases hsl
     ·exact k1
    obtain⟨row',q1,q2⟩:=fin (killH E.kp 0 st.t) (killH_length _ _ _) hfr hfs
    rw [hsc] at q1
    exact ⟨_,_,q1.2,q2⟩
/-! ### Operands -/
def cst:Value→V
 | .int k n=>.i k n
 | .bool b=>.b b
 | .string s=>.s s.data.toList
 | .slice none 0 0=>.nil
 | _=>.un
def ev(st:St):Operand→V
 | .tmp t=>st.t.getD t .un
 | .const v=>cst v
 | .func f=>.fn f []
 | .global _=>.un
theorem cst_rep{w:World}{Sh:Nat→Prop}{ρ:Rt→Option Sr}(v:Value)(T:Nat→Prop):RepT w Sh ρ (cst v) v T:=by
 unfold cst
 split
 ·rfl
 ·rfl
 ·rename_i s;show Value.string s=.string ⟨s.data.toList.toArray⟩;simp
 ·rfl
 ·trivial
mutual
/-- May the value be copied as it is? -/
def cp:V→Bool
 | .sl .shr _ _=>true
 | .sl _ _ _=>false
 | .ag cs=>cps cs
 | .tu cs=>cps cs
 | .fn _ cs=>cps cs
 | _=>true
def cps:List V→Bool
 | []=>true
 | c::cs=>cp c && cps cs
end
mutual
theorem cp_T{w:World}{Sh:Nat→Prop}{ρ:Rt→Option Sr}:∀ (c:V) (v:Value) (T T':Nat→Prop),cp c=true→RepT w Sh ρ c v T→RepT w Sh ρ c v T'
 | .b _,_,_,_,_,h | .i _ _,_,_,_,_,h | .cv _ _,_,_,_,_,h | .s _,_,_,_,_,h | .nil,_,_,_,_,h | .un,_,_,_,_,h=>h
 | .sl .shr z xs,v,T,T',_,h=>RepC.shr_of (md:=.own) rfl h
 | .sl .own _ _,_,_,_,hc,_=>by simp [cp] at hc
 | .sl .lent _ _,_,_,_,hc,_=>by simp [cp] at hc
 | .pt p,v,T,T',_,h=>by simp only [RepT] at h ⊢;exact h
 | .rf p z u,v,T,T',_,h=>by simp only [RepT] at h ⊢;exact h
 | .ag cs,v,T,T',hc,h=>by
  simp only [cp] at hc
  simp only [RepT] at h ⊢
  obtain⟨vs,h1,h2⟩:=h
  exact ⟨vs,h1,cps_T cs vs T T' hc h2⟩
 | .tu cs,v,T,T',hc,h=>by
  simp only [cp] at hc
  simp only [RepT] at h ⊢
  obtain⟨vs,h1,h2⟩:=h
  exact ⟨vs,h1,cps_T cs vs T T' hc h2⟩
 | .fn f cs,v,T,T',hc,h=>by
  simp only [cp] at hc
  simp only [RepT] at h ⊢
  obtain⟨vs,h1,h2⟩:=h
  exact ⟨vs,h1,cps_T cs vs T T' hc h2⟩
theorem cps_T{w:World}{Sh:Nat→Prop}{ρ:Rt→Option Sr}:∀ (cs:List V) (vs:List Value) (T T':Nat→Prop),cps cs=true→RepTs w Sh ρ cs vs T→RepTs w Sh ρ cs vs T'
 | [],[],_,_,_,_=>by simp only [RepTs]
 | c::cs,v::vs,T,T',hc,h=>by
  simp only [cps,Bool.and_eq_true] at hc
  simp only [RepTs] at h ⊢
  obtain⟨T1,T2,h1,h2,d1,d2⟩:=h
  exact ⟨fun _=>False,fun _=>False,cp_T c v T1 _ hc.1 h1,cps_T cs vs T2 _ hc.2 h2,fun _ h=>h.elim,fun _ h=>h.elim⟩
 | [],_::_,_,_,_,h=>by simp only [RepTs] at h
 | _::_,[],_,_,_,h=>by simp only [RepTs] at h
end
theorem Rel.tmp{c:Cx}{st:St}{a:Act}{w:World}{G:Gh}(h:Rel c st a w G)(s:Nat):RepT w G.Sh (Ar.rho c G) (st.t.getD s .un) (a.tmps.getD s undef) (fun b=>G.ow b=.tm s):=by
 cases hs:st.t[s]? with
 | none => have : st.t.getD s .un = .un := by simp [List.getD_eq_getElem?_getD, hs]
           rw [this];trivial
 | some v => have : st.t.getD s .un = v := by simp [List.getD_eq_getElem?_getD, hs]
             rw [this];exact h.tm s v hs
/-- An operand that is only looked at. -/
theorem Rel.ev{c:Cx}{st:St}{a:Act}{w:World}{G:Gh}(h:Rel c st a w G)(x:Operand):∃T,RepT w G.Sh (Ar.rho c G) (Ar.ev st x) (a.eval x) T:=by
 cases x with
 | tmp t=>exact ⟨_,h.tmp t⟩
 | const v=>exact ⟨fun _=>False,cst_rep v _⟩
 | func f=>exact ⟨fun _=>False,by simp only [Ar.ev,RepT];exact ⟨[],rfl,by simp only [RepTs]⟩⟩
 | global g=>exact ⟨fun _=>False,trivial⟩
theorem Later.free{c:Cx}{w:World}{G G':Gh}(h:Later w G G'){T:Nat→Prop}(hT:Free c w G T):Free c w G' T:=fun b hb=>⟨h.no b (hT b hb).1,(hT b hb).2⟩
/-- Looked at, and handed on: what can't be copied leaves its temporary; a slice is handed on as a reference. -/
def mvA(st:St)(x:Operand)(K:V→St→Prop):Prop :=
 match x with
 | .tmp s =>
  (match st.t.getD s .un with
  | .sl .shr z xs=>K (.sl .shr z xs) st
  | .sl _ z _=>K (.rf ⟨.tp s,[],0⟩ z none) st
  | v=>(match cp v with | true=>K v st | false=>K v { st with t:=st.t.set s .un }))
 | .const v=>K (cst v) st
 | .func f=>K (.fn f []) st
 | .global _=>False
/-- What comes of handing a value on: the value, the state behind it. -/
def Handed(c:Cx)(a:Act)(w:World)(G:Gh)(u:Value)(K:V→St→Prop):Prop :=
 ∃ (V':V) (st':St) (G':Gh) (T':Nat→Prop),K V' st'∧Rel c st' a w G'∧RepT w G'.Sh (Ar.rho c G') V' u T'∧Free c w G' T'∧Later w G G'∧(∀b,T' b→G.ow b≠.no)
theorem none_free{c:Cx}{w:World}{G:Gh}:Free c w G (fun _=>False):=fun _ h=>h.elim
theorem Rel.leave{c:Cx}{st:St}{a:Act}{w:World}{G:Gh}(h:Rel c st a w G)(s:Nat)(v:V)(hs:st.t[s]?=some v) :
  Rel c { st with t:=st.t.set s .un } a w { G with ow:=give G.ow (fun b=>G.ow b=.tm s) .no }∧Free c w { G with ow:=give G.ow (fun b=>G.ow b=.tm s) .no } (fun b=>G.ow b=.tm s)∧Later w G { G with ow:=give G.ow (fun b=>G.ow b=.tm s) .no }:=by
 refine ⟨h.turn s v .un _ G.Sh hs (fun _ hb=>hb) (fun _ hb=>hb) (fun _ hb=>.inl hb) trivial (fun e=>by cases e),fun b hb=>?_,⟨rfl,rfl,fun b hb=>?_,fun _ hb=>hb,fun _ hb=>.inl hb⟩⟩
 ·have:=h.ob b (by rw [hb];simp)
  exact ⟨give_yes (T:=fun b=>G.ow b=.tm s) hb,this.1,this.2⟩
 ·show give G.ow (fun b=>G.ow b=.tm s) .no b=.no
  by_cases e:G.ow b=.tm s
  ·exact give_yes (T:=fun b=>G.ow b=.tm s) e
  ·rw [give_no (T:=fun b=>G.ow b=.tm s) e,hb]
theorem mvA_sound{c:Cx}{st:St}{a:Act}{w:World}{G:Gh}(h:Rel c st a w G){x:Operand}{K:V→St→Prop}(hk:mvA st x K):Handed c a w G (a.eval x) K:=by
 unfold mvA at hk
 split at hk
 ·rename_i s
  have ht:=h.tmp s
  split at hk
  ·rename_i z xs hg
   rw [hg] at ht
   exact ⟨_,st,G,fun _=>False,hk,h,cp_T _ _ _ _ rfl ht,none_free,Later.refl _ _,fun _ h=>h.elim⟩
  ·rename_i f z xs hf hg
   have hs:=getD_some hg (by simp)
   rw [hg] at ht
   refine ⟨_,st,G,fun _=>False,hk,h,?_,none_free,Later.refl _ _,fun _ h=>h.elim⟩
   simp only [RepT]
   refine ⟨.val (G.tv s),.val (G.tv s),G.tv s,rfl,rfl,rfl,?_⟩
   refine ⟨h.tv s f z xs hs,?_⟩
   rw [h.tv s f z xs hs] at ht
   have ht':RepC w G.Sh .own (.sl f z xs) (G.tv s) _:=ht
   simp only [RepC] at ht'
   rcases ht' with ⟨⟨_,e⟩,_⟩ | ⟨b,o,c,e,_⟩
   ·exact ⟨_,_,_,e⟩
   ·exact ⟨_,_,_,e⟩
  ·rename_i hf1 hf2
   cases hc:cp (st.t.getD s .un) with
   | true =>
    rw [hc] at hk
    exact ⟨_,st,G,fun _=>False,hk,h,cp_T _ _ _ _ hc ht,none_free,Later.refl _ _,fun _ h=>h.elim⟩
   | false =>
    rw [hc] at hk
    simp only [cond_false] at hk
    have hne:st.t.getD s .un≠.un:=by intro e;rw [e] at hc;simp [cp] at hc
    obtain⟨k1,k2,k3⟩:=h.leave s _ (getD_some rfl hne)
    exact ⟨_,_,_,_,hk,k1,k3.rho▸ht,k2,k3,fun b hb=>by rw [hb];simp⟩
 ·exact ⟨_,st,G,fun _=>False,hk,h,cst_rep _ _,none_free,Later.refl _ _,fun _ h=>h.elim⟩
 ·exact ⟨_,st,G,fun _=>False,hk,h,by simp only [RepT];exact ⟨[],rfl,by simp only [RepTs]⟩,none_free,Later.refl _ _,fun _ h=>h.elim⟩
 ·exact hk.elim
/-- Consumed: references are followed and their content taken. -/
noncomputable def coCs(E:Env):St→List V→(List V→St→Prop)→Prop
 | st,[],K=>K [] st
 | st,c::cs,K =>
  match c with
  | .rf p z u=>takeA E st p z u fun v st'=>coCs E st' cs fun vs st''=>K (v::vs) st''
  | c=>coCs E st cs fun vs st'=>K (c::vs) st'
noncomputable def coA(E:Env)(st:St)(x:Operand)(K:V→St→Prop):Prop :=
 match x with
 | .tmp s =>
  (match st.t.getD s .un with
  | .rf p z u=>takeA E st p z u K
  | .ag cs=>coCs E { st with t:=st.t.set s .un } cs fun cs' st'=>K (.ag cs') st'
  | v=>(match cp v with | true=>K v st | false=>K v { st with t:=st.t.set s .un }))
 | .const v=>K (cst v) st
 | .func f=>K (.fn f []) st
 | .global _=>False
theorem coCs_sound{E:Env}{c:Cx}{a:Act}{w:World}(hfit:Fit E c):∀ (cs:List V) (vs:List Value) (st:St) (G:Gh) (T:Nat→Prop) (K:List V→St→Prop),Rel c st a w G→RepTs w G.Sh (Ar.rho c G) cs vs T→Free c w G T→coCs E st cs K →
  ∃ (cs':List V) (st':St) (G':Gh) (T':Nat→Prop),K cs' st'∧Rel c st' a w G'∧RepTs w G'.Sh (Ar.rho c G') cs' vs T'∧Free c w G' T'∧Later w G G'∧(∀b,T' b→T b∨G.ow b≠.no)
 | [],[],st,G,T,K,h,_,_,hk=>⟨[],st,G,fun _=>False,hk,h,by simp only [RepTs],none_free,Later.refl _ _,fun _ h=>h.elim⟩
 | cl::cs,v::vs,st,G,T,K,h,hr,hf,hk=>by
  simp only [RepTs] at hr
  obtain⟨T1,T2,h1,h2,d1,d2⟩:=hr
  have plainCase:(coCs E st cs fun vs st'=>K (cl::vs) st')→∃ (cs':List V) (st':St) (G':Gh) (T':Nat→Prop),K cs' st'∧Rel c st' a w G'∧RepTs w G'.Sh (Ar.rho c G') cs' (v::vs) T'∧Free c w G' T'∧Later w G G'∧(∀b,T' b→T b∨G.ow b≠.no):=by
   intro hk
   obtain⟨cs',st',G',T',k1,k2,k3,k4,k5,k6⟩:=coCs_sound hfit cs vs st G T2 _ h h2 (fun b hb=>hf b (d2 b hb)) hk
   refine ⟨_,st',G',(fun b=>T1 b∨T' b),k1,k2,?_,?_,k5,?_⟩
   ·simp only [RepTs]
    refine ⟨T1,T',k5.repT (fun b hb=>(hf b (d1 b hb).1).1) h1,k3,fun x hx=>⟨.inl hx,fun hh=>?_⟩,fun x hx=>.inr hx⟩
    exact (k6 x hh).elim (d1 x hx).2 (fun hn=>hn (hf x (d1 x hx).1).1)
   ·exact fun b hb=>hb.elim (fun hb=>k5.free (fun b hb=>hf b (d1 b hb).1) b hb) (k4 b)
   ·exact fun b hb=>hb.elim (fun hb=>.inl (d1 b hb).1) (fun hb=>(k6 b hb).imp (d2 b) id)
  unfold coCs at hk
  split at hk
  ·rename_i p z u
   obtain⟨V',st1,G1,S1,k1,k2,k3,k4,k5,k6,_⟩:=takeA_sound h hfit h1 hk
   obtain⟨cs',st',G',T',q1,q2,q3,q4,q5,q6⟩:=coCs_sound hfit cs vs st1 G1 T2 _ k2 (k5.repTs (fun b hb=>(hf b (d2 b hb)).1) h2) (k5.free (fun b hb=>hf b (d2 b hb))) k1
   refine ⟨_,st',G',(fun b=>S1 b∨T' b),q1,q2,?_,?_,k5.trans q5,?_⟩
   ·simp only [RepTs]
    refine ⟨S1,T',q5.repT (fun b hb=>(k4 b hb).1) k3,q3,fun x hx=>⟨.inl hx,fun hh=>?_⟩,fun x hx=>.inr hx⟩
    exact (q6 x hh).elim (fun h2'=>k6 x hx (hf x (d2 x h2')).1) (fun hn=>hn (k4 x hx).1)
   ·exact fun b hb=>hb.elim (fun hb=>q5.free k4 b hb) (q4 b)
   ·exact fun b hb=>hb.elim (fun hb=>.inr (k6 b hb)) (fun hb=>(q6 b hb).imp (d2 b) (fun hn e=>hn (k5.no b e)))
  ·exact plainCase hk
 | [],_::_,_,_,_,_,_,hr,_,_=>by simp only [RepTs] at hr
 | _::_,[],_,_,_,_,_,hr,_,_=>by simp only [RepTs] at hr
theorem coA_sound{E:Env}{c:Cx}{st:St}{a:Act}{w:World}{G:Gh}(hfit:Fit E c)(h:Rel c st a w G){x:Operand}{K:V→St→Prop}(hk:coA E st x K):Handed c a w G (a.eval x) K:=by
 unfold coA at hk
 split at hk
 ·rename_i s
  have ht:=h.tmp s
  split at hk
  ·rename_i p z u hg
   rw [hg] at ht
   obtain⟨V',st1,G1,S1,k1,k2,k3,k4,k5,k6,_⟩:=takeA_sound h hfit ht hk
   exact ⟨V',st1,G1,S1,k1,k2,k3,k4,k5,k6⟩
  ·rename_i cs hg
   rw [hg] at ht
   simp only [RepT] at ht
   obtain⟨vs,h1,h2⟩:=ht
   obtain⟨k1,k2,k3⟩:=h.leave s _ (getD_some hg (by simp))
   have h2':=k3.rho▸h2
   obtain⟨cs',st',G',T',q1,q2,q3,q4,q5,q6⟩:=coCs_sound hfit cs vs _ _ _ _ k1 h2' k2 hk
   refine ⟨_,st',G',T',q1,q2,?_,q4,k3.trans q5,fun b hb=>(q6 b hb).elim (fun e=>by rw [e];simp) (fun hn e=>hn (k3.no b e))⟩
   simp only [RepT]
   exact ⟨vs,h1,q3⟩
  ·rename_i hf1 hf2
   cases hc:cp (st.t.getD s .un) with
   | true =>
    rw [hc] at hk
    exact ⟨_,st,G,fun _=>False,hk,h,cp_T _ _ _ _ hc ht,none_free,Later.refl _ _,fun _ h=>h.elim⟩
   | false =>
    rw [hc] at hk
    simp only [cond_false] at hk
    have hne:st.t.getD s .un≠.un:=by intro e;rw [e] at hc;simp [cp] at hc
    obtain⟨k1,k2,k3⟩:=h.leave s _ (getD_some rfl hne)
    exact ⟨_,_,_,_,hk,k1,k3.rho▸ht,k2,k3,fun b hb=>by rw [hb];simp⟩
 ·exact ⟨_,st,G,fun _=>False,hk,h,cst_rep _ _,none_free,Later.refl _ _,fun _ h=>h.elim⟩
 ·exact ⟨_,st,G,fun _=>False,hk,h,by simp only [RepT];exact ⟨[],rfl,by simp only [RepTs]⟩,none_free,Later.refl _ _,fun _ h=>h.elim⟩
 ·exact hk.elim
end Go.Ar
