import Derived.Test.YthhcbcokjlpahaaGreatArM
namespace Go.Ar
set_option linter.unusedVariables false
set_option linter.unusedSimpArgs false
/-! ### What is there may be looked at by everybody, for a while -/
def Old(w:World):Nat→Prop:=fun b=>b<w.heap.size
mutual
theorem RepC.all{w:World}{Sh S:Nat→Prop}(hs:∀b,Sh b→S b):∀ (md:Fl) (c:V) (v:Value) (T:Nat→Prop),(∀b,T b→S b)→RepC w Sh md c v T→RepC w S .shr c v (fun _=>False)
 | md,.b _,_,_,_,h | md,.i _ _,_,_,_,h | md,.cv _ _,_,_,_,h | md,.s _,_,_,_,h | md,.nil,_,_,_,h | md,.un,_,_,_,h=>h
 | md,.ag _,_,_,_,h | md,.tu _,_,_,_,h | md,.rf _ _ _,_,_,_,h | md,.pt _,_,_,_,h | md,.fn _ _,_,_,_,h=>h.elim
 | md,.sl f z xs,v,T,hT,h=>by
  simp only [RepC] at h ⊢
  rcases h with h | ⟨b,o,c,hv,h1,h2,h⟩
  ·exact .inl h
  ·refine .inr ⟨b,o,c,hv,h1,h2,.inl ⟨rfl,?_⟩⟩
   rcases h with ⟨_,h3,h4⟩ | ⟨_,h2,h3,h4,h5⟩ | ⟨_,h2,h3,h4,h5⟩
   ·exact ⟨fun hn=>hs b (h3 hn),RepRows.all hs _ z xs b o _ (fun _ h=>h.elim) h4⟩
   ·exact ⟨fun _=>hs b h3,RepRows.all hs _ z xs b o _ (fun x hx=>hT x hx.1) h5⟩
   ·exact ⟨fun _=>hT b h2,RepRows.all hs _ z xs b o _ (fun x hx=>hT x hx.1) h5⟩
theorem RepRow.all{w:World}{Sh S:Nat→Prop}(hs:∀b,Sh b→S b):∀ (md:Fl) (cs:List V) (b o:Nat) (T:Nat→Prop),(∀b,T b→S b)→RepRow w Sh md cs b o T→RepRow w S .shr cs b o (fun _=>False)
 | md,[],_,_,_,_,_=>by simp only [RepRow]
 | md,c::cs,b,o,T,hT,h=>by
  simp only [RepRow] at h ⊢
  obtain⟨v,T1,T2,h0,h1,h2,d1,d2⟩:=h
  exact ⟨v,fun _=>False,fun _=>False,h0,RepC.all hs md c v T1 (fun x hx=>hT x (d1 x hx).1) h1,RepRow.all hs md cs b (o+1) T2 (fun x hx=>hT x (d2 x hx)) h2,fun _ h=>h.elim,fun _ h=>h⟩
theorem RepRows.all{w:World}{Sh S:Nat→Prop}(hs:∀b,Sh b→S b):∀ (md:Fl) (z:Nat) (xs:List (List V)) (b o:Nat) (T:Nat→Prop),(∀b,T b→S b)→RepRows w Sh md z xs b o T→RepRows w S .shr z xs b o (fun _=>False)
 | md,z,[],_,_,_,_,_=>by simp only [RepRows]
 | md,z,r::rs,b,o,T,hT,h=>by
  simp only [RepRows] at h ⊢
  obtain⟨hl,T1,T2,h1,h2,d1,d2⟩:=h
  exact ⟨hl,fun _=>False,fun _=>False,RepRow.all hs md r b o T1 (fun x hx=>hT x (d1 x hx).1) h1,RepRows.all hs md z rs b (o+z) T2 (fun x hx=>hT x (d2 x hx)) h2,fun _ h=>h.elim,fun _ h=>h⟩
end
/-! ### The callers' roots as the callee sees them -/
def rg(l:List Sr):Rt→Option Sr
 | .gl k=>l[k]?
 | _=>none
mutual
theorem RepT.rmono{w:World}{Sh:Nat→Prop}{ρ ρ':Rt→Option Sr}(hρ:∀r s,ρ r=some s→ρ' r=some s):∀ (c:V) (v:Value) (T:Nat→Prop),RepT w Sh ρ c v T→RepT w Sh ρ' c v T
 | .b _,_,_,h | .i _ _,_,_,h | .cv _ _,_,_,h | .s _,_,_,h | .nil,_,_,h | .un,_,_,h=>h
 | .sl f z xs,v,T,h=>h
 | .pt p,v,T,h=>by
  simp only [RepT] at h ⊢
  obtain⟨s,b,o,h1,h2⟩:=h
  exact ⟨s,b,o,hρ _ _ h1,h2⟩
 | .rf p z u,v,T,h=>by
  simp only [RepT] at h ⊢
  obtain⟨s,s',hv,h1,h2⟩:=h
  exact ⟨s,s',hv,hρ _ _ h1,h2⟩
 | .ag cs,v,T,h=>by
  simp only [RepT] at h ⊢
  obtain⟨vs,h1,h2⟩:=h
  exact ⟨vs,h1,RepTs.rmono hρ cs vs T h2⟩
 | .tu cs,v,T,h=>by
  simp only [RepT] at h ⊢
  obtain⟨vs,h1,h2⟩:=h
  exact ⟨vs,h1,RepTs.rmono hρ cs vs T h2⟩
 | .fn f cs,v,T,h=>by
  simp only [RepT] at h ⊢
  obtain⟨vs,h1,h2⟩:=h
  exact ⟨vs,h1,RepTs.rmono hρ cs vs T h2⟩
theorem RepTs.rmono{w:World}{Sh:Nat→Prop}{ρ ρ':Rt→Option Sr}(hρ:∀r s,ρ r=some s→ρ' r=some s):∀ (cs:List V) (vs:List Value) (T:Nat→Prop),RepTs w Sh ρ cs vs T→RepTs w Sh ρ' cs vs T
 | [],[],_,_=>by simp only [RepTs]
 | c::cs,v::vs,T,h=>by
  simp only [RepTs] at h ⊢
  obtain⟨T1,T2,h1,h2,d1,d2⟩:=h
  exact ⟨T1,T2,RepT.rmono hρ c v T1 h1,RepTs.rmono hρ cs vs T2 h2,d1,d2⟩
 | [],_::_,_,h=>by simp only [RepTs] at h
 | _::_,[],_,h=>by simp only [RepTs] at h
end
theorem rg_app(l suf:List Sr)(r:Rt)(s:Sr)(h:rg l r=some s):rg (l++suf) r=some s:=by
 cases r with
 | gl k =>
  simp only [rg] at h ⊢
  rw [List.getElem?_append_left (List.getElem?_eq_some_iff.1 h).1]
  exact h
 | _=>simp [rg] at h
/-- What lies at the callers' roots, to be looked at. -/
def GIn(w:World)(Sh:Nat→Prop)(l:List Sr)(g:List (List V)):Prop :=
 ∀ (k:Nat) (row:List V),g[k]?=some row→row=[]∨∃b o,l[k]?=some (.mem b o)∧Sh b∧RepRow w Sh .shr row b o (fun _=>False)
/-- Values as they are handed to a function that only looks at them. -/
noncomputable def brL(E:Env)(st:St):Nat→List V→(List V→List (List V)→Prop)→Prop
 | _,[],K=>K [] []
 | n,v::vs,K =>
  match v with
  | .rf p z u=>dfA E st p z u fun xs=>brL E st n vs fun vs' g=>K (.sl .shr z xs::vs') g
  | .sl _ z xs=>brL E st n vs fun vs' g=>K (.sl .shr z xs::vs') g
  | .pt p=>navK (mdR E.own p.r) (rowOf st p.r) p.ps fun _ row=>row≠[]∧brL E st (n+1) vs fun vs' g=>K (.pt ⟨.gl n,[],0⟩::vs') (row.drop p.o::g)
  | .ag cs=>brL E st n cs fun cs' g1=>brL E st (n+g1.length) vs fun vs' g2=>K (.ag cs' :: vs') (g1++g2)
  | .fn f cs=>brL E st n cs fun cs' g1=>brL E st (n+g1.length) vs fun vs' g2=>K (.fn f cs' :: vs') (g1++g2)
  | .tu _=>False
  | .un=>False
  | v=>brL E st n vs fun vs' g=>K (v::vs') g
def RepW(w:World)(Sh B:Nat→Prop)(ρ:Rt→Option Sr):List V→List Value→Prop
 | [],[]=>True
 | c::cs,v::vs=>(∃T,(∀b,T b→B b)∧RepT w Sh ρ c v T)∧RepW w Sh B ρ cs vs
 | _,_=>False
/-- An operand's titles are held. -/
theorem Rel.evB{c:Cx}{st:St}{a:Act}{w:World}{G:Gh}(h:Rel c st a w G)(x:Operand):∃T,(∀b,T b→G.ow b≠.no)∧RepT w G.Sh (Ar.rho c G) (Ar.ev st x) (a.eval x) T:=by
 cases x with
 | tmp t=>exact ⟨_,fun b hb=>by (show G.ow b≠.no;rw [show G.ow b=_ from hb];simp),h.tmp t⟩
 | const v=>exact ⟨fun _=>False,fun _ h=>h.elim,cst_rep v _⟩
 | func f=>exact ⟨fun _=>False,fun _ h=>h.elim,by simp only [Ar.ev,RepT];exact ⟨[],rfl,by simp only [RepTs]⟩⟩
 | global g=>exact ⟨fun _=>False,fun _ h=>h.elim,trivial⟩
theorem RepTs.weak{w:World}{Sh B:Nat→Prop}{ρ:Rt→Option Sr}:∀ (cs:List V) (vs:List Value) (T:Nat→Prop),(∀b,T b→B b)→RepTs w Sh ρ cs vs T→RepW w Sh B ρ cs vs
 | [],[],_,_,_=>trivial
 | c::cs,v::vs,T,hT,h=>by
  simp only [RepTs] at h
  obtain⟨T1,T2,h1,h2,d1,d2⟩:=h
  exact ⟨⟨T1,fun b hb=>hT b (d1 b hb).1,h1⟩,RepTs.weak cs vs T2 (fun b hb=>hT b (d2 b hb)) h2⟩
 | [],_::_,_,_,h=>by simp only [RepTs] at h
 | _::_,[],_,_,h=>by simp only [RepTs] at h
theorem RepW.app{w:World}{Sh B:Nat→Prop}{ρ:Rt→Option Sr}{ds:List V}{us:List Value}(h2:RepW w Sh B ρ ds us):∀ (cs:List V) (vs:List Value),RepW w Sh B ρ cs vs→RepW w Sh B ρ (cs++ds) (vs++us)
 | [],[],_=>h2
 | c::cs,v::vs,h=>⟨h.1,RepW.app h2 cs vs h.2⟩
 | [],_::_,h=>h.elim
 | _::_,[],h=>h.elim
theorem Rel.evs{c:Cx}{st:St}{a:Act}{w:World}{G:Gh}(h:Rel c st a w G):∀ (xs:List Operand),RepW w G.Sh (fun b=>G.ow b≠.no) (Ar.rho c G) (xs.map (Ar.ev st)) (xs.map a.eval)
 | []=>trivial
 | x::xs=>⟨h.evB x,Rel.evs h xs⟩
theorem brL_sound{E:Env}{c:Cx}{st:St}{a:Act}{w:World}{G:Gh}(h:Rel c st a w G)(hfit:Fit E c){S:Nat→Prop}(hS:∀b,G.ow b≠.no∨G.Sh b→S b):∀ (vs:List V) (us:List Value) (n:Nat) (pre:List Sr) (K:List V→List (List V)→Prop),
  pre.length=n→RepW w G.Sh (fun b=>G.ow b≠.no) (Ar.rho c G) vs us→brL E st n vs K →
  ∃ (vs':List V) (g:List (List V)) (srcs:List Sr),K vs' g∧srcs.length=g.length∧GIn w S srcs g∧RepTs w S (rg (pre++srcs)) vs' us (fun _=>False)
 | [],[],n,pre,K,hn,_,hk=>by
  unfold brL at hk
  exact ⟨[],[],[],hk,rfl,fun k row hh=>by simp at hh,by simp only [RepTs]⟩
 | v::vs,u::us,n,pre,K,hn,hr,hk=>by
  have hold:∀b,G.Sh b→S b:=fun b hb=>hS b (.inr hb)
  have hTS:∀ (T:Nat→Prop),(∀b,T b→G.ow b≠.no)→∀b,T b→S b:=fun T hT b hb=>hS b (.inl (hT b hb))
  obtain⟨⟨T1,hT1,h1⟩,h2⟩:=hr
  have cons:∀ (v':V),RepT w S (rg pre) v' u (fun _=>False)→(brL E st n vs fun vs' g=>K (v' :: vs') g) →
    ∃ (vs':List V) (g:List (List V)) (srcs:List Sr),K vs' g∧srcs.length=g.length∧GIn w S srcs g∧RepTs w S (rg (pre++srcs)) vs' (u::us) (fun _=>False):=by
   intro v' hv hk
   obtain⟨vs',g,srcs,k1,k2,k3,k4⟩:=brL_sound h hfit hS vs us n pre _ hn h2 hk
   refine ⟨v' :: vs',g,srcs,k1,k2,k3,?_⟩
   simp only [RepTs]
   exact ⟨fun _=>False,fun _=>False,RepT.rmono (rg_app pre srcs) _ _ _ hv,k4,fun _ h=>h.elim,fun _ h=>h⟩
  have nest:∀ (cs:List V) (us':List Value) (F:List V→V),RepTs w G.Sh (Ar.rho c G) cs us' T1 →
    (∀ρ cs',RepTs w S ρ cs' us' (fun _=>False)→RepT w S ρ (F cs') u (fun _=>False)) →
    (∀ (K':List V→List (List V)→Prop),brL E st n cs K'→∃ (vs':List V) (g:List (List V)) (srcs:List Sr),K' vs' g∧srcs.length=g.length∧GIn w S srcs g∧RepTs w S (rg (pre++srcs)) vs' us' (fun _=>False)) →
    (brL E st n cs fun cs' g1=>brL E st (n+g1.length) vs fun vs' g2=>K (F cs' :: vs') (g1++g2)) →
    ∃ (vs':List V) (g:List (List V)) (srcs:List Sr),K vs' g∧srcs.length=g.length∧GIn w S srcs g∧RepTs w S (rg (pre++srcs)) vs' (u::us) (fun _=>False):=by
   intro cs us' F _ hF hcs hk
   obtain⟨cs',g1,s1,k1,k2,k3,k4⟩:=hcs _ hk
   obtain⟨vs',g2,s2,q1,q2,q3,q4⟩:=brL_sound h hfit hS vs us (n+g1.length) (pre++s1) _ (by rw [List.length_append,hn,k2]) h2 k1
   refine ⟨F cs' :: vs',g1++g2,s1++s2,q1,by simp [k2,q2],fun k row hh=>?_,?_⟩
   ·by_cases hlt:k<g1.length
    ·rw [List.getElem?_append_left hlt] at hh
     rw [List.getElem?_append_left (by omega)]
     exact k3 k row hh
    ·rw [List.getElem?_append_right (by omega)] at hh
     rw [List.getElem?_append_right (by omega),k2]
     exact q3 _ row hh
   ·simp only [RepTs]
    rw [←List.append_assoc]
    exact ⟨fun _=>False,fun _=>False,RepT.rmono (rg_app (pre++s1) s2) _ _ _ (hF _ _ k4),q4,fun _ h=>h.elim,fun _ h=>h⟩
  cases v with
  | rf p z u' =>
   simp only [brL] at hk
   obtain⟨md,f,xs,T3,k1,k2,hTB⟩:=dfA_sound h hfit h1 hk
   have hc:RepC w S .own (.sl .shr z xs) u (fun _=>False):=RepC.shr_of (md:=.shr) rfl (RepC.all hold _ _ _ _ (hTS _ hTB) k2)
   exact cons (.sl .shr z xs) hc k1
  | sl f z xs =>
   simp only [brL] at hk
   have h1':RepC w G.Sh .own (.sl f z xs) u T1:=h1
   have hc:RepC w S .own (.sl .shr z xs) u (fun _=>False):=RepC.shr_of (md:=.shr) rfl (RepC.all hold _ _ _ _ (hTS _ hT1) h1')
   exact cons (.sl .shr z xs) hc hk
  | ag cs =>
   simp only [brL] at hk
   simp only [RepT] at h1
   obtain⟨us',rfl,h1⟩:=h1
   exact nest cs us' V.ag h1 (fun ρ cs' hh=>by simp only [RepT];exact ⟨us',rfl,hh⟩) (fun K' hK'=>brL_sound h hfit hS cs us' n pre K' hn (RepTs.weak _ _ _ hT1 h1) hK') hk
  | fn f cs =>
   simp only [brL] at hk
   simp only [RepT] at h1
   obtain⟨us',rfl,h1⟩:=h1
   exact nest cs us' (V.fn f) h1 (fun ρ cs' hh=>by simp only [RepT];exact ⟨us',rfl,hh⟩) (fun K' hK'=>brL_sound h hfit hS cs us' n pre K' hn (RepTs.weak _ _ _ hT1 h1) hK') hk
  | tu cs=>simp only [brL] at hk
  | un=>simp only [brL] at hk
  | b x=>simp only [brL] at hk;exact cons (.b x) h1 hk
  | i k n=>simp only [brL] at hk;exact cons (.i k n) h1 hk
  | cv k n=>simp only [brL] at hk;exact cons (.cv k n) h1 hk
  | s l=>simp only [brL] at hk;exact cons (.s l) h1 hk
  | nil=>simp only [brL] at hk;exact cons .nil h1 hk
  | pt p =>
   simp only [brL] at hk
   simp only [RepT] at h1
   obtain⟨src,b,o,hsrc,hres,rfl⟩:=h1
   obtain⟨md',row',T',k1,kB,kb,k2⟩:=h.nav hfit.gm hsrc hres hk
   obtain⟨vs',g,srcs,q1,q2,q3,q4⟩:=brL_sound h hfit hS vs us (n+1) (pre++[.mem b (o+p.o)]) _ (by simp [hn]) h2 k2
   refine ⟨_,_,.mem b (o+p.o)::srcs,q1,by simp [q2],fun k row hh=>?_,?_⟩
   ·cases k with
    | zero =>
     simp only [List.getElem?_cons_zero,Option.some.injEq] at hh
     subst hh
     cases hd:row'.drop p.o with
     | nil=>exact .inl rfl
     | cons x y =>
      have hrow:=RepRow.drop p.o row' o T' k1
      rw [hd] at hrow
      exact .inr ⟨b,o+p.o,rfl,hS b kb,RepRow.all hold _ _ _ _ _ (hTS _ kB) hrow⟩
    | succ k =>
     simp only [List.getElem?_cons_succ] at hh ⊢
     exact q3 k row hh
   ·simp only [RepTs]
    refine ⟨fun _=>False,fun _=>False,?_,by rw [←List.append_cons] at q4;exact q4,fun _ h=>h.elim,fun _ h=>h⟩
    simp only [RepT]
    refine ⟨.mem b (o+p.o),b,o+p.o,?_,rfl,by rw [Nat.add_zero]⟩
    simp only [rg]
    rw [List.getElem?_append_right (by omega),hn,Nat.sub_self]
    rfl
 | [],_::_,_,_,_,_,h,_=>h.elim
 | _::_,[],_,_,_,_,h,_=>h.elim
/-! ### Values that are their holder's alone -/
mutual
def OwnV:V→Prop
 | .sl f _ xs=>f=.own∧OwnRs xs
 | .ag cs=>OwnVs cs
 | .tu cs=>OwnVs cs
 | .b _=>True
 | .i _ _=>True
 | .s _=>True
 | .nil=>True
 | .un=>True
 | _=>False
def OwnVs:List V→Prop
 | []=>True
 | c::cs=>OwnV c∧OwnVs cs
def OwnRs:List (List V)→Prop
 | []=>True
 | r::rs=>OwnVs r∧OwnRs rs
end
mutual
theorem RepC.less{w:World}{Sh S:Nat→Prop}(hs:∀b,S b→Sh b):∀ (c:V) (v:Value) (T:Nat→Prop),OwnV c→RepC w Sh .own c v T→RepC w S .own c v T
 | .b _,_,_,_,h | .i _ _,_,_,_,h | .cv _ _,_,_,_,h | .s _,_,_,_,h | .nil,_,_,_,h=>h
 | .un,_,_,_,h=>h
 | .ag _,_,_,_,h | .tu _,_,_,_,h | .rf _ _ _,_,_,_,h | .pt _,_,_,_,h | .fn _ _,_,_,_,h=>h.elim
 | .sl f z xs,v,T,ho,h=>by
  simp only [OwnV] at ho
  obtain⟨rfl,ho⟩:=ho
  simp only [RepC] at h ⊢
  rcases h with h | ⟨b,o,c,hv,h1,h2,h⟩
  ·exact .inl h
  ·refine .inr ⟨b,o,c,hv,h1,h2,.inr (.inr ?_)⟩
   rcases h with ⟨hm,_⟩ | ⟨hm,_⟩ | ⟨_,h3,h4,h5,h6⟩
   ·cases hm
   ·cases hm
   ·exact ⟨rfl,h3,fun hh=>h4 (hs b hh),h5,RepRows.less hs z xs b o _ ho h6⟩
theorem RepRow.less{w:World}{Sh S:Nat→Prop}(hs:∀b,S b→Sh b):∀ (cs:List V) (b o:Nat) (T:Nat→Prop),OwnVs cs→RepRow w Sh .own cs b o T→RepRow w S .own cs b o T
 | [],_,_,_,_,_=>by simp only [RepRow]
 | c::cs,b,o,T,ho,h=>by
  simp only [OwnVs] at ho
  simp only [RepRow] at h ⊢
  obtain⟨v,T1,T2,h0,h1,h2,d1,d2⟩:=h
  exact ⟨v,T1,T2,h0,RepC.less hs c v T1 ho.1 h1,RepRow.less hs cs b (o+1) T2 ho.2 h2,d1,d2⟩
theorem RepRows.less{w:World}{Sh S:Nat→Prop}(hs:∀b,S b→Sh b):∀ (z:Nat) (xs:List (List V)) (b o:Nat) (T:Nat→Prop),OwnRs xs→RepRows w Sh .own z xs b o T→RepRows w S .own z xs b o T
 | z,[],_,_,_,_,_=>by simp only [RepRows]
 | z,r::rs,b,o,T,ho,h=>by
  simp only [OwnRs] at ho
  simp only [RepRows] at h ⊢
  obtain⟨hl,T1,T2,h1,h2,d1,d2⟩:=h
  exact ⟨hl,T1,T2,RepRow.less hs r b o T1 ho.1 h1,RepRows.less hs z rs b (o+z) T2 ho.2 h2,d1,d2⟩
end
mutual
theorem RepT.less{w:World}{Sh S:Nat→Prop}{ρ ρ':Rt→Option Sr}(hs:∀b,S b→Sh b):∀ (c:V) (v:Value) (T:Nat→Prop),OwnV c→RepT w Sh ρ c v T→RepT w S ρ' c v T
 | .b _,_,_,_,h | .i _ _,_,_,_,h | .cv _ _,_,_,_,h | .s _,_,_,_,h | .nil,_,_,_,h=>h
 | .un,_,_,_,_=>trivial
 | .rf _ _ _,_,_,ho,_=>by simp [OwnV] at ho
 | .pt _,_,_,ho,_=>by simp [OwnV] at ho
 | .fn _ _,_,_,ho,_=>by simp [OwnV] at ho
 | .sl f z xs,v,T,ho,h=>RepC.less hs (.sl f z xs) v T ho h
 | .ag cs,v,T,ho,h=>by
  simp only [OwnV] at ho
  simp only [RepT] at h ⊢
  obtain⟨vs,h1,h2⟩:=h
  exact ⟨vs,h1,RepTs.less hs cs vs T ho h2⟩
 | .tu cs,v,T,ho,h=>by
  simp only [OwnV] at ho
  simp only [RepT] at h ⊢
  obtain⟨vs,h1,h2⟩:=h
  exact ⟨vs,h1,RepTs.less hs cs vs T ho h2⟩
theorem RepTs.less{w:World}{Sh S:Nat→Prop}{ρ ρ':Rt→Option Sr}(hs:∀b,S b→Sh b):∀ (cs:List V) (vs:List Value) (T:Nat→Prop),OwnVs cs→RepTs w Sh ρ cs vs T→RepTs w S ρ' cs vs T
 | [],[],_,_,_=>by simp only [RepTs]
 | c::cs,v::vs,T,ho,h=>by
  simp only [OwnVs] at ho
  simp only [RepTs] at h ⊢
  obtain⟨T1,T2,h1,h2,d1,d2⟩:=h
  exact ⟨T1,T2,RepT.less hs c v T1 ho.1 h1,RepTs.less hs cs vs T2 ho.2 h2,d1,d2⟩
 | [],_::_,_,_,h=>by simp only [RepTs] at h
 | _::_,[],_,_,h=>by simp only [RepTs] at h
end
end Go.Ar
