import Derived.Test.YthhcbcokjlpahaaGreatArPE
namespace Go.Ar
set_option linter.unusedVariables false
set_option linter.unusedSimpArgs false
/-! ### Guards -/
/-- Is the operation to be done? -/
def gdA(ops:List Oper)(o:Oper)(st:St)(yes no:Unit→Prop):Prop :=
 match o.guard with
 | none=>yes ()
 | some (g,want) =>
  (match (ops[g]?).bind (·.dst) with
  | none=>no ()
  | some d=>(match st.t.getD d .un with
   | .b x=>(match want with | true=>(match x with | true=>yes () | false=>no ()) | false=>(match x with | true=>no () | false=>yes ()))
   | .tu []=>no ()
   | _=>False))
section
variable {E:Env} {c:Cx}
theorem gdA_sound{ops:Array Oper}{o:Oper}{st:St}{a:Act}{w:World}{G:Gh}{yes no:Unit→Prop}(h:Rel c st a w G)(hk:gdA ops.toList o st yes no) :
  (Region.wanted o (yielded ops a.tmps)=true∧yes ())∨(Region.wanted o (yielded ops a.tmps)=false∧no ()):=by
 unfold gdA at hk
 split at hk
 ·rename_i hg
  exact .inl ⟨by simp [Region.wanted,hg],hk⟩
 ·rename_i g want hg
  split at hk
  ·rename_i hd
   rw [Array.getElem?_toList] at hd
   exact .inr ⟨by simp [Region.wanted,hg,yielded,hd],hk⟩
  ·rename_i d hd
   rw [Array.getElem?_toList] at hd
   have ht:=h.tmp d
   split at hk
   ·rename_i x hx
    rw [hx] at ht
    have ht:a.tmps.getD d undef=.bool x:=ht
    have hy:yielded ops a.tmps g=some x:=by
     have hlt:d<a.tmps.size:=by
      rw [h.tl]
      have:=getD_some hx (by simp)
      exact (List.getElem?_eq_some_iff.1 this).1
     have:a.tmps[d]?=some (.bool x):=by
      rw [Array.getD_eq_getD_getElem?,Array.getElem?_eq_getElem hlt] at ht
      rw [Array.getElem?_eq_getElem hlt]
      exact congrArg some ht
     simp [yielded,hd,this]
    cases want <;> cases x <;> first | exact .inl ⟨by simp [Region.wanted,hg,hy],hk⟩ | exact .inr ⟨by simp [Region.wanted,hg,hy],hk⟩
   ·rename_i hx
    rw [hx] at ht
    simp only [RepT] at ht
    obtain⟨vs,ht,hvs⟩:=ht
    have hvs:vs=[]:=by
     cases vs with
     | nil=>rfl
     | cons _ _=>simp only [RepTs] at hvs
    subst hvs
    have hy:yielded ops a.tmps g=none:=by
     have hlt:d<a.tmps.size:=by
      rw [h.tl]
      have:=getD_some hx (by simp)
      exact (List.getElem?_eq_some_iff.1 this).1
     have:a.tmps[d]?=some (.tuple #[]):=by
      rw [Array.getD_eq_getD_getElem?,Array.getElem?_eq_getElem hlt] at ht
      rw [Array.getElem?_eq_getElem hlt]
      exact congrArg some ht
     simp [yielded,hd,this]
    exact .inr ⟨by simp [Region.wanted,hg,hy],hk⟩
   ·exact hk.elim
/-! ### Slots -/
mutual
def hitB(ds:List Nat):V→Bool
 | .pt p=>rtA ds p.r
 | .rf p _ _=>rtA ds p.r
 | .ag cs=>hitsB ds cs
 | .tu cs=>hitsB ds cs
 | .fn _ cs=>hitsB ds cs
 | _=>false
def hitsB(ds:List Nat):List V→Bool
 | []=>false
 | c::cs=>hitB ds c || hitsB ds cs
def rtA(ds:List Nat):Rt→Bool
 | .bx t=>mem ds t
 | .tp t=>mem ds t
 | .gl _=>false
end
theorem rtA_no{ds:List Nat}{d:Nat}(hd:d∈ds)(r:Rt)(h:rtA ds r=false):Rt.beq r (.tp d)=false∧Rt.beq r (.bx d)=false:=by
 have key:∀r',Rt.beq r r'=true→r=r':=fun r'=>(Rt.beq_iff r r').1
 have hm:=mem_iff.2 hd
 constructor
 ·cases hb:Rt.beq r (.tp d) with
  | false=>rfl
  | true=>rw [key _ hb] at h;simp only [rtA] at h;rw [hm] at h;cases h
 ·cases hb:Rt.beq r (.bx d) with
  | false=>rfl
  | true=>rw [key _ hb] at h;simp only [rtA] at h;rw [hm] at h;cases h
mutual
theorem hitB_no{ds:List Nat}{d:Nat}(hd:d∈ds):∀v:V,hitB ds v=false→hit (.tp d) v=false∧hit (.bx d) v=false
 | .pt p,h=>by simp only [hitB] at h;simp only [hit];exact rtA_no hd _ h
 | .rf p _ _,h=>by simp only [hitB] at h;simp only [hit];exact rtA_no hd _ h
 | .ag cs,h=>by simp only [hitB] at h;simp only [hit];exact hitsB_no hd cs h
 | .tu cs,h=>by simp only [hitB] at h;simp only [hit];exact hitsB_no hd cs h
 | .fn _ cs,h=>by simp only [hitB] at h;simp only [hit];exact hitsB_no hd cs h
 | .b _,_ | .i _ _,_ | .cv _ _,_ | .s _,_ | .nil,_ | .sl _ _ _,_ | .un,_=>by simp [hit]
theorem hitsB_no{ds:List Nat}{d:Nat}(hd:d∈ds):∀cs:List V,hitsB ds cs=false→hits (.tp d) cs=false∧hits (.bx d) cs=false
 | [],_=>by simp [hits]
 | c::cs,h=>by
  simp only [hitsB,Bool.or_eq_false_iff] at h
  simp only [hits,Bool.or_eq_false_iff]
  exact ⟨⟨(hitB_no hd c h.1).1,(hitsB_no hd cs h.2).1⟩,(hitB_no hd c h.1).2,(hitsB_no hd cs h.2).2⟩
end
/-- The mark of an operation that spoils references below a root. -/
def DM:Nat:=900
def hitA(ds:List Nat)(v:V):Bool :=
 match hitB ds v with
 | true=>true
 | false=>(match deep v with | true=>mem ds DM | false=>false)
def hitsA(ds:List Nat):List V→Bool
 | []=>false
 | c::cs=>hitA ds c || hitsA ds cs
theorem hitA_B{ds:List Nat}{v:V}(h:hitA ds v=false):hitB ds v=false:=by
 unfold hitA at h
 split at h
 ·cases h
 ·assumption
theorem hitA_no{ds:List Nat}{d:Nat}(hd:d∈ds)(v:V)(h:hitA ds v=false):hit (.tp d) v=false∧hit (.bx d) v=false:=hitB_no hd v (hitA_B h)
theorem hitA_dp{ds:List Nat}(hd:DM∈ds){v:V}(h:hitA ds v=false):deep v=false:=by
 unfold hitA at h
 split at h
 ·cases h
 ·split at h
  ·rw [mem_iff.2 hd] at h;cases h
  ·assumption
theorem hitsA_mem{ds:List Nat}:∀cs:List V,hitsA ds cs=false→∀v∈cs,hitA ds v=false
 | [],_,v,hv=>by cases hv
 | c::cs,h,v,hv=>by
  simp only [hitsA,Bool.or_eq_false_iff] at h
  rcases List.mem_cons.1 hv with rfl | hv
  ·exact h.1
  ·exact hitsA_mem cs h.2 v hv
theorem killR_id{r:Rt}:∀t:List V,(∀v∈t,hit r v=false)→killR r t=t
 | [],_=>rfl
 | v::t,h=>by
  have h1:=h v (by simp)
  have h2:=killR_id t (fun v hv=>h v (by simp [hv]))
  unfold killR at h2 ⊢
  simp only [List.map_cons,h1,cond_false,h2]
def unL{α:Type}(u:α):List Nat→List α→List α
 | [],t=>t
 | d::ds,t=>unL u ds (t.set d u)
theorem unL_len{α:Type}(u:α):∀ (ds:List Nat) (t:List α),(unL u ds t).length=t.length
 | [],_=>rfl
 | d::ds,t=>by simp [unL,unL_len u ds]
theorem unL_get{α:Type}(u:α):∀ (ds:List Nat) (t:List α) (j:Nat) (v:α),(unL u ds t)[j]?=some v→t[j]?=some v∨(v=u∧j<t.length)
 | [],_,_,_,h=>.inl h
 | d::ds,t,j,v,h=>by
  rcases unL_get u ds _ j v h with h | ⟨h,h'⟩
  ·rw [List.getElem?_set] at h
   split at h
   ·split at h
    ·rename_i h1 h2
     injection h with h
     exact .inr ⟨h.symm,h1▸h2⟩
    ·cases h
   ·exact .inl h
  ·exact .inr ⟨h,by simpa using h'⟩
theorem unL_in{α:Type}(u:α):∀ (ds:List Nat) (t:List α) (j:Nat) (v:α),j∈ds→(unL u ds t)[j]?=some v→v=u
 | [],_,_,_,h,_=>by cases h
 | d::ds,t,j,v,hj,h=>by
  by_cases hm:j∈ds
  ·exact unL_in u ds _ j v hm h
  ·have hjd:j=d:=by rcases List.mem_cons.1 hj with h | h;exact h;exact absurd h hm
   subst hjd
   have key:∀ (ds:List Nat) (t:List α),j∉ds→(unL u ds t)[j]?=t[j]?:=by
    intro ds
    induction ds with
    | nil=>intro t _;rfl
    | cons d ds ih =>
     intro t hn
     simp only [List.mem_cons,not_or] at hn
     rw [unL,ih _ hn.2,List.getElem?_set_ne (Ne.symm hn.1)]
   rw [unL,key _ _ hm,List.getElem?_set] at h
   simp only [if_true] at h
   split at h
   ·injection h with h;exact h.symm
   ·cases h
def maskS(ds:List Nat)(st:St):St:={ t:=unL .un ds st.t,m:=unL [] ds st.m,g:=st.g }
structure Wk (M S:St):Prop where
 len:M.t.length=S.t.length
 t:∀ (j:Nat) (v:V),M.t[j]?=some v→S.t[j]?=some v∨v=V.un
 m:∀ (j:Nat) (row:List V),M.m[j]?=some row→S.m[j]?=some row∨row=[]
 g:M.g=S.g
theorem Rel.wk{M S:St}{a:Act}{w:World}{G:Gh}(h:Rel c S a w G)(hw:Wk M S):Rel c M a w G:=by
 refine ⟨h.tl.trans hw.len.symm,h.df,?_,?_,?_,fun g row hg=>h.gb g row (hw.g▸hg),h.ob,h.sb,h.s0,h.fr,h.sz,h.eos,h.etape,h.eout⟩
 ·intro t v ht
  rcases hw.t t v ht with h1 | rfl
  ·exact h.tm t v h1
  ·simp only [RepT]
 ·intro t f z xs ht
  rcases hw.t t _ ht with h1 | h1
  ·exact h.tv t f z xs h1
  ·cases h1
 ·intro t row ht hr
  rcases hw.m t row ht with h1 | h1
  ·exact h.mb t row h1 hr
  ·exact absurd h1 hr
/-! ### What an operation leaves -/
inductive Pt where
 | q (v:V) | c (s:Nat) (x v:V) | al (zr:List V) | w (b:Nat) (row:List V) | a (s y:Nat) (v:V)
def putD(t:List V)(d:Option Nat)(v:V):List V :=
 match d with
 | none=>t
 | some d=>t.set d v
def apP(d:Option Nat)(p:Pt)(st:St):St :=
 match p with
 | .q v=>{ st with t:=putD st.t d v }
 | .c s x v=>{ st with t:=putD (st.t.set s x) d v }
 | .al zr=>(match d with | none=>st | some d=>{ st with t:=st.t.set d (.pt ⟨.bx d,[],0⟩),m:=st.m.set d zr })
 | .w b row=>{ st with m:=st.m.set b row }
 | .a s y v=>{ st with t:=putD ((st.t.set s .un).set y .un) d v }
def Pt.vs(d:Option Nat):Pt→List V
 | .q v=>[v]
 | .c _ x v=>[x,v]
 | .al _=>(match d with | some d=>[.pt ⟨.bx d,[],0⟩] | none=>[])
 | .w _ _=>[]
 | .a _ _ v=>[.un,v]
def Pt.sl(d:Option Nat):Pt→List Nat
 | .q _=>d.toList
 | .c s _ _=>s::d.toList
 | .al _=>d.toList
 | .w b _=>[b]
 | .a s y _=>s::y::DM::d.toList
def kly:Pt→Bool
 | .q v=>isSl v
 | .c _ _ v=>isSl v
 | .al _=>true
 | .w _ _=>false
 | .a _ _ _=>true
/-- The slots whose references must be gone. -/
def klS:Pt→Nat→List Nat
 | .a _ _ _,d=>[d,DM]
 | _,d=>[d]
def isApp:Pt→Bool
 | .a _ _ _=>true
 | _=>false
theorem klS_d(p:Pt)(d:Nat):d∈klS p d:=by cases p <;> simp [klS]
theorem klS_a{p:Pt}(h:isApp p=true)(d:Nat):DM∈klS p d:=by cases p <;> simp [isApp] at h <;> simp [klS]
theorem sl_a{p:Pt}(h:isApp p=true)(d:Option Nat):DM∈p.sl d:=by cases p <;> simp [isApp] at h <;> simp [Pt.sl]
/-- Alike at a slot. -/
def Alk(S S':St)(j:Nat):Prop:=S.t[j]?=S'.t[j]?∧S.m[j]?=S'.m[j]?
structure Len (S S':St):Prop where
 t:S.t.length=S'.t.length
 m:S.m.length=S'.m.length
 g:S.g=S'.g
theorem apP_len(d:Option Nat)(p:Pt)(S:St):Len (apP d p S) S:=by
 cases p <;> cases d <;> exact ⟨by simp [apP,putD],by simp [apP],by simp [apP]⟩
theorem Len.trans{A B C:St}(h1:Len A B)(h2:Len B C):Len A C:=⟨h1.t.trans h2.t,h1.m.trans h2.m,h1.g.trans h2.g⟩
theorem Len.symm{A B:St}(h1:Len A B):Len B A:=⟨h1.t.symm,h1.m.symm,h1.g.symm⟩
theorem apP_not{d:Option Nat}{p:Pt}{S:St}{j:Nat}(hj:j∉p.sl d):Alk (apP d p S) S j:=by
 cases p <;> cases d <;> simp only [Pt.sl,Option.toList,List.mem_cons,List.not_mem_nil,or_false,not_or,not_false_eq_true] at hj <;>
  first
  | exact ⟨rfl,rfl⟩
  | (obtain⟨hj,hj2,hj3,hj4⟩:=hj;exact ⟨by simp [apP,putD,List.getElem?_set_ne (Ne.symm hj),List.getElem?_set_ne (Ne.symm hj2),List.getElem?_set_ne (Ne.symm hj4)],by simp [apP]⟩)
  | (obtain⟨hj,hj2,hj3⟩:=hj;exact ⟨by simp [apP,putD,List.getElem?_set_ne (Ne.symm hj),List.getElem?_set_ne (Ne.symm hj2)],by simp [apP]⟩)
  | (obtain⟨hj,hj2⟩:=hj;exact ⟨by simp [apP,putD,List.getElem?_set_ne (Ne.symm hj),List.getElem?_set_ne (Ne.symm hj2)],by simp [apP]⟩)
  | (have hj2:=Ne.symm hj;exact ⟨by simp [apP,putD,List.getElem?_set_ne hj2],by simp [apP,List.getElem?_set_ne hj2]⟩)
  | (have hj2:=Ne.symm hj;exact ⟨by simp [apP],by simp [apP,List.getElem?_set_ne hj2]⟩)
theorem set_alk{α:Type}{t t':List α}{j d:Nat}{v:α}(hl:t.length=t'.length)(h:t[j]?=t'[j]?):(t.set d v)[j]?=(t'.set d v)[j]?:=by
 rw [List.getElem?_set,List.getElem?_set,hl,h]
theorem apP_alk{d:Option Nat}{p:Pt}{S S':St}{j:Nat}(hl:Len S S')(h:Alk S S' j):Alk (apP d p S) (apP d p S') j:=by
 obtain⟨h1,h2⟩:=h
 cases p <;> cases d <;>
  first
  | exact ⟨h1,h2⟩
  | exact ⟨set_alk hl.t h1,h2⟩
  | exact ⟨set_alk (by simpa using hl.t) (set_alk hl.t h1),h2⟩
  | exact ⟨set_alk hl.t h1,set_alk hl.m h2⟩
  | exact ⟨h1,set_alk hl.m h2⟩
  | exact ⟨set_alk (by simpa using hl.t) (set_alk (by simpa using hl.t) (set_alk hl.t h1)),h2⟩
abbrev En:=Nat × Option Nat × Pt
def runP(L:List En)(S:St):St:=L.foldl (fun st e=>apP e.2.1 e.2.2 st) S
theorem runP_len:∀ (L:List En) (S:St),Len (runP L S) S
 | [],S=>⟨rfl,rfl,rfl⟩
 | e::L,S=>(runP_len L _).trans (apP_len _ _ _)
theorem runP_filter{f g:En→Bool}{j:Nat}:∀ (L:List En) (S S':St),Len S S'→Alk S S' j→(∀e∈L,j∈e.2.2.sl e.2.1→f e=g e)→Alk (runP (L.filter f) S) (runP (L.filter g) S') j
 | [],_,_,_,h,_=>h
 | e::L,S,S',hl,h,hfg=>by
  have ht:∀e'∈L,j∈e'.2.2.sl e'.2.1→f e'=g e':=fun e' he'=>hfg e' (by simp [he'])
  by_cases hj:j∈e.2.2.sl e.2.1
  ·have hc:=hfg e (by simp) hj
   simp only [List.filter_cons,hc]
   cases g e with
   | true=>exact runP_filter L _ _ ((apP_len _ _ _).trans (hl.trans (apP_len _ _ _).symm)) (apP_alk hl h) ht
   | false=>exact runP_filter L _ _ hl h ht
  ·have e1:∀X:St,Alk (apP e.2.1 e.2.2 X) X j:=fun X=>apP_not hj
   simp only [List.filter_cons]
   cases f e <;> cases g e
   ·exact runP_filter L _ _ hl h ht
   ·exact runP_filter L _ _ (hl.trans (apP_len _ _ _).symm) ⟨h.1.trans (e1 S').1.symm,h.2.trans (e1 S').2.symm⟩ ht
   ·exact runP_filter L _ _ ((apP_len _ _ _).trans hl) ⟨(e1 S).1.trans h.1,(e1 S).2.trans h.2⟩ ht
   ·exact runP_filter L _ _ ((apP_len _ _ _).trans (hl.trans (apP_len _ _ _).symm)) ⟨(e1 S).1.trans (h.1.trans (e1 S').1.symm),(e1 S).2.trans (h.2.trans (e1 S').2.symm)⟩ ht
theorem apP_val{d:Option Nat}{p:Pt}{S:St}{j:Nat}{v:V}(h:(apP d p S).t[j]?=some v):S.t[j]?=some v∨v∈p.vs d:=by
 have key:∀ (t:List V) (d:Nat) (x:V),(t.set d x)[j]?=some v→t[j]?=some v∨v=x:=by
  intro t d x h
  rw [List.getElem?_set] at h
  split at h
  ·split at h
   ·injection h with h;exact .inr h.symm
   ·cases h
  ·exact .inl h
 cases p <;> cases d <;> simp only [apP,putD] at h
 ·exact .inl h
 ·rcases key _ _ _ h with h | h
  ·exact .inl h
  ·exact .inr (by simp [Pt.vs,h])
 ·rcases key _ _ _ h with h | h
  ·exact .inl h
  ·exact .inr (by simp [Pt.vs,h])
 ·rcases key _ _ _ h with h | h
  ·rcases key _ _ _ h with h | h
   ·exact .inl h
   ·exact .inr (by simp [Pt.vs,h])
  ·exact .inr (by simp [Pt.vs,h])
 ·exact .inl h
 ·rcases key _ _ _ h with h | h
  ·exact .inl h
  ·exact .inr (by simp [Pt.vs,h])
 ·exact .inl h
 ·exact .inl h
 ·rcases key _ _ _ h with h | h
  ·rcases key _ _ _ h with h | h
   ·exact .inl h
   ·exact .inr (by simp [Pt.vs,h])
  ·exact .inr (by simp [Pt.vs,h])
 ·rcases key _ _ _ h with h | h
  ·rcases key _ _ _ h with h | h
   ·rcases key _ _ _ h with h | h
    ·exact .inl h
    ·exact .inr (by simp [Pt.vs,h])
   ·exact .inr (by simp [Pt.vs,h])
  ·exact .inr (by simp [Pt.vs,h])
theorem runP_val{j:Nat}{v:V}:∀ (L:List En) (S:St),(runP L S).t[j]?=some v→S.t[j]?=some v∨∃e∈L,v∈e.2.2.vs e.2.1
 | [],_,h=>.inl h
 | e::L,S,h=>by
  rcases runP_val L _ h with h | ⟨e',h1,h2⟩
  ·rcases apP_val h with h | h
   ·exact .inl h
   ·exact .inr ⟨e,by simp,h⟩
  ·exact .inr ⟨e',by simp [h1],h2⟩
theorem St.ext_alk{A B:St}(hl:Len A B)(h:∀j,Alk A B j):A=B:=by
 obtain⟨t,m,g⟩:=A
 obtain⟨t',m',g'⟩:=B
 have h1:t=t':=List.ext_getElem? fun j=>(h j).1
 have h2:m=m':=List.ext_getElem? fun j=>(h j).2
 have h3:g=g':=hl.g
 subst h1 h2 h3
 rfl
theorem apP_comm{d d':Option Nat}{p p':Pt}{S:St}(hd:∀j∈p.sl d,j∉p'.sl d'):apP d p (apP d' p' S)=apP d' p' (apP d p S):=by
 refine St.ext_alk ((apP_len _ _ _).trans ((apP_len _ _ _).trans ((apP_len d p S).symm.trans (apP_len d' p' _).symm))) fun j=>?_
 by_cases hj:j∈p.sl d
 ·have hj':=hd j hj
  have e1:Alk (apP d' p' S) S j:=apP_not hj'
  have e2:Alk (apP d' p' (apP d p S)) (apP d p S) j:=apP_not hj'
  have e3:=apP_alk (d:=d) (p:=p) (apP_len d' p' S) e1
  exact ⟨e3.1.trans e2.1.symm,e3.2.trans e2.2.symm⟩
 ·have e1:Alk (apP d p (apP d' p' S)) (apP d' p' S) j:=apP_not hj
  have e2:Alk (apP d p S) S j:=apP_not hj
  have e3:=apP_alk (d:=d') (p:=p') (apP_len d p S) e2
  exact ⟨e1.1.trans e3.1.symm,e1.2.trans e3.2.symm⟩
theorem runP_comm{d:Option Nat}{p:Pt}:∀ (L:List En) (S:St),(∀e∈L,∀j∈p.sl d,j∉e.2.2.sl e.2.1)→runP L (apP d p S)=apP d p (runP L S)
 | [],_,_=>rfl
 | e::L,S,h=>by
  show runP L (apP e.2.1 e.2.2 (apP d p S))=apP d p (runP L (apP e.2.1 e.2.2 S))
  rw [←apP_comm (h e (by simp)),runP_comm L _ (fun e' he'=>h e' (by simp [he']))]
end
end Go.Ar
