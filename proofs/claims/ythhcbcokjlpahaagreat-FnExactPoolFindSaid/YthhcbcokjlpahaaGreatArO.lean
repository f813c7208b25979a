import Derived.Test.YthhcbcokjlpahaaGreatArN
namespace Go.Ar
set_option linter.unusedVariables false
set_option linter.unusedSimpArgs false
mutual
/-- No pointer in it. -/
def okA:V→Bool
 | .b _=>true | .i _ _=>true | .s _=>true | .nil=>true | .sl _ _ _=>true | .un=>true
 | .ag cs=>okAs cs
 | .tu cs=>okAs cs
 | _=>false
def okAs:List V→Bool
 | []=>true
 | c::cs=>okA c && okAs cs
end
mutual
theorem RepT.noρ{w:World}{Sh:Nat→Prop}{ρ ρ':Rt→Option Sr}:∀ (c:V) (v:Value) (T:Nat→Prop),okA c=true→RepT w Sh ρ c v T→RepT w Sh ρ' c v T
 | .b _,_,_,_,h | .i _ _,_,_,_,h | .cv _ _,_,_,_,h | .s _,_,_,_,h | .nil,_,_,_,h | .un,_,_,_,h=>h
 | .rf _ _ _,_,_,hc,_=>by simp [okA] at hc
 | .pt _,_,_,hc,_=>by simp [okA] at hc
 | .fn _ _,_,_,hc,_=>by simp [okA] at hc
 | .sl f z xs,v,T,_,h=>h
 | .ag cs,v,T,hc,h=>by
  simp only [okA] at hc
  simp only [RepT] at h ⊢
  obtain⟨vs,h1,h2⟩:=h
  exact ⟨vs,h1,RepTs.noρ cs vs T hc h2⟩
 | .tu cs,v,T,hc,h=>by
  simp only [okA] at hc
  simp only [RepT] at h ⊢
  obtain⟨vs,h1,h2⟩:=h
  exact ⟨vs,h1,RepTs.noρ cs vs T hc h2⟩
theorem RepTs.noρ{w:World}{Sh:Nat→Prop}{ρ ρ':Rt→Option Sr}:∀ (cs:List V) (vs:List Value) (T:Nat→Prop),okAs cs=true→RepTs w Sh ρ cs vs T→RepTs w Sh ρ' cs vs T
 | [],[],_,_,_=>by simp only [RepTs]
 | c::cs,v::vs,T,hc,h=>by
  simp only [okAs,Bool.and_eq_true] at hc
  simp only [RepTs] at h ⊢
  obtain⟨T1,T2,h1,h2,d1,d2⟩:=h
  exact ⟨T1,T2,RepT.noρ c v T1 hc.1 h1,RepTs.noρ cs vs T2 hc.2 h2,d1,d2⟩
 | [],_::_,_,_,h=>by simp only [RepTs] at h
 | _::_,[],_,_,h=>by simp only [RepTs] at h
end
/-! ### What a call comes to -/
def PostV(own:Bool)(w':World)(Sh' T':Nat→Prop)(r:V)(v:Value):Prop :=
 match own with
 | true=>∀S:Nat→Prop,(∀b,S b→Sh' b)→RepT w' S (fun _=>none) r v T'
 | false=>RepT w' Sh' (fun _=>none) r v T'
structure PostW (w w':World) (Sh H Sh' T':Nat→Prop):Prop where
 sh:∀b,Sh b→Sh' b
 sh':∀b,Sh' b→b<w'.heap.size∧(Sh b∨w.heap.size≤b∨H b)
 t':∀b,T' b→b<w'.heap.size∧(w.heap.size≤b∨H b)
 fr:∀b,b<w.heap.size→¬H b→w'.heap[b]?=w.heap[b]?
 sz:w.heap.size≤w'.heap.size
 os:w'.os=w.os
 tape:w'.tape=w.tape
 output:w'.output=w.output
def Post(own:Bool)(w:World)(Sh H:Nat→Prop)(r:V):Ending→World→Prop:=fun e w' =>
 ∃ (v:Value) (Sh' T':Nat→Prop),e=.returned v∧PostV own w' Sh' T' r v∧PostW w w' Sh H Sh' T'
/-- Function f, called with args (the callers' roots it can look at: g), returns r. -/
def Ret(P:Program)(f:Nat)(own:Bool)(args:List V)(g:List (List V))(r:V):Prop :=
 (∃ fn, P.funcs[f]? = some fn ∧ fn.body.isNone = false ∧ (fn.name == "runtime.NumGoroutine") = false) ∧
 ∀ (w:World) (Sh H:Nat→Prop) (l:List Sr) (vs:List Value),(∀b,Sh b→b<w.heap.size)→(∀b,H b→b<w.heap.size)→RepTs w Sh (rg l) args vs H→GIn w Sh l g →
  Calls P f vs.toArray w (Post own w Sh H r)
def CallF(P:Program)(f:Nat)(own:Bool)(args:List V)(g:List (List V))(K:V→Prop):Prop := ∃r,Ret P f own args g r∧K r
noncomputable def CallK:Program→Nat→Bool→List V→List (List V)→(V→Prop)→Prop:=Classical.choose (kp CallF)
theorem CallK_eq:CallK=CallF:=Classical.choose_spec (kp CallF)
theorem CallK.intro{P:Program}{f:Nat}{own:Bool}{args:List V}{g:List (List V)}{K:V→Prop}{r:V}(h:Ret P f own args g r)(hk:K r):CallK P f own args g K:=by
 rw [CallK_eq];exact ⟨r,h,hk⟩
/-! A nil slice is an empty one. -/
mutual
def LeF:V→V→Prop
 | .nil,w=>(match w with | .sl _ _ xs=>xs=[] | .nil=>True | .un=>True | _=>False)
 | .ag cs,w=>(match w with | .ag ds=>LeFs cs ds | .un=>True | _=>False)
 | .tu cs,w=>(match w with | .tu ds=>LeFs cs ds | .un=>True | _=>False)
 | v,w=>v=w∨w=.un
def LeFs:List V→List V→Prop
 | [],[]=>True
 | c::cs,d::ds=>LeF c d∧LeFs cs ds
 | _,_=>False
end
noncomputable def LeV:V→V→Prop:=Classical.choose (kp LeF)
theorem LeV_eq:LeV=LeF:=Classical.choose_spec (kp LeF)
mutual
theorem LeF.rep{w:World}{Sh:Nat→Prop}{ρ:Rt→Option Sr}:∀ (v r:V) (u:Value) (T:Nat→Prop),LeF v r→RepT w Sh ρ v u T→RepT w Sh ρ r u T
 | .nil,r,u,T,h,hr=>by
  unfold LeF at h
  split at h
  ·subst h
   have hr:u=.slice none 0 0:=hr
   exact .inl ⟨⟨none,hr⟩,rfl⟩
  ·exact hr
  ·trivial
  ·exact h.elim
 | .ag cs,r,u,T,h,hr=>by
  unfold LeF at h
  split at h
  ·simp only [RepT] at hr ⊢
   obtain⟨vs,h1,h2⟩:=hr
   exact ⟨vs,h1,LeFs.rep cs _ vs T h h2⟩
  ·trivial
  ·exact h.elim
 | .tu cs,r,u,T,h,hr=>by
  unfold LeF at h
  split at h
  ·simp only [RepT] at hr ⊢
   obtain⟨vs,h1,h2⟩:=hr
   exact ⟨vs,h1,LeFs.rep cs _ vs T h h2⟩
  ·trivial
  ·exact h.elim
 | .b _,r,u,T,h,hr | .i _ _,r,u,T,h,hr | .cv _ _,r,u,T,h,hr | .s _,r,u,T,h,hr | .sl _ _ _,r,u,T,h,hr | .rf _ _ _,r,u,T,h,hr | .pt _,r,u,T,h,hr | .fn _ _,r,u,T,h,hr | .un,r,u,T,h,hr=>by
  unfold LeF at h
  rcases h with h | h
  ·exact h▸hr
  ·subst h;trivial
theorem LeFs.rep{w:World}{Sh:Nat→Prop}{ρ:Rt→Option Sr}:∀ (vs rs:List V) (us:List Value) (T:Nat→Prop),LeFs vs rs→RepTs w Sh ρ vs us T→RepTs w Sh ρ rs us T
 | [],[],us,T,_,hr=>hr
 | c::cs,d::ds,us,T,h,hr=>by
  unfold LeFs at h
  cases us with
  | nil=>simp only [RepTs] at hr
  | cons u us =>
   simp only [RepTs] at hr ⊢
   obtain⟨T1,T2,h1,h2,d1,d2⟩:=hr
   exact ⟨T1,T2,LeF.rep c d u T1 h.1 h1,LeFs.rep cs ds us T2 h.2 h2,d1,d2⟩
 | [],_::_,_,_,h,_=>by unfold LeFs at h;exact h.elim
 | _::_,[],_,_,h,_=>by unfold LeFs at h;exact h.elim
end
theorem Ret.args{P:Program}{f:Nat}{own:Bool}{args args':List V}{g:List (List V)}{r:V}(h:Ret P f own args' g r)(hl:LeFs args args'):Ret P f own args g r :=
 ⟨h.1,fun w Sh H l vs h1 h2 h3 h4=>h.2 w Sh H l vs h1 h2 (LeFs.rep _ _ _ _ hl h3) h4⟩
mutual
theorem LeF.rfl':∀v:V,LeF v v
 | .nil=>by unfold LeF;trivial
 | .ag cs=>by unfold LeF;exact LeFs.rfl' cs
 | .tu cs=>by unfold LeF;exact LeFs.rfl' cs
 | .b _ | .i _ _ | .cv _ _ | .s _ | .sl _ _ _ | .rf _ _ _ | .pt _ | .fn _ _ | .un=>by unfold LeF;exact .inl rfl
theorem LeFs.rfl':∀vs:List V,LeFs vs vs
 | []=>by unfold LeFs;trivial
 | c::cs=>by unfold LeFs;exact ⟨LeF.rfl' c,LeFs.rfl' cs⟩
end
theorem LeF.un:∀v:V,LeF v .un
 | .nil | .ag _ | .tu _=>by unfold LeF;trivial
 | .b _ | .i _ _ | .cv _ _ | .s _ | .sl _ _ _ | .rf _ _ _ | .pt _ | .fn _ _ | .un=>by unfold LeF;exact .inr rfl
theorem LeV.rfl'(v:V):LeV v v:=by rw [LeV_eq];exact LeF.rfl' v
/-- Less: what is shown at a function's end. -/
theorem LeV.of{v r r':V}(h:LeF v r)(hr:r=r'):LeV v r':=by rw [LeV_eq];exact hr▸h
theorem PostV.rep{own:Bool}{w':World}{Sh' T' S:Nat→Prop}{ρ:Rt→Option Sr}{r:V}{v:Value}(h:PostV own w' Sh' T' r v)(hs:∀b,S b→Sh' b)(hn:own=false→S=Sh')(hr:okA r=true):RepT w' S ρ r v T':=by
 cases own with
 | true=>exact RepT.noρ _ _ _ hr (h S hs)
 | false=>rw [hn rfl];exact RepT.noρ _ _ _ hr h
section ops
variable {E:Env} {c:Cx} {o:Oper}
/-- More is shared: what nobody holds. -/
theorem Rel.moreSh{st:St}{a:Act}{w:World}{G:Gh}(h:Rel c st a w G)(Sh':Nat→Prop)(h1:∀b,G.Sh b→Sh' b)(h2:∀b,Sh' b→G.Sh b∨(G.ow b=.no∧b<w.heap.size∧(c.w0.heap.size≤b∨c.H b))) :
  Rel c st a w { G with Sh:=Sh' }:=by
 have hsk:∀b s',G.ow b=s'→s'≠.no→Sh' b→G.Sh b:=fun b s' hb hn hh=>(h2 b hh).elim id (fun h=>absurd h.1 (by rw [hb];exact hn))
 refine ⟨h.tl,h.df,fun t x ht=>RepT.shr_mono h1 _ _ _ (fun b hb=>hsk b _ hb (by simp)) (h.tm t x ht),h.tv,?_,?_,h.ob,?_,fun b hb=>h1 b (h.s0 b hb),h.fr,h.sz,h.eos,h.etape,h.eout⟩
 ·intro t row ht hr
  obtain⟨k1,k2,k3,k4⟩:=h.mb t row ht hr
  exact ⟨k1,fun hh=>k2 (hsk _ _ k1 (by simp) hh),k3,RepRow.shr_mono h1 _ _ _ _ (fun _ b hb=>hsk b _ hb (by simp)) k4⟩
 ·intro g row hg
  have:=h.gb g row hg
  rcases this with this | this
  ·exact .inl this
  refine .inr ?_
  unfold GOkN at this ⊢
  split at this
  ·obtain⟨g1,g2,g3,g4,g5,g6⟩:=this
   exact ⟨g1,g2,g3,fun hh=>g4 (hsk _ _ g3 (by simp) hh),g5,RepRow.shr_mono h1 _ _ _ _ (fun _ b hb=>hsk b _ hb (by simp)) g6⟩
  ·obtain⟨g1,f,z,xs,g2,g3⟩:=this
   exact ⟨g1,f,z,xs,g2,RepC.shr_mono h1 _ _ _ (fun _ b hb=>hsk b _ hb (by simp)) g3⟩
  ·rcases this with g1 | ⟨g1,g2⟩
   ·exact .inl g1
   ·exact .inr ⟨h1 _ g1,RepRow.shr_mono h1 _ _ _ _ (fun _ _ h=>h.elim) g2⟩
  ·rcases this with g1 | ⟨cl,g1,g2⟩
   ·exact .inl g1
   ·exact .inr ⟨cl,g1,RepC.shr_mono h1 _ _ _ (fun _ _ h=>h.elim) g2⟩
 ·intro b hb
  rcases h2 b hb with hh | hh
  ·exact h.sb b hh
  ·exact ⟨hh.2.1,.inr hh.2.2⟩
mutual
def shV:V→V
 | .sl _ z xs=>.sl .shr z xs
 | .ag cs=>.ag (shVs cs)
 | .tu cs=>.tu (shVs cs)
 | v=>v
def shVs:List V→List V
 | []=>[]
 | c::cs=>shV c::shVs cs
end
mutual
theorem shV_rep{w:World}{Sh Sh2:Nat→Prop}{ρ ρ':Rt→Option Sr}(hs:∀b,Sh b→Sh2 b):∀ (c:V) (v:Value) (T:Nat→Prop),okA c=true→(∀b,T b→Sh2 b)→RepT w Sh ρ c v T→RepT w Sh2 ρ' (shV c) v (fun _=>False)
 | .b _,_,_,_,_,h | .i _ _,_,_,_,_,h | .cv _ _,_,_,_,_,h | .s _,_,_,_,_,h | .nil,_,_,_,_,h=>h
 | .un,_,_,_,_,_=>trivial
 | .rf _ _ _,_,_,hc,_,_=>by simp [okA] at hc
 | .pt _,_,_,hc,_,_=>by simp [okA] at hc
 | .fn _ _,_,_,hc,_,_=>by simp [okA] at hc
 | .sl f z xs,v,T,_,hT,h=>by
  have h':RepC w Sh .own (.sl f z xs) v T:=h
  have h2:=RepC.share _ _ _ (fun _=>False) (RepC.lend hs _ v T hT h')
  have h3:RepC w Sh2 .own (.sl .shr z xs) v (fun _=>False):=RepC.shr_of (md:=.shr) rfl h2
  exact h3
 | .ag cs,v,T,hc,hT,h=>by
  simp only [okA] at hc
  simp only [RepT] at h
  simp only [shV,RepT]
  obtain⟨vs,h1,h2⟩:=h
  exact ⟨vs,h1,shVs_rep hs cs vs T hc hT h2⟩
 | .tu cs,v,T,hc,hT,h=>by
  simp only [okA] at hc
  simp only [RepT] at h
  obtain⟨vs,h1,h2⟩:=h
  simp only [shV,RepT]
  exact ⟨vs,h1,shVs_rep hs cs vs T hc hT h2⟩
theorem shVs_rep{w:World}{Sh Sh2:Nat→Prop}{ρ ρ':Rt→Option Sr}(hs:∀b,Sh b→Sh2 b):∀ (cs:List V) (vs:List Value) (T:Nat→Prop),okAs cs=true→(∀b,T b→Sh2 b)→RepTs w Sh ρ cs vs T→RepTs w Sh2 ρ' (shVs cs) vs (fun _=>False)
 | [],[],_,_,_,_=>by simp only [shVs,RepTs]
 | c::cs,v::vs,T,hc,hT,h=>by
  simp only [okAs,Bool.and_eq_true] at hc
  simp only [RepTs] at h
  simp only [shVs,RepTs]
  obtain⟨T1,T2,h1,h2,d1,d2⟩:=h
  exact ⟨fun _=>False,fun _=>False,shV_rep hs c v T1 hc.1 (fun b hb=>hT b (d1 b hb).1) h1,shVs_rep hs cs vs T2 hc.2 (fun b hb=>hT b (d2 b hb)) h2,fun _ h=>h.elim,fun _ h=>h⟩
 | [],_::_,_,_,_,h=>by simp only [RepTs] at h
 | _::_,[],_,_,_,h=>by simp only [RepTs] at h
end
end ops
end Go.Ar
