import Derived.Test.YthhcbcokjlpahaaGreatArO
namespace Go.Ar
set_option linter.unusedVariables false
set_option linter.unusedSimpArgs false
/-! ### Blocks that nobody holds may change -/
def rootIn(vr:Nat→Bool)(st:St)(r:Rt):Bool :=
 match r with
 | .tp _=>true
 | .bx t=>(match rowOf st (.bx t) with | []=>false | _=>true)
 | .gl g=>(match vr g with | true=>true | false=>(match rowOf st (.gl g) with | []=>false | _=>true))
mutual
def keepV(vr:Nat→Bool)(st:St):V→Bool
 | .rf p _ _=>(match p.ps with | []=>rootIn vr st p.r | _=>false)
 | .pt p=>(match p.ps with | []=>true | [_]=>rootIn vr st p.r | _=>false)
 | .ag cs=>keepVs vr st cs
 | .tu cs=>keepVs vr st cs
 | .fn _ cs=>keepVs vr st cs
 | _=>true
def keepVs(vr:Nat→Bool)(st:St):List V→Bool
 | []=>true
 | c::cs=>keepV vr st c && keepVs vr st cs
end
def killW(vr:Nat→Bool)(st:St)(t:List V):List V:=t.map fun v=>bif keepV vr st v then v else .un
theorem root_block{vr:Nat→Bool}{c:Cx}{st:St}{a:Act}{w:World}{G:Gh}(hvr:∀g,vr g=true→∃v,c.gl g=.val v)(h:Rel c st a w G){r:Rt}(hr:rootIn vr st r=true){b o:Nat}(hs:Ar.rho c G r=some (.mem b o)):G.ow b≠.no∨G.Sh b:=by
 cases r with
 | tp t=>simp [Ar.rho] at hs
 | bx t =>
  have hne:st.m.getD t []≠[]:=by
   intro e
   simp only [rootIn,rowOf,e] at hr
   cases hr
  obtain⟨h1,_⟩:=h.mb t _ (getD_nil_some hne) hne
  have e:Sr.mem (G.bx t) 0=.mem b o:=by simpa [Ar.rho] using hs
  injection e with e1 e2
  rw [←e1]
  exact .inl (by rw [h1];simp)
 | gl g =>
  have e0:c.gl g=.mem b o:=by simpa [Ar.rho] using hs
  have hne:st.g.getD g []≠[]:=by
   intro e
   cases hv:vr g with
   | true =>
    obtain⟨v,hv'⟩:=hvr g hv
    rw [e0] at hv'
    cases hv'
   | false =>
    simp only [rootIn,rowOf,e,hv] at hr
    cases hr
  have hg:=(h.gb g _ (getD_nil_some hne)).resolve_left hne
  have e:c.gl g=.mem b o:=by simpa [Ar.rho] using hs
  unfold GOkN at hg
  rw [e] at hg
  cases hm:c.gm <;> rw [hm] at hg
  ·exact .inl (by rw [hg.2.2.1];simp)
  ·rcases hg with h0 | h0
   ·exact absurd h0 hne
   ·exact .inr h0.1
  ·rcases hg with h0 | h0
   ·exact absurd h0 hne
   ·exact .inr h0.1
section
variable {c:Cx} {st:St} {a:Act} {w w':World} {G:Gh}
theorem cell_chg(hO:∀b,b<w.heap.size→(G.ow b≠.no∨G.Sh b)→w'.heap[b]?=w.heap[b]?){b o:Nat}{v:Value}(hb:G.ow b≠.no∨G.Sh b)(h:w.cell? ⟨b,o,none⟩=some v):w'.cell? ⟨b,o,none⟩=some v:=by
 rw [cell_of_heap (hO b (cell_lt h) hb)];exact h
mutual
theorem RepT.chg{vr:Nat→Bool}(hvr:∀g,vr g=true→∃v,c.gl g=.val v)(h:Rel c st a w G)(hO:∀b,b<w.heap.size→(G.ow b≠.no∨G.Sh b)→w'.heap[b]?=w.heap[b]?):∀ (v:V) (u:Value) (T:Nat→Prop),(∀b,T b→G.ow b≠.no)→keepV vr st v=true→RepT w G.Sh (Ar.rho c G) v u T→RepT w' G.Sh (Ar.rho c G) v u T
 | .b _,_,_,_,_,h | .i _ _,_,_,_,_,h | .cv _ _,_,_,_,_,h | .s _,_,_,_,_,h | .nil,_,_,_,_,h | .un,_,_,_,_,h=>h
 | .sl f z xs,u,T,hT,_,hr=>RepC.frame (fun b hb=>hO b (h.sb b hb).1 (.inr hb)) .own (.sl f z xs) u T (fun b hb=>hO b (h.ob b (hT b hb)).1 (.inl (hT b hb))) hr
 | .pt p,u,T,hT,hk,hr=>by
  simp only [RepT] at hr ⊢
  obtain⟨s,b,o,h1,h2,h3⟩:=hr
  refine ⟨s,b,o,h1,?_,h3⟩
  obtain⟨r,ps,po⟩:=p
  cases ps with
  | nil=>exact h2
  | cons x ps =>
   cases ps with
   | cons y ps=>simp [keepV] at hk
   | nil =>
    simp only [keepV] at hk
    simp only [res] at h2 ⊢
    cases hs:stepS w s x with
    | none=>rw [hs] at h2;cases h2
    | some s1 =>
     rw [hs] at h2
     have:stepS w' s x=some s1:=by
      unfold stepS at hs ⊢
      cases s with
      | val v=>exact hs
      | mem b0 o0 =>
       simp only [Sr.cell] at hs ⊢
       cases hc:w.cell? ⟨b0,o0+x.1,none⟩ with
       | none=>rw [hc] at hs;cases hs
       | some v =>
        rw [hc] at hs
        rw [cell_chg hO (root_block hvr h hk h1) hc]
        exact hs
     rw [this]
     exact h2
 | .rf p z uu,u,T,hT,hk,hr=>by
  simp only [RepT] at hr ⊢
  obtain⟨s,s',hv,h1,h2,h3,h4⟩:=hr
  obtain⟨r,ps,po⟩:=p
  cases ps with
  | cons x ps=>simp [keepV] at hk
  | nil =>
   simp only [keepV] at hk
   refine ⟨s,s',hv,h1,h2,?_,h4⟩
   obtain rfl:s=s':=by simpa [res] using h2
   cases s with
   | val v=>exact h3
   | mem b o=>exact cell_chg hO (root_block hvr h hk h1) h3
 | .ag cs,u,T,hT,hk,hr=>by
  simp only [keepV] at hk
  simp only [RepT] at hr ⊢
  obtain⟨vs,h1,h2⟩:=hr
  exact ⟨vs,h1,RepTs.chg hvr h hO cs vs T hT hk h2⟩
 | .tu cs,u,T,hT,hk,hr=>by
  simp only [keepV] at hk
  simp only [RepT] at hr ⊢
  obtain⟨vs,h1,h2⟩:=hr
  exact ⟨vs,h1,RepTs.chg hvr h hO cs vs T hT hk h2⟩
 | .fn f cs,u,T,hT,hk,hr=>by
  simp only [keepV] at hk
  simp only [RepT] at hr ⊢
  obtain⟨vs,h1,h2⟩:=hr
  exact ⟨vs,h1,RepTs.chg hvr h hO cs vs T hT hk h2⟩
theorem RepTs.chg{vr:Nat→Bool}(hvr:∀g,vr g=true→∃v,c.gl g=.val v)(h:Rel c st a w G)(hO:∀b,b<w.heap.size→(G.ow b≠.no∨G.Sh b)→w'.heap[b]?=w.heap[b]?):∀ (vs:List V) (us:List Value) (T:Nat→Prop),(∀b,T b→G.ow b≠.no)→keepVs vr st vs=true→RepTs w G.Sh (Ar.rho c G) vs us T→RepTs w' G.Sh (Ar.rho c G) vs us T
 | [],[],_,_,_,_=>by simp only [RepTs]
 | v::vs,u::us,T,hT,hk,hr=>by
  simp only [keepVs,Bool.and_eq_true] at hk
  simp only [RepTs] at hr ⊢
  obtain⟨T1,T2,h1,h2,d1,d2⟩:=hr
  exact ⟨T1,T2,RepT.chg hvr h hO v u T1 (fun b hb=>hT b (d1 b hb).1) hk.1 h1,RepTs.chg hvr h hO vs us T2 (fun b hb=>hT b (d2 b hb)) hk.2 h2,d1,d2⟩
 | [],_::_,_,_,_,h=>by simp only [RepTs] at h
 | _::_,[],_,_,_,h=>by simp only [RepTs] at h
end
theorem Rel.chg{vr:Nat→Bool}(hvr:∀g,vr g=true→∃v,c.gl g=.val v)(h:Rel c st a w G)(hO:∀b,b<w.heap.size→(G.ow b≠.no∨G.Sh b)→w'.heap[b]?=w.heap[b]?)(hF:∀b,b<c.w0.heap.size→¬c.H b→w'.heap[b]?=w.heap[b]?)(hsz:w.heap.size≤w'.heap.size)(h1:w'.os=w.os)(h2:w'.tape=w.tape)(h3:w'.output=w.output) :
  Rel c { st with t:=killW vr st st.t } a w' G:=by
 have hS:∀b,G.Sh b→w'.heap[b]?=w.heap[b]?:=fun b hb=>hO b (h.sb b hb).1 (.inr hb)
 have hW:∀b,G.ow b≠.no→w'.heap[b]?=w.heap[b]?:=fun b hb=>hO b (h.ob b hb).1 (.inl hb)
 have hget:∀ (t:Nat) (v:V),(killW vr st st.t)[t]?=some v→(st.t[t]?=some v∧keepV vr st v=true)∨v=.un:=by
  intro t v ht
  unfold killW at ht
  rw [List.getElem?_map] at ht
  cases hv:st.t[t]? with
  | none=>rw [hv] at ht;cases ht
  | some x =>
   rw [hv] at ht
   simp only [Option.map_some,Option.some.injEq] at ht
   cases hk:keepV vr st x with
   | true=>rw [hk] at ht;simp only [cond_true] at ht;subst ht;exact .inl ⟨rfl,hk⟩
   | false=>rw [hk] at ht;exact .inr (by simpa using ht.symm)
 refine ⟨?_,h.df,?_,?_,?_,fun g row hg=>(h.gb g row hg).frame hS hW,fun b hb=>⟨Nat.lt_of_lt_of_le (h.ob b hb).1 hsz,(h.ob b hb).2⟩,fun b hb=>⟨Nat.lt_of_lt_of_le (h.sb b hb).1 hsz,(h.sb b hb).2⟩,h.s0,fun b q1 q2=>(hF b q1 q2).trans (h.fr b q1 q2),Nat.le_trans h.sz hsz,h1.trans h.eos,h2.trans h.etape,h3.trans h.eout⟩
 ·show _=(killW vr st st.t).length
  rw [killW,List.length_map];exact h.tl
 ·intro t v ht
  rcases hget t v ht with ⟨q1,q2⟩ | rfl
  ·exact RepT.chg hvr h hO v _ _ (fun b hb=>by rw [hb];simp) q2 (h.tm t v q1)
  ·simp only [RepT]
 ·intro t f z xs ht
  rcases hget t _ ht with ⟨q1,_⟩ | q1
  ·exact h.tv t f z xs q1
  ·cases q1
 ·intro t row ht hr
  obtain⟨k1,k2,k3,k4⟩:=h.mb t row ht hr
  have e:=hW (G.bx t) (by rw [k1];simp)
  exact ⟨k1,k2,k3.frame e,RepRow.frame hS _ _ _ _ _ (fun b hb=>hW b (by rw [hb];simp)) (fun j _=>cell_of_heap e _) k4⟩
end
/-! ### What is owned alone, seen from elsewhere -/
mutual
theorem RepC.own_re{w:World}{Sh S:Nat→Prop}:∀ (c:V) (v:Value) (T:Nat→Prop),OwnV c→(∀b,T b→¬Sh b→¬S b)→RepC w Sh .own c v T→RepC w S .own c v (fun b=>T b∧¬Sh b)
 | .b _,_,_,_,_,h | .i _ _,_,_,_,_,h | .s _,_,_,_,_,h | .nil,_,_,_,_,h=>h
 | .un,_,_,_,_,h=>h
 | .cv _ _,_,_,ho,_,_=>by simp [OwnV] at ho
 | .ag _,_,_,_,_,h | .tu _,_,_,_,_,h | .rf _ _ _,_,_,_,_,h | .pt _,_,_,_,_,h | .fn _ _,_,_,_,_,h=>h.elim
 | .sl f z xs,v,T,ho,hT,h=>by
  simp only [OwnV] at ho
  obtain⟨rfl,ho⟩:=ho
  simp only [RepC] at h ⊢
  rcases h with h | ⟨b,o,c,hv,h1,h2,h⟩
  ·exact .inl h
  ·refine .inr ⟨b,o,c,hv,h1,h2,.inr (.inr ?_)⟩
   rcases h with ⟨hm,_⟩ | ⟨hm,_⟩ | ⟨_,h3,h4,h5,h6⟩
   ·cases hm
   ·cases hm
   ·exact ⟨rfl,⟨h3,h4⟩,hT b h3 h4,h5,RepRows.mono _ _ _ _ _ _ (fun x hx=>⟨⟨hx.1.1,hx.2⟩,hx.1.2⟩) (RepRows.own_re z xs b o _ ho (fun x hx hn=>hT x hx.1 hn) h6)⟩
theorem RepRow.own_re{w:World}{Sh S:Nat→Prop}:∀ (cs:List V) (b o:Nat) (T:Nat→Prop),OwnVs cs→(∀b,T b→¬Sh b→¬S b)→RepRow w Sh .own cs b o T→RepRow w S .own cs b o (fun b=>T b∧¬Sh b)
 | [],_,_,_,_,_,_=>by simp only [RepRow]
 | c::cs,b,o,T,ho,hT,h=>by
  simp only [OwnVs] at ho
  simp only [RepRow] at h ⊢
  obtain⟨v,T1,T2,h0,h1,h2,d1,d2⟩:=h
  exact ⟨v,_,_,h0,RepC.own_re c v T1 ho.1 (fun x hx=>hT x (d1 x hx).1) h1,RepRow.own_re cs b (o+1) T2 ho.2 (fun x hx=>hT x (d2 x hx)) h2,fun x hx=>⟨⟨(d1 x hx.1).1,hx.2⟩,fun hh=>(d1 x hx.1).2 hh.1⟩,fun x hx=>⟨d2 x hx.1,hx.2⟩⟩
theorem RepRows.own_re{w:World}{Sh S:Nat→Prop}:∀ (z:Nat) (xs:List (List V)) (b o:Nat) (T:Nat→Prop),OwnRs xs→(∀b,T b→¬Sh b→¬S b)→RepRows w Sh .own z xs b o T→RepRows w S .own z xs b o (fun b=>T b∧¬Sh b)
 | z,[],_,_,_,_,_,_=>by simp only [RepRows]
 | z,r::rs,b,o,T,ho,hT,h=>by
  simp only [OwnRs] at ho
  simp only [RepRows] at h ⊢
  obtain⟨hl,T1,T2,h1,h2,d1,d2⟩:=h
  exact ⟨hl,_,_,RepRow.own_re r b o T1 ho.1 (fun x hx=>hT x (d1 x hx).1) h1,RepRows.own_re z rs b (o+z) T2 ho.2 (fun x hx=>hT x (d2 x hx)) h2,fun x hx=>⟨⟨(d1 x hx.1).1,hx.2⟩,fun hh=>(d1 x hx.1).2 hh.1⟩,fun x hx=>⟨d2 x hx.1,hx.2⟩⟩
end
mutual
theorem RepT.own_re{w:World}{Sh S:Nat→Prop}{ρ ρ':Rt→Option Sr}:∀ (c:V) (v:Value) (T:Nat→Prop),OwnV c→(∀b,T b→¬Sh b→¬S b)→RepT w Sh ρ c v T→RepT w S ρ' c v (fun b=>T b∧¬Sh b)
 | .b _,_,_,_,_,h | .i _ _,_,_,_,_,h | .s _,_,_,_,_,h | .nil,_,_,_,_,h=>h
 | .un,_,_,_,_,_=>trivial
 | .cv _ _,_,_,ho,_,_=>by simp [OwnV] at ho
 | .rf _ _ _,_,_,ho,_,_=>by simp [OwnV] at ho
 | .pt _,_,_,ho,_,_=>by simp [OwnV] at ho
 | .fn _ _,_,_,ho,_,_=>by simp [OwnV] at ho
 | .sl f z xs,v,T,ho,hT,h=>RepC.own_re (.sl f z xs) v T ho hT h
 | .ag cs,v,T,ho,hT,h=>by
  simp only [OwnV] at ho
  simp only [RepT] at h ⊢
  obtain⟨vs,h1,h2⟩:=h
  exact ⟨vs,h1,RepTs.own_re cs vs T ho hT h2⟩
 | .tu cs,v,T,ho,hT,h=>by
  simp only [OwnV] at ho
  simp only [RepT] at h ⊢
  obtain⟨vs,h1,h2⟩:=h
  exact ⟨vs,h1,RepTs.own_re cs vs T ho hT h2⟩
theorem RepTs.own_re{w:World}{Sh S:Nat→Prop}{ρ ρ':Rt→Option Sr}:∀ (cs:List V) (vs:List Value) (T:Nat→Prop),OwnVs cs→(∀b,T b→¬Sh b→¬S b)→RepTs w Sh ρ cs vs T→RepTs w S ρ' cs vs (fun b=>T b∧¬Sh b)
 | [],[],_,_,_,_=>by simp only [RepTs]
 | c::cs,v::vs,T,ho,hT,h=>by
  simp only [OwnVs] at ho
  simp only [RepTs] at h ⊢
  obtain⟨T1,T2,h1,h2,d1,d2⟩:=h
  exact ⟨_,_,RepT.own_re c v T1 ho.1 (fun x hx=>hT x (d1 x hx).1) h1,RepTs.own_re cs vs T2 ho.2 (fun x hx=>hT x (d2 x hx)) h2,fun x hx=>⟨⟨(d1 x hx.1).1,hx.2⟩,fun hh=>(d1 x hx.1).2 hh.1⟩,fun x hx=>⟨d2 x hx.1,hx.2⟩⟩
 | [],_::_,_,_,_,h=>by simp only [RepTs] at h
 | _::_,[],_,_,_,h=>by simp only [RepTs] at h
end
end Go.Ar
