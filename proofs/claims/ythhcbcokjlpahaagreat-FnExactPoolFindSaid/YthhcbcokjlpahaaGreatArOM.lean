import Derived.Test.YthhcbcokjlpahaaGreatArOA
namespace Go.Ar
set_option linter.unusedVariables false
set_option linter.unusedSimpArgs false
/-! ### What a call writes: the content is taken from its place, a cell of exactly its header stays, and the content is put back -/
def takeHF(o z:Nat)(row1:List V)(K':List V→V→Prop):Prop :=
 match row1.getD o .un with
 | .sl .own z' xs=>bif z' == z then ∀hv,K' (row1.set o (.cv (0,0) hv)) (.ag [.cv (0,0) hv,.sl .own z xs]) else False
 | _=>False
noncomputable def takeHG(E:Env)(st:St)(p:Pl)(z:Nat)(K:Value→List (List V)→St→Prop):Prop :=
 bif wrOk E p.r p.ps then updK (rowOf st p.r) p.ps (fun row1 K'=>row1≠[]∧takeHF p.o z row1 K') (fun row' x=>match x with | .ag [.cv _ hv,.sl _ _ xs]=>K hv xs (setRow st p.r row') | _=>False) else False
noncomputable def takeH(E:Env)(st:St)(p:Pl)(z:Nat)(K:Value→List (List V)→St→Prop):Prop :=
 match p.r,p.ps with
 | .tp s,[] =>
  (match st.t.getD s .un with
  | .sl .own z' xs=>bif z' == z && Nat.beq p.o 0 then ∀hv,K hv xs { st with t:=st.t.set s (.cv (0,0) hv) } else False
  | _=>False)
 | .gl g,[] =>
  (match E.gx g with
  | some hv=>(match st.g.getD g [] with
   | [.sl .own z' xs]=>bif (z' == z && Nat.beq p.o 0) && E.own then K hv xs { st with g:=st.g.set g [] } else False
   | _=>False)
  | none=>takeHG E st p z K)
 | _,_=>takeHG E st p z K
def fillHF(o z:Nat)(hv:Value)(xs:List (List V))(row1:List V)(K':List V→V→Prop):Prop :=
 match row1.getD o .un with
 | .cv _ u=>u=hv∧K' (row1.set o (.sl .own z xs)) .un
 | _=>False
noncomputable def fillHG(E:Env)(st:St)(p:Pl)(z:Nat)(hv:Value)(xs:List (List V))(K:St→Prop):Prop :=
 bif wrOk E p.r p.ps then updK (rowOf st p.r) p.ps (fun row1 K'=>row1≠[]∧fillHF p.o z hv xs row1 K') (fun row' _=>K (setRow st p.r row')) else False
noncomputable def fillH(E:Env)(st:St)(p:Pl)(z:Nat)(hv:Value)(xs:List (List V))(K:St→Prop):Prop :=
 match p.r,p.ps with
 | .tp s,[]=>(match st.t.getD s .un with | .cv _ u=>u=hv∧K (pu st (some s) (.sl .own z xs)) | _=>False)
 | .gl g,[] =>
  (match E.gx g with
  | some u=>u=hv∧E.own=true∧K { st with g:=st.g.set g [.sl .own z xs] }
  | none=>fillHG E st p z hv xs K)
 | _,_=>fillHG E st p z hv xs K
section
variable {E:Env} {c:Cx} {st:St} {a:Act} {w:World} {G:Gh}
/-- A callers' root gets another row; titles become free, or free ones come to it. -/
theorem Rel.turnG(h:Rel c st a w G)(g:Nat)(row':List V)(T1 T2:Nat→Prop)(h1:∀b,T1 b→G.ow b=.gc g)(h2:∀b,T2 b→G.ow b=.no∧b<w.heap.size∧(c.w0.heap.size≤b∨c.H b))
  (hrow:GOk c w G.Sh (give (give G.ow T1 .no) T2 (.gc g)) g row'):Rel c { st with g:=st.g.set g row' } a w { G with ow:=give (give G.ow T1 .no) T2 (.gc g) }:=by
 have hk:∀b s,G.ow b=s→s≠.gc g→s≠.no→give (give G.ow T1 .no) T2 (.gc g) b=s:=fun b s hb hn hno=>by
  rw [give_no (fun hh=>hno (by rw [←hb,(h2 b hh).1])),give_no (fun hh=>hn (by rw [←hb,h1 b hh])),hb]
 refine ⟨h.tl,h.df,?_,h.tv,?_,?_,?_,h.sb,h.s0,h.fr,h.sz,h.eos,h.etape,h.eout⟩
 ·intro t v ht
  exact RepT.mono _ _ _ _ (fun b hb=>hk b _ hb (by simp) (by simp)) (h.tm t v ht)
 ·intro t row ht hr
  obtain⟨k1,k2,k3,k4⟩:=h.mb t row ht hr
  exact ⟨hk _ _ k1 (by simp) (by simp),k2,k3,RepRow.mono _ _ _ _ _ (fun b hb=>hk b _ hb (by simp) (by simp)) k4⟩
 ·intro k row hg
  by_cases e:k=g
  ·subst e
   simp only [List.getElem?_set] at hg
   simp at hg
   obtain⟨_,rfl⟩:=hg
   exact hrow
  ·simp only at hg
   rw [List.getElem?_set_ne (Ne.symm e)] at hg
   exact (h.gb k row hg).ow (fun b hb=>hk b _ hb (by simp) (by simp)) (fun b hb=>hk b _ hb (by simpa using e) (by simp))
 ·intro b hb
  simp only at hb
  by_cases e2:T2 b
  ·exact (h2 b e2).2
  ·rw [give_no e2] at hb
   by_cases e1:T1 b
   ·rw [give_yes e1] at hb;exact absurd rfl hb
   ·rw [give_no e1] at hb;exact h.ob b hb
theorem takeHG_sound(h:Rel c st a w G)(hfit:Fit E c){p:Pl}{z:Nat}{v:Value}{T0:Nat→Prop}{K:Value→List (List V)→St→Prop}
  (hps:∀t,p.r=.tp t→p.ps≠[]) (hv:RepT w G.Sh (Ar.rho c G) (.rf p z none) v T0) (hk:takeHG E st p z K) :
  ∃ (xs:List (List V)) (st':St) (G':Gh) (T':Nat→Prop),K v xs st'∧Rel c st' a w G'∧RepC w G'.Sh .own (.sl .own z xs) v T'∧Free c w G' T'∧Later w G G'∧(∀b,T' b→G.ow b≠.no):=by
 simp only [RepT] at hv
 obtain⟨src,s',hv0,hsrc,hres,hcell,hsub⟩:=hv
 unfold subV at hsub
 obtain⟨rfl,_⟩:=hsub
 unfold takeHG at hk
 cases hw:wrOk E p.r p.ps with
 | false=>rw [hw] at hk;exact hk.elim
 | true =>
  rw [hw] at hk
  simp only [cond_true] at hk
  obtain⟨src',hsrc',row1,b',o',T',K',g1,g2,g3,g4,g5,g6,g7,g8,g9,H⟩:=h.upd hfit hw hps hk
  rw [hsrc] at hsrc'
  injection hsrc' with hsrc'
  subst hsrc'
  rw [g1] at hres
  injection hres with hres
  subst hres
  simp only [Sr.cell] at hcell
  unfold takeHF at g8
  split at g8
  ·rename_i z' xs hg
   cases hb:(z' == z) with
   | false=>rw [hb] at g8;exact g8.elim
   | true =>
    rw [hb] at g8
    obtain rfl:z'=z:=by simpa using hb
    simp only [cond_true] at g8
    obtain⟨v1,T1,T2,k1,k2,k3,k4,k5⟩:=RepRow.focus row1 o' T' p.o _ g2 (getD_some hg (by simp))
    rw [hcell] at k1
    injection k1 with k1
    subst k1
    have g8:=g8 v
    have hr2:=k5 w G.Sh (.cv (0,0) v) v (fun _=>False) (fun _ _=>rfl) (fun _ _=>rfl) (fun _ _ _=>rfl) (fun _ hh=>hh) (fun _ _ hh=>hh) (fun _ hh=>hh.elim) hcell (show RepC w G.Sh .own (.cv (0,0) v) v _ from ⟨rfl,k2.one⟩)
    obtain⟨row',q1,q2⟩:=H _ _ w G.Sh T2 st.t g8 (by simp) (Upd.refl w b' o' row1.length) rfl rfl rfl rfl (fun _ hh=>hh) (fun _ hh=>.inl hh) (fun b hb=>.inl (k4 b hb)) (RepRow.mono _ _ _ _ _ (fun b hb=>hb.elim False.elim id) hr2)
     rfl (fun s v hs _=>h.tm s v hs) (fun s v hs _=>hs)
    refine ⟨xs,_,_,T1,q1,q2,k2,fun b hb=>?_,⟨rfl,rfl,fun b hb=>?_,fun _ hh=>hh,fun _ hh=>.inl hh⟩,fun b hb=>by rw [g3 b (k3 b hb).1];exact csl_no _⟩
    ·have hT':=(k3 b hb).1
     have:=h.ob b (by rw [g3 b hT'];exact csl_no _)
     exact ⟨by show give _ _ _ b=_;rw [give_no (k3 b hb).2];exact give_yes ⟨hT',(k3 b hb).2⟩,this.1,this.2⟩
    ·have hn:¬T' b:=fun hh=>csl_no p.r (by rw [←g3 b hh,hb])
     show give _ _ _ b=_
     rw [give_no (fun hh=>hn (k4 b hh)),give_no (fun hh=>hn hh.1),hb]
  ·exact g8.elim
theorem takeH_sound(h:Rel c st a w G)(hfit:Fit E c){p:Pl}{z:Nat}{v:Value}{T0:Nat→Prop}{K:Value→List (List V)→St→Prop}
  (hv:RepT w G.Sh (Ar.rho c G) (.rf p z none) v T0) (hk:takeH E st p z K) :
  ∃ (xs:List (List V)) (st':St) (G':Gh) (T':Nat→Prop),K v xs st'∧Rel c st' a w G'∧RepC w G'.Sh .own (.sl .own z xs) v T'∧Free c w G' T'∧Later w G G'∧(∀b,T' b→G.ow b≠.no):=by
 unfold takeH at hk
 split at hk
 ·rename_i s hpr hps
  simp only [RepT] at hv
  obtain⟨src,s',hv0,hsrc,hres,hcell,hsub⟩:=hv
  unfold subV at hsub
  obtain⟨rfl,_⟩:=hsub
  rw [hps] at hres
  rw [hpr] at hsrc
  obtain rfl:src=s':=by simpa [res] using hres
  obtain rfl:Sr.val (G.tv s)=src:=by simpa [Ar.rho] using hsrc
  split at hk
  ·rename_i z' xs hg
   have ht:=getD_some hg (by simp)
   cases hb:(z' == z && Nat.beq p.o 0) with
   | false=>rw [hb] at hk;exact hk.elim
   | true =>
    rw [hb] at hk
    simp only [cond_true] at hk
    simp only [Bool.and_eq_true,beq_iff_eq] at hb
    obtain⟨rfl,hb2⟩:=hb
    have ho:p.o=0:=Nat.eq_of_beq_eq_true hb2
    rw [ho] at hcell
    simp only [Sr.cell,if_true,Option.some.injEq] at hcell
    subst hcell
    have hr:=h.tm s _ ht
    rw [h.tv s .own z' xs ht] at hr
    refine ⟨xs,_,{ G with ow:=give G.ow (fun b=>G.ow b=.tm s) .no,Sh:=G.Sh },(fun b=>G.ow b=.tm s),hk (G.tv s),h.turn s _ (.cv (0,0) (G.tv s)) (fun b=>G.ow b=.tm s) G.Sh ht (fun _ hb=>hb) (fun _ hb=>hb) (fun _ hb=>.inl hb) ?_ (fun e=>by cases e),hr,?_,?_,fun b hb=>by (show G.ow b≠.no;rw [show G.ow b=_ from hb];simp)⟩
    ·simp only [RepT]
     exact ⟨h.tv s .own z' xs ht,by rw [h.tv s .own z' xs ht];exact RepC.one hr⟩
    ·intro b hb
     have:=h.ob b (by rw [hb];simp)
     exact ⟨give_yes (T:=fun b=>G.ow b=.tm s) hb,this.1,this.2⟩
    ·refine ⟨rfl,rfl,fun b hb=>?_,fun _ hh=>hh,fun _ hh=>.inl hh⟩
     show give G.ow (fun b=>G.ow b=.tm s) .no b=.no
     by_cases e:G.ow b=.tm s
     ·rw [hb] at e;cases e
     ·rw [give_no (T:=fun b=>G.ow b=.tm s) e,hb]
  ·exact hk.elim
 ·rename_i g hpr hps
  split at hk
  ·rename_i hv' hgx
   have hgl:=hfit.gx g hv' hgx
   simp only [RepT] at hv
   obtain⟨src,s',hv0,hsrc,hres,hcell,hsub⟩:=hv
   unfold subV at hsub
   obtain⟨rfl,_⟩:=hsub
   rw [hps] at hres
   rw [hpr] at hsrc
   obtain rfl:src=s':=by simpa [res] using hres
   simp only [Ar.rho,hgl] at hsrc
   injection hsrc with hsrc
   subst hsrc
   split at hk
   ·rename_i z' xs hg
    cases hb:((z' == z && Nat.beq p.o 0) && E.own) with
    | false=>rw [hb] at hk;exact hk.elim
    | true =>
     rw [hb] at hk
     simp only [cond_true] at hk
     simp only [Bool.and_eq_true,beq_iff_eq] at hb
     obtain⟨⟨rfl,hb2⟩,hown⟩:=hb
     have ho:p.o=0:=Nat.eq_of_beq_eq_true hb2
     rw [ho] at hcell
     simp only [Sr.cell,if_true,Option.some.injEq] at hcell
     subst hcell
     have hgm:=hfit.gm
     rw [hown] at hgm
     simp only [cond_true] at hgm
     have hgb:=(h.gb g _ (getD_nil_some (by rw [hg];simp))).resolve_left (by rw [hg];simp)
     rw [hg] at hgb
     unfold GOkN at hgb
     rw [hgm,hgl] at hgb
     obtain⟨_,f,z,ys,e1,hr⟩:=hgb
     injection e1 with e1 _
     injection e1 with e1 e2 e3
     subst e1 e2 e3
     have hrel:=h.turnG g [] (fun b=>G.ow b=.gc g) (fun _=>False) (fun _ hb=>hb) (fun _ hb=>hb.elim) (.inl rfl)
     refine ⟨xs,_,_,(fun b=>G.ow b=.gc g),hk,hrel,hr,?_,?_,fun b hb=>by (show G.ow b≠.no;rw [show G.ow b=_ from hb];simp)⟩
     ·intro b hb
      have:=h.ob b (by rw [hb];simp)
      exact ⟨by (show give (give G.ow (fun b=>G.ow b=.gc g) .no) (fun _=>False) (.gc g) b=_;rw [give_no (fun hh=>hh)];exact give_yes (T:=fun b=>G.ow b=.gc g) hb),this.1,this.2⟩
     ·refine ⟨rfl,rfl,fun b hb=>?_,fun _ hh=>hh,fun _ hh=>.inl hh⟩
      show give (give G.ow (fun b=>G.ow b=.gc g) .no) (fun _=>False) (.gc g) b=.no
      rw [give_no (fun hh=>hh)]
      by_cases e:G.ow b=.gc g
      ·rw [hb] at e;cases e
      ·rw [give_no (T:=fun b=>G.ow b=.gc g) e,hb]
   ·exact hk.elim
  ·exact takeHG_sound h hfit (fun t e=>by rw [hpr] at e;cases e) hv hk
 ·rename_i hnot _
  exact takeHG_sound h hfit (fun t ht e=>hnot t ht e) hv hk
/-- What is filled stays free for nobody else. -/
structure Filled (G G':Gh) (T:Nat→Prop):Prop where
 no:∀b,¬T b→G.ow b=.no→G'.ow b=.no
 sh:G'.Sh=G.Sh
theorem put_same{a:Act}{s:Nat}{u:Value}(h:a.tmps.getD s undef=u)(hs:s<a.tmps.size):a.put (some s) u=a:=by
 obtain⟨t,d⟩:=a
 have e:t.setIfInBounds s u=t:=by
  apply Array.ext
  ·simp
  ·intro i h1 h2
   rw [Array.getElem_setIfInBounds (by simpa using h2)]
   split
   ·rename_i e
    subst e
    rw [←h]
    simp [Array.getD_eq_getD_getElem?,h2]
   ·rfl
 show Act.put _ _ _=_
 simp only [Act.put,e]
theorem Rel.putF(h:Rel c st a w G)(s:Nat)(v:V)(u:Value)(T:Nat→Prop)(hv:RepT w G.Sh (Ar.rho c G) v u T)(hf:Free c w G T)(hs:isSl v=true):∃G',Rel c (pu st (some s) v) (a.put (some s) u) w G'∧Filled G G' T:=by
 obtain⟨G',k1,k2,k3⟩:=h.putX (some s) v u T hv (fun _ _ _=>trivial) (fun b hb=>(hf b hb).1) (fun b hb=>(hf b hb).2) (fun d _ hs=>by cases v <;> simp [isSl] at hs;rfl)
 exact ⟨G',k1,k2,k3⟩
theorem fillHG_sound(h:Rel c st a w G)(hfit:Fit E c){p:Pl}{z:Nat}{hv:Value}{xs:List (List V)}{T:Nat→Prop}{K:St→Prop}
  (hps:∀t,p.r=.tp t→p.ps≠[]) (hr:RepC w G.Sh .own (.sl .own z xs) hv T) (hf:Free c w G T) (hk:fillHG E st p z hv xs K) :
  ∃ (st':St) (G':Gh),K st'∧Rel c st' a w G'∧Filled G G' T:=by
 unfold fillHG at hk
 cases hw:wrOk E p.r p.ps with
 | false=>rw [hw] at hk;exact hk.elim
 | true =>
  rw [hw] at hk
  simp only [cond_true] at hk
  obtain⟨src',hsrc',row1,b',o',T',K',g1,g2,g3,g4,g5,g6,g7,g8,g9,H⟩:=h.upd hfit hw hps hk
  unfold fillHF at g8
  split at g8
  ·rename_i k u hg
   obtain⟨rfl,g8⟩:=g8
   obtain⟨v1,T1,T2,k1,k2,k3,k4,k5⟩:=RepRow.focus row1 o' T' p.o _ g2 (getD_some hg (by simp))
   simp only [RepC] at k2
   obtain⟨rfl,_⟩:=k2
   have hTT:∀b,T b→¬T' b:=fun b hb hh=>csl_no p.r (by rw [←g3 b hh,(hf b hb).1])
   have hr2:=k5 w G.Sh (.sl .own z xs) v1 T (fun _ _=>rfl) (fun _ _=>rfl) (fun _ _ _=>rfl) (fun _ hh=>hh) (fun _ _ hh=>hh) (fun b hb hh=>hTT b hb (k4 b hh)) k1 hr
   obtain⟨row',q1,q2⟩:=H _ _ w G.Sh (fun b=>T b∨T2 b) st.t g8 (by simp) (Upd.refl w b' o' row1.length) rfl rfl rfl rfl (fun _ hh=>hh) (fun _ hh=>.inl hh) (fun b hb=>hb.elim (fun hb=>.inr (hf b hb)) (fun hb=>.inl (k4 b hb))) hr2
    rfl (fun s v hs _=>h.tm s v hs) (fun s v hs _=>hs)
   refine ⟨_,_,q1,q2,⟨fun b hb hn=>?_,rfl⟩⟩
   have hn':¬T' b:=fun hh=>csl_no p.r (by rw [←g3 b hh,hn])
   show give (give G.ow (fun x=>T' x∧¬ (T x∨T2 x)) .no) (fun b=>T b∨T2 b) (csl p.r) b=.no
   rw [give_no (fun hh=>hh.elim hb (fun hh=>hn' (k4 b hh))),give_no (fun hh=>hn' hh.1),hn]
  ·exact g8.elim
theorem fillH_sound(h:Rel c st a w G)(hfit:Fit E c){p:Pl}{z:Nat}{hv:Value}{xs:List (List V)}{T:Nat→Prop}{K:St→Prop}
  (hr:RepC w G.Sh .own (.sl .own z xs) hv T) (hf:Free c w G T) (hk:fillH E st p z hv xs K) :
  ∃ (st':St) (G':Gh),K st'∧Rel c st' a w G'∧Filled G G' T:=by
 unfold fillH at hk
 split at hk
 ·rename_i s hpr hps
  split at hk
  ·rename_i k u hg
   obtain⟨rfl,hk⟩:=hk
   have ht:=getD_some hg (by simp)
   have hu:=h.tm s _ ht
   simp only [RepT] at hu
   have hs:s<a.tmps.size:=by rw [h.tl];exact (List.getElem?_eq_some_iff.1 ht).1
   obtain⟨G',hG,hF⟩:=h.putF s (.sl .own z xs) u T hr hf rfl
   rw [put_same hu.1 hs] at hG
   exact ⟨_,G',hk,hG,hF⟩
  ·exact hk.elim
 ·rename_i g hpr hps
  split at hk
  ·rename_i u hgx
   obtain⟨rfl,hown,hk⟩:=hk
   have hgl:=hfit.gx g u hgx
   have hgm:=hfit.gm
   rw [hown] at hgm
   simp only [cond_true] at hgm
   have hrel:=h.turnG g [.sl .own z xs] (fun _=>False) T (fun _ hb=>hb.elim) hf (.inr (by
    unfold GOkN
    rw [hgm,hgl]
    exact ⟨trivial,_,_,_,rfl,RepC.mono _ _ _ _ (fun b hb=>give_yes hb) hr⟩))
   refine ⟨_,_,hk,hrel,⟨fun b hb hn=>?_,rfl⟩⟩
   show give _ _ _ b=_
   rw [give_no hb,give_no (fun hh=>hh),hn]
  ·exact fillHG_sound h hfit (fun t e=>by rw [hpr] at e;cases e) hr hf hk
 ·rename_i hnot _
  exact fillHG_sound h hfit (fun t ht e=>hnot t ht e) hr hf hk
end
/-! ### Contracts of functions that write into what they are handed -/
def toG(ow:Nat→Slot):Nat→Slot:=fun b=>match ow b with | .tm t=>.gc t | _=>.no
def allSl:List V→Bool
 | []=>true
 | .sl .own _ _::vs=>allSl vs
 | _=>false
def PostM(w:World)(Sh H:Nat→Prop)(r:V)(vals:List Value)(gs:List V):Ending→World→Prop:=fun e w' =>
 ∃ (v:Value) (Sh' T:Nat→Prop),e=.returned v∧RepT w' (fun _=>False) (fun _=>none) r v (fun _=>False) ∧
  (∀S:Nat→Prop,(∀b,S b→Sh' b)→RepTs w' S (fun _=>none) gs vals T)∧PostW w w' Sh H Sh' T
/-- Results that hang on no memory. -/
def scalT:V→Bool
 | .tu []=>true
 | v=>scal v
theorem scalT_or{v:V}(h:scalT v=true):v=.tu []∨scal v=true:=by
 cases v with
 | tu cs =>
  cases cs with
  | nil=>exact .inl rfl
  | cons _ _=>exact .inr h
 | _=>exact .inr h
/-- Function f, called with args, where root n is the slice with header vals n and content gs n: returns r, and the roots' contents are gs' behind it. -/
def RetM(P:Program)(f:Nat)(vals:List Value)(args:List V)(gs:List V)(r:V)(gs':List V):Prop :=
 (∃ fn, P.funcs[f]? = some fn ∧ fn.body.isNone = false ∧ (fn.name == "runtime.NumGoroutine") = false) ∧ scalT r = true ∧ OwnVs gs ∧ allSl gs' = true ∧
 ∀ (w:World) (Sh H:Nat→Prop) (us:List Value),(∀b,Sh b→b<w.heap.size)→(∀b,H b→b<w.heap.size)→RepTs w Sh (rg (vals.map Sr.val)) args us (fun _=>False)→RepTs w Sh (fun _=>none) gs vals H →
  Calls P f us.toArray w (PostM w Sh H r vals gs')
def CallMF(P:Program)(f:Nat)(vals:List Value)(args:List V)(gs:List V)(K:V→List V→Prop):Prop := ∃r gs',RetM P f vals args gs r gs'∧K r gs'
noncomputable def CallMK:Program→Nat→List Value→List V→List V→(V→List V→Prop)→Prop:=Classical.choose (kp CallMF)
theorem CallMK_eq:CallMK=CallMF:=Classical.choose_spec (kp CallMF)
theorem CallMK.intro{P:Program}{f:Nat}{vals:List Value}{args gs:List V}{K:V→List V→Prop}{r:V}{gs':List V}(h:RetM P f vals args gs r gs')(hk:K r gs'):CallMK P f vals args gs K:=by
 rw [CallMK_eq];exact ⟨r,gs',h,hk⟩
/-! Several places -/
noncomputable def takeHs(E:Env):St→Nat→List V→(List V→List (Pl × Nat × Value)→List V→St→Prop)→Prop
 | st,_,[],K=>K [] [] [] st
 | st,n,c::cs,K =>
  match c with
  | .rf p z none=>takeH E st p z fun hv xs st'=>takeHs E st' (n+1) cs fun cs' hs gs st''=>K (.cv (n,z) hv::cs') ((p,z,hv)::hs) (.sl .own z xs::gs) st''
  | .cv (k,z) u=>(match E.gx k with
   | some u'=>u'=u∧takeH E st ⟨.gl k,[],0⟩ z fun hv xs st'=>takeHs E st' (n+1) cs fun cs' hs gs st''=>K (.cv (n,z) hv::cs') ((⟨.gl k,[],0⟩,z,hv)::hs) (.sl .own z xs::gs) st''
   | none=>False)
  | .b x=>takeHs E st n cs fun cs' hs gs st'=>K (.b x::cs') hs gs st'
  | .i k x=>takeHs E st n cs fun cs' hs gs st'=>K (.i k x::cs') hs gs st'
  | .s x=>takeHs E st n cs fun cs' hs gs st'=>K (.s x::cs') hs gs st'
  | _=>False
noncomputable def fillHs(E:Env):St→List (Pl × Nat × Value)→List V→(St→Prop)→Prop
 | st,[],[],K=>K st
 | st,(p,z,hv)::hs,.sl .own z' xs::gs,K=>bif z' == z then fillH E st p z hv xs fun st'=>fillHs E st' hs gs K else False
 | _,_,_,_=>False
section
variable {E:Env} {c:Cx} {w:World} {a:Act}
def flatV:V→Bool
 | .b _=>true | .i _ _=>true | .s _=>true | .rf _ _ _=>true | .cv _ _=>true
 | _=>false
def flatVs:List V→Bool
 | []=>true
 | c::cs=>flatV c && flatVs cs
theorem flatV_rep{Sh:Nat→Prop}{ρ:Rt→Option Sr}{v:V}{u:Value}{T T':Nat→Prop}(hf:flatV v=true)(h:RepT w Sh ρ v u T):RepT w Sh ρ v u T':=by
 cases v with
 | b _=>exact h
 | i _ _=>exact h
 | s _=>exact h
 | cv _ _=>exact h
 | rf _ _ _=>simp only [RepT] at h ⊢;exact h
 | _=>cases hf
theorem flatVs_rep{Sh:Nat→Prop}{ρ:Rt→Option Sr}:∀ (vs:List V) (us:List Value) (T:Nat→Prop),flatVs vs=true→RepTs w Sh ρ vs us T→RepTs w Sh ρ vs us (fun _=>False)
 | [],[],_,_,_=>by simp only [RepTs]
 | v::vs,u::us,T,hf,h=>by
  simp only [flatVs,Bool.and_eq_true] at hf
  simp only [RepTs] at h ⊢
  obtain⟨T1,T2,h1,h2,_,_⟩:=h
  exact ⟨fun _=>False,fun _=>False,flatV_rep hf.1 h1,flatVs_rep vs us T2 hf.2 h2,fun _ hh=>hh.elim,fun _ hh=>hh⟩
 | [],_::_,_,_,h=>by simp only [RepTs] at h
 | _::_,[],_,_,h=>by simp only [RepTs] at h
/-- The pieces of an argument, seen by a function that is called: headers of the roots, or plain values. -/
def Known(cs:List V)(us:List Value):Prop := ∀ (w':World) (S:Nat→Prop) (ρ:Rt→Option Sr),RepTs w' S ρ cs us (fun _=>False)
theorem Known.nil:Known [] []:=fun _ _ _=>by simp only [RepTs]
theorem Known.cons{v:V}{u:Value}{cs:List V}{us:List Value}(h:∀ (w':World) (S:Nat→Prop) (ρ:Rt→Option Sr),RepT w' S ρ v u (fun _=>False))(hk:Known cs us):Known (v::cs) (u::us):=fun w' S ρ=>by
 simp only [RepTs]
 exact ⟨fun _=>False,fun _=>False,h w' S ρ,hk w' S ρ,fun _ hh=>hh.elim,fun _ hh=>hh⟩
/-- What the places held, out of the state. -/
structure Took (c:Cx) (w:World) (a:Act) (G G':Gh) (st':St) (gs:List V) (vals:List Value) (T:Nat→Prop):Prop where
 rel:Rel c st' a w G'
 rep:RepTs w G'.Sh (fun _=>none) gs vals T
 free:Free c w G' T
 later:Later w G G'
 old:∀b,T b→G.ow b≠.no
theorem Took.cons{G G1 G2:Gh}{st2:St}{z:Nat}{xs:List (List V)}{v:Value}{T1 T2:Nat→Prop}{gs:List V}{vals:List Value}(k3:RepC w G1.Sh .own (.sl .own z xs) v T1)(k4:Free c w G1 T1)(k5:Later w G G1)(k6:∀b,T1 b→G.ow b≠.no)
  (h:Took c w a G1 G2 st2 gs vals T2):Took c w a G G2 st2 (.sl .own z xs::gs) (v::vals) (fun b=>T1 b∨T2 b):=by
 refine ⟨h.rel,?_,fun b hb=>hb.elim (fun hb=>h.later.free k4 b hb) (h.free b),k5.trans h.later,fun b hb=>hb.elim (k6 b) (fun hb e=>h.old b hb (k5.no b e))⟩
 simp only [RepTs]
 refine ⟨T1,T2,?_,h.rep,fun b hb=>⟨.inl hb,fun hh=>h.old b hh (k4 b hb).1⟩,fun b hb=>.inr hb⟩
 exact RepT.noρ (ρ:=Ar.rho c G2) (.sl .own z xs) v T1 rfl (h.later.repT (c:=c) (v:=.sl .own z xs) (fun b hb=>(k4 b hb).1) k3)
theorem takeHs_sound(hfit:Fit E c):∀ (cs:List V) (us:List Value) (st:St) (G:Gh) (n:Nat) (K:List V→List (Pl × Nat × Value)→List V→St→Prop),Rel c st a w G→RepTs w G.Sh (Ar.rho c G) cs us (fun _=>False)→takeHs E st n cs K →
  ∃ (cs':List V) (hs:List (Pl × Nat × Value)) (gs:List V) (st':St) (G':Gh) (T:Nat→Prop),K cs' hs gs st'∧Known cs' us∧Took c w a G G' st' gs (hs.map fun x=>x.2.2) T
 | [],us,st,G,n,K,h,hr,hk=>by
  cases us with
  | nil=>exact ⟨[],[],[],st,G,fun _=>False,hk,Known.nil,h,by simp only [List.map_nil,RepTs],fun b hb=>hb.elim,Later.refl w G,fun b hb=>hb.elim⟩
  | cons _ _=>simp only [RepTs] at hr
 | cl::cs,us,st,G,n,K,h,hr,hk=>by
  cases us with
  | nil=>simp only [RepTs] at hr
  | cons u us =>
   simp only [RepTs] at hr
   obtain⟨T1,T2,r1,r2,d1,d2⟩:=hr
   have r2':RepTs w G.Sh (Ar.rho c G) cs us (fun _=>False):=RepTs.mono _ _ _ _ d2 r2
   have step:∀ (p:Pl) (z:Nat),RepT w G.Sh (Ar.rho c G) (.rf p z none) u T1→(takeH E st p z fun hv xs st'=>takeHs E st' (n+1) cs fun cs' hs gs st''=>K (.cv (n,z) hv::cs') ((p,z,hv)::hs) (.sl .own z xs::gs) st'') →
     ∃ (cs':List V) (hs:List (Pl × Nat × Value)) (gs:List V) (st':St) (G':Gh) (T:Nat→Prop),K cs' hs gs st'∧Known cs' (u::us)∧Took c w a G G' st' gs (hs.map fun x=>x.2.2) T:=by
    intro p z hrf hk
    obtain⟨xs,st1,G1,Ta,k1,k2,k3,k4,k5,k6⟩:=takeH_sound h hfit hrf hk
    obtain⟨cs',hs,gs,st2,G2,Tb,q1,q2,q3⟩:=takeHs_sound hfit cs us st1 G1 (n+1) _ k2 (k5.repTs (fun _ hb=>hb.elim) r2') k1
    exact ⟨_,_,_,st2,G2,_,q1,Known.cons (fun w' S ρ=>show RepT w' S ρ (.cv (n,z) u) u _ from ⟨rfl,RepC.one k3⟩) q2,q3.cons k3 k4 k5 k6⟩
   have easy:∀ (v:V),(∀ (w':World) (S:Nat→Prop) (ρ:Rt→Option Sr),RepT w' S ρ v u (fun _=>False))→(takeHs E st n cs fun cs' hs gs st'=>K (v::cs') hs gs st') →
     ∃ (cs':List V) (hs:List (Pl × Nat × Value)) (gs:List V) (st':St) (G':Gh) (T:Nat→Prop),K cs' hs gs st'∧Known cs' (u::us)∧Took c w a G G' st' gs (hs.map fun x=>x.2.2) T:=by
    intro v hv hk
    obtain⟨cs',hs,gs,st2,G2,Tb,q1,q2,q3⟩:=takeHs_sound hfit cs us st G n _ h r2' hk
    exact ⟨_,_,_,st2,G2,_,q1,Known.cons hv q2,q3⟩
   unfold takeHs at hk
   split at hk
   ·exact step _ _ r1 hk
   ·rename_i k z u0
    split at hk
    ·rename_i u' hgx
     obtain⟨rfl,hk⟩:=hk
     simp only [RepT] at r1
     obtain⟨rfl,hone⟩:=r1
     have hsl:∃x n c,u=.slice x n c:=by
      unfold takeH at hk
      simp only [hgx] at hk
      split at hk
      ·rename_i z' xs hg
       have hgl:=hfit.gx k u hgx
       have hgb:=(h.gb k _ (getD_nil_some (by rw [hg];simp))).resolve_left (by rw [hg];simp)
       cases hb:((z' == z && Nat.beq (0:Nat) 0) && E.own) with
       | false=>rw [hb] at hk;exact hk.elim
       | true =>
        simp only [Bool.and_eq_true] at hb
        have hgm:=hfit.gm
        rw [hb.2] at hgm
        simp only [cond_true] at hgm
        rw [hg] at hgb
        unfold GOkN at hgb
        rw [hgm,hgl] at hgb
        obtain⟨_,f,z2,ys,e1,hr⟩:=hgb
        simp only [RepC] at hr
        rcases hr with hr | ⟨b,o,cc,hr,_⟩
        ·exact ⟨_,_,_,hr.1.choose_spec⟩
        ·exact ⟨_,_,_,hr⟩
      ·exact hk.elim
     refine step ⟨.gl k,[],0⟩ z ?_ hk
     simp only [RepT]
     exact ⟨.val u,.val u,u,by simp only [Ar.rho];rw [hfit.gx k u hgx],rfl,rfl,rfl,hsl⟩
    ·exact hk.elim
   ·exact easy _ (fun _ _ _=>by simp only [RepT] at r1 ⊢;exact r1) hk
   ·exact easy _ (fun _ _ _=>by simp only [RepT] at r1 ⊢;exact r1) hk
   ·exact easy _ (fun _ _ _=>by simp only [RepT] at r1 ⊢;exact r1) hk
   ·exact hk.elim
theorem fillHs_sound(hfit:Fit E c):∀ (hs:List (Pl × Nat × Value)) (gs:List V) (st:St) (G:Gh) (T:Nat→Prop) (K:St→Prop),Rel c st a w G→RepTs w G.Sh (fun _=>none) gs (hs.map fun x=>x.2.2) T→Free c w G T→fillHs E st hs gs K →
  ∃ (st':St) (G':Gh),K st'∧Rel c st' a w G'
 | [],[],st,G,T,K,h,hr,hf,hk=>⟨st,G,hk,h⟩
 | [],_::_,st,G,T,K,h,hr,hf,hk=>by simp only [fillHs] at hk
 | (p,z,hv)::hs,[],st,G,T,K,h,hr,hf,hk=>by simp only [fillHs] at hk
 | (p,z,hv)::hs,.sl .own z' xs::gs,st,G,T,K,h,hr,hf,hk=>by
  unfold fillHs at hk
  cases hb:(z' == z) with
  | false=>rw [hb] at hk;exact hk.elim
  | true =>
   rw [hb] at hk
   simp only [cond_true] at hk
   obtain rfl:z'=z:=by simpa using hb
   simp only [List.map_cons,RepTs] at hr
   obtain⟨T1,T2,r1,r2,d1,d2⟩:=hr
   obtain⟨st1,G1,q1,q2,q3⟩:=fillH_sound h hfit r1 (fun b hb=>hf b (d1 b hb).1) hk
   refine fillHs_sound hfit hs gs st1 G1 T2 K q2 ?_ (fun b hb=>⟨q3.no b (fun hh=>(d1 b hh).2 hb) (hf b (d2 b hb)).1,(hf b (d2 b hb)).2⟩) q1
   rw [q3.sh]
   exact r2
 | (p,z,hv)::hs,.b _::gs,st,G,T,K,h,hr,hf,hk | (p,z,hv)::hs,.i _ _::gs,st,G,T,K,h,hr,hf,hk | (p,z,hv)::hs,.s _::gs,st,G,T,K,h,hr,hf,hk
 | (p,z,hv)::hs,.nil::gs,st,G,T,K,h,hr,hf,hk | (p,z,hv)::hs,.ag _::gs,st,G,T,K,h,hr,hf,hk | (p,z,hv)::hs,.tu _::gs,st,G,T,K,h,hr,hf,hk
 | (p,z,hv)::hs,.rf _ _ _::gs,st,G,T,K,h,hr,hf,hk | (p,z,hv)::hs,.pt _::gs,st,G,T,K,h,hr,hf,hk | (p,z,hv)::hs,.fn _ _::gs,st,G,T,K,h,hr,hf,hk
 | (p,z,hv)::hs,.cv _ _::gs,st,G,T,K,h,hr,hf,hk | (p,z,hv)::hs,.un::gs,st,G,T,K,h,hr,hf,hk
 | (p,z,hv)::hs,.sl .lent _ _::gs,st,G,T,K,h,hr,hf,hk | (p,z,hv)::hs,.sl .shr _ _::gs,st,G,T,K,h,hr,hf,hk=>by simp only [fillHs] at hk
end
end Go.Ar
