import Derived.Test.YthhcbcokjlpahaaGreatArE
import Derived.Laws.MakeOwn
import Derived.Laws.BytesString
import Derived.Laws.Strings
import Derived.Laws.Slices
namespace Go.Ar
set_option linter.unusedVariables false
set_option linter.unusedSimpArgs false
section ops
variable {E:Env} {c:Cx} {o:Oper}
/-! ### The one-place operations -/
noncomputable def unA(st:St)(op:UnOp)(x:V)(K:V→Prop):Prop :=
 match op,x with
 | .not,.b b=>K (.b (!b))
 | .neg,.i k n=>K (.i k (iop .sub k 0 n))
 | _,_=>False
theorem unOp_sound{op:UnOp}{t:Nat}{x:Operand}(ho:o.op=.unOp op t x):OpQ E c o fun st K=>unA st op (ev st x) K:=by
 intro st a w G K N Q h hk hN
 obtain⟨Tx,hx⟩:=h.ev x
 unfold unA at hk
 split at hk
 ·rename_i b hg
  rw [hg] at hx
  have hx:a.eval x=.bool b:=hx
  have hG:=h.rep0 (v:=.b (!b)) (u:=.bool (!b)) rfl
  exact wp_value (v:=.bool (!b)) (w':=w) (by simp [execOp,ho,hx,Op.unary]) (hN _ _ _ _ hk (RowKit.Below.refl _ _) hG noneT)
 ·rename_i k n hg
  rw [hg] at hx
  have hx:a.eval x=.int k n:=hx
  rw [iop_eq] at hk
  have hG:=h.rep0 (v:=.i k (iopF .sub k 0 n)) (u:=.int k (iopF .sub k 0 n)) rfl
  exact wp_value (v:=.int k (iopF .sub k 0 n)) (w':=w) (by simp [execOp,ho,hx,Op.unary,Op.intArith,iopF]) (hN _ _ _ _ hk (RowKit.Below.refl _ _) hG noneT)
 ·exact hk.elim
/-! ### A string's byte -/
noncomputable def sixA(E:Env)(st:St)(t:Nat)(x ix:V)(K:V→Prop):Prop :=
 match (E.ti t).k,x,ix with
 | .str,.s l,.i _ i=>InR i (slen l)∧K (.i .u8 (sget l i))
 | _,_,_=>False
theorem index_sound(hE:EnvOk E){t:Nat}{x ix:Operand}(ho:o.op=.index t x ix):OpQ E c o fun st K=>sixA E st t (ev st x) (ev st ix) K:=by
 intro st a w G K N Q h hk hN
 obtain⟨Tx,hx⟩:=h.ev x
 obtain⟨Ti,hi⟩:=h.ev ix
 unfold sixA at hk
 split at hk
 ·rename_i l k i hks hg1 hg2
  rw [hg1] at hx
  rw [hg2] at hi
  have hx:a.eval x=.string ⟨l.toArray⟩:=hx
  have hi:a.eval ix=.int k i:=hi
  have hu:=(hE t (by rw [hks];rfl)).und
  rw [hks] at hu
  have hu:E.P.underlying t=some .string:=hu
  obtain⟨h1,h2⟩:=hk
  rw [InR_eq,slen_eq] at h1
  rw [sget_eq] at h2
  have hj:i.toNat<l.length:=by omega
  have hget:(⟨l.toArray⟩:ByteArray)[i.toNat]?=some (l.getD i.toNat 0):=by
   show (⟨l.toArray⟩:ByteArray)[i.toNat]?=_
   have hs:i.toNat<(⟨l.toArray⟩:ByteArray).size:=by show _<l.toArray.size;simpa using hj
   rw [getElem?_pos (⟨l.toArray⟩:ByteArray) i.toNat hs]
   show some (l.toArray[i.toNat]'_)=_
   simp [List.getD_eq_getElem?_getD,hj]
  have hG:=h.rep0 (v:=.i .u8 ((l.getD i.toNat 0).toNat:Int)) (u:=.int .u8 ((l.getD i.toNat 0).toNat:Int)) rfl
  refine wp_value (v:=.int .u8 ((l.getD i.toNat 0).toNat:Int)) (w':=w) ?_ (hN _ _ _ _ h2 (RowKit.Below.refl _ _) hG noneT)
  simp [execOp,ho,hx,hi,Instr.index,asIntOf,run_underlying hu,h1.1,hget]
 ·exact hk.elim
/-! ### An element's place -/
noncomputable def idx(u:Option (Int × Int))(i:Int):Int :=
 match u with
 | none=>i
 | some (lo,_)=>plus lo i
noncomputable def lok(u:Option (Int × Int))(K:Prop):Prop :=
 match u with
 | none=>K
 | some (lo,_)=>icmp .geq lo 0=true∧K
theorem res_app{w:World}{q:Nat × Int × Nat}:∀ (ps:List (Nat × Int × Nat)) (s s':Sr),res w s ps=some s'→res w s (ps++[q])=stepS w s' q
 | [],s,s',h=>by
  obtain rfl:s=s':=by simpa [res] using h
  simp only [List.nil_append,res]
  cases stepS w s q <;> rfl
 | p::ps,s,s',h=>by
  simp only [res,List.cons_append] at h ⊢
  cases hq:stepS w s p with
  | none=>rw [hq] at h;cases h
  | some s1 =>
   rw [hq] at h
   simp only [Option.bind_some] at h ⊢
   exact res_app ps s1 s' h
noncomputable def ixA(E:Env)(st:St)(t:Nat)(x:Operand)(ix:V)(K:V→Prop):Prop :=
 match (E.ti t).k,ix with
 | .slice e,.i _ i =>
  bif kn (E.ti e).k then
  (match x with
  | .tmp s =>
   (match st.t.getD s .un with
   | .sl _ z xs=>bif z == (E.ti e).sz then InR i (llen xs)∧K (.pt ⟨.tp s,[(0,i,z)],0⟩) else False
   | .rf p z u=>bif z == (E.ti e).sz then dfA E st p z u (fun xs=>lok u (InR i (llen xs)∧K (.pt ⟨p.r,p.ps++[(p.o,idx u i,z)],0⟩))) else False
   | _=>False)
  | _=>False) else False
 | _,_=>False
theorem indexAddr_sound(hE:EnvOk E)(hfit:Fit E c){t:Nat}{x ix:Operand}(ho:o.op=.indexAddr t x ix):OpQ E c o fun st K=>ixA E st t x (ev st ix) K:=by
 intro st a w G K N Q h hk hN
 obtain⟨Ti,hi⟩:=h.ev ix
 unfold ixA at hk
 split at hk
 ·rename_i e k i hks hg
  rw [hg] at hi
  have hi:a.eval ix=.int k i:=hi
  have hu:=(hE t (by rw [hks];rfl)).und
  rw [hks] at hu
  have hu:E.P.underlying t=some (.slice e):=hu
  cases hke:kn (E.ti e).k with
  | false=>rw [hke] at hk;exact hk.elim
  | true =>
   rw [hke] at hk
   simp only [cond_true] at hk
   obtain⟨xi,zz,i1,i2,_⟩:=(hE e hke).info
   have fin:∀ (p:Pl) (b o' n cc:Nat) (vv:V),a.eval x=.slice (some ⟨b,o',none⟩) n cc→0≤i→i<n →
     RepT w G.Sh (Ar.rho c G) vv (.pointer (some ⟨b,o' + i.toNat*(E.ti e).sz,none⟩)) (fun _=>False)→K vv→o.wp E.P a w N Q:=by
    intro p b o' n cc vv hx h1 h2 h3 h4
    have hG:=h.rep0 h3
    refine wp_value (v:=.pointer (some ⟨b,o' + i.toNat*(E.ti e).sz,none⟩)) (w':=w) ?_ (hN _ _ _ _ h4 (RowKit.Below.refl _ _) hG noneT)
    simp [execOp,ho,hx,hi,Instr.indexAt,asIntOf,run_underlying hu,h1,h2,sizeOf,typeInfo,i1,i2,Addr.add_lit]
   split at hk
   ·rename_i s
    have ht:=h.tmp s
    split at hk
    ·rename_i f z xs hgs
     rw [hgs] at ht
     cases hz:(z == (E.ti e).sz) with
     | false=>rw [hz] at hk;exact hk.elim
     | true =>
      rw [hz] at hk
      obtain rfl:z=(E.ti e).sz:=by simpa using hz
      obtain⟨h1,h2⟩:=hk
      rw [InR_eq,llen_eq] at h1
      have hC:RepC w G.Sh .own (.sl f (E.ti e).sz xs) (a.tmps.getD s undef) _:=ht
      have htv:=h.tv s f _ xs (getD_some hgs (by simp))
      rcases hC.hdr with ⟨_,rfl⟩ | ⟨b,o',cc,hv,q1,q2,_⟩
      ·simp at h1;omega
      ·refine fin ⟨.tp s,[(0,i,(E.ti e).sz)],0⟩ b o' xs.length cc _ hv h1.1 h1.2 ?_ h2
       simp only [RepT]
       refine ⟨.val (G.tv s),b,o' + i.toNat*(E.ti e).sz,rfl,?_,by rw [Nat.add_zero]⟩
       rw [hv] at htv
       simp [res,stepS,Sr.cell,←htv]
    ·rename_i p z u hgs
     rw [hgs] at ht
     cases hz:(z == (E.ti e).sz) with
     | false=>rw [hz] at hk;exact hk.elim
     | true =>
      rw [hz] at hk
      obtain rfl:z=(E.ti e).sz:=by simpa using hz
      simp only [cond_true] at hk
      obtain⟨md,f,xs,T,k1,k2,hTB⟩:=dfA_sound h hfit ht hk
      simp only [RepT] at ht
      obtain⟨src,s',hv0,hsrc,hres,hcell,hsub⟩:=ht
      cases u with
      | none =>
       obtain⟨h1,h2⟩:=k1
       rw [InR_eq,llen_eq] at h1
       rcases k2.hdr with ⟨_,rfl⟩ | ⟨b,o',cc,hv,q1,q2,_⟩
       ·simp at h1;omega
       ·refine fin p b o' xs.length cc _ hv h1.1 h1.2 ?_ h2
        simp only [RepT]
        refine ⟨src,b,o' + i.toNat*(E.ti e).sz,hsrc,?_,by rw [Nat.add_zero]⟩
        rw [res_app _ _ _ hres]
        obtain⟨e0,_⟩:=hsub
        rw [←e0,hv] at hcell
        simp [stepS,hcell,idx]
      | some lh =>
       obtain⟨lo,hi'⟩:=lh
       obtain⟨h0,h1,h2⟩:=k1
       rw [InR_eq,llen_eq] at h1
       rw [icmp_eq] at h0
       have h0:0≤lo:=by simpa [icmpF] using h0
       rcases hsub with ⟨_,⟨_,e2⟩⟩ | ⟨b0,o0,len,cap,mm,e1,g1,g2,g3,gm1,gm2,e2⟩
       ·rcases k2.hdr with ⟨_,rfl⟩ | ⟨b,o',cc,hv,q1,q2,_⟩
        ·simp at h1;omega
        ·have:=e2.symm.trans hv
         injection this with _ e _
         omega
       rcases k2.hdr with ⟨_,rfl⟩ | ⟨b,o',cc,hv,q1,q2,_⟩
       ·simp at h1;omega
       ·have e3:=hv.symm.trans e2
        injection e3 with e4 e5 e6
        have hne:¬mm=lo.toNat:=by omega
        rw [if_neg hne] at e4
        injection e4 with e4
        injection e4 with e7 e8 _
        subst e7 e8
        refine fin p b _ xs.length cc _ hv h1.1 h1.2 ?_ h2
        simp only [RepT]
        refine ⟨src,b,o0+lo.toNat*(E.ti e).sz+i.toNat*(E.ti e).sz,hsrc,?_,by rw [Nat.add_zero]⟩
        rw [res_app _ _ _ hres]
        rw [e1] at hcell
        have ht:(lo+i).toNat=lo.toNat+i.toNat:=by omega
        simp [stepS,hcell,idx,plus_eq,ht,Nat.add_mul,Nat.add_assoc]
    ·exact hk.elim
   ·exact hk.elim
 ·exact hk.elim
end ops
end Go.Ar
