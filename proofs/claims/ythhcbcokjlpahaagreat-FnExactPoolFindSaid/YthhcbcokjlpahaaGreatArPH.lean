import Derived.Test.YthhcbcokjlpahaaGreatArPI
namespace Go.Ar
set_option linter.unusedVariables false
set_option linter.unusedSimpArgs false
section
variable {E:Env} {c:Cx}
/-- What is known of one loose operation; pre: those before it in the text. -/
def EntOk(E:Env)(ops:List Oper)(S0:St)(pre:List En)(k:Nat)(d:Option Nat)(p:Pt):Prop :=
 ∃o r,ops[k]?=some o∧(rowsO E ops)[k]?=some r∧o.dst=d∧stepP E ops o (maskS r.ms (runP pre S0)) (fun q=>q=p) ∧
  (∀x∈p.sl d,x∈r.tu)∧(∀v∈p.vs d,hitA r.ms v=false) ∧
  (kly p=true→∀d',d=some d'→(∀v∈S0.t,hitA (klS p d') v=false)∧∀e∈pre,∀v∈e.2.2.vs e.2.1,hitA (klS p d') v=false)∧(isApp p=true→∃d',d=some d')
structure Seg (E:Env) (ops:List Oper) (K:St→Prop) (b:Nat) (S0:St) (segs:List En) (e:Nat):Prop where
 be:b≤e
 en:e≤ops.length
 idx:segs.map (·.1)=List.range' b (e-b)
 ent:∀pre k d p post,segs=pre++(k,d,p)::post→EntOk E ops S0 pre k d p
 fin:(e=ops.length∧K (runP segs S0))∨∃o r,ops[e]?=some o∧(rowsO E ops)[e]?=some r∧r.tt=true ∧
  gdA ops o (runP segs S0) (fun _=>opA E o (runP segs S0) fun st'=>regD E ops ((ops.zip (rowsO E ops)).drop (e+1)) st'.t [] st' K)
   (fun _=>regD E ops ((ops.zip (rowsO E ops)).drop (e+1)) (pu (runP segs S0) o.dst (.tu [])).t [] (pu (runP segs S0) o.dst (.tu [])) K)
theorem seg_of{ops:List Oper}{K:St→Prop}{b:Nat}{S0:St}:∀ (rest:List (Oper × PRow)) (i:Nat) (pre:List En) (acc:List V),rest=(ops.zip (rowsO E ops)).drop i→b≤i→i≤ops.length →
  pre.map (·.1)=List.range' b (i-b)→(∀e∈pre,∀v∈e.2.2.vs e.2.1,v∈acc)→(∀pre' k d p post,pre=pre' ++ (k,d,p)::post→EntOk E ops S0 pre' k d p) →
  regD E ops rest S0.t acc (runP pre S0) K→∃segs e,Seg E ops K b S0 segs e
 | [],i,pre,acc,hr,hb,hi,hx,hacc,hent,h=>by
  have hl:(ops.zip (rowsO E ops)).length=ops.length:=by rw [List.length_zip,rowsO_len,Nat.min_self]
  have:ops.length≤i:=by
   have:=List.drop_eq_nil_iff.1 hr.symm
   rw [hl] at this;exact this
  obtain rfl:i=ops.length:=by omega
  exact ⟨pre,ops.length,hb,Nat.le_refl _,hx,hent,.inl ⟨rfl,h⟩⟩
 | (o,r)::rest,i,pre,acc,hr,hb,hi,hx,hacc,hent,h=>by
  have hl:(ops.zip (rowsO E ops)).length=ops.length:=by rw [List.length_zip,rowsO_len,Nat.min_self]
  have hget:(ops.zip (rowsO E ops))[i]?=some (o,r):=by
   have:((ops.zip (rowsO E ops)).drop i)[0]?=some (o,r):=by rw [←hr];rfl
   simpa using this
  have hlt:i<ops.length:=by
   have:=(List.getElem?_eq_some_iff.1 hget).1
   rw [hl] at this;exact this
  obtain⟨ho,hro⟩:=List.getElem?_zip_eq_some.1 hget
  have hrest:rest=(ops.zip (rowsO E ops)).drop (i+1):=by
   have:=congrArg List.tail hr
   rw [List.tail_drop] at this
   exact this
  cases htt:r.tt with
  | true =>
   simp only [regD,htt] at h
   refine ⟨pre,i,hb,by omega,hx,hent,.inr ⟨o,r,ho,hro,htt,?_⟩⟩
   rw [←hrest]
   exact h
  | false =>
   simp only [regD,htt] at h
   have key:∃p,stepP E ops o (maskS r.ms (runP pre S0)) (fun q=>q=p)∧(match chkP o.dst r p S0.t acc with | true=>regD E ops rest S0.t (p.vs o.dst++acc) (apP o.dst p (runP pre S0)) K | false=>False):=by
    unfold stepP at h ⊢
    rcases gdA_two ops o (maskS r.ms (runP pre S0)) with hg | hg | hg
    ·rw [hg] at h
     obtain⟨p,h1,h2⟩:=stpY_det h
     exact ⟨p,by rw [hg];exact h1,h2⟩
    ·rw [hg] at h
     exact ⟨_,by rw [hg],h⟩
    ·rw [hg] at h;exact h.elim
   obtain⟨p,h1,h2⟩:=key
   cases hc:chkP o.dst r p S0.t acc with
   | false=>rw [hc] at h2;exact h2.elim
   | true =>
    rw [hc] at h2
    unfold chkP at hc
    simp only [Bool.and_eq_true,List.all_eq_true,Bool.not_eq_true'] at hc
    obtain⟨⟨c1,c2⟩,c3⟩:=hc
    have hE:EntOk E ops S0 pre i o.dst p:=by
     refine ⟨o,r,ho,hro,rfl,h1,fun x hx=>mem_iff.1 (c1 x hx),c2,fun hk d' hd=>?_,fun hap=>?_⟩
     ·rw [hk,hd] at c3
      simp only [cond_true,Bool.and_eq_true,Bool.not_eq_true'] at c3
      exact ⟨hitsA_mem _ c3.1,fun e he v hv=>hitsA_mem _ c3.2 v (hacc e he v hv)⟩
     ·cases hd:o.dst with
      | some d=>exact ⟨d,rfl⟩
      | none =>
       have hkp:kly p=true:=by cases p <;> first | rfl | cases hap
       rw [hkp,hd,hap] at c3
       cases c3
    refine seg_of rest (i+1) (pre++[(i,o.dst,p)]) (p.vs o.dst++acc) hrest (by omega) (by omega) ?_ ?_ ?_ ?_
    ·rw [List.map_append,hx,show i+1-b=(i-b)+1 by omega,List.range'_1_concat]
     simp;omega
    ·intro e he v hv
     rcases List.mem_append.1 he with he | he
     ·exact List.mem_append.2 (.inr (hacc e he v hv))
     ·simp only [List.mem_singleton] at he
      subst he
      exact List.mem_append.2 (.inl hv)
    ·intro pre' k d p' post he
     rcases List.eq_nil_or_concat post with rfl | ⟨post',x,rfl⟩
     ·have:=List.append_inj' he rfl
      obtain⟨e1,e2⟩:=this
      injection e2 with e2
      injection e2 with e2 e3
      injection e3 with e3 e4
      subst e1 e2 e3 e4
      exact hE
     ·have he':pre++[(i,o.dst,p)]=(pre' ++ (k,d,p')::post')++[x]:=by rw [he];simp
      have:=List.append_inj' he' rfl
      exact hent pre' k d p' post' this.1
    ·have:runP (pre++[(i,o.dst,p)]) S0=apP o.dst p (runP pre S0):=by simp [runP,List.foldl_append]
     rw [this];exact h2
/-- All that holds in the midst of a drawn region. -/
def Good(E:Env)(c:Cx)(ops:Array Oper)(K:St→Prop)(listed:Array Bool)(a:Act)(w:World):Prop :=
 listed.size=ops.size∧Clo (tbl E ops.toList) (fun i=>listed.getD i false=true)∧∃b S0 segs e G,Seg E ops.toList K b S0 segs e∧(∀i,i<b→listed.getD i false=true)∧(∀i,listed.getD i false=true→i<e) ∧
  Rel c (runP (segs.filter fun x=>listed.getD x.1 false) S0) a w G
theorem okPl_dep{ops:Array Oper}(hok:okPl E ops=true){k:Nat}{o:Oper}(ho:ops[k]?=some o){j:Nat}(hj:(depOf o).testBit j=true):j<k:=by
 unfold okPl at hok
 simp only [Bool.and_eq_true,List.all_eq_true,List.mem_range] at hok
 have hlt:k<ops.size:=(Array.getElem?_eq_some_iff.1 ho).1
 have:=hok.1.2 k hlt
 rw [ho] at this
 simp only [Bool.and_eq_true] at this
 have h1:depOf o<2 ^ k:=by
  have:=Nat.le_of_ble_eq_true this.1
  have e:Nat.shiftLeft 1 k=2 ^ k:=by show 1 <<< k=_;rw [Nat.shiftLeft_eq,Nat.one_mul]
  omega
 rcases Nat.lt_or_ge j k with h | h
 ·exact h
 ·have:2 ^ k≤2 ^ j:=Nat.pow_le_pow_right (by omega) h
  rw [Nat.testBit_lt_two_pow (by omega)] at hj
  cases hj
theorem bits_lt{ops:Array Oper}(hok:okPl E ops=true):∀ (k:Nat) (o:Oper) (r:Bf),ops[k]?=some o→(tbl E ops.toList)[k]?=some r→∀j,r.b.testBit j=true→j<k:=by
 intro k
 induction k using Nat.strongRecOn with
 | _ k ih =>
  intro o r ho hr
  refine bef_done (D:=fun j=>j<k) ?_ (o:=o) (by simpa using ho) hr (fun i r hi _ _ _=>hi) (fun j hj=>okPl_dep hok ho hj)
  intro i hi r' hr' j hj
  have hlt:i<ops.toList.length:=by
   have:=(List.getElem?_eq_some_iff.1 hr').1
   rw [tbl_len] at this;exact this
  have:=ih i hi ops.toList[i] r' (by simp) hr' j hj
  omega
theorem getD_set{listed:Array Bool}{k i:Nat}(hk:k<listed.size):(listed.setIfInBounds k true).getD i false=(listed.getD i false || decide (i=k)):=by
 by_cases h:i=k
 ·subst h;simp [hk]
 ·simp [h,Array.getElem?_setIfInBounds_ne (Ne.symm h)]
theorem split_lt{segs pre post:List En}{k b n:Nat}{d:Option Nat}{p:Pt}(hs:segs=pre++(k,d,p)::post)(hx:segs.map (·.1)=List.range' b n):(∀e∈pre,e.1<k)∧(∀e∈post,k<e.1):=by
 have hp:(segs.map (·.1)).Pairwise (· < ·):=by rw [hx];exact List.pairwise_lt_range'
 rw [hs,List.map_append,List.map_cons,List.pairwise_append] at hp
 obtain⟨_,h2,h3⟩:=hp
 rw [List.pairwise_cons] at h2
 exact ⟨fun e he=>h3 e.1 (List.mem_map.2 ⟨e,he,rfl⟩) k (by simp),fun e he=>h2.1 e.1 (List.mem_map.2 ⟨e,he,rfl⟩)⟩
/-- Two operations neither of which is before the other. -/
theorem loose_pair{ops:Array Oper}{k i:Nat}{o oi:Oper}{r:PRow}{f g:Bf}(hr:(rowsO E ops.toList)[k]?=some r)(ho:ops[k]?=some o)(hoi:ops[i]?=some oi)(hf:(tbl E ops.toList)[k]?=some f)(hg:(tbl E ops.toList)[i]?=some g)
  (hik:i≠k) (h1:f.b.testBit i=false) (h2:g.b.testBit k=false):r.tt=false∧∀x∈touO ops.toList (dstsO ops.toList) oi,x∈r.ms:=by
 obtain⟨f',k1,k2,k3⟩:=rowsO_get hr (by simpa using ho)
 rw [hf] at k1
 injection k1 with k1
 subst k1
 exact k3 i g oi hik hg (by simpa using hoi) h1 h2
theorem step_good(hE:EnvOk E)(hfit:Fit E c){ops:Array Oper}{Q:Exit→Act→World→Prop}{K:St→Prop}(hok:okPl E ops=true){listed:Array Bool}{a:Act}{w:World}(hg:Good E c ops K listed a w){k:Nat}{o:Oper}
  (ho:ops[k]?=some o) (hkn:listed.getD k false=false) (hdep:∀j,(depOf o).testBit j=true→listed.getD j false=true) (hnp:NoPu (tbl E ops.toList) (fun i=>listed.getD i false=true) k) :
  (Region.wanted o (yielded ops a.tmps)=true∧o.wp E.P a w (Good E c ops K (listed.setIfInBounds k true)) Q∧(isPu E o=true→∃u,∀w',(execOp a.eval o).run E.P w'=.ok (.value u) w')) ∨
  (Region.wanted o (yielded ops a.tmps)=false∧Good E c ops K (listed.setIfInBounds k true) (a.put o.dst undef) w):=by
 obtain⟨hsz,hclo,b,S0,segs,e,G,hseg,hb,he,hrel⟩:=hg
 have hkl:k<ops.size:=(Array.getElem?_eq_some_iff.1 ho).1
 have hn:ops.toList.length=ops.size:=by simp
 obtain⟨f,hf⟩:∃f,(tbl E ops.toList)[k]?=some f:=⟨_,List.getElem?_eq_getElem (by rw [tbl_len,hn];exact hkl)⟩
 obtain⟨r,hr⟩:∃r,(rowsO E ops.toList)[k]?=some r:=⟨_,List.getElem?_eq_getElem (by rw [rowsO_len,hn];exact hkl)⟩
 have hoL:ops.toList[k]?=some o:=by simpa using ho
 have hbef:∀j,f.b.testBit j=true→listed.getD j false=true:=bef_done hclo hoL hf hnp hdep
 have hbits:=bits_lt hok k o f ho hf
 have hset:∀i,(listed.setIfInBounds k true).getD i false=(listed.getD i false || decide (i=k)):=fun i=>getD_set (by omega)
 have hclo':Clo (tbl E ops.toList) (fun i=>(listed.setIfInBounds k true).getD i false=true):=by
  intro i hi r' hr' j hj
  simp only [hset,Bool.or_eq_true,decide_eq_true_eq] at hi ⊢
  rcases hi with hi | rfl
  ·exact .inl (hclo i hi r' hr' j hj)
  ·rw [hf] at hr';injection hr' with hr';subst hr'
   exact .inl (hbef j hj)
 have hsz':(listed.setIfInBounds k true).size=ops.size:=by simpa using hsz
 -- the other operation's row in the table
 have hrow:∀i,i<ops.size→∃oi g,ops[i]?=some oi∧(tbl E ops.toList)[i]?=some g:=fun i hi =>
  ⟨ops[i],_,by simp [hi],List.getElem?_eq_getElem (by rw [tbl_len,hn];exact hi)⟩
 have hke:k≤e:=by
  rcases Nat.lt_or_ge e k with hlt | h
  ·exfalso
   rcases hseg.fin with ⟨h1,_⟩ | ⟨oe,re,h1,h2,h3,_⟩
   ·omega
   ·have h1':ops[e]?=some oe:=by simpa using h1
    obtain⟨fe,hfe⟩:∃g,(tbl E ops.toList)[e]?=some g:=⟨_,List.getElem?_eq_getElem (by rw [tbl_len,hn];omega)⟩
    have hbe:=bits_lt hok e oe fe h1' hfe
    cases hx1:fe.b.testBit k with
    | true=>have:=hbe k hx1;omega
    | false =>
     cases hx2:f.b.testBit e with
     | true=>have:=he e (hbef e hx2);omega
     | false =>
      have:=(loose_pair h2 h1' ho hfe hf (by omega) hx1 hx2).1
      rw [h3] at this;cases this
  ·exact h
 rcases Nat.lt_or_ge k e with hlt | hge
 ·-- a loose one
  have hkb:b≤k:=by
   rcases Nat.lt_or_ge k b with h | h
   ·have:=hb k h;rw [hkn] at this;cases this
   ·exact h
  have hmem:k∈segs.map (·.1):=by rw [hseg.idx,List.mem_range'_1];omega
  obtain⟨en,hen,hek⟩:=List.mem_map.1 hmem
  obtain⟨pre,post,hsp⟩:=List.append_of_mem hen
  obtain⟨k',d,p⟩:=en
  obtain rfl:k'=k:=hek
  obtain⟨o',r',e1,e2,e3,e4,e5,e6,e7,e8⟩:=hseg.ent pre k' d p post hsp
  rw [hoL] at e1;injection e1 with e1;subst e1
  rw [hr] at e2;injection e2 with e2;subst e2
  subst e3
  obtain⟨lpre,lpost⟩:=split_lt hsp hseg.idx
  have hidx:∀x∈segs,x.1<ops.size:=fun x hx=>by
   have:x.1∈segs.map (·.1):=List.mem_map.2 ⟨x,hx,rfl⟩
   rw [hseg.idx,List.mem_range'_1] at this
   have:=hseg.en
   omega
  have hslots:∀x∈segs,∀oi,ops[x.1]?=some oi→∀j∈x.2.2.sl x.2.1,j∈touO ops.toList (dstsO ops.toList) oi:=by
   intro x hx oi hoi j hj
   obtain⟨pr,po,hs⟩:=List.append_of_mem hx
   obtain⟨xi,xd,xp⟩:=x
   obtain⟨o2,r2,q1,q2,q3,q4,q5,_⟩:=hseg.ent pr xi xd xp po hs
   obtain⟨f2,p1,p2,p3⟩:=rowsO_get q2 q1
   have:o2=oi:=by
    have h1:ops[xi]?=some o2:=by simpa using q1
    rw [h1] at hoi;injection hoi
   rw [←this,←p2]
   exact q5 j hj
  have hun:∀x∈segs,k' < x.1→listed.getD x.1 false=true→∀oi g,ops[x.1]?=some oi→(tbl E ops.toList)[x.1]?=some g→f.b.testBit x.1=false∧g.b.testBit k'=false:=by
   intro x hx hlt2 hD oi g h1 h2
   constructor
   ·cases h:f.b.testBit x.1 with
    | false=>rfl
    | true=>have:=hbits _ h;omega
   ·cases h:g.b.testBit k' with
    | false=>rfl
    | true=>have:=hclo x.1 hD g h2 k' h;simp only at this;rw [hkn] at this;cases this
  have hpref:pre=segs.filter (fun x=>decide (x.1<k')):=by
   rw [hsp,List.filter_append,List.filter_cons]
   have h1:pre.filter (fun x=>decide (x.1<k'))=pre:=List.filter_eq_self.2 fun x hx=>by simpa using lpre x hx
   have h2:post.filter (fun x=>decide (x.1<k'))=[]:=List.filter_eq_nil_iff.2 fun x hx=>by have:=lpost x hx;simp;omega
   rw [h1,h2]
   simp
  have hwk:Wk (maskS r.ms (runP pre S0)) (runP (segs.filter fun x=>listed.getD x.1 false) S0):=by
   have hal:∀j,j∉r.ms→Alk (runP pre S0) (runP (segs.filter fun x=>listed.getD x.1 false) S0) j:=by
    intro j hj
    rw [hpref]
    refine runP_filter segs S0 S0 ⟨rfl,rfl,rfl⟩ ⟨rfl,rfl⟩ fun x hx hjx=>?_
    obtain⟨oi,g,h1,h2⟩:=hrow x.1 (hidx x hx)
    by_cases hxk:x.1=k'
    ·rw [hxk,hkn];simp
    ·have hbi:=bits_lt hok x.1 oi g h1 h2
     cases ha:f.b.testBit x.1 with
     | true =>
      have l1:=hbits _ ha
      have l2:=hbef _ ha
      simp only [l2];simpa using l1
     | false =>
      cases hbb:g.b.testBit k' with
      | true =>
       have l1:=hbi _ hbb
       have l2:listed.getD x.1 false=false:=by
        cases hD:listed.getD x.1 false with
        | false=>rfl
        | true=>have:=hclo x.1 hD g h2 k' hbb;simp only at this;rw [hkn] at this;cases this
       rw [l2]
       simp;omega
      | false=>exact absurd ((loose_pair hr ho h1 hf h2 hxk ha hbb).2 j (hslots x hx oi h1 j hjx)) hj
   refine ⟨?_,?_,?_,?_⟩
   ·show (unL V.un r.ms _).length=_
    rw [unL_len,(runP_len pre S0).t,(runP_len _ S0).t]
   ·intro j v hv
    by_cases hj:j∈r.ms
    ·exact .inr (unL_in _ _ _ _ _ hj hv)
    ·rcases unL_get _ _ _ _ _ hv with h | h
     ·exact .inl ((hal j hj).1▸h)
     ·exact .inr h.1
   ·intro j v hv
    by_cases hj:j∈r.ms
    ·exact .inr (unL_in _ _ _ _ _ hj hv)
    ·rcases unL_get _ _ _ _ _ hv with h | h
     ·exact .inl ((hal j hj).2▸h)
     ·exact .inr h.1
   ·show (runP pre S0).g=_
    rw [(runP_len pre S0).g,(runP_len _ S0).g]
  have hkill:kly p=true→∀d,o.dst=some d→∀v∈(runP (segs.filter fun x=>listed.getD x.1 false) S0).t,hit (.tp d) v=false∧hit (.bx d) v=false:=by
   intro hkp d hd v hv
   obtain⟨j,hj⟩:=List.getElem?_of_mem hv
   obtain⟨z1,z2⟩:=e7 hkp d hd
   rcases runP_val _ _ hj with h | ⟨x,hx,hvx⟩
   ·exact hitA_no (klS_d p d) v (z1 v (List.mem_of_getElem? h))
   ·obtain⟨hxs,hxD⟩:=List.mem_filter.1 hx
    rw [hsp] at hxs
    rcases List.mem_append.1 hxs with h | h
    ·exact hitA_no (klS_d p d) v (z2 x h v hvx)
    ·rcases List.mem_cons.1 h with rfl | h
     ·simp only at hxD;rw [hkn] at hxD;cases hxD
     ·have hx':x∈segs:=by rw [hsp];simp [h]
      obtain⟨oi,g,h1,h2⟩:=hrow x.1 (hidx x hx')
      obtain⟨u1,u2⟩:=hun x hx' (lpost x h) hxD oi g h1 h2
      obtain⟨pr,po,hs⟩:=List.append_of_mem hx'
      obtain⟨xi,xd,xp⟩:=x
      obtain⟨o2,r2,q1,q2,q3,q4,q5,q6,_⟩:=hseg.ent pr xi xd xp po hs
      have hms:=(loose_pair q2 h1 ho h2 hf (fun e=>by have:=lpost _ h;simp only at this;omega) u2 u1).2 d (by
       unfold touO
       rw [hd];simp)
      exact hitA_no hms v (q6 v hvx)
  have hdeep:isApp p=true→∀v∈(runP (segs.filter fun x=>listed.getD x.1 false) S0).t,deep v=false:=by
   intro hap v hv
   obtain⟨j,hj⟩:=List.getElem?_of_mem hv
   have hkp:kly p=true:=by cases p <;> first | rfl | cases hap
   obtain⟨d,hd⟩:=e8 hap
   obtain⟨z1,z2⟩:=e7 hkp d hd
   rcases runP_val _ _ hj with h | ⟨x,hx,hvx⟩
   ·exact hitA_dp (klS_a hap d) (z1 v (List.mem_of_getElem? h))
   ·obtain⟨hxs,hxD⟩:=List.mem_filter.1 hx
    rw [hsp] at hxs
    rcases List.mem_append.1 hxs with h | h
    ·exact hitA_dp (klS_a hap d) (z2 x h v hvx)
    ·rcases List.mem_cons.1 h with rfl | h
     ·simp only at hxD;rw [hkn] at hxD;cases hxD
     ·have hx':x∈segs:=by rw [hsp];simp [h]
      obtain⟨oi,g,h1,h2⟩:=hrow x.1 (hidx x hx')
      obtain⟨u1,u2⟩:=hun x hx' (lpost x h) hxD oi g h1 h2
      obtain⟨pr,po,hs⟩:=List.append_of_mem hx'
      have hks:(k',o.dst,p)∈segs:=by rw [hsp];simp
      have hDM:=hslots (k',o.dst,p) hks o ho DM (sl_a hap _)
      obtain⟨xi,xd,xp⟩:=x
      obtain⟨o2,r2,q1,q2,q3,q4,q5,q6,_⟩:=hseg.ent pr xi xd xp po hs
      have hms:=(loose_pair q2 h1 ho h2 hf (fun e=>by have:=lpost _ h;simp only at this;omega) u2 u1).2 DM hDM
      exact hitA_dp hms (q6 v hvx)
  have hins:runP (segs.filter fun x=>(listed.setIfInBounds k' true).getD x.1 false) S0=apP o.dst p (runP (segs.filter fun x=>listed.getD x.1 false) S0):=by
   have f1:∀l:List En,(∀x∈l,x.1≠k')→l.filter (fun x=>(listed.setIfInBounds k' true).getD x.1 false)=l.filter fun x=>listed.getD x.1 false:=by
    intro l hl
    refine List.filter_congr fun x hx=>?_
    rw [hset]
    simp [hl x hx]
   rw [hsp,List.filter_append,List.filter_append,List.filter_cons,List.filter_cons]
   rw [f1 pre fun x hx=>by have:=lpre x hx;omega,f1 post fun x hx=>by have:=lpost x hx;omega]
   simp only [hset,hkn,decide_true,Bool.or_true,if_true,Bool.false_eq_true,if_false]
   unfold runP
   rw [List.foldl_append,List.foldl_append,List.foldl_cons]
   refine runP_comm _ _ fun x hx j hj hjx=>?_
   obtain⟨hxp,hxD⟩:=List.mem_filter.1 hx
   have hx':x∈segs:=by rw [hsp];simp [hxp]
   obtain⟨oi,g,h1,h2⟩:=hrow x.1 (hidx x hx')
   obtain⟨u1,u2⟩:=hun x hx' (lpost x hxp) hxD oi g h1 h2
   have hms:=(loose_pair hr ho h1 hf h2 (by have:=lpost x hxp;omega) u1 u2).2 j (hslots x hx' oi h1 j hjx)
   have htu:=e5 j hj
   have hokr:=hok
   unfold okPl at hokr
   simp only [Bool.and_eq_true,List.all_eq_true,Bool.not_eq_true'] at hokr
   have:=hokr.2 r (List.mem_of_getElem? hr) j htu
   rw [mem_iff.2 hms] at this
   cases this
  have hgood:∀a' w' G',Rel c (apP o.dst p (runP (segs.filter fun x=>listed.getD x.1 false) S0)) a' w' G'→Good E c ops K (listed.setIfInBounds k' true) a' w':=by
   intro a' w' G' hr'
   refine ⟨hsz',hclo',b,S0,segs,e,G',hseg,fun i hi=>?_,fun i hi=>?_,hins▸hr'⟩
   ·rw [hset,hb i hi];rfl
   ·rw [hset] at hi
    simp only [Bool.or_eq_true,decide_eq_true_eq] at hi
    rcases hi with hi | rfl
    ·exact he i hi
    ·exact hlt
  rcases gdA_sound (hrel.wk hwk) e4 with ⟨g1,g2⟩ | ⟨g1,g2⟩
  ·exact .inl ⟨g1,stpY_sound hE hfit hrel hwk g2 hkill hdeep hgood,fun hpu=>pu_run hE hpu (hrel.wk hwk) (.inr ⟨_,g2⟩)⟩
  ·refine .inr ⟨g1,?_⟩
   obtain⟨G',hG⟩:=hrel.put0 o.dst (v:=.tu []) (u:=undef) (by simp only [RepT];exact ⟨[],rfl,by simp only [RepTs]⟩)
   refine hgood _ _ G' ?_
   have:pu (runP (segs.filter fun x=>listed.getD x.1 false) S0) o.dst (.tu [])=apP o.dst p (runP (segs.filter fun x=>listed.getD x.1 false) S0):=by
    rw [←g2]
    cases o.dst <;> rfl
   rw [←this];exact hG
 ·-- one that all others are before or behind
  obtain rfl:k=e:=by omega
  rcases hseg.fin with ⟨h1,_⟩ | ⟨oe,re,h1,h2,h3,h4⟩
  ·omega
  ·rw [hoL] at h1;injection h1 with h1;subst h1
   rw [hr] at h2;injection h2 with h2;subst h2
   have hall:∀i,i<k→listed.getD i false=true:=by
    intro i hi
    obtain⟨oi,g,q1,q2⟩:=hrow i (by omega)
    cases ha:f.b.testBit i with
    | true=>exact hbef i ha
    | false =>
     have hb2:g.b.testBit k=false:=by
      cases hbb:g.b.testBit k with
      | false=>rfl
      | true=>have:=bits_lt hok i oi g q1 q2 k hbb;omega
     have:=(loose_pair hr ho q1 hf q2 (by omega) ha hb2).1
     rw [h3] at this;cases this
   have hfil:segs.filter (fun x=>listed.getD x.1 false)=segs:=List.filter_eq_self.2 fun x hx=>by
    have:x.1∈segs.map (·.1):=List.mem_map.2 ⟨x,hx,rfl⟩
    rw [hseg.idx,List.mem_range'_1] at this
    have:=hseg.be
    exact hall _ (by omega)
   rw [hfil] at hrel
   have hgood:∀st' a' w' G',regD E ops.toList ((ops.toList.zip (rowsO E ops.toList)).drop (k+1)) st'.t [] st' K→Rel c st' a' w' G'→Good E c ops K (listed.setIfInBounds k true) a' w':=by
    intro st' a' w' G' hd hr'
    obtain⟨segs',e',hseg'⟩:=seg_of (b:=k+1) (S0:=st') _ (k+1) [] [] rfl (Nat.le_refl _) (by rw [hn];omega) (by simp) (fun e he=>by cases he) (fun pre' k d p post he=>by simp at he) hd
    refine ⟨hsz',hclo',k+1,st',segs',e',G',hseg',fun i hi=>?_,fun i hi=>?_,?_⟩
    ·rw [hset]
     by_cases hik:i=k
     ·simp [hik]
     ·rw [hall i (by omega)];rfl
    ·rw [hset] at hi
     simp only [Bool.or_eq_true,decide_eq_true_eq] at hi
     have:=hseg'.be
     rcases hi with hi | rfl
     ·have:=he i hi;omega
     ·omega
    ·have:segs'.filter (fun x=>(listed.setIfInBounds k true).getD x.1 false)=[]:=List.filter_eq_nil_iff.2 fun x hx=>by
      have hm:x.1∈segs'.map (·.1):=List.mem_map.2 ⟨x,hx,rfl⟩
      rw [hseg'.idx,List.mem_range'_1] at hm
      rw [hset]
      intro hh
      simp only [Bool.or_eq_true,decide_eq_true_eq] at hh
      rcases hh with hh | hh
      ·have:=he _ hh;omega
      ·omega
     rw [this];exact hr'
   rcases gdA_sound hrel h4 with ⟨g1,g2⟩ | ⟨g1,g2⟩
   ·exact .inl ⟨g1,opA_sound hE hfit _ a w G _ _ Q hrel g2 hgood,fun hpu=>pu_run hE hpu hrel (.inl ⟨_,g2⟩)⟩
   ·refine .inr ⟨g1,?_⟩
    obtain⟨G',hG⟩:=hrel.put0 o.dst (v:=.tu []) (u:=undef) (by simp only [RepT];exact ⟨[],rfl,by simp only [RepTs]⟩)
    exact hgood _ _ _ G' g2 hG
theorem exists_least{p:Nat→Prop}{n:Nat}(h:p n):∃m,p m∧∀i,i<m→¬p i:=by
 induction n using Nat.strongRecOn with
 | _ n ih =>
  by_cases hx:∃i,i<n∧p i
  ·obtain⟨i,hi,hp⟩:=hx
   exact ih i hi hp
  ·exact ⟨n,h,fun i hi hp=>hx ⟨i,hi,hp⟩⟩
theorem getD_tf{listed:Array Bool}{i:Nat}(h:i<listed.size):listed.getD i true=listed.getD i false:=by
 simp [h]
theorem count_set{ops:Array Oper}{listed:Array Bool}{k fuel:Nat}(hsz:listed.size=ops.size)(hk:k<ops.size)(hkn:listed.getD k false=false)
  (h:((List.range ops.size).filter fun i => !(listed.getD i false)).length≤fuel+1):((List.range ops.size).filter fun i => !((listed.setIfInBounds k true).getD i false)).length≤fuel:=by
 have hset:∀i,(listed.setIfInBounds k true).getD i false=(listed.getD i false || decide (i=k)):=fun i=>getD_set (by omega)
 have key:∀l:List Nat,((l.filter fun i => !((listed.setIfInBounds k true).getD i false)).length+(if k∈l then 1 else 0))≤(l.filter fun i => !(listed.getD i false)).length:=by
  intro l
  induction l with
  | nil=>simp
  | cons x l ih =>
   simp only [List.filter_cons,hset] at ih ⊢
   by_cases hx:x=k
   ·subst hx
    simp only [hkn,decide_true,Bool.or_true,Bool.not_true,Bool.false_eq_true,if_false,Bool.not_false,if_true,List.length_cons,List.mem_cons,true_or]
    split at ih <;> omega
   ·cases hl:listed.getD x false with
    | true =>
     simp only [hx,decide_false,Bool.or_false,Bool.not_true,Bool.false_eq_true,if_false,List.mem_cons,Ne.symm hx,false_or]
     exact ih
    | false =>
     simp only [hx,decide_false,Bool.or_false,Bool.not_false,if_true,List.length_cons,List.mem_cons,Ne.symm hx,false_or]
     omega
 have:=key (List.range ops.size)
 rw [if_pos (List.mem_range.2 hk)] at this
 omega
theorem any_sound(hE:EnvOk E)(hfit:Fit E c){ops:Array Oper}{Q:Exit→Act→World→Prop}{K:St→Prop}(hok:okPl E ops=true)(hQ:∀ch a w,¬Q (.panic ch) a w)(hend:∀st a w G,K st→Rel c st a w G→Q .normal a w) :
  ∀ (fuel:Nat) (listed:Array Bool) (a:Act) (w:World),Good E c ops K listed a w→((List.range ops.size).filter fun i => !(listed.getD i false)).length≤fuel→wpAny E.P .any ops Q fuel listed a w:=by
 -- nothing ready: all is done
 have hdone:∀ (listed:Array Bool) (a:Act) (w:World),Good E c ops K listed a w→Region.ready .any ops listed=[]→Q .normal a w:=by
  intro listed a w hg hr
  obtain⟨hsz,hclo,b,S0,segs,e,G,hseg,hb,he,hrel⟩:=hg
  have hall:∀i,i<ops.size→listed.getD i false=true:=by
   intro i hi
   cases hl:listed.getD i false with
   | true=>rfl
   | false =>
    exfalso
    obtain⟨m,⟨hm1,hm2⟩,hm3⟩:=exists_least (p:=fun i=>i<ops.size∧listed.getD i false=false) ⟨hi,hl⟩
    have hmem:m∈Region.ready .any ops listed:=by
     rw [mem_ready]
     refine ⟨by rw [getD_tf (by omega)];exact hm2,ops[m],by simp [hm1],fun ed hed hbi=>?_⟩
     have hlt:=okPl_dep hok (k:=m) (o:=ops[m]) (by simp [hm1]) (j:=ed.on) (depOf_bit.2 ⟨ed,hed,hbi,rfl⟩)
     cases hl2:listed.getD ed.on false with
     | true=>rfl
     | false=>exact absurd ⟨by omega,hl2⟩ (hm3 _ hlt)
    rw [hr] at hmem;cases hmem
  have hn:ops.toList.length=ops.size:=by simp
  rcases hseg.fin with ⟨h1,h2⟩ | ⟨oe,re,h1,_⟩
  ·have hfil:segs.filter (fun x=>listed.getD x.1 false)=segs:=List.filter_eq_self.2 fun x hx=>by
    have:x.1∈segs.map (·.1):=List.mem_map.2 ⟨x,hx,rfl⟩
    rw [hseg.idx,List.mem_range'_1] at this
    have:=hseg.be
    exact hall _ (by omega)
   rw [hfil] at hrel
   exact hend _ _ _ _ h2 hrel
  ·have h1':ops[e]?=some oe:=by simpa using h1
   have hlt:e<ops.size:=(Array.getElem?_eq_some_iff.1 h1').1
   have:=he e (hall e hlt)
   omega
 intro fuel
 induction fuel with
 | zero =>
  intro listed a w hg hc
  have hr:Region.ready .any ops listed=[]:=by
   cases hr:Region.ready .any ops listed with
   | nil=>rfl
   | cons x xs =>
    exfalso
    have hx:x∈Region.ready .any ops listed:=by rw [hr];simp
    obtain⟨h1,o,h2,_⟩:=mem_ready.1 hx
    have hlt:x<ops.size:=(Array.getElem?_eq_some_iff.1 h2).1
    have hsz:=hg.1
    have:x∈(List.range ops.size).filter fun i => !(listed.getD i false):=List.mem_filter.2 ⟨List.mem_range.2 hlt,by rw [←getD_tf (by omega),h1];rfl⟩
    have:=List.length_pos_of_mem this
    omega
  exact ⟨hr,hdone listed a w hg hr⟩
 | succ fuel ih =>
  intro listed a w hg hc
  have hsz:=hg.1
  have hready:∀k,k∈Region.ready .any ops listed→∃o,ops[k]?=some o∧k<ops.size∧listed.getD k false=false∧∀j,(depOf o).testBit j=true→listed.getD j false=true:=by
   intro k hk
   obtain⟨h1,o,h2,h3⟩:=mem_ready.1 hk
   have hlt:k<ops.size:=(Array.getElem?_eq_some_iff.1 h2).1
   refine ⟨o,h2,hlt,by rw [←getD_tf (by omega)];exact h1,fun j hj=>?_⟩
   obtain⟨ed,hed,hb,rfl⟩:=depOf_bit.1 hj
   exact h3 ed hed hb
  have hback:∀i r,(tbl E ops.toList)[i]?=some r→r.pu=true→(∀j,r.d.testBit j=true→listed.getD j false=true)→listed.getD i false=true∨(i∈Region.ready .any ops listed∧∃o,ops[i]?=some o∧isPu E o=true):=by
   intro i r hr hp hd
   have hlt:i<ops.size:=by
    have:=(List.getElem?_eq_some_iff.1 hr).1
    rw [tbl_len] at this;simpa using this
   obtain⟨r',q1,q2,q3,_⟩:=tbl_get (E:=E) (ops:=ops.toList) (k:=i) (o:=ops[i]) (by simp [hlt])
   rw [hr] at q1;injection q1 with q1;subst q1
   cases hl:listed.getD i false with
   | true=>exact .inl rfl
   | false =>
    refine .inr ⟨mem_ready.2 ⟨by rw [getD_tf (by omega)];exact hl,ops[i],by simp [hlt],fun ed hed hb=>?_⟩,ops[i],by simp [hlt],by rw [←q3];exact hp⟩
    exact hd _ (by rw [q2];exact depOf_bit.2 ⟨ed,hed,hb,rfl⟩)
  by_cases hpx:∃k,k∈Region.ready .any ops listed∧∃o,ops[k]?=some o∧isPu E o=true
  ·obtain⟨k0,hk0⟩:=hpx
   obtain⟨k,⟨hk1,o,ho,hpu⟩,hleast⟩:=exists_least (p:=fun k=>k∈Region.ready .any ops listed∧∃o,ops[k]?=some o∧isPu E o=true) hk0
   obtain⟨o',ho',hlt,hkn,hdep⟩:=hready k hk1
   rw [ho] at ho';injection ho' with ho';subst ho'
   have hnp:NoPu (tbl E ops.toList) (fun i=>listed.getD i false=true) k:=by
    intro i r hi hr hp hd
    rcases hback i r hr hp hd with h | h
    ·exact h
    ·exact absurd h (hleast i hi)
   have hok2:=hok
   unfold okPl at hok2
   simp only [Bool.and_eq_true,List.all_eq_true,List.mem_range] at hok2
   have hns:Region.noSelect ops=true:=hok2.1.1
   have hfree:Region.free .any ops listed k=true:=by
    unfold Region.free
    simp only [ho,List.all_eq_true,List.mem_range]
    intro j hj
    have h1:=hok2.1.2 k hlt
    rw [ho] at h1
    simp only [hpu,cond_true,Bool.and_eq_true,List.all_eq_true,List.mem_range] at h1
    have h2:=h1.2 j hj
    obtain⟨f,hf⟩:∃f,(tbl E ops.toList)[k]?=some f:=⟨_,List.getElem?_eq_getElem (by rw [tbl_len];simpa using hlt)⟩
    simp only [Bool.or_eq_true] at h2 ⊢
    rcases h2 with (h2 | h2) | h2
    ·exact .inl (.inl (by simpa using Nat.eq_of_beq_eq_true h2))
    ·have:listed.getD j false=true:=by
      obtain⟨_,hclo,_⟩:=hg
      refine bef_done hclo (by simpa using ho) hf hnp hdep j ?_
      simpa [bOf,hf] using h2
     exact .inl (.inr (by rw [getD_tf (by omega)];exact this))
    ·refine .inr ?_
     have hoj:ops[j]?=some ops[j]:=by simp [hj]
     rw [hoj] at h2 ⊢
     simp only [Bool.or_eq_true] at h2 ⊢
     rcases h2 with h2 | h2
     ·obtain⟨ed,h3,h4,h5⟩:=depOf_bit.1 h2
      exact .inl (Array.any_eq_true'.2 ⟨ed,h3,by simp [h4,h5]⟩)
     ·exact .inr h2
   have hcont:(Region.ready .any ops listed).contains k=true:=by simpa using hk1
   rcases step_good (Q:=Q) hE hfit hok hg ho hkn hdep hnp with ⟨g1,g2,g3⟩ | ⟨g1,g2⟩
   ·obtain⟨u,hu⟩:=g3 hpu
    have hg':Good E c ops K (listed.setIfInBounds k true) (a.put o.dst u) w:=by
     unfold Oper.wp at g2
     rw [hu w] at g2
     exact g2
    exact wpAny_take ho hns hfree hcont (fun ch a w hq=>absurd hq (hQ _ _ _)) (.inl ⟨g1,fun w'=>hu w'⟩) (ih _ _ _ hg' (count_set hsz hlt hkn hc))
   ·exact wpAny_take ho hns hfree hcont (fun ch a w hq=>absurd hq (hQ _ _ _)) (.inr ⟨g1,rfl⟩) (ih _ _ _ g2 (count_set hsz hlt hkn hc))
  ·refine ⟨fun hr=>hdone listed a w hg hr,fun k hk=>?_⟩
   obtain⟨o,ho,hlt,hkn,hdep⟩:=hready k hk
   have hnp:NoPu (tbl E ops.toList) (fun i=>listed.getD i false=true) k:=by
    intro i r hi hr hp hd
    rcases hback i r hr hp hd with h | h
    ·exact h
    ·exact absurd ⟨i,h⟩ hpx
   unfold wpOp
   simp only [ho]
   rcases step_good (Q:=Q) hE hfit hok hg ho hkn hdep hnp with ⟨g1,g2,_⟩ | ⟨g1,g2⟩
   ·rw [if_pos g1]
    exact .inl (Oper.wp_mono (fun a' w' hg'=>ih _ _ _ hg' (count_set hsz hlt hkn hc)) g2)
   ·rw [if_neg (by rw [g1];simp)]
    exact ih _ _ _ g2 (count_set hsz hlt hkn hc)
theorem draw_sound(hE:EnvOk E)(hfit:Fit E c)(hm:E.P.follows .mixedOrders=true){id:Nat}{ops:Array Oper}{R:Exit→Act→World→Prop}{K:St→Prop}{st:St}{a:Act}{w:World}{G:Gh}{Fx:Act→Prop}(ha:Fx a)(hkf:∀ (i:Nat) (o:Oper),ops[i]?=some o→KeepF Fx o)(hok:okPl E ops=true)(h:Rel c st a w G)
  (hk:regD E ops.toList (ops.toList.zip (rowsO E ops.toList)) st.t [] st K) (hend:∀st a w G,K st→Rel c st a w G→Fx a→R .normal a w):(Code.region id ops true).wp E.P R a w:=by
 have h2:(Code.region id ops true).wp E.P (fun e a w=>match e with | .panic _=>False | e=>R e a w) a w:=by
  refine wp_region_any hm ?_
  refine any_fx hkf _ _ _ _ ha ?_
  refine any_sound (Q:=QF Fx fun e a w=>match e with | .panic _=>False | e=>R e a w) hE hfit (K:=K) hok (fun ch a w hq=>hq) (fun st a w G h1 h2=>hend st a w G h1 h2) ops.size _ a _ ?_ ?_
  ·obtain⟨segs,e,hseg⟩:=seg_of (b:=0) (S0:=st) _ 0 [] [] rfl (Nat.le_refl _) (Nat.zero_le _) (by simp) (fun e he=>by cases he) (fun pre' k d p post he=>by simp at he) hk
   have hf:∀i,(Array.replicate ops.size false).getD i false=false:=by
    intro i
    simp only [Array.getD_eq_getD_getElem?,Array.getElem?_replicate]
    split <;> rfl
   refine ⟨by simp,fun i hi=>?_,0,st,segs,e,G,hseg,fun i hi=>by omega,fun i hi=>?_,?_⟩
   ·simp only [hf] at hi;cases hi
   ·rw [hf] at hi;cases hi
   ·have:segs.filter (fun x=>(Array.replicate ops.size false).getD x.1 false)=[]:=List.filter_eq_nil_iff.2 fun x hx=>by rw [hf];simp
    rw [this]
    exact h.ext ((RowKit.Below.refl _ w).drew)
  ·exact Nat.le_trans (List.length_filter_le _ _) (by simp)
 intro b k cs
 obtain⟨e,a',w',hq,ha⟩:=h2 b k cs
 refine ⟨e,a',w',?_,ha⟩
 cases e <;> first | exact hq | exact hq.elim
end
end Go.Ar
