import Derived.Test.YthhcbcokjlpahaaGreatArB
namespace Go.Ar
set_option linter.unusedVariables false
set_option linter.unusedSimpArgs false
/-! ### Numbers and strings, kept from the evaluation -/
def iopF(op:BinOp)(k:IntKind)(x y:Int):Int :=
 match op with
 | .add=>k.wrap (x+y) | .sub=>k.wrap (x-y) | .mul=>k.wrap (x*y)
 | .quo=>k.wrap (x.tdiv y) | .rem=>x.tmod y
 | .and=>k.wrap (BitVec.ofInt k.bits x &&& BitVec.ofInt k.bits y).toNat
 | .or=>k.wrap (BitVec.ofInt k.bits x ||| BitVec.ofInt k.bits y).toNat
 | .xor=>k.wrap (BitVec.ofInt k.bits x ^^^ BitVec.ofInt k.bits y).toNat
 | .andNot=>k.wrap (BitVec.ofInt k.bits x &&& ~~~ BitVec.ofInt k.bits y).toNat
 | .shl=>k.wrap (x*2 ^ min y.toNat k.bits)
 | .shr=>x.fdiv (2 ^ min y.toNat k.bits)
 | _=>0
noncomputable def iop:BinOp→IntKind→Int→Int→Int:=Classical.choose (kp iopF)
theorem iop_eq:iop=iopF:=Classical.choose_spec (kp iopF)
def icmpF(op:BinOp)(x y:Int):Bool :=
 match op with
 | .eql=>x == y | .neq=>x != y | .lss=>decide (x<y) | .leq=>decide (x≤y) | .gtr=>decide (x > y) | .geq=>decide (x≥y)
 | _=>false
noncomputable def icmp:BinOp→Int→Int→Bool:=Classical.choose (kp icmpF)
theorem icmp_eq:icmp=icmpF:=Classical.choose_spec (kp icmpF)
def scmpF(op:BinOp)(x y:List UInt8):Bool :=
 match op with
 | .eql=>x == y | .neq => !(x == y) | .lss=>Op.bytesLess x y | .leq=>Op.bytesLess x y || x == y
 | .gtr => !(Op.bytesLess x y || x == y) | .geq => !Op.bytesLess x y
 | _=>false
noncomputable def scmp:BinOp→List UInt8→List UInt8→Bool:=Classical.choose (kp scmpF)
theorem scmp_eq:scmp=scmpF:=Classical.choose_spec (kp scmpF)
noncomputable def sapp:List UInt8→List UInt8→List UInt8:=Classical.choose (kp fun(a b:List UInt8)=>a++b)
theorem sapp_eq(a b:List UInt8):sapp a b=a++b:=by unfold sapp;rw [Classical.choose_spec (kp fun(a b:List UInt8)=>a++b)]
noncomputable def ssub:List UInt8→Int→Int→List UInt8:=Classical.choose (kp fun(a:List UInt8) (lo hi:Int)=>(a.drop lo.toNat).take (hi.toNat-lo.toNat))
theorem ssub_eq(a:List UInt8)(lo hi:Int):ssub a lo hi=(a.drop lo.toNat).take (hi.toNat-lo.toNat):=by unfold ssub;rw [Classical.choose_spec (kp fun(a:List UInt8) (lo hi:Int)=>(a.drop lo.toNat).take (hi.toNat-lo.toNat))]
noncomputable def slen:List UInt8→Int:=Classical.choose (kp fun(a:List UInt8)=>(a.length:Int))
theorem slen_eq(a:List UInt8):slen a=a.length:=by unfold slen;rw [Classical.choose_spec (kp fun(a:List UInt8)=>(a.length:Int))]
noncomputable def llen:List (List V)→Int:=Classical.choose (kp fun(a:List (List V))=>(a.length:Int))
theorem llen_eq(a:List (List V)):llen a=a.length:=by unfold llen;rw [Classical.choose_spec (kp fun(a:List (List V))=>(a.length:Int))]
noncomputable def sget:List UInt8→Int→Int:=Classical.choose (kp fun(a:List UInt8) (i:Int)=>((a.getD i.toNat 0).toNat:Int))
theorem sget_eq(a:List UInt8)(i:Int):sget a i=((a.getD i.toNat 0).toNat:Int):=by unfold sget;rw [Classical.choose_spec (kp fun(a:List UInt8) (i:Int)=>((a.getD i.toNat 0).toNat:Int))]
noncomputable def plus:Int→Int→Int:=Classical.choose (kp fun(a b:Int)=>a+b)
theorem plus_eq(a b:Int):plus a b=a+b:=by unfold plus;rw [Classical.choose_spec (kp fun(a b:Int)=>a+b)]
noncomputable def rep_:Int→List V→List (List V):=Classical.choose (kp fun(n:Int) (r:List V)=>List.replicate n.toNat r)
theorem rep_eq(n:Int)(r:List V):rep_ n r=List.replicate n.toNat r:=by unfold rep_;rw [Classical.choose_spec (kp fun(n:Int) (r:List V)=>List.replicate n.toNat r)]
noncomputable def app:List (List V)→List (List V)→List (List V):=Classical.choose (kp fun(a b:List (List V))=>a++b)
theorem app_eq(a b:List (List V)):app a b=a++b:=by unfold app;rw [Classical.choose_spec (kp fun(a b:List (List V))=>a++b)]
/-- The rows of a []byte. -/
noncomputable def bys:List UInt8→List (List V):=Classical.choose (kp fun(a:List UInt8)=>a.map fun b=>[V.i .u8 b.toNat])
theorem bys_eq(a:List UInt8):bys a=a.map fun b=>[V.i .u8 b.toNat]:=by unfold bys;rw [Classical.choose_spec (kp fun(a:List UInt8)=>a.map fun b=>[V.i .u8 b.toNat])]
noncomputable def wrp:IntKind→Int→Int:=Classical.choose (kp fun(k:IntKind) (n:Int)=>k.wrap n)
theorem wrp_eq(k:IntKind)(n:Int):wrp k n=k.wrap n:=by unfold wrp;rw [Classical.choose_spec (kp fun(k:IntKind) (n:Int)=>k.wrap n)]
/-- i lies in a slice of n. -/
noncomputable def InR:Int→Int→Prop:=Classical.choose (kp fun(i n:Int)=>0≤i∧i<n)
theorem InR_eq(i n:Int):InR i n=(0≤i∧i<n):=by unfold InR;rw [Classical.choose_spec (kp fun(i n:Int)=>0≤i∧i<n)]
/-- lo and hi are bounds of a slice of n. -/
noncomputable def InS:Int→Int→Int→Prop:=Classical.choose (kp fun(lo hi n:Int)=>0≤lo∧lo≤hi∧hi≤n)
theorem InS_eq(lo hi n:Int):InS lo hi n=(0≤lo∧lo≤hi∧hi≤n):=by unfold InS;rw [Classical.choose_spec (kp fun(lo hi n:Int)=>0≤lo∧lo≤hi∧hi≤n)]
/-- n things of so many bytes find room. -/
noncomputable def Room:Int→Int→Prop:=Classical.choose (kp fun(n by_:Int)=>0≤n∧n*by_≤140737488355328∧n≤140737488355328)
theorem Room_eq(n by_:Int):Room n by_=(0≤n∧n*by_≤140737488355328∧n≤140737488355328):=by unfold Room;rw [Classical.choose_spec (kp fun(n by_:Int)=>0≤n∧n*by_≤140737488355328∧n≤140737488355328)]
def kEq:IntKind→IntKind→Bool
 | .i8,.i8=>true | .i16,.i16=>true | .i32,.i32=>true | .i64,.i64=>true
 | .u8,.u8=>true | .u16,.u16=>true | .u32,.u32=>true | .u64,.u64=>true
 | _,_=>false
theorem kEq_iff{a b:IntKind}(h:kEq a b=true):a=b:=by cases a <;> cases b <;> first | rfl | cases h
/-! ### The content behind a reference, only looked at -/
theorem Rel.rootN{c:Cx}{st:St}{a:Act}{w:World}{G:Gh}(h:Rel c st a w G){own:Bool}(hgm:c.gm=bif own then .own else .shr){r:Rt}{src:Sr}(hsrc:Ar.rho c G r=some src)(hne:rowOf st r≠[])
  (htp:∀t,r=.tp t→isSl (st.t.getD t .un)=true):RootN w G.Sh (mdR own r) src (rowOf st r) (fun b=>G.ow b≠.no):=by
 cases r with
 | bx t =>
  obtain⟨h1,h2,h3,h4⟩:=h.mb t _ (getD_nil_some hne) hne
  obtain rfl:Sr.mem (G.bx t) 0=src:=by simpa [Ar.rho] using hsrc
  exact ⟨_,fun b hb=>by (show G.ow b≠.no;rw [show G.ow b=_ from hb];simp),.inl (by show G.ow _≠.no;rw [h1];simp),h4⟩
 | tp t =>
  obtain rfl:Sr.val (G.tv t)=src:=by simpa [Ar.rho] using hsrc
  have hs:=htp t rfl
  cases hv:st.t.getD t .un with
  | sl f z xs =>
   have ht:=getD_some hv (by simp)
   have:=h.tm t _ ht
   rw [h.tv t f z xs ht] at this
   exact ⟨_,_,fun b hb=>by (show G.ow b≠.no;rw [show G.ow b=_ from hb];simp),by simp only [rowOf,hv],this⟩
  | _=>rw [hv] at hs;cases hs
 | gl g =>
  obtain rfl:c.gl g=src:=by simpa [Ar.rho] using hsrc
  have hg:=(h.gb g _ (getD_nil_some hne)).resolve_left hne
  unfold GOkN at hg
  cases own with
  | true =>
   simp only [cond_true] at hgm
   rw [hgm] at hg
   cases hc:c.gl g with
   | mem b o =>
    rw [hc] at hg
    obtain⟨_,rfl,h3,_,_,h6⟩:=hg
    exact ⟨_,fun b hb=>by (show G.ow b≠.no;rw [show G.ow b=_ from hb];simp),.inl (by show G.ow _≠.no;rw [h3];simp),h6⟩
   | val v =>
    rw [hc] at hg
    obtain⟨_,f,z,xs,h1,h2⟩:=hg
    exact ⟨_,_,fun b hb=>by (show G.ow b≠.no;rw [show G.ow b=_ from hb];simp),h1,h2⟩
  | false =>
   simp only [cond_false] at hgm
   rw [hgm] at hg
   cases hc:c.gl g with
   | mem b o =>
    rw [hc] at hg
    rcases hg with h0 | ⟨h1,h2⟩
    ·exact absurd h0 hne
    ·exact ⟨_,fun _ h=>h.elim,.inr h1,h2⟩
   | val v =>
    rw [hc] at hg
    rcases hg with h0 | ⟨cl,h1,h2⟩
    ·exact absurd h0 hne
    ·exact ⟨_,_,fun _ h=>h.elim,h1,h2⟩
theorem root_nav2{w:World}{Sh:Nat→Prop}{md:Fl}{src s':Sr}{row:List V}{ps:List (Nat × Int × Nat)}{K:Fl→List V→Prop}{B:Nat→Prop}
  (h:RootN w Sh md src row B) (hk:navK md row ps K) (hres:res w src ps=some s'):∃ (md':Fl) (row':List V),RootN w Sh md' s' row' B∧K md' row':=by
 cases ps with
 | nil =>
  obtain rfl:src=s':=by simpa [res] using hres
  exact ⟨md,row,h,hk⟩
 | cons p ps =>
  have hm:∀ (ps:List (Nat × Int × Nat)) (p:Nat × Int × Nat) (s s':Sr),res w s (p::ps)=some s'→∃b o,s'=.mem b o:=by
   intro ps
   induction ps with
   | nil =>
    intro p s s' h
    simp only [res] at h
    cases hq:stepS w s p with
    | none=>rw [hq] at h;cases h
    | some s1 =>
     rw [hq] at h
     simp only [Option.bind_some,Option.some.injEq] at h
     subst h
     unfold stepS at hq
     split at hq
     ·split at hq
      ·cases hq
      ·injection hq with hq;exact ⟨_,_,hq.symm⟩
     ·cases hq
   | cons q qs ih =>
    intro p s s' h
    rw [res] at h
    cases hq:stepS w s p with
    | none=>rw [hq] at h;cases h
    | some s1 =>
     rw [hq] at h
     exact ih q s1 s' h
  obtain⟨b,o,rfl⟩:=hm ps p src s' hres
  obtain⟨md',row',T',h1,hB,hb,h2⟩:=root_nav h hk hres
  exact ⟨md',row',⟨T',hB,hb,h1⟩,h2⟩
theorem RootN.cell{w:World}{Sh:Nat→Prop}{md:Fl}{s:Sr}{row:List V}{k:Nat}{c:V}{v:Value}{B:Nat→Prop}(h:RootN w Sh md s row B)(hr:row.getD k .un=c)(hc:c≠.un)(hv:s.cell w k=some v):∃T,RepC w Sh md c v T∧(∀b,T b→B b):=by
 have hk:=getD_some hr hc
 cases s with
 | mem b o =>
  obtain⟨T,hB,_,h⟩:=h
  obtain⟨v',T1,T2,h1,h2,h3,_⟩:=RepRow.focus row o T k c h hk
  simp only [Sr.cell] at hv
  rw [h1] at hv
  injection hv with hv
  subst hv
  exact ⟨T1,h2,fun b hb=>hB b (h3 b hb).1⟩
 | val x =>
  obtain⟨cl,T,hB,rfl,h⟩:=h
  cases k with
  | zero =>
   simp only [Sr.cell,if_true,Option.some.injEq] at hv
   subst hv
   simp only [List.getElem?_cons_zero,Option.some.injEq] at hk
   subst hk
   exact ⟨T,h,hB⟩
  | succ k=>simp at hk
noncomputable def dfA(E:Env)(st:St)(p:Pl)(z:Nat)(u:Option (Int × Int))(K:List (List V)→Prop):Prop :=
 navK (mdR E.own p.r) (rowOf st p.r) p.ps fun _ row=>row≠[]∧(match row.getD p.o .un with | .sl _ z' xs=>bif z' == z then K (sub u xs) else False | _=>False)
theorem navK_ne{md:Fl}{row:List V}{ps:List (Nat × Int × Nat)}{K:Fl→List V→Prop}(hk:navK md row ps fun md row=>row≠[]∧K md row):row≠[]:=by
 intro e
 subst e
 cases ps with
 | nil=>exact hk.1 rfl
 | cons x y=>obtain⟨k,i,z⟩:=x;simp [navK] at hk
theorem dfA_sound{E:Env}{c:Cx}{st:St}{a:Act}{w:World}{G:Gh}(h:Rel c st a w G)(hfit:Fit E c){p:Pl}{z:Nat}{u:Option (Int × Int)}{v:Value}{T0:Nat→Prop}{K:List (List V)→Prop}
  (hv:RepT w G.Sh (Ar.rho c G) (.rf p z u) v T0) (hk:dfA E st p z u K) :
  ∃ (md f:Fl) (xs:List (List V)) (T:Nat→Prop),K xs∧RepC w G.Sh md (.sl f z xs) v T∧(∀b,T b→G.ow b≠.no):=by
 simp only [RepT] at hv
 obtain⟨src,s',hv0,hsrc,hres,hcell,hsub⟩:=hv
 unfold dfA at hk
 have hne:=navK_ne hk
 have htp:∀t,p.r=.tp t→isSl (st.t.getD t .un)=true:=by
  intro t ht
  rw [ht] at hk
  have key:∀k f z xs,[st.t.getD t V.un].getD k .un=.sl f z xs→isSl (st.t.getD t .un)=true:=by
   intro k f z xs hg
   have:=getD_some hg (by simp)
   cases k with
   | zero =>
    have e:st.t.getD t .un=.sl f z xs:=by simpa using hg
    rw [e];rfl
   | succ k=>simp at this
  cases hps:p.ps with
  | nil =>
   rw [hps] at hk
   simp only [navK,rowOf] at hk
   obtain⟨_,hk⟩:=hk
   split at hk
   ·rename_i hg;exact key _ _ _ _ hg
   ·exact hk.elim
  | cons x y =>
   obtain⟨k,i,zz⟩:=x
   rw [hps] at hk
   simp only [navK,rowOf] at hk
   split at hk
   ·rename_i hg;exact key _ _ _ _ hg
   ·exact hk.elim
 obtain⟨md',row',h1,_,h2⟩:=root_nav2 (h.rootN hfit.gm hsrc hne htp) hk hres
 split at h2
 ·rename_i f z' xs hg
  cases hb:(z' == z) with
  | false=>rw [hb] at h2;exact h2.elim
  | true =>
   rw [hb] at h2
   obtain rfl:z'=z:=by simpa using hb
   obtain⟨T,hT,hTB⟩:=h1.cell hg (by simp) hcell
   exact ⟨md',f,_,T,h2,RepC.sub hT hsub,hTB⟩
 ·exact h2.elim
/-- A slice's header. -/
theorem RepC.hdr{w:World}{Sh:Nat→Prop}{md f:Fl}{z:Nat}{xs:List (List V)}{v:Value}{T:Nat→Prop}(h:RepC w Sh md (.sl f z xs) v T) :
  ((∃al,v=.slice al 0 0)∧xs=[])∨∃b o c,v=.slice (some ⟨b,o,none⟩) xs.length c∧xs.length≤c∧c≤maxLen∧∃ (T':Nat→Prop),RepRows w Sh (md.meet f) z xs b o T':=by
 simp only [RepC] at h
 rcases h with h | ⟨b,o,c,hv,h1,h2,h⟩
 ·exact .inl h
 ·refine .inr ⟨b,o,c,hv,h1,h2,?_⟩
  rcases h with ⟨hm,_,h⟩ | ⟨hm,_,_,_,h⟩ | ⟨hm,_,_,_,h⟩
  ·exact ⟨_,by rw [hm];exact h⟩
  ·exact ⟨_,by rw [hm];exact h⟩
  ·exact ⟨_,by rw [hm];exact h⟩
/-- The rows of a value that is a slice, in whatever form it is held. -/
noncomputable def slK(E:Env)(st:St)(v:V)(K:List (List V)→Prop):Prop :=
 match v with
 | .nil=>K []
 | .sl _ _ xs=>K xs
 | .rf p z u=>dfA E st p z u K
 | _=>False
theorem slK_sound{E:Env}{c:Cx}{st:St}{a:Act}{w:World}{G:Gh}(h:Rel c st a w G)(hfit:Fit E c){x:V}{v:Value}{T0:Nat→Prop}{K:List (List V)→Prop}
  (hv:RepT w G.Sh (Ar.rho c G) x v T0) (hk:slK E st x K):∃ (xs:List (List V)) (al:Option Addr) (n cc:Nat),K xs∧v=.slice al n cc∧n=xs.length∧n≤cc∧(al=none→xs=[]):=by
 unfold slK at hk
 split at hk
 ·have:v=.slice none 0 0:=hv
  exact ⟨[],none,0,0,hk,this,rfl,Nat.le_refl _,fun _=>rfl⟩
 ·rename_i f z xs
  have hv':RepC w G.Sh .own (.sl f z xs) v T0:=hv
  rcases hv'.hdr with ⟨⟨al,rfl⟩,rfl⟩ | ⟨b,o,c,rfl,h1,h2,_⟩
  ·exact ⟨[],al,0,0,hk,rfl,rfl,Nat.le_refl _,fun _=>rfl⟩
  ·exact ⟨xs,_,_,_,hk,rfl,rfl,h1,fun e=>by cases e⟩
 ·obtain⟨md,f,xs,T,h1,h2,hTB⟩:=dfA_sound h hfit hv hk
  rcases h2.hdr with ⟨⟨al,rfl⟩,rfl⟩ | ⟨b,o,c,rfl,h3,h4,_⟩
  ·exact ⟨[],al,0,0,h1,rfl,rfl,Nat.le_refl _,fun _=>rfl⟩
  ·exact ⟨xs,_,_,_,h1,rfl,rfl,h3,fun e=>by cases e⟩
 ·exact hk.elim
/-! ### Types -/
structure FOk (P:Program) (F:Array Field) (fs:List (Nat × Nat × Bool)):Prop where
 all:F.toList.mapM (fun f=>(P.info? f.type).map fun i=>(f.offset,i.size))=some (fs.map fun x=>(x.1,x.2.1))
 fld:∀ (j o n:Nat) (ag:Bool),fs[j]?=some (o,n,ag)→∃ (f:Field) (x:TypeInfo),F[j]?=some f∧f.offset=o∧P.info? f.type=some x∧x.size=n∧n≠0 ∧
  (∃d,P.underlying f.type=some d∧(ag=true↔(∃F',d=TypeDesc.struct F')∨(∃n e,d=TypeDesc.array n e)))
def UOk(P:Program)(t:Nat):TK→Prop
 | .no=>True
 | .bool=>P.underlying t=some .bool
 | .int k=>P.underlying t=some (.int k)
 | .str=>P.underlying t=some .string
 | .slice e=>P.underlying t=some (.slice e)
 | .strct fs=>∃F,P.underlying t=some (.struct F)∧FOk P F fs
 | .ptr=>∃e,P.underlying t=some (.pointer e)
 | .fn=>∃a b c,P.underlying t=some (.func a b c)
def kn:TK→Bool
 | .no=>false
 | _=>true
def isAg:TK→Bool
 | .strct _=>true
 | _=>false
/-- The fields of a struct whose cells are all scalars. -/
def EqF(P:Program):List Field→Nat→List V→Prop
 | [],_,[]=>True
 | f :: fs, j, z :: zs => f.offset = j ∧ f.name ≠ "_" ∧ (match z with | .b _ => P.underlying f.type = some .bool | .i k _ => P.underlying f.type = some (.int k) | .s _ => P.underlying f.type = some .string | _ => False) ∧ EqF P fs (j + 1) zs
 | _,_,_=>False
structure EqOk (P:Program) (t:Nat) (zr:List V):Prop where
 st:P.stoodInHeld t=false
 gd:P.eqGuardType P.depth t=false
 fl:∃F,P.underlying t=some (.struct F)∧EqF P F.toList 0 zr
def isS:TK→Bool
 | .strct _=>true
 | _=>false
structure TOk (P:Program) (t:Nat) (i:TI):Prop where
 info:∃x z,P.info? t=some x∧x.size=i.sz∧x.bytes=i.by_∧x.zero=some z∧z.cells.size=i.sz∧i.zr.length=i.sz∧plains i.zr=true∧∀w Sh,RepCs w Sh i.zr z.cells.toList (fun _=>False)
 und:UOk P t i.k
 eqs:isS i.k=true→scals i.zr=true→EqOk P t i.zr
def EnvOk(E:Env):Prop := ∀t,kn (E.ti t).k=true→TOk E.P t (E.ti t)
end Go.Ar
