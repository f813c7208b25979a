import Derived.Test.YthhcbcokjlpahaaGreatArC
namespace Go.Ar
set_option linter.unusedVariables false
set_option linter.unusedSimpArgs false
theorem wp_value{P:Program}{o:Oper}{a:Act}{w w':World}{N:Act→World→Prop}{Q:Exit→Act→World→Prop}{v:Value}(hr:(execOp a.eval o).run P w=.ok (.value v) w')(h:N (a.put o.dst v) w'):o.wp P a w N Q:=by
 unfold Oper.wp;rw [hr];exact h
theorem wp_skipv{P:Program}{o:Oper}{a:Act}{w w':World}{N:Act→World→Prop}{Q:Exit→Act→World→Prop}(hr:(execOp a.eval o).run P w=.ok .skip w')(h:N (a.put o.dst undef) w'):o.wp P a w N Q:=by
 unfold Oper.wp;rw [hr];exact h
/-- An operation's abstract run is sound. -/
def OpS(E:Env)(c:Cx)(o:Oper)(A:St→(St→Prop)→Prop):Prop :=
 ∀ (st:St) (a:Act) (w:World) (G:Gh) (K:St→Prop) (N:Act→World→Prop) (Q:Exit→Act→World→Prop),Rel c st a w G→A st K →
  (∀st' a' w' G',K st'→Rel c st' a' w' G'→N a' w')→o.wp E.P a w N Q
/-- A quiet operation: it looks, may make new blocks, and yields a value. -/
def OpQ(E:Env)(c:Cx)(o:Oper)(A:St→(V→Prop)→Prop):Prop :=
 ∀ (st:St) (a:Act) (w:World) (G:Gh) (K:V→Prop) (N:Act→World→Prop) (Q:Exit→Act→World→Prop),Rel c st a w G→A st K →
  (∀ (v:V) (u:Value) (w':World) (T:Nat→Prop),K v→RowKit.Below w.heap.size w w'→RepT w' G.Sh (Ar.rho c G) v u T→(∀b,T b→w.heap.size≤b∧b<w'.heap.size)→N (a.put o.dst u) w')→o.wp E.P a w N Q
theorem noneT{w w':World}:∀b,(fun _=>False:Nat→Prop) b→w.heap.size≤b∧b<w'.heap.size:=fun _ h=>h.elim
theorem Rel.rep0{c:Cx}{st:St}{a:Act}{w:World}{G:Gh}(h:Rel c st a w G){v:V}{u:Value}(hv:RepT w G.Sh (Ar.rho c G) v u (fun _=>False)):RepT w G.Sh (Ar.rho c G) v u (fun _=>False):=hv
theorem Rel.put1{c:Cx}{st:St}{a:Act}{w:World}{G:Gh}(h:Rel c st a w G)(dst:Option Nat){v:V}{u:Value}{T:Nat→Prop}(hv:RepT w G.Sh (Ar.rho c G) v u T)(hf:Free c w G T):∃G',Rel c (pu st dst v) (a.put dst u) w G' :=
 h.put dst v u T hv (fun _ _ _=>trivial) (fun b hb=>(hf b hb).1) (fun b hb=>(hf b hb).2) (fun d _ hs=>by cases v <;> simp [isSl] at hs;rfl)
theorem Handed.put{c:Cx}{a:Act}{w:World}{G:Gh}{u:Value}{K:St→Prop}{dst:Option Nat}(h:Handed c a w G u fun v st'=>K (pu st' dst v)):∃st' G',K st'∧Rel c st' (a.put dst u) w G':=by
 obtain⟨V',st',G',T',k1,k2,k3,k4,_⟩:=h
 obtain⟨G2,h2⟩:=k2.put1 dst k3 k4
 exact ⟨_,G2,k1,h2⟩
/-- A value without titles into a temporary. -/
theorem Rel.put0{c:Cx}{st:St}{a:Act}{w:World}{G:Gh}(h:Rel c st a w G)(dst:Option Nat){v:V}{u:Value}(hv:RepT w G.Sh (Ar.rho c G) v u (fun _=>False)):∃G',Rel c (pu st dst v) (a.put dst u) w G' :=
 h.put1 dst hv none_free
/-! ### The single operations -/
section ops
variable {E:Env} {c:Cx} {o:Oper}
theorem OpQ.toS{A:St→(V→Prop)→Prop}(h:OpQ E c o A):OpS E c o fun st K=>A st fun v=>K (pu st o.dst v):=by
 intro st a w G K N Q hr hk hN
 refine h st a w G _ N Q hr hk fun v u w' T k1 k2 k3 k4=>?_
 obtain⟨G',hG⟩:=(hr.ext k2).put1 o.dst (v:=v) (u:=u) (T:=T) k3 (fun b hb=>by
  obtain⟨z1,z2⟩:=k4 b hb
  refine ⟨?_,z2,.inl (Nat.le_trans hr.sz z1)⟩
  cases ho':G.ow b with
  | no=>rfl
  | _=>have:=(hr.ob b (by rw [ho'];simp)).1;omega)
 exact hN _ _ _ _ k1 hG
theorem move_sound{x:Operand}(ho:o.op=.move x):OpS E c o fun st K=>mvA st x fun v st'=>K (pu st' o.dst v):=by
 intro st a w G K N Q h hk hN
 obtain⟨st',G',k1,k2⟩:=(mvA_sound h hk).put
 exact wp_value (by simp [execOp,ho]) (hN _ _ _ _ k1 k2)
theorem assign_sound(hfit:Fit E c){x:Operand}(ho:o.op=.assign x):OpS E c o fun st K=>coA E st x fun v st'=>K (pu st' o.dst v):=by
 intro st a w G K N Q h hk hN
 obtain⟨st',G',k1,k2⟩:=(coA_sound hfit h hk).put
 exact wp_value (by simp [execOp,ho]) (hN _ _ _ _ k1 k2)
theorem pick_sound{x y z:Operand}(ho:o.op=.pick x y z):OpS E c o fun st K=>match ev st x with | .b t=>(bif t then mvA st y fun v st'=>K (pu st' o.dst v) else mvA st z fun v st'=>K (pu st' o.dst v)) | _=>False:=by
 intro st a w G K N Q h hk hN
 obtain⟨T,hx⟩:=h.ev x
 split at hk
 ·rename_i t hg
  rw [hg] at hx
  have hx:a.eval x=.bool t:=hx
  cases t with
  | true =>
   simp only [cond_true] at hk
   obtain⟨st',G',k1,k2⟩:=(mvA_sound h hk).put
   exact wp_value (by simp [execOp,ho,hx,asBool]) (hN _ _ _ _ k1 k2)
  | false =>
   simp only [cond_false] at hk
   obtain⟨st',G',k1,k2⟩:=(mvA_sound h hk).put
   exact wp_value (by simp [execOp,ho,hx,asBool]) (hN _ _ _ _ k1 k2)
 ·exact hk.elim
noncomputable def allocA(E:Env)(t:Nat)(dst:Option Nat)(st:St)(K:St→Prop):Prop :=
 match dst with
 | some d=>bif kn (E.ti t).k then K { st with t:=(killR (.bx d) st.t).set d (.pt ⟨.bx d,[],0⟩),m:=st.m.set d (E.ti t).zr } else False
 | none=>False
theorem alloc_sound(hE:EnvOk E){t:Nat}(ho:o.op=.alloc t):OpS E c o (allocA E t o.dst):=by
 intro st a w G K N Q h hk hN
 unfold allocA at hk
 split at hk
 ·rename_i d hd
  cases hkn:kn (E.ti t).k with
  | false=>rw [hkn] at hk;exact hk.elim
  | true =>
   rw [hkn] at hk
   obtain⟨x,z,h1,h2,h3,h4,h5,h6,h7,h8⟩:=(hE t hkn).info
   obtain⟨G',hG⟩:=h.newBox d (E.ti t).zr z.cells.toList t (fun _=>False) (h8 w G.Sh) (fun _ h=>h.elim) (fun _ h=>h.elim)
   refine wp_value (v:=.pointer (some ⟨w.heap.size,0,none⟩)) (w':=w.alloc (.cells z.cells.toList.toArray t)) ?_ (hN _ _ _ _ hk (hd▸hG))
   simp [execOp,ho,Instr.alloc,zeroValue,typeInfo,h1,h4,newVar,newRow]
 ·exact hk.elim
def cellsOf:V→List V
 | .ag cs=>cs
 | v=>[v]
/-- The cells of a consumed value. -/
theorem cellsOf_rep{w:World}{Sh:Nat→Prop}{ρ:Rt→Option Sr}{v:V}{u:Value}{T:Nat→Prop}(hp:plains (cellsOf v)=true)(h:RepT w Sh ρ v u T):RepCs w Sh (cellsOf v) u.cells.toList T:=by
 cases v with
 | ag cs =>
  simp only [RepT] at h
  obtain⟨vs,rfl,h2⟩:=h
  have:=repCs_of_Ts cs vs T hp h2
  simpa [cellsOf,Value.cells] using this
 | _ =>
  simp only [cellsOf,plains,Bool.and_true] at hp
  have hc:=repC_of_T hp h
  have h1:=hc.one
  have hcs:u.cells = #[u]:=by cases u <;> first | rfl | cases h1
  rw [hcs]
  exact ⟨T,fun _=>False,hc,trivial,fun x hx=>⟨hx,fun h=>h⟩,fun _ h=>h.elim⟩
noncomputable def boxA(E:Env)(t:Nat)(x:Operand)(dst:Option Nat)(st:St)(K:St→Prop):Prop :=
 match dst with
 | some d=>bif kn (E.ti t).k then coA E st x fun v st'=>(bif plains (cellsOf v) then K { st' with t:=(killR (.bx d) st'.t).set d (.pt ⟨.bx d,[],0⟩),m:=st'.m.set d (fits (E.ti t).zr (cellsOf v)) } else False) else False
 | none=>False
theorem box_sound(hE:EnvOk E)(hfit:Fit E c){t:Nat}{x:Operand}(ho:o.op=.box t x):OpS E c o (boxA E t x o.dst):=by
 intro st a w G K N Q h hk hN
 unfold boxA at hk
 split at hk
 ·rename_i d hd
  cases hkn:kn (E.ti t).k with
  | false=>rw [hkn] at hk;exact hk.elim
  | true =>
   rw [hkn] at hk
   obtain⟨V',st',G',T',k1,k2,k3,k4,_⟩:=coA_sound hfit h hk
   cases hp:plains (cellsOf V') with
   | false=>rw [hp] at k1;exact k1.elim
   | true =>
    rw [hp] at k1
    obtain⟨G2,hG⟩:=k2.newBox d _ _ t T' (fits_rep (E.ti t).zr _ _ _ (cellsOf_rep hp k3)) (fun b hb=>(k4 b hb).1) (fun b hb=>(k4 b hb).2)
    refine wp_value (v:=.pointer (some ⟨w.heap.size,0,none⟩)) (w':=w.alloc (.cells (a.eval x).cells.toList.toArray t)) ?_ (hN _ _ _ _ k1 (hd▸hG))
    simp [execOp,ho,Instr.box,newVar,newRow]
 ·exact hk.elim
noncomputable def loadA(E:Env)(t:Nat)(x:Operand)(st:St)(K:V→Prop):Prop :=
 match ev st x with
 | .pt p=>bif kn (E.ti t).k then
   navK (mdR E.own p.r) (rowOf st p.r) p.ps fun md row=>row≠[] ∧
    (bif Nat.beq ((row.drop p.o).take (E.ti t).sz).length (E.ti t).sz then
     (match isAg (E.ti t).k with | true=>K (.ag (vws p.r p.ps p.o md ((row.drop p.o).take (E.ti t).sz))) | false=>(match (row.drop p.o).take (E.ti t).sz with | [cl]=>K (vw p.r p.ps p.o md cl) | _=>False))
    else False)
  else False
 | _=>False
theorem und_agg{E:Env}{t:Nat}(hE:TOk E.P t (E.ti t))(hkn:kn (E.ti t).k=true)(w:World):(isAgg t).run E.P w=.ok (isAg (E.ti t).k) w:=by
 have hu:=hE.und
 unfold isAgg
 cases hk:(E.ti t).k <;> rw [hk] at hu hkn <;> simp only [UOk] at hu
 case no=>cases hkn
 case bool=>simp [run_underlying hu,isAg]
 case int k=>simp [run_underlying hu,isAg]
 case str=>simp [run_underlying hu,isAg]
 case slice e=>simp [run_underlying hu,isAg]
 case strct fs=>obtain⟨F,h1,_⟩:=hu;simp [run_underlying h1,isAg]
 case ptr=>obtain⟨e,h1⟩:=hu;simp [run_underlying h1,isAg]
 case fn=>obtain⟨x,y,z,h1⟩:=hu;simp [run_underlying h1,isAg]
theorem load_sound(hE:EnvOk E)(hfit:Fit E c){t:Nat}{x:Operand}(ho:o.op=.load t x):OpQ E c o (loadA E t x):=by
 intro st a w G K N Q h hk hN
 unfold loadA at hk
 obtain⟨T,hx⟩:=h.ev x
 split at hk
 ·rename_i p hg
  rw [hg] at hx
  simp only [RepT] at hx
  obtain⟨src,b,o',hsrc,hres,hu⟩:=hx
  cases hkn:kn (E.ti t).k with
  | false=>rw [hkn] at hk;exact hk.elim
  | true =>
   rw [hkn] at hk
   simp only [cond_true] at hk
   have hT:=hE t hkn
   obtain⟨md',row',T',k1,kB,kb,k2⟩:=h.nav hfit.gm hsrc hres hk
   cases hl:Nat.beq ((row'.drop p.o).take (E.ti t).sz).length (E.ti t).sz with
   | false=>rw [hl] at k2;exact k2.elim
   | true =>
    rw [hl] at k2
    have hlen:=Nat.eq_of_beq_eq_true hl
    simp only [cond_true] at k2
    obtain⟨vals,q1,q2,q3⟩:=vws_sound (ρ:=Ar.rho c G) hsrc hres _ p.o _ (RepRow.take (E.ti t).sz _ _ _ (RepRow.drop p.o _ _ _ k1))
    obtain⟨xi,z,i1,i2,_⟩:=hT.info
    have hsz:vals.length=xi.size:=by rw [q1,hlen,i2]
    have hld:=run_loadCells_list (P:=E.P) w ⟨b,o' + p.o,none⟩ vals (fun j v hj=>by rw [Addr.add_lit];exact q2 j v hj)
    rw [hsz] at hld
    have hag:=und_agg hT hkn w
    cases hia:isAg (E.ti t).k with
    | true =>
     rw [hia] at k2 hag
     try dsimp only at k2
     have hG:=h.rep0 (v:=.ag (vws p.r p.ps p.o md' ((row'.drop p.o).take (E.ti t).sz))) (u:=.agg vals.toArray) (by simp only [RepT];exact ⟨vals,rfl,q3⟩)
     refine wp_value (v:=.agg vals.toArray) (w':=w) ?_ (hN _ _ _ _ k2 (RowKit.Below.refl _ _) hG noneT)
     simp [execOp,ho,Instr.loadAt,Instr.sureAddr,hu,loadVar,hag,sizeOf,typeInfo,i1,hld]
    | false =>
     rw [hia] at k2 hag
     try dsimp only at k2
     split at k2
     ·rename_i cl hcl
      rw [hcl] at q1 q3
      obtain⟨v,rfl⟩:∃v,vals=[v]:=by
       cases vals with
       | nil=>simp at q1
       | cons v vs=>cases vs with
        | nil=>exact ⟨v,rfl⟩
        | cons _ _=>simp at q1
      simp only [vws,RepTs] at q3
      obtain⟨T1,T2,r1,_,d1,_⟩:=q3
      have hG:=h.rep0 (RepT.mono _ _ _ _ (fun x hx=>(d1 x hx).1) r1)
      have hc0:=q2 0 v rfl
      rw [Nat.add_zero] at hc0
      refine wp_value (v:=v) (w':=w) ?_ (hN _ _ _ _ k2 (RowKit.Below.refl _ _) hG noneT)
      simp [execOp,ho,Instr.loadAt,Instr.sureAddr,hu,loadVar,hag,hc0]
     ·exact k2.elim
 ·exact hk.elim
noncomputable def storeA(E:Env)(t:Nat)(x y:Operand)(dst:Option Nat)(st:St)(K:St→Prop):Prop :=
 match ev st x with
 | .pt p=>bif kn (E.ti t).k then coA E st y fun v st'=>(bif Nat.beq (cellsOf v).length (E.ti t).sz then stA E st' p (cellsOf v) fun st''=>K (pu st'' dst .un) else False) else False
 | _=>False
theorem store_sound(hE:EnvOk E)(hfit:Fit E c){t:Nat}{x y:Operand}(ho:o.op=.store t x y):OpS E c o (storeA E t x y o.dst):=by
 intro st a w G K N Q h hk hN
 unfold storeA at hk
 obtain⟨T,hx⟩:=h.ev x
 split at hk
 ·rename_i p hg
  rw [hg] at hx
  cases hkn:kn (E.ti t).k with
  | false=>rw [hkn] at hk;exact hk.elim
  | true =>
   rw [hkn] at hk
   simp only [cond_true] at hk
   obtain⟨V',st',G',T',k1,k2,k3,k4,k5,_⟩:=coA_sound hfit h hk
   cases hl:Nat.beq (cellsOf V').length (E.ti t).sz with
   | false=>rw [hl] at k1;exact k1.elim
   | true =>
    rw [hl] at k1
    simp only [cond_true] at k1
    have hlen:=Nat.eq_of_beq_eq_true hl
    have hp:plains (cellsOf V')=true:=by
     unfold stA at k1
     cases hw:((wrOk E p.r p.ps && plains (cellsOf V')) && Nat.ble 1 (cellsOf V').length) with
     | false=>rw [hw] at k1;exact k1.elim
     | true=>simp only [Bool.and_eq_true] at hw;exact hw.1.2
    have hx':RepT w G'.Sh (Ar.rho c G') (.pt p) (a.eval x) (fun _=>False):=k5.repT (fun _ h=>h.elim) (by simp only [RepT] at hx ⊢;exact hx)
    have hcs:=cellsOf_rep hp k3
    obtain⟨b,o',hu,hbk,hone,st'',G'',q1,q2⟩:=stA_sound k2 hfit hx' hcs k4 k1
    obtain⟨xi,z,i1,i2,_⟩:=(hE t hkn).info
    have hsz:(a.eval y).cells.size=xi.size:=by rw [i2,←hlen,hcs.len];simp
    have hst:=run_storeCells_cells (P:=E.P) b o' (a.eval y).cells.toList 0 w (fun j hj=>by simpa using hbk.cell j (by simpa using hj)) (fun j hj=>by simpa using hbk.frozen j (by simpa using hj)) hone
    rw [Nat.add_zero] at hst
    obtain⟨G3,hG3⟩:=q2.put0 o.dst (v:=.un) (u:=undef) trivial
    refine wp_skipv (w':=w.setCells b o' (a.eval y).cells.toList) ?_ (hN _ _ _ _ q1 hG3)
    simp [execOp,ho,Instr.storeAt,Instr.sureAddr,hu,storeVar,hsz,sizeOf,typeInfo,i1,hst]
 ·exact hk.elim
theorem nilCheck_sound{x:Operand}(ho:o.op=.nilCheck x):OpQ E c o fun st K=>match ev st x with | .pt p=>K (.pt p) | _=>False:=by
 intro st a w G K N Q h hk hN
 obtain⟨T,hx⟩:=h.ev x
 split at hk
 ·rename_i p hg
  rw [hg] at hx
  have hx':=hx
  simp only [RepT] at hx
  obtain⟨src,b,o',_,_,hu⟩:=hx
  have hG:=h.rep0 (v:=.pt p) (u:=a.eval x) (by simp only [RepT] at hx' ⊢;exact hx')
  refine wp_value (v:=a.eval x) (w':=w) ?_ (hN _ _ _ _ hk (RowKit.Below.refl _ _) hG noneT)
  simp [execOp,ho,hu]
 ·exact hk.elim
noncomputable def fieldAddrA(E:Env)(t:Nat)(x:Operand)(j:Nat)(st:St)(K:V→Prop):Prop :=
 match ev st x,(E.ti t).k with
 | .pt p,.strct fs=>(match fs[j]? with | some (off,_,_)=>K (.pt { p with o:=p.o+off }) | none=>False)
 | _,_=>False
theorem fieldAddr_sound(hE:EnvOk E){t j:Nat}{x:Operand}(ho:o.op=.fieldAddr t x j):OpQ E c o (fieldAddrA E t x j):=by
 intro st a w G K N Q h hk hN
 unfold fieldAddrA at hk
 obtain⟨T,hx⟩:=h.ev x
 split at hk
 ·rename_i p fs hg hks
  rw [hg] at hx
  simp only [RepT] at hx
  obtain⟨src,b,o',h1,h2,hu⟩:=hx
  split at hk
  ·rename_i off n ag hf
   have hT:=hE t (by rw [hks];rfl)
   have hund:=hT.und
   rw [hks] at hund
   obtain⟨F,hF,hfs⟩:=hund
   obtain⟨f,xi,f1,f2,f3,f4,f5,_⟩:=hfs.fld j off n ag hf
   have hG:=h.rep0 (v:=.pt { p with o:=p.o+off }) (u:=.pointer (some ⟨b,o' + (p.o+off),none⟩)) (by simp only [RepT];exact ⟨src,b,o',h1,h2,rfl⟩)
   refine wp_value (v:=.pointer (some ⟨b,o' + (p.o+off),none⟩)) (w':=w) ?_ (hN _ _ _ _ hk (RowKit.Below.refl _ _) hG noneT)
   simp [execOp,ho,Instr.fieldAt,Instr.sureAddr,hu,run_underlying hF,f1,fieldPlace,sizeOf,typeInfo,f3,f4,f5,f2,Addr.add_lit,Nat.add_assoc]
  ·exact hk.elim
 ·exact hk.elim
end ops
end Go.Ar
