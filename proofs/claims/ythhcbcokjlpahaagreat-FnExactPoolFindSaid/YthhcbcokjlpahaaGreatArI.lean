import Derived.Test.YthhcbcokjlpahaaGreatArH
namespace Go.Ar
set_option linter.unusedVariables false
set_option linter.unusedSimpArgs false
section ops
variable {E:Env} {c:Cx} {o:Oper}
/-! ### make -/
theorem alloc_at(w:World)(o:Obj):(w.alloc o).heap[w.heap.size]?=some o:=by
 show (w.heap.push o)[w.heap.size]?=_
 simp
noncomputable def mkA(E:Env)(st:St)(t:Nat)(l cc:V)(K:V→Prop):Prop :=
 match (E.ti t).k,l,cc with
 | .slice e,.i _ l,.i _ n=>bif kn (E.ti e).k then InS 0 l n∧Room n (E.ti e).by_∧K (.sl .own (E.ti e).sz (rep_ l (E.ti e).zr)) else False
 | _,_,_=>False
theorem fresh_put{st:St}{a:Act}{w w':World}{G:Gh}(h:Rel c st a w G)(hb:RowKit.Below w.heap.size w w')(hsz:w.heap.size<w'.heap.size){T:Nat→Prop}(hf:Free c w G T)(dst:Option Nat){v:V}{u:Value}
  (hv:RepT w' G.Sh (Ar.rho c G) v u (fun b=>b=w.heap.size∨T b)):∃G',Rel c (pu st dst v) (a.put dst u) w' G':=by
 have h':=h.ext hb
 refine h'.put1 dst hv ?_
 intro b hb'
 rcases hb' with rfl | hb'
 ·refine ⟨?_,hsz,.inl h.sz⟩
  cases ho:G.ow w.heap.size with
  | no=>rfl
  | _=>have:=(h.ob w.heap.size (by rw [ho];simp)).1;omega
 ·obtain⟨k1,k2,k3⟩:=hf b hb'
  exact ⟨k1,by omega,k3⟩
theorem freshT{w w':World}(h:w.heap.size<w'.heap.size):∀b,(fun b=>b=w.heap.size∨(fun _=>False:Nat→Prop) b) b→w.heap.size≤b∧b<w'.heap.size:=by
 intro b hb
 rcases hb with rfl | hb
 ·exact ⟨Nat.le_refl _,h⟩
 ·exact hb.elim
theorem makeSlice_sound(hE:EnvOk E){t:Nat}{l cc:Operand}(ho:o.op=.makeSlice t l cc):OpQ E c o fun st K=>mkA E st t (ev st l) (ev st cc) K:=by
 intro st a w G K N Q h hk hN
 obtain⟨Tl,hl⟩:=h.ev l
 obtain⟨Tc,hc⟩:=h.ev cc
 unfold mkA at hk
 split at hk
 ·rename_i e kl n kc m hks g1 g2
  rw [g1] at hl
  rw [g2] at hc
  have hl:a.eval l=.int kl n:=hl
  have hc:a.eval cc=.int kc m:=hc
  have hu:=(hE t (by rw [hks];rfl)).und
  rw [hks] at hu
  have hu:E.P.underlying t=some (.slice e):=hu
  cases hke:kn (E.ti e).k with
  | false=>rw [hke] at hk;exact hk.elim
  | true =>
   rw [hke] at hk
   obtain⟨k1,k2,k3⟩:=hk
   rw [InS_eq] at k1
   rw [Room_eq] at k2
   rw [rep_eq] at k3
   obtain⟨xi,z,i1,i2,i3,i4,i5,i6,i7,i8⟩:=(hE e hke).info
   have hrun:=run_make (P:=E.P) w t e xi z hu i1 i4 kl kc n m k1.2.1 k1.2.2 (by rw [i3,Int.mul_comm];omega) (by omega)
   have hlen:z.cells.toList.length=(E.ti e).sz:=by simpa using i5
   have hrep:=fresh_row (w:=w) (w':=w.alloc (.cells (madeCells z.cells (m.toNat*xi.size)) e)) (Sh:=G.Sh) (T:=fun _=>False) (rows:=List.replicate n.toNat (E.ti e).zr) (vals:=(List.replicate n.toNat z.cells.toList).flatten) (z:=(E.ti e).sz) (e:=e) (fz:=(0,0)) (cc:=m.toNat)
    (fun b hb=>(h.sb b hb).1) (fun _ h=>h.elim) (RepCs.rep (i8 w G.Sh) _) (fun r hr=>by rw [List.eq_of_mem_replicate hr,i6]) (alloc_at _ _) (.inl rfl) (fun b hb=>alloc_heap_lt _ _ _ hb)
    (fun j v hj=>by
     have hlt:j<((List.replicate n.toNat z.cells.toList).flatten).length:=(List.getElem?_eq_some_iff.1 hj).1
     have hlt2:j<m.toNat*xi.size:=by
      have e1:((List.replicate n.toNat z.cells.toList).flatten).length=n.toNat*(E.ti e).sz:=by simp [List.length_flatten,i5]
      have e2:n.toNat*(E.ti e).sz≤m.toNat*(E.ti e).sz:=Nat.mul_le_mul_right _ (by omega)
      rw [i2];omega
     have:=flat_rep _ _ _ _ hj
     rw [hlen] at this
     have hjl:j % (E.ti e).sz<z.cells.size:=by
      have:=(List.getElem?_eq_some_iff.1 this).1
      simpa using this
     have e3:(madeCells z.cells (m.toNat*xi.size))[j]?=some (z.cells[j % z.cells.size]!):=by simp [madeCells,hlt2]
     rw [e3,i5,getElem!_pos z.cells _ hjl,←Array.getElem_toList]
     exact congrArg some (List.getElem?_eq_some_iff.1 this).2)
    (by rw [size_madeCells,i2];exact Nat.le_refl _) (by rw [List.length_replicate];omega) (by simp only [maxLen];omega)
   simp only [List.length_replicate] at hrep
   exact wp_value (by simp [execOp,ho,hl,hc,hrun]) (hN _ _ _ _ k3 ((RowKit.Below.refl _ w).alloc (Nat.le_refl _) (.cells (madeCells z.cells (m.toNat*xi.size)) e)) hrep (freshT (by simp)))
 ·exact hk.elim
/-! ### A slice written out -/
def seqFrom{α:Type}:Nat→List α→List (Nat × α)
 | _,[]=>[]
 | k,u::us=>(k,u)::seqFrom (k+1) us
def isSeq:Nat→List (Nat × Operand)→Bool
 | _,[]=>true
 | k,(j,_)::ps=>Nat.beq k j && isSeq (k+1) ps
theorem isSeq_eq:∀ (ps:List (Nat × Operand)) (k:Nat),isSeq k ps=true→ps=seqFrom k (ps.map (·.2))
 | [],_,_=>rfl
 | (j,x)::ps,k,h=>by
  simp only [isSeq,Bool.and_eq_true] at h
  have:=Nat.eq_of_beq_eq_true h.1
  subst this
  simp only [List.map_cons,seqFrom]
  rw [←isSeq_eq ps _ h.2]
theorem seqFrom_map{α β:Type}(f:α→β):∀ (us:List α) (k:Nat),(seqFrom k us).map (fun p=>(p.1,f p.2))=seqFrom k (us.map f)
 | [],_=>rfl
 | u::us,k=>by simp [seqFrom,seqFrom_map f us]
theorem fold_set(off:Nat):∀ (vs:List Value) (k:Nat) (cs:Array Value),off+k+vs.length≤cs.size →
  ((vs.zipIdx k).foldl (fun(cs:Array Value) (p:Value × Nat)=>cs.setIfInBounds (off+p.2) p.1) cs).toList=cs.toList.take (off+k)++vs++cs.toList.drop (off+k+vs.length)
 | [],k,cs,h=>by simp
 | v::vs,k,cs,h=>by
  simp only [List.length_cons] at h
  simp only [List.zipIdx_cons,List.foldl_cons]
  rw [fold_set off vs (k+1) _ (by simp;omega)]
  have hlt:off+k<cs.toList.length:=by simp;omega
  simp only [Array.toList_setIfInBounds]
  rw [show off+(k+1)=off+k+1 by omega,List.take_succ_eq_append_getElem (by simpa using hlt)]
  simp only [List.getElem_set_self,List.take_set_of_le (Nat.le_refl _),List.append_assoc,List.singleton_append,List.cons_append,List.length_cons,List.nil_append]
  rw [List.drop_set_of_lt (by omega)]
  rw [show off+k+(vs.length+1)=off+k+1+vs.length by omega]
theorem fill_seq{size:Nat}:∀ (us:List Value) (k:Nat) (cells:Array Value),(∀u∈us,u.cells.size=size)→cells.size=(k+us.length)*size →
  Instr.fill (fun i=>some (i*size,size)) cells (seqFrom k us)=some (cells.toList.take (k*size)++us.flatMap (·.cells.toList)).toArray
 | [],k,cells,_,hs=>by
  simp only [seqFrom,Instr.fill,List.flatMap_nil,List.append_nil,Option.some.injEq]
  rw [List.take_of_length_le (by simp [hs])]
 | u::us,k,cells,hu,hs=>by
  have h1:=hu u (by simp)
  have hle:(k+1)*size≤cells.size:=by rw [hs];exact Nat.mul_le_mul_right _ (by rw [List.length_cons];omega)
  have hadd:(k+1)*size=k*size+size:=Nat.succ_mul k size
  have hb:¬ ((decide (u.cells.size≠size) || decide (k*size+u.cells.size > cells.size))=true):=by rw [h1];simp;omega
  simp only [seqFrom,Instr.fill]
  rw [if_neg hb]
  have hf:(u.cells.zipIdx.foldl (fun(cs:Array Value) (x:Value × Nat)=>cs.setIfInBounds (k*size+x.2) x.1) cells).toList=cells.toList.take (k*size)++u.cells.toList++cells.toList.drop (k*size+u.cells.size):=by
   rw [←Array.foldl_toList,Array.toList_zipIdx]
   have:=fold_set (k*size) u.cells.toList 0 cells (by simp;omega)
   simpa using this
  have hsz:(u.cells.zipIdx.foldl (fun(cs:Array Value) (x:Value × Nat)=>cs.setIfInBounds (k*size+x.2) x.1) cells).size=cells.size:=by
   rw [←Array.length_toList,hf];simp;omega
  rw [show (fun(cs:Array Value) (x:Value × Nat)=>match x with | (c,j)=>cs.setIfInBounds (k*size+j) c)=(fun(cs:Array Value) (x:Value × Nat)=>cs.setIfInBounds (k*size+x.2) x.1) from rfl]
  rw [fill_seq us (k+1) _ (fun v hv=>hu v (by simp [hv])) (by rw [hsz,hs,List.length_cons];congr 1;omega),hf]
  congr 2
  rw [List.take_append_of_le_length (by simp;omega),List.flatMap_cons,←List.append_assoc]
  congr 1
  rw [List.take_of_length_le (by simp;omega)]
def okL(z:Nat):List V→Bool
 | []=>true
 | v::vs=>plains (cellsOf v) && Nat.beq (cellsOf v).length z && okL z vs
theorem okL_rep{w:World}{Sh:Nat→Prop}{ρ:Rt→Option Sr}{z:Nat}(zr:List V):∀ (Vs:List V) (us:List Value) (T:Nat→Prop),okL z Vs=true→RepTs w Sh ρ Vs us T →
  RepCs w Sh (Vs.map fun v=>fits zr (cellsOf v)).flatten (us.flatMap (·.cells.toList)) T∧(∀r∈Vs.map fun v=>fits zr (cellsOf v),r.length=z)∧(∀u∈us,u.cells.size=z)∧Vs.length=us.length
 | [],[],T,_,_=>by simp [RepCs]
 | v::Vs,u::us,T,h,hr=>by
  simp only [okL,Bool.and_eq_true] at h
  simp only [RepTs] at hr
  obtain⟨T1,T2,h1,h2,d1,d2⟩:=hr
  obtain⟨k1,k2,k3,k4⟩:=okL_rep zr Vs us T2 h.2 h2
  have hlen:=Nat.eq_of_beq_eq_true h.1.2
  have hc:=cellsOf_rep h.1.1 h1
  refine ⟨?_,?_,?_,by simp [k4]⟩
  ·simp only [List.map_cons,List.flatten_cons,List.flatMap_cons]
   exact RepCs.mono _ _ _ _ (fun x hx=>hx.elim (fun hx=>(d1 x hx).1) (d2 x)) (RepCs.join k1 _ _ _ (fits_rep zr _ _ _ hc) (fun x hx=>(d1 x hx).2))
  ·intro r hr
   rcases List.mem_cons.1 hr with rfl | hr
   ·rw [fits_length,hlen]
   ·exact k2 r hr
  ·intro x hx
   rcases List.mem_cons.1 hx with rfl | hx
   ·have:=hc.len;simp only [Array.length_toList] at this;omega
   ·exact k3 x hx
 | [],_::_,_,_,h=>by simp only [RepTs] at h
 | _::_,[],_,_,h=>by simp only [RepTs] at h
noncomputable def bsA(E:Env)(st:St)(t len:Nat)(parts:List (Nat × Operand))(K:V→St→Prop):Prop :=
 match (E.ti t).k with
 | .slice e=>bif kn (E.ti e).k && isSeq 0 parts && Nat.beq parts.length len && Nat.ble (len*(E.ti e).sz+len) 16777216 then
   coL E st (parts.map (·.2)) fun vs st'=>bif okL (E.ti e).sz vs then K (.sl .own (E.ti e).sz (vs.map fun v=>fits (E.ti e).zr (cellsOf v))) st' else False
  else False
 | _=>False
theorem buildSlice_sound(hE:EnvOk E)(hfit:Fit E c){t len:Nat}{parts:Array (Nat × Operand)}(ho:o.op=.buildSlice t len parts):OpS E c o fun st K=>bsA E st t len parts.toList fun v st'=>K (pu st' o.dst v):=by
 intro st a w G K N Q h hk hN
 unfold bsA at hk
 split at hk
 ·rename_i e hks
  have hu:=(hE t (by rw [hks];rfl)).und
  rw [hks] at hu
  have hu:E.P.underlying t=some (.slice e):=hu
  cases hcond:(kn (E.ti e).k && isSeq 0 parts.toList && Nat.beq parts.toList.length len && Nat.ble (len*(E.ti e).sz+len) 16777216) with
  | false=>rw [hcond] at hk;exact hk.elim
  | true =>
   rw [hcond] at hk
   simp only [cond_true] at hk
   simp only [Bool.and_eq_true] at hcond
   obtain⟨⟨⟨hke,hsq⟩,hln⟩,h24⟩:=hcond
   have hln:=Nat.eq_of_beq_eq_true hln
   have h24:=Nat.le_of_ble_eq_true h24
   obtain⟨xi,z,i1,i2,i3,i4,i5,i6,i7,i8⟩:=(hE e hke).info
   obtain⟨Vs,st',G',T',k1,k2,k3,k4,k5,k6⟩:=coL_sound hfit _ st G _ h hk
   cases hok:okL (E.ti e).sz Vs with
   | false=>rw [hok] at k1;exact k1.elim
   | true =>
    rw [hok] at k1
    simp only [cond_true] at k1
    obtain⟨q1,q2,q3,q4⟩:=okL_rep (E.ti e).zr Vs _ T' hok k3
    have hparts:(parts.map fun p=>(p.1,a.eval p.2)).toList=seqFrom 0 ((parts.toList.map (·.2)).map a.eval):=by
     rw [Array.toList_map]
     conv=>lhs;rw [isSeq_eq _ _ hsq]
     rw [seqFrom_map]
    have hulen:((parts.toList.map (·.2)).map a.eval).length=len:=by simpa using hln
    generalize (parts.toList.map (·.2)).map a.eval=us at *
    have hfill:=fill_seq (size:=(E.ti e).sz) us 0
    have hfl:∀ (zc:Array Value),zc.size=len*(E.ti e).sz→Instr.fill (fun i=>some (i*(E.ti e).sz,(E.ti e).sz)) zc (seqFrom 0 us)=some (us.flatMap (·.cells.toList)).toArray:=by
     intro zc hzc
     have:=hfill zc q3 (by rw [hzc,hulen,Nat.zero_add])
     simpa using this
    have hsz:(us.flatMap (·.cells.toList)).length=len*(E.ti e).sz:=by
     have e1:=q1.len
     rw [←e1,List.length_flatten]
     have e2:(Vs.map fun v=>fits (E.ti e).zr (cellsOf v)).map List.length=List.replicate Vs.length (E.ti e).sz:=by
      refine List.eq_replicate_iff.2 ⟨by simp,fun n hn=>?_⟩
      obtain⟨r,hr,rfl⟩:=List.mem_map.1 hn
      exact q2 r hr
     rw [e2,List.sum_replicate_nat,q4,hulen]
    have hrun:(Instr.buildSlice t len (parts.map fun p=>(p.1,a.eval p.2))).run E.P w=.ok (.slice (some ⟨w.heap.size,0,none⟩) len len) (w.alloc (.cells (us.flatMap (·.cells.toList)).toArray e)):=by
     have h24':¬ (len*(E.ti e).sz > 2 ^ 24):=by omega
     by_cases h0:len*(E.ti e).sz=0
     ·have hf0:=hfl #[] h0.symm
      have hp2:=hparts
      rw [Array.toList_map] at hp2
      simp [Instr.buildSlice,run_underlying hu,sizeOf,typeInfo,i1,i2,h0,hp2,newRow,Array.range_zero',hf0]
     ·have hf0:=hfl ((Array.range (len*(E.ti e).sz)).map (z.cells[· % z.cells.size]!)) (by simp)
      simp only [Instr.buildSlice,Sem.run_bind,run_underlying hu,Result.andThen_ok,sizeOf,typeInfo,zeroValue,Sem.run_pure,run_program,i1,i2,i4,if_neg h0,if_neg h24',hparts,hf0,newRow]
      simp
    have hrep:=fresh_row (w:=w) (w':=w.alloc (.cells (us.flatMap (·.cells.toList)).toArray e)) (Sh:=G'.Sh) (e:=e) (fz:=(0,0)) (cc:=len)
     (fun b hb=>(k2.sb b hb).1) (fun b hb=>(k4 b hb).2.1) q1 q2 (alloc_at _ _) (.inl rfl) (fun b hb=>alloc_heap_lt _ _ _ hb)
     (fun j v hj=>by simpa using hj) (by simp only [List.size_toArray];omega) (by rw [List.length_map];omega) (by simp only [maxLen];omega)
    have e3:(Vs.map fun v=>fits (E.ti e).zr (cellsOf v)).length=len:=by rw [List.length_map];omega
    rw [e3] at hrep
    have hbl:=(RowKit.Below.refl _ w).alloc (Nat.le_refl _) (Obj.cells (us.flatMap (fun x:Value=>x.cells.toList)).toArray e)
    obtain⟨G2,hG⟩:=fresh_put k2 hbl (by simp) k4 o.dst (v:=.sl .own (E.ti e).sz (Vs.map fun v=>fits (E.ti e).zr (cellsOf v))) hrep
    refine wp_value (v:=.slice (some ⟨w.heap.size,0,none⟩) len len) ?_ (hN _ _ _ _ k1 hG)
    simp [execOp,ho,hrun]
 ·exact hk.elim
end ops
end Go.Ar
