import Derived.Test.YthhcbcokjlpahaaGreatArI
import Derived.Laws.IdiomStrings
import Derived.Laws.Tables
namespace Go.Ar
set_option linter.unusedVariables false
set_option linter.unusedSimpArgs false
/-! ### A struct written out; a field of a value -/
theorem repTs_of_Cs{w:World}{Sh:Nat→Prop}{ρ:Rt→Option Sr}:∀ (cs:List V) (vs:List Value) (T:Nat→Prop),plains cs=true→RepCs w Sh cs vs T→RepTs w Sh ρ cs vs T
 | [],[],_,_,_=>by simp only [RepTs]
 | c::cs,v::vs,T,hp,h=>by
  simp only [plains,Bool.and_eq_true] at hp
  obtain⟨T1,T2,h1,h2,d1,d2⟩:=h
  simp only [RepTs]
  refine ⟨T1,T2,?_,repTs_of_Cs cs vs T2 hp.2 h2,d1,d2⟩
  cases c <;> first | exact h1 | (simp [plain] at hp)
 | [],_::_,_,_,h=>h.elim
 | _::_,[],_,_,h=>h.elim
theorem RepTs.len{w:World}{Sh:Nat→Prop}{ρ:Rt→Option Sr}:∀ (cs:List V) (vs:List Value) (T:Nat→Prop),RepTs w Sh ρ cs vs T→cs.length=vs.length
 | [],[],_,_=>rfl
 | c::cs,v::vs,T,h=>by
  simp only [RepTs] at h
  obtain⟨_,T2,_,h2,_⟩:=h
  simp [RepTs.len cs vs T2 h2]
 | [],_::_,_,h=>by simp only [RepTs] at h
 | _::_,[],_,h=>by simp only [RepTs] at h
theorem RepTs.drop{w:World}{Sh:Nat→Prop}{ρ:Rt→Option Sr}:∀ (n:Nat) (cs:List V) (vs:List Value) (T:Nat→Prop),RepTs w Sh ρ cs vs T→RepTs w Sh ρ (cs.drop n) (vs.drop n) T
 | 0,_,_,_,h=>by simpa using h
 | n+1,[],[],T,h=>by simpa using h
 | n+1,c::cs,v::vs,T,h=>by
  simp only [RepTs] at h
  obtain⟨T1,T2,h1,h2,d1,d2⟩:=h
  simp only [List.drop_succ_cons]
  exact RepTs.mono _ _ _ _ d2 (RepTs.drop n cs vs T2 h2)
 | n+1,[],_::_,_,h=>by simp only [RepTs] at h
 | n+1,_::_,[],_,h=>by simp only [RepTs] at h
theorem RepTs.take{w:World}{Sh:Nat→Prop}{ρ:Rt→Option Sr}:∀ (n:Nat) (cs:List V) (vs:List Value) (T:Nat→Prop),RepTs w Sh ρ cs vs T→RepTs w Sh ρ (cs.take n) (vs.take n) T
 | 0,_,_,_,h=>by simp [RepTs]
 | n+1,[],[],T,h=>by simpa using h
 | n+1,c::cs,v::vs,T,h=>by
  simp only [RepTs] at h
  obtain⟨T1,T2,h1,h2,d1,d2⟩:=h
  simp only [List.take_succ_cons,RepTs]
  exact ⟨T1,T2,h1,RepTs.take n cs vs T2 h2,d1,d2⟩
 | n+1,[],_::_,_,h=>by simp only [RepTs] at h
 | n+1,_::_,[],_,h=>by simp only [RepTs] at h
theorem RepTs.join{w:World}{Sh:Nat→Prop}{ρ:Rt→Option Sr}{bs:List V}{v2:List Value}{T2:Nat→Prop}(h2:RepTs w Sh ρ bs v2 T2):∀ (as:List V) (v1:List Value) (T1:Nat→Prop),RepTs w Sh ρ as v1 T1→(∀x,T1 x→¬T2 x) →
  RepTs w Sh ρ (as++bs) (v1++v2) (fun x=>T1 x∨T2 x)
 | [],[],T1,_,_=>RepTs.mono _ _ _ _ (fun _ h=>.inr h) h2
 | c::cs,v::vs,T1,h,hd=>by
  simp only [RepTs] at h
  obtain⟨S1,S2,k1,k2,d1,d2⟩:=h
  have:=RepTs.join h2 cs vs S2 k2 (fun x hx=>hd x (d2 x hx))
  simp only [List.cons_append,RepTs]
  exact ⟨S1,_,k1,this,fun x hx=>⟨.inl (d1 x hx).1,fun hh=>hh.elim (d1 x hx).2 (hd x (d1 x hx).1)⟩,fun x hx=>hx.imp (d2 x) id⟩
 | [],_::_,_,h,_=>by simp only [RepTs] at h
 | _::_,[],_,h,_=>by simp only [RepTs] at h
/-- Two parts of the same list, taken apart. -/
theorem RepTs.apart{w:World}{Sh:Nat→Prop}{ρ:Rt→Option Sr}:∀ (n:Nat) (cs:List V) (vs:List Value) (T:Nat→Prop),RepTs w Sh ρ cs vs T →
  ∃T1 T2,RepTs w Sh ρ (cs.take n) (vs.take n) T1∧RepTs w Sh ρ (cs.drop n) (vs.drop n) T2∧(∀x,T1 x→T x∧¬T2 x)∧(∀x,T2 x→T x)
 | 0,cs,vs,T,h=>⟨fun _=>False,T,by simp [RepTs],by simpa using h,fun _ h=>h.elim,fun _ h=>h⟩
 | n+1,[],[],T,h=>⟨fun _=>False,T,by simp [RepTs],by simp [RepTs],fun _ h=>h.elim,fun _ h=>h⟩
 | n+1,c::cs,v::vs,T,h=>by
  simp only [RepTs] at h
  obtain⟨S1,S2,h1,h2,d1,d2⟩:=h
  obtain⟨T1,T2,k1,k2,k3,k4⟩:=RepTs.apart n cs vs S2 h2
  refine ⟨(fun x=>S1 x∨T1 x),T2,?_,by simpa using k2,?_,fun x hx=>d2 x (k4 x hx)⟩
  ·simp only [List.take_succ_cons,RepTs]
   exact ⟨S1,T1,h1,k1,fun x hx=>⟨.inl hx,fun hh=>(d1 x hx).2 (k3 x hh).1⟩,fun x hx=>.inr hx⟩
  ·intro x hx
   rcases hx with hx | hx
   ·exact ⟨(d1 x hx).1,fun hh=>(d1 x hx).2 (k4 x hh)⟩
   ·exact ⟨d2 x (k3 x hx).1,(k3 x hx).2⟩
 | n+1,[],_::_,_,h=>by simp only [RepTs] at h
 | n+1,_::_,[],_,h=>by simp only [RepTs] at h
def okc:V→Bool
 | .un=>false
 | _=>true
theorem cellsOf_T{w:World}{Sh:Nat→Prop}{ρ:Rt→Option Sr}{v:V}{u:Value}{T:Nat→Prop}(hp:okc v=true)(h:RepT w Sh ρ v u T):RepTs w Sh ρ (cellsOf v) u.cells.toList T:=by
 have one:(∀cs,u≠.agg cs)→cellsOf v=[v]→RepTs w Sh ρ (cellsOf v) u.cells.toList T:=by
  intro hn he
  have hcs:u.cells = #[u]:=by cases u <;> first | rfl | exact absurd rfl (hn _)
  rw [he,hcs]
  simp only [RepTs]
  exact ⟨T,fun _=>False,h,trivial,fun x hx=>⟨hx,fun h=>h⟩,fun _ h=>h.elim⟩
 cases v with
 | un=>cases hp
 | ag cs =>
  simp only [RepT] at h
  obtain⟨vs,rfl,h2⟩:=h
  simpa [cellsOf,Value.cells] using h2
 | b x=>have h':u=.bool x:=h;subst h';exact one (fun _ h=>by cases h) rfl
 | i k n=>have h':u=.int k n:=h;subst h';exact one (fun _ h=>by cases h) rfl
 | s l=>have h':u=.string ⟨l.toArray⟩:=h;subst h';exact one (fun _ h=>by cases h) rfl
 | cv k x=>exact one (fun cs e=>by have h2:=h.2;rw [e] at h2;cases h2) rfl
 | nil=>have h':u=.slice none 0 0:=h;subst h';exact one (fun _ h=>by cases h) rfl
 | sl f z xs =>
  have h':RepC w Sh .own (.sl f z xs) u T:=h
  refine one (fun cs e=>?_) rfl
  rcases h'.hdr with ⟨⟨_,e1⟩,_⟩ | ⟨b,o,c,e1,_⟩ <;> rw [e] at e1 <;> cases e1
 | tu cs =>
  have h':=h
  simp only [RepT] at h'
  obtain⟨vs,e,_⟩:=h'
  exact one (fun cs e'=>by rw [e] at e';cases e') rfl
 | fn f cs =>
  have h':=h
  simp only [RepT] at h'
  obtain⟨vs,e,_⟩:=h'
  exact one (fun cs e'=>by rw [e] at e';cases e') rfl
 | pt p =>
  have h':=h
  simp only [RepT] at h'
  obtain⟨s,b,o,_,_,e⟩:=h'
  exact one (fun cs e'=>by rw [e] at e';cases e') rfl
 | rf p z uu =>
  have h':=h
  simp only [RepT] at h'
  obtain⟨s,s',hv,_,_,_,hs⟩:=h'
  refine one (fun cs e=>?_) rfl
  rw [e] at hs
  unfold subV at hs
  split at hs
  ·obtain⟨rfl,x,n,c,e'⟩:=hs;cases e'
  ·rcases hs with ⟨_,⟨_,e'⟩⟩ | ⟨b,o,l,c,m,_,_,_,_,_,_,e'⟩ <;> cases e'
def spl{α:Type}(cells:List α)(off:Nat)(new:List α):List α:=cells.take off++new++cells.drop (off+new.length)
def bdP(fs:List (Nat × Nat × Bool)):List Nat→List V→List V→(List V→Prop)→Prop
 | i::is,v::vs,cells,K=>(match fs[i]? with
  | some (off,n,_)=>bif okc v && (Nat.beq (cellsOf v).length n && Nat.ble (off+n) cells.length) then bdP fs is vs (spl cells off (cellsOf v)) K else False
  | none=>False)
 | [],[],cells,K=>K cells
 | _,_,_,_=>False
theorem bdP_sound{w:World}{Sh:Nat→Prop}{ρ:Rt→Option Sr}{fs:List (Nat × Nat × Bool)}{K:List V→Prop}:∀ (is:List Nat) (Vs:List V) (us:List Value) (cells:List V) (vals:List Value) (Tc Tv:Nat→Prop),
  RepTs w Sh ρ Vs us Tv→RepTs w Sh ρ cells vals Tc→(∀x,Tc x→¬Tv x)→bdP fs is Vs cells K →
  ∃ (cells':List V) (vals':List Value),K cells'∧RepTs w Sh ρ cells' vals' (fun x=>Tc x∨Tv x)∧Instr.fill (fun i=>(fs.map fun x=>(x.1,x.2.1)).toArray[i]?) vals.toArray (is.zip us)=some vals'.toArray
 | [],[],[],cells,vals,Tc,Tv,_,h,_,hk=>⟨cells,vals,hk,RepTs.mono _ _ _ _ (fun _ h=>.inl h) h,rfl⟩
 | i::is,v::Vs,u::us,cells,vals,Tc,Tv,hv,h,hd,hk=>by
  simp only [RepTs] at hv
  obtain⟨T1,T2,h1,h2,d1,d2⟩:=hv
  simp only [bdP] at hk
  split at hk
  ·rename_i off n ag hf
   cases hc:(okc v && (Nat.beq (cellsOf v).length n && Nat.ble (off+n) cells.length)) with
   | false=>rw [hc] at hk;exact hk.elim
   | true =>
    rw [hc] at hk
    simp only [cond_true] at hk
    simp only [Bool.and_eq_true] at hc
    have hl:=Nat.eq_of_beq_eq_true hc.2.1
    have hle:=Nat.le_of_ble_eq_true hc.2.2
    have hcv:=cellsOf_T hc.1 h1
    have hul:=hcv.len
    have hcl:=h.len
    obtain⟨S1,S2,k1,k2,k3,k4⟩:=RepTs.apart off cells vals Tc h
    have k2':=RepTs.drop (cellsOf v).length _ _ _ k2
    rw [List.drop_drop,List.drop_drop] at k2'
    have hj:=RepTs.join (RepTs.join k2' _ _ _ hcv (fun x hx hh=>hd x (k4 x hh) (d1 x hx).1)) _ _ _ k1 (fun x hx hh=>hh.elim (fun hh=>hd x (k3 x hx).1 (d1 x hh).1) (k3 x hx).2)
    rw [←List.append_assoc,←List.append_assoc] at hj
    obtain⟨cells',vals',q1,q2,q3⟩:=bdP_sound is Vs us (spl cells off (cellsOf v)) (spl vals off u.cells.toList) (fun x=>S1 x∨T1 x∨S2 x) T2 h2 (by unfold spl;rw [hul] at hj ⊢;exact hj)
     (fun x hx hh=>by
      rcases hx with hx | hx | hx
      ·exact hd x (k3 x hx).1 (d2 x hh)
      ·exact (d1 x hx).2 hh
      ·exact hd x (k4 x hx) (d2 x hh)) hk
    refine ⟨cells',vals',q1,RepTs.mono _ _ _ _ (fun x hx=>?_) q2,?_⟩
    ·rcases hx with (hx | hx | hx) | hx
     ·exact .inl (k3 x hx).1
     ·exact .inr (d1 x hx).1
     ·exact .inl (k4 x hx)
     ·exact .inr (d2 x hx)
    ·have hus:u.cells.size=n:=by rw [←hl,hul];simp
     have hb:¬ ((decide (u.cells.size≠n) || decide (off+u.cells.size > vals.toArray.size))=true):=by rw [hus];simp;omega
     have hp:(fs.map fun x=>(x.1,x.2.1)).toArray[i]?=some (off,n):=by simp [hf]
     simp only [List.zip_cons_cons,Instr.fill,hp]
     rw [if_neg hb]
     have hfo:(u.cells.zipIdx.foldl (fun(cs:Array Value) (x:Value × Nat)=>cs.setIfInBounds (off+x.2) x.1) vals.toArray)=(spl vals off u.cells.toList).toArray:=by
      apply Array.ext'
      rw [←Array.foldl_toList,Array.toList_zipIdx]
      have:=fold_set off u.cells.toList 0 vals.toArray (by simp;omega)
      simpa [spl] using this
     rw [show (fun(cs:Array Value) (x:Value × Nat)=>match x with | (c,j)=>cs.setIfInBounds (off+j) c)=(fun(cs:Array Value) (x:Value × Nat)=>cs.setIfInBounds (off+x.2) x.1) from rfl]
     rw [hfo]
     exact q3
  ·exact hk.elim
 | [],_::_,_,_,_,_,_,_,_,_,hk=>hk.elim
 | _::_,[],_,_,_,_,_,_,_,_,hk=>hk.elim
 | _,_::_,[],_,_,_,_,hv,_,_,_=>by simp only [RepTs] at hv
 | _,[],_::_,_,_,_,_,hv,_,_,_=>by simp only [RepTs] at hv
section ops
variable {E:Env} {c:Cx} {o:Oper}
noncomputable def buA(E:Env)(st:St)(t:Nat)(parts:List (Nat × Operand))(K:V→St→Prop):Prop :=
 match (E.ti t).k with
 | .strct fs=>mvL st (parts.map (·.2)) fun vs st'=>bdP fs (parts.map (·.1)) vs (E.ti t).zr fun cells=>K (.ag cells) st'
 | _=>False
theorem build_sound(hE:EnvOk E){t:Nat}{parts:Array (Nat × Operand)}(ho:o.op=.build t parts):OpS E c o fun st K=>buA E st t parts.toList fun v st'=>K (pu st' o.dst v):=by
 intro st a w G K N Q h hk hN
 unfold buA at hk
 split at hk
 ·rename_i fs hks
  have hT:=hE t (by rw [hks];rfl)
  have hu:=hT.und
  rw [hks] at hu
  obtain⟨F,hF,hfs⟩:=hu
  obtain⟨xi,z,i1,i2,i3,i4,i5,i6,i7,i8⟩:=hT.info
  obtain⟨Vs,st',G',T',k1,k2,k3,k4,k5,k6⟩:=mvL_sound _ st G _ h hk
  obtain⟨cells',vals',q1,q2,q3⟩:=bdP_sound _ Vs _ (E.ti t).zr z.cells.toList (fun _=>False) T' k3 (repTs_of_Cs _ _ _ i7 (i8 w G'.Sh)) (fun _ h=>h.elim) k1
  have hb:E.P.built t (parts.map fun p=>(p.1,a.eval p.2)).toList=some vals'.toArray:=by
   have e1:(parts.map fun p=>(p.1,a.eval p.2)).toList=(parts.toList.map (·.1)).zip ((parts.toList.map (·.2)).map a.eval):=by
    rw [Array.toList_map,List.map_map,List.zip_map',List.map_inj_left]
    intro p _;rfl
   unfold Program.built
   rw [i1,hF,e1]
   simp only [i4,hfs.all]
   exact q3
  obtain⟨G2,hG⟩:=k2.put1 o.dst (v:=.ag cells') (u:=.agg vals'.toArray) (T:=T') (by
   simp only [RepT]
   exact ⟨vals',rfl,RepTs.mono _ _ _ _ (fun x hx=>hx.elim False.elim id) q2⟩) k4
  exact wp_value (v:=.agg vals'.toArray) (w':=w) (by simp [execOp,ho,run_build w t _ _ hb]) (hN _ _ _ _ q1 hG)
 ·exact hk.elim
noncomputable def fdA(E:Env)(t:Nat)(x:V)(j:Nat)(K:V→Prop):Prop :=
 match (E.ti t).k,x with
 | .strct fs,.ag cs =>
  (match fs[j]? with
  | some (off,n,ag)=>bif Nat.ble (off+n) cs.length then
    (match ag with | true=>(bif cps ((cs.drop off).take n) then K (.ag ((cs.drop off).take n)) else False) | false=>(match cs[off]? with | some v=>bif cp v then K v else False | none=>False))
   else False
  | none=>False)
 | _,_=>False
theorem field_sound(hE:EnvOk E){t j:Nat}{x:Operand}(ho:o.op=.field t x j):OpQ E c o fun st K=>fdA E t (ev st x) j K:=by
 intro st a w G K N Q h hk hN
 obtain⟨T,hx⟩:=h.ev x
 unfold fdA at hk
 split at hk
 ·rename_i fs cs hks hg
  have hT:=hE t (by rw [hks];rfl)
  have hu:=hT.und
  rw [hks] at hu
  obtain⟨F,hF,hfs⟩:=hu
  rw [hg] at hx
  simp only [RepT] at hx
  obtain⟨vs,hx,hr⟩:=hx
  split at hk
  ·rename_i off n ag hf
   obtain⟨f,xi,f1,f2,f3,f4,f5,d,f6,f7⟩:=hfs.fld j off n ag hf
   cases hb:Nat.ble (off+n) cs.length with
   | false=>rw [hb] at hk;exact hk.elim
   | true =>
    rw [hb] at hk
    simp only [cond_true] at hk
    have hle:=Nat.le_of_ble_eq_true hb
    have hl:=hr.len
    cases ag with
    | true =>
     simp only [cond_true] at hk
     cases hc:cps ((cs.drop off).take n) with
     | false=>rw [hc] at hk;exact hk.elim
     | true =>
      rw [hc] at hk
      have hrr:=cps_T _ _ _ (fun _=>False) hc (RepTs.take n _ _ _ (RepTs.drop off _ _ _ hr))
      have hG:=h.rep0 (v:=.ag ((cs.drop off).take n)) (u:=.agg ((vs.drop off).take n).toArray) (by simp only [RepT];exact ⟨_,rfl,hrr⟩)
      have hag:(isAgg f.type).run E.P w=.ok true w:=by
       unfold isAgg
       rcases f7.1 rfl with ⟨F',rfl⟩ | ⟨m,e,rfl⟩ <;> simp [run_underlying f6]
      refine wp_value (v:=.agg ((vs.drop off).take n).toArray) (w':=w) ?_ (hN _ _ _ _ hk (RowKit.Below.refl _ _) hG noneT)
      have hex:vs.toArray.extract off (off+n)=((vs.drop off).take n).toArray:=by
       simp [List.extract_toArray,List.extract_eq_take_drop]
      simp [execOp,ho,Instr.field,hx,run_underlying hF,f1,part,hag,asAgg,sizeOf,typeInfo,f3,f4,f2,hex]
    | false =>
     simp only [cond_false] at hk
     split at hk
     ·rename_i v hj
      cases hc:cp v with
      | false=>rw [hc] at hk;exact hk.elim
      | true =>
       rw [hc] at hk
       obtain⟨u,T1,k1,k2,_,_⟩:=RepTs.focus cs vs _ off v hr hj
       have hG:=h.rep0 (cp_T _ _ _ _ hc k2)
       have hag:(isAgg f.type).run E.P w=.ok false w:=by
        unfold isAgg
        have hn:¬ ((∃F',d=TypeDesc.struct F')∨(∃n e,d=TypeDesc.array n e)):=fun hh=>by have:=f7.2 hh;cases this
        cases d <;> first | (simp [run_underlying f6];done) | (exfalso;apply hn;simp)
       refine wp_value (v:=u) (w':=w) ?_ (hN _ _ _ _ hk (RowKit.Below.refl _ _) hG noneT)
       simp [execOp,ho,Instr.field,hx,run_underlying hF,f1,part,hag,asAgg,f2,k1]
     ·exact hk.elim
  ·exact hk.elim
 ·exact hk.elim
/-- A field taken out of a record that a temporary holds. -/
def fdM(E:Env)(st:St)(t:Nat)(x:Operand)(j:Nat)(K:V→St→Prop):Prop :=
 match x with
 | .tmp s =>
  (match (E.ti t).k,st.t.getD s .un with
  | .strct fs,.ag cs =>
   (match fs[j]? with
   | some (off,n,ag)=>bif Nat.ble (off+n) cs.length && !ag then
     (match nthV cs off with
     | some v=>(match cp v with | true=>K v st | false=>K v { st with t:=st.t.set s (.ag (cs.set off .un)) })
     | none=>False)
    else False
   | none=>False)
  | _,_=>False)
 | _=>False
theorem fieldM_sound(hE:EnvOk E){t j:Nat}{x:Operand}(ho:o.op=.field t x j):OpS E c o fun st K=>fdM E st t x j fun v st'=>K (pu st' o.dst v):=by
 intro st a w G K N Q h hk hN
 unfold fdM at hk
 split at hk
 ·rename_i s
  have ht:=h.tmp s
  split at hk
  ·rename_i fs cs hks hg
   have hs:=getD_some hg (by simp)
   rw [hg] at ht
   have hT:=hE t (by rw [hks];rfl)
   have hu:=hT.und
   rw [hks] at hu
   obtain⟨F,hF,hfs⟩:=hu
   simp only [RepT] at ht
   obtain⟨vs,h1,hr⟩:=ht
   split at hk
   ·rename_i off n ag hf
    obtain⟨f,xi,f1,f2,f3,f4,f5,d,f6,f7⟩:=hfs.fld j off n ag hf
    cases hb:(Nat.ble (off+n) cs.length && !ag) with
    | false=>rw [hb] at hk;exact hk.elim
    | true =>
     rw [hb] at hk
     simp only [cond_true] at hk
     simp only [Bool.and_eq_true,Bool.not_eq_true'] at hb
     split at hk
     ·rename_i v hj
      rw [nthV_eq] at hj
      obtain⟨u,T1,k1,k2,k3,k4⟩:=RepTs.focus cs vs _ off v hr hj
      have hag:(isAgg f.type).run E.P w=.ok false w:=by
       unfold isAgg
       have hn:¬ ((∃F',d=TypeDesc.struct F')∨(∃n e,d=TypeDesc.array n e)):=fun hh=>by have:=f7.2 hh;rw [hb.2] at this;cases this
       cases d <;> first | (simp [run_underlying f6];done) | (exfalso;apply hn;simp)
      have hrun:(execOp a.eval o).run E.P w=.ok (.value u) w:=by
       have hx:a.eval (.tmp s)=.agg vs.toArray:=h1
       simp [execOp,ho,Instr.field,hx,run_underlying hF,f1,part,hag,asAgg,f2,k1]
      cases hc:cp v with
      | true =>
       rw [hc] at hk
       obtain⟨G',hG⟩:=h.put0 o.dst (cp_T _ _ _ _ hc k2)
       exact wp_value hrun (hN _ _ _ _ hk hG)
      | false =>
       rw [hc] at hk
       have ht2:=h.turn s (.ag cs) (.ag (cs.set off .un)) T1 G.Sh hs k3 (fun _ hb=>hb) (fun _ hb=>.inl hb) (by simp only [RepT];exact ⟨vs,h1,k4⟩) (fun e=>by cases e)
       have hno:∀b,T1 b→give G.ow T1 .no b=.no:=fun b hb=>give_yes hb
       obtain⟨G',hG⟩:=ht2.put1 o.dst (T:=T1) k2 (fun b hb=>by
        have:=h.ob b (by rw [k3 b hb];simp)
        exact ⟨hno b hb,this⟩)
       exact wp_value hrun (hN _ _ _ _ hk hG)
     ·exact hk.elim
   ·exact hk.elim
  ·exact hk.elim
 ·exact hk.elim
end ops
end Go.Ar
