import Derived.Test.YthhcbcokjlpahaaGreatArR
namespace Go.Ar
set_option linter.unusedVariables false
set_option linter.unusedSimpArgs false
/-! ### The type table, checked by computing -/
def zchk:Value→V→Bool
 | .int k n,.i k' m=>kEq k k' && n == m
 | .bool b,.b c=>b == c
 | .string s,.s []=>s.size == 0
 | .slice none 0 0,.sl .own _ []=>true
 | _,_=>false
def zchks:List Value→List V→Bool
 | [],[]=>true
 | v::vs,c::cs=>zchk v c && zchks vs cs
 | _,_=>false
theorem zchk_rep{w:World}{Sh:Nat→Prop}{v:Value}{c:V}(h:zchk v c=true):RepC w Sh .own c v (fun _=>False)∧plain c=true:=by
 unfold zchk at h
 split at h
 ·simp only [Bool.and_eq_true,beq_iff_eq] at h
  obtain⟨h1,rfl⟩:=h
  obtain rfl:=kEq_iff h1
  exact ⟨rfl,rfl⟩
 ·simp only [beq_iff_eq] at h
  subst h
  exact ⟨rfl,rfl⟩
 ·rename_i s
  simp only [beq_iff_eq] at h
  refine ⟨?_,rfl⟩
  show Value.string s=.string ⟨([]:List UInt8).toArray⟩
  congr 1
  apply ByteArray.ext
  apply Array.eq_empty_of_size_eq_zero
  exact h
 ·refine ⟨?_,rfl⟩
  simp [RepC]
 ·cases h
theorem zchks_rep{w:World}{Sh:Nat→Prop}:∀ (vs:List Value) (cs:List V),zchks vs cs=true→RepCs w Sh cs vs (fun _=>False)∧plains cs=true∧cs.length=vs.length
 | [],[],_=>⟨trivial,rfl,rfl⟩
 | v::vs,c::cs,h=>by
  simp only [zchks,Bool.and_eq_true] at h
  obtain⟨h1,h2,h3⟩:=zchks_rep (w:=w) (Sh:=Sh) vs cs h.2
  obtain⟨k1,k2⟩:=zchk_rep (w:=w) (Sh:=Sh) h.1
  exact ⟨⟨fun _=>False,fun _=>False,k1,h1,fun _ h=>h.elim,fun _ h=>h⟩,by simp [plains,k2,h2],by simp [h3]⟩
 | [],_::_,h=>by cases h
 | _::_,[],h=>by cases h
/-- A field's entry is as the table has it. -/
def fchk(P:Program)(f:Field)(e:Nat × Nat × Bool):Bool :=
 f.offset == e.1 && (match P.info? f.type with | some x=>x.size == e.2.1 | none=>false) && !(e.2.1 == 0) &&
  (match P.underlying f.type with | some (.struct _)=>e.2.2 | some (.array _ _)=>e.2.2 | some _ => !e.2.2 | none=>false)
def fchks(P:Program):List Field→List (Nat × Nat × Bool)→Bool
 | [],[]=>true
 | f::fs,e::es=>fchk P f e && fchks P fs es
 | _,_=>false
def uchk(P:Program)(t:Nat):TK→Bool
 | .no=>true
 | .bool=>(match P.underlying t with | some .bool=>true | _=>false)
 | .int k=>(match P.underlying t with | some (.int k')=>kEq k' k | _=>false)
 | .str=>(match P.underlying t with | some .string=>true | _=>false)
 | .slice e=>(match P.underlying t with | some (.slice e')=>e' == e | _=>false)
 | .strct fs=>(match P.underlying t with | some (.struct F)=>fchks P F.toList fs | _=>false)
 | .ptr=>(match P.underlying t with | some (.pointer _)=>true | _=>false)
 | .fn=>(match P.underlying t with | some (.func _ _ _)=>true | _=>false)
def eqfB(P:Program):List Field→Nat→List V→Bool
 | [],_,[]=>true
 | f :: fs, j, z :: zs => f.offset == j && f.name != "_" && (match z, P.underlying f.type with | .b _, some .bool => true | .i k _, some (.int k') => kEq k' k | .s _, some .string => true | _, _ => false) && eqfB P fs (j + 1) zs
 | _,_,_=>false
theorem eqfB_ok{P:Program}:∀ (fs:List Field) (j:Nat) (zs:List V),eqfB P fs j zs=true→EqF P fs j zs
 | [],_,[],_=>trivial
 | f::fs,j,z::zs,h=>by
  simp only [eqfB,Bool.and_eq_true,beq_iff_eq,bne_iff_ne] at h
  obtain⟨⟨⟨h1,h2⟩,h3⟩,h4⟩:=h
  refine ⟨h1,h2,?_,eqfB_ok fs (j+1) zs h4⟩
  split at h3
  ·rename_i hu;exact hu
  ·rename_i hu
   obtain rfl:=kEq_iff h3
   exact hu
  ·rename_i hu;exact hu
  ·cases h3
 | [],_,_::_,h=>by cases h
 | _::_,_,[],h=>by cases h
def eqchk(P:Program)(t:Nat)(i:TI):Bool :=
 !(isS i.k && scals i.zr) || (!(P.stoodInHeld t) && !(P.eqGuardType P.depth t) && (match P.underlying t with | some (.struct F)=>eqfB P F.toList 0 i.zr | _=>false))
theorem eqchk_ok{P:Program}{t:Nat}{i:TI}(h:eqchk P t i=true)(h1:isS i.k=true)(h2:scals i.zr=true):EqOk P t i.zr:=by
 unfold eqchk at h
 rw [h1,h2] at h
 simp only [Bool.and_self,Bool.not_true,Bool.false_or,Bool.and_eq_true,Bool.not_eq_true'] at h
 obtain⟨⟨k1,k2⟩,k3⟩:=h
 refine ⟨k1,k2,?_⟩
 split at k3
 ·rename_i F hu
  exact ⟨F,hu,eqfB_ok _ _ _ k3⟩
 ·cases k3
def tchk(P:Program)(t:Nat)(i:TI):Bool :=
 (match P.info? t with
 | some x=>x.size == i.sz && x.bytes == i.by_ && (match x.zero with | some z=>z.cells.size == i.sz && zchks z.cells.toList i.zr | none=>false)
 | none=>false) && uchk P t i.k && eqchk P t i
theorem fchks_ok{P:Program}:∀ (fs:List Field) (es:List (Nat × Nat × Bool)),fchks P fs es=true →
  fs.mapM (fun f=>(P.info? f.type).map fun i=>(f.offset,i.size))=some (es.map fun x=>(x.1,x.2.1)) ∧
  ∀ (j o n:Nat) (ag:Bool),es[j]?=some (o,n,ag)→∃ (f:Field) (x:TypeInfo),fs[j]?=some f∧f.offset=o∧P.info? f.type=some x∧x.size=n∧n≠0 ∧
   (∃d,P.underlying f.type=some d∧(ag=true↔(∃F',d=TypeDesc.struct F')∨(∃n e,d=TypeDesc.array n e)))
 | [],[],_=>⟨rfl,fun j o n ag h=>by simp at h⟩
 | f::fs,e::es,h=>by
  simp only [fchks,Bool.and_eq_true] at h
  obtain⟨h1,h2⟩:=fchks_ok fs es h.2
  have hf:=h.1
  unfold fchk at hf
  simp only [Bool.and_eq_true,beq_iff_eq,Bool.not_eq_true'] at hf
  obtain⟨⟨⟨k1,k2⟩,k3⟩,k4⟩:=hf
  cases hi:P.info? f.type with
  | none=>rw [hi] at k2;cases k2
  | some x =>
   rw [hi] at k2
   have k2:x.size=e.2.1:=by simpa using k2
   refine ⟨by simp [List.mapM_cons,hi,h1,k1,k2],fun j o n ag hj=>?_⟩
   cases j with
   | zero =>
    simp only [List.getElem?_cons_zero,Option.some.injEq] at hj
    subst hj
    refine ⟨f,x,rfl,k1,hi,k2,by simpa using k3,?_⟩
    cases hd:P.underlying f.type with
    | none=>rw [hd] at k4;cases k4
    | some d =>
     rw [hd] at k4
     refine ⟨d,rfl,?_⟩
     cases d <;> simp at k4 ⊢ <;> simp [k4]
   | succ j=>simpa using h2 j o n ag (by simpa using hj)
 | [],_::_,h=>by cases h
 | _::_,[],h=>by cases h
theorem tchk_ok{P:Program}{t:Nat}{i:TI}(h:tchk P t i=true):TOk P t i:=by
 unfold tchk at h
 simp only [Bool.and_eq_true] at h
 obtain⟨⟨h1,h2⟩,h3⟩:=h
 refine ⟨?_,?_,eqchk_ok h3⟩
 ·cases hi:P.info? t with
  | none=>rw [hi] at h1;cases h1
  | some x =>
   rw [hi] at h1
   simp only [Bool.and_eq_true,beq_iff_eq] at h1
   obtain⟨⟨k1,k2⟩,k3⟩:=h1
   cases hz:x.zero with
   | none=>rw [hz] at k3;cases k3
   | some z =>
    rw [hz] at k3
    simp only [Bool.and_eq_true,beq_iff_eq] at k3
    have hl:i.zr.length=i.sz:=by
     have:=(zchks_rep (w:=default) (Sh:=fun _=>False) _ _ k3.2).2.2
     rw [this,Array.length_toList];exact k3.1
    exact ⟨x,z,rfl,k1,k2,hz,k3.1,hl,(zchks_rep (w:=default) (Sh:=fun _=>False) _ _ k3.2).2.1,fun w Sh=>(zchks_rep _ _ k3.2).1⟩
 ·unfold uchk at h2
  cases hk:i.k with
  | no=>trivial
  | _ =>
   rw [hk] at h2
   simp only at h2
   split at h2
   ·rename_i hu
    first
    | exact hu
    | (obtain rfl:=kEq_iff h2;exact hu)
    | (obtain rfl : _ = _ := by simpa using h2
       exact hu)
    | exact ⟨_,hu,⟨(fchks_ok _ _ h2).1,fun j o n ag hj=>by
      obtain⟨f,x,q1,q2⟩:=(fchks_ok _ _ h2).2 j o n ag hj
      exact ⟨f,x,by simpa using q1,q2⟩⟩⟩
    | exact ⟨_,hu⟩
    | exact ⟨_,_,_,hu⟩
   ·cases h2
def noTI:TI:=⟨.no,0,0,[]⟩
end Go.Ar
