import Derived.Test.YthhcbcokjlpahaaGreatArG
namespace Go.Ar
set_option linter.unusedVariables false
set_option linter.unusedSimpArgs false
/-! ### Rows and cells -/
theorem RepCs.mono{w:World}{Sh:Nat→Prop}:∀ (cs:List V) (vs:List Value) (T T':Nat→Prop),(∀x,T x→T' x)→RepCs w Sh cs vs T→RepCs w Sh cs vs T'
 | [],[],_,_,_,_=>trivial
 | c::cs,v::vs,T,T',hT,h=>by
  obtain⟨T1,T2,h1,h2,d1,d2⟩:=h
  exact ⟨T1,T2,h1,h2,fun x hx=>⟨hT x (d1 x hx).1,(d1 x hx).2⟩,fun x hx=>hT x (d2 x hx)⟩
 | [],_::_,_,_,_,h=>h.elim
 | _::_,[],_,_,_,h=>h.elim
theorem RepCs.split{w:World}{Sh:Nat→Prop}{bs:List V}:∀ (as:List V) (vs:List Value) (T:Nat→Prop),RepCs w Sh (as++bs) vs T →
  ∃v1 v2 T1 T2,vs=v1++v2∧RepCs w Sh as v1 T1∧RepCs w Sh bs v2 T2∧(∀x,T1 x→T x∧¬T2 x)∧(∀x,T2 x→T x)
 | [],vs,T,h=>⟨[],vs,fun _=>False,T,rfl,trivial,h,fun _ h=>h.elim,fun _ h=>h⟩
 | c::cs,v::vs,T,h=>by
  obtain⟨S1,S2,h1,h2,d1,d2⟩:=h
  obtain⟨v1,v2,T1,T2,rfl,k1,k2,k3,k4⟩:=RepCs.split cs vs S2 h2
  refine ⟨v::v1,v2,(fun x=>S1 x∨T1 x),T2,rfl,⟨S1,T1,h1,k1,fun x hx=>⟨.inl hx,fun hh=>(d1 x hx).2 (k3 x hh).1⟩,fun x hx=>.inr hx⟩,k2,?_,fun x hx=>d2 x (k4 x hx)⟩
  intro x hx
  rcases hx with hx | hx
  ·exact ⟨(d1 x hx).1,fun hh=>(d1 x hx).2 (k4 x hh)⟩
  ·exact ⟨d2 x (k3 x hx).1,(k3 x hx).2⟩
 | _::_,[],_,h=>h.elim
theorem RepCs.join{w:World}{Sh:Nat→Prop}{bs:List V}{v2:List Value}{T2:Nat→Prop}(h2:RepCs w Sh bs v2 T2):∀ (as:List V) (v1:List Value) (T1:Nat→Prop),RepCs w Sh as v1 T1→(∀x,T1 x→¬T2 x) →
  RepCs w Sh (as++bs) (v1++v2) (fun x=>T1 x∨T2 x)
 | [],[],T1,_,_=>RepCs.mono _ _ _ _ (fun _ h=>.inr h) h2
 | c::cs,v::vs,T1,h,hd=>by
  obtain⟨S1,S2,k1,k2,d1,d2⟩:=h
  have:=RepCs.join h2 cs vs S2 k2 (fun x hx=>hd x (d2 x hx))
  exact ⟨S1,_,k1,this,fun x hx=>⟨.inl (d1 x hx).1,fun hh=>hh.elim (d1 x hx).2 (hd x (d1 x hx).1)⟩,fun x hx=>hx.imp (d2 x) id⟩
 | [],_::_,_,h,_=>h.elim
 | _::_,[],_,h,_=>h.elim
theorem rows_of_cs{w w':World}{Sh:Nat→Prop}{b z:Nat}(hS:∀x,Sh x→w'.heap[x]?=w.heap[x]?):∀ (rows:List (List V)) (vs:List Value) (T:Nat→Prop) (o:Nat),(∀x,T x→w'.heap[x]?=w.heap[x]?) →
  (∀r∈rows,r.length=z)→(∀j v,vs[j]?=some v→w'.cell? ⟨b,o+j,none⟩=some v)→RepCs w Sh rows.flatten vs T→RepRows w' Sh .own z rows b o T
 | [],vs,T,o,_,_,_,_=>by simp only [RepRows]
 | r::rs,vs,T,o,hT,hz,hc,h=>by
  simp only [List.flatten_cons] at h
  obtain⟨v1,v2,T1,T2,rfl,k1,k2,k3,k4⟩:=RepCs.split r vs T h
  have hr:r.length=z:=hz r (by simp)
  have hl:=k1.len
  simp only [RepRows]
  refine ⟨hr,T1,T2,RepCs.row hS r v1 T1 o (fun x hx=>hT x (k3 x hx).1) (fun j v hj=>hc j v ?_) k1,rows_of_cs hS rs v2 T2 (o+z) (fun x hx=>hT x (k4 x hx)) (fun r' h'=>hz r' (by simp [h'])) (fun j v hj=>?_) k2,k3,k4⟩
  ·rw [List.getElem?_append_left]
   ·exact hj
   ·have:=List.getElem?_eq_some_iff.1 hj;exact this.1
  ·have:=hc (z+j) v (by rw [List.getElem?_append_right (by omega)];rw [show z+j-v1.length=j by omega];exact hj)
   rwa [←Nat.add_assoc] at this
theorem cs_of_row{w:World}{Sh:Nat→Prop}{b:Nat}:∀ (r:List V) (o:Nat) (T:Nat→Prop),RepRow w Sh .own r b o T→∃vs,RepCs w Sh r vs T∧∀j v,vs[j]?=some v→w.cell? ⟨b,o+j,none⟩=some v
 | [],o,T,_=>⟨[],trivial,by simp⟩
 | c::cs,o,T,h=>by
  simp only [RepRow] at h
  obtain⟨v,T1,T2,h0,h1,h2,d1,d2⟩:=h
  obtain⟨vs,k1,k2⟩:=cs_of_row cs (o+1) T2 h2
  refine ⟨v::vs,⟨T1,T2,h1,k1,d1,d2⟩,fun j u hj=>?_⟩
  cases j with
  | zero=>simp at hj;subst hj;exact h0
  | succ j=>have:=k2 j u (by simpa using hj);rwa [show o+1+j=o+(j+1) by omega] at this
theorem cs_of_rows{w:World}{Sh:Nat→Prop}{b z:Nat}:∀ (rows:List (List V)) (o:Nat) (T:Nat→Prop),RepRows w Sh .own z rows b o T →
  ∃vs,RepCs w Sh rows.flatten vs T∧(∀j v,vs[j]?=some v→w.cell? ⟨b,o+j,none⟩=some v)∧(∀r∈rows,r.length=z)
 | [],o,T,_=>⟨[],trivial,by simp,by simp⟩
 | r::rs,o,T,h=>by
  simp only [RepRows] at h
  obtain⟨hr,T1,T2,h1,h2,d1,d2⟩:=h
  obtain⟨v1,k1,k2⟩:=cs_of_row r o T1 h1
  obtain⟨v2,q1,q2,q3⟩:=cs_of_rows rs (o+z) T2 h2
  refine ⟨v1++v2,?_,fun j v hj=>?_,fun r' h'=>?_⟩
  ·simp only [List.flatten_cons]
   exact RepCs.mono _ _ _ _ (fun x hx=>hx.elim (fun hx=>(d1 x hx).1) (d2 x)) (RepCs.join q1 r v1 T1 k1 (fun x hx=>(d1 x hx).2))
  ·have hl:=k1.len
   by_cases hlt:j<v1.length
   ·rw [List.getElem?_append_left hlt] at hj
    exact k2 j v hj
   ·rw [List.getElem?_append_right (by omega)] at hj
    have:=q2 _ v hj
    rwa [show o+z+(j-v1.length)=o+j by omega] at this
  ·rcases List.mem_cons.1 h' with rfl | h'
   ·exact hr
   ·exact q3 r' h'
theorem flat_rep{α:Type}(l:List α):∀ (n j:Nat) (v:α),(List.replicate n l).flatten[j]?=some v→l[j % l.length]?=some v
 | 0,j,v,h=>by simp at h
 | n+1,j,v,h=>by
  rw [List.replicate_succ,List.flatten_cons] at h
  by_cases hlt:j<l.length
  ·rw [List.getElem?_append_left hlt] at h
   rwa [Nat.mod_eq_of_lt hlt]
  ·rw [List.getElem?_append_right (by omega)] at h
   have:=flat_rep l n _ v h
   rwa [←Nat.mod_eq_sub_mod (by omega)] at this
theorem RepCs.rep{w:World}{Sh:Nat→Prop}{cs:List V}{vs:List Value}(h:RepCs w Sh cs vs (fun _=>False)):∀n,RepCs w Sh (List.replicate n cs).flatten (List.replicate n vs).flatten (fun _=>False)
 | 0=>by simp [RepCs]
 | n+1=>by
  simp only [List.replicate_succ,List.flatten_cons]
  exact RepCs.mono _ _ _ _ (fun _ h=>h.elim id id) (RepCs.join (RepCs.rep h n) _ _ _ h (fun _ h=>h.elim))
/-- A new block that holds rows. -/
theorem fresh_row{w w':World}{Sh T:Nat→Prop}(hS:∀b,Sh b→b<w.heap.size)(hT:∀b,T b→b<w.heap.size){rows:List (List V)}{vals:List Value}{z:Nat}(hrows:RepCs w Sh rows.flatten vals T)(hz:∀r∈rows,r.length=z)
  {cells:Array Value} {e:TypeId} {fz:Nat × Nat} {cc:Nat} (hw:w'.heap[w.heap.size]?=some (.cells cells e fz)) (hfz:fz.1=fz.2∨cells.size≤fz.1) (hold:∀b,b<w.heap.size→w'.heap[b]?=w.heap[b]?)
  (hpre:∀ (j:Nat) (v:Value),vals[j]?=some v→cells[j]?=some v) (hsize:cc*z≤cells.size) (hle:rows.length≤cc) (hcc:cc≤maxLen) :
  RepC w' Sh .own (.sl .own z rows) (.slice (some ⟨w.heap.size,0,none⟩) rows.length cc) (fun b=>b=w.heap.size∨T b):=by
 simp only [RepC]
 refine .inr ⟨w.heap.size,0,cc,rfl,hle,hcc,.inr (.inr ⟨rfl,.inl rfl,fun hh=>by have:=hS _ hh;omega,⟨cells,e,fz,hw,by omega,hfz⟩,?_⟩)⟩
 refine RepRows.mono _ _ _ _ _ _ (fun x hx=>?_) (rows_of_cs (w:=w) (fun x hx=>hold x (hS x hx)) rows vals T 0 (fun x hx=>hold x (hT x hx)) hz (fun j v hj=>?_) hrows)
 ·exact ⟨.inr hx,fun e=>by have:=hT x hx;omega⟩
 ·rw [Nat.zero_add]
  simp [World.cell?,hw,hpre j v hj]
end Go.Ar
