import Derived.Test.YthhcbcokjlpahaaGreatArG0
import Derived.ChangeSlices
namespace Go.Ar
open Go.Proofs
set_option linter.unusedVariables false
set_option linter.unusedSimpArgs false
/-- One row out of data, with the flags that a row has. -/
theorem row_of_cs{w:World}{b:Nat}:∀ (r:List V) (rc:List V) (vs:List Value) (o:Nat),r.map shC=rc→Cs w rc vs→(∀j v,vs[j]?=some v→w.cell? ⟨b,o+j,none⟩=some v)→RepRow w (fun b=>b<w.heap.size) .shr r b o (fun _=>False)
 | [],_,_,_,_,_,_=>by simp only [RepRow]
 | c::r,rc,vs,o,hrc,hcs,hv=>by
  subst hrc
  cases vs with
  | nil=>exact hcs.elim
  | cons v vs =>
   obtain⟨h1,h2⟩:=hcs
   simp only [RepRow]
   refine ⟨v,fun _=>False,fun _=>False,by simpa using hv 0 v rfl,?_,row_of_cs r _ vs (o+1) rfl h2 (fun j u hj=>by
    have:=hv (j+1) u (by simpa using hj)
    rwa [show o+(j+1)=o+1+j by omega] at this),fun _ h=>h.elim,fun _ h=>h⟩
   cases c with
   | sl f z xs =>
    simp only [shC,RepC] at h1 ⊢
    rcases h1 with h1 | ⟨b',o',c',e1,e2,e3,h1⟩
    ·exact .inl h1
    ·refine .inr ⟨b',o',c',e1,e2,e3,.inl ⟨by cases f <;> rfl,?_⟩⟩
     rcases h1 with ⟨_,h1⟩ | ⟨hm,_⟩ | ⟨hm,_⟩
     ·exact h1
     ·cases hm
     ·cases hm
   | _=>exact h1
theorem rows_of_at{w:World}{b z:Nat}{α:Type}{fR:α→List V}:∀ (l:List α) (o:Nat),(∀x∈l,(fR x).length=z)→(∀i x,l[i]?=some x→RepRow w (fun b=>b<w.heap.size) .shr (fR x) b (o+i*z) (fun _=>False)) →
  RepRows w (fun b=>b<w.heap.size) .shr z (l.map fR) b o (fun _=>False)
 | [],_,_,_=>by simp only [List.map_nil,RepRows]
 | x::l,o,hz,h=>by
  simp only [List.map_cons,RepRows]
  refine ⟨hz x (by simp),fun _=>False,fun _=>False,by simpa using h 0 x rfl,rows_of_at l (o+z) (fun y hy=>hz y (by simp [hy])) (fun i y hi=>?_),fun _ h=>h.elim,fun _ h=>h⟩
  have:=h (i+1) y (by simpa using hi)
  rwa [show o+(i+1)*z=o+z+i*z by rw [Nat.add_mul,Nat.one_mul];omega] at this
theorem list_of_at{α:Type}{p:Nat→α→Prop}:∀ (n:Nat),(∀i,i<n→∃x,p i x)→∃l:List α,l.length=n∧∀i x,l[i]?=some x→p i x
 | 0,_=>⟨[],rfl,fun i x h=>by simp at h⟩
 | n+1,h=>by
  obtain⟨l,h1,h2⟩:=list_of_at n (fun i hi=>h i (by omega))
  obtain⟨x,hx⟩:=h n (by omega)
  refine ⟨l++[x],by simp [h1],fun i y hi=>?_⟩
  by_cases e:i<n
  ·rw [List.getElem?_append_left (by omega)] at hi;exact h2 i y hi
  ·rw [List.getElem?_append_right (by omega)] at hi
   have e2:i-l.length=0:=by
    have:=(List.getElem?_eq_some_iff.1 hi).1
    simp at this;omega
   rw [e2] at hi
   have:i=n:=by omega
   subst this
   simp at hi;subst hi;exact hx
theorem opn_slice{P:Program}{t e z:Nat}(ht:P.underlying t=some (.slice e))(hz:P.cellsOf e=z)(hz0:0<z){α:Type}{fC fR:α→List V}{inv:α→Prop}(h:Opn P e fC inv)(hR:∀a,(fR a).map shC=fC a)(hl:∀a,(fR a).length=z) :
  Opn P t (fun l:List α=>[.sl .shr z (rows fR l)]) (fun l=>l.length≤maxLen∧∀x∈l,inv x):=⟨fun enc w n cs x hx=>by
 rcases DataW.trod_slice ht hx with ⟨rfl,_⟩ | ⟨a,len,cap,elems,rest,m,_,rfl,rfl,hb,hle,hm,hlen,hel,hsp,hns⟩
 ·refine ⟨[],⟨by simp,by simp⟩,?_⟩
  simp only [Cs,RepC,rows_nil]
  exact ⟨.inl ⟨⟨none,rfl⟩,trivial⟩,trivial⟩
 ·obtain⟨hrl,hr⟩:=hsp rfl
  have one:∀i,i<cap→∃y,(w.cells? 0 (a.add (i*P.cellsOf e)) (P.cellsOf e)).bind (DataW.trod enc P w 0 (fun _=>true) true m e)=some y:=by
   intro i hi
   by_cases hil:i<len
   ·rw [hel i hil];exact ⟨_,List.getElem?_eq_getElem (by omega)⟩
   ·have:=hr (i-len) (by omega)
    rw [show len+(i-len)=i by omega] at this
    rw [this];exact ⟨_,List.getElem?_eq_getElem (by omega)⟩
  have each:∀i,i<cap→∃x:α,inv x∧∃vs:List Value,vs.length=z∧Cs w (fC x) vs∧∀j,j<z→w.cell? ((a.add (i*z)).add j)=vs[j]?:=by
   intro i hi
   obtain⟨y,hy⟩:=one i hi
   rw [hz,Option.bind_eq_some_iff] at hy
   obtain⟨vs,h1,h2⟩:=hy
   obtain⟨x,ix,cx⟩:=h.op enc w m vs y h2
   obtain⟨_,k1,k2⟩:=World.cells?_some h1
   exact ⟨x,ix,vs,k1,cx,k2⟩
  by_cases hc0:cap=0
  ·subst hc0
   obtain rfl:len=0:=by omega
   refine ⟨[],⟨by simp,by simp⟩,?_⟩
   simp only [Cs,RepC,rows_nil]
   exact ⟨.inl ⟨⟨some a,rfl⟩,trivial⟩,trivial⟩
  ·have hsp:∃b o,a=⟨b,o,none⟩:=by
    obtain⟨x,_,vs,k1,_,k2⟩:=each 0 (by omega)
    have:=k2 0 hz0
    rw [List.getElem?_eq_getElem (by omega)] at this
    simp only [Nat.zero_mul,Addr.add,if_true] at this
    obtain⟨b,o,s⟩:=a
    cases s with
    | none=>exact ⟨b,o,rfl⟩
    | some s=>unfold World.cell? at this;split at this <;> simp at this
   obtain⟨b,o,rfl⟩:=hsp
   obtain⟨l,h1,h2⟩:=list_of_at (p:=fun i (x:α)=>inv x∧∃vs:List Value,vs.length=z∧Cs w (fC x) vs∧∀j,j<z→w.cell? (((⟨b,o,none⟩:Addr).add (i*z)).add j)=vs[j]?) len (fun i hi=>each i (by omega))
   refine ⟨l,⟨by omega,fun x hx=>?_⟩,?_⟩
   ·obtain⟨i,hi,e⟩:=List.mem_iff_getElem.1 hx
    exact (h2 i x (by rw [List.getElem?_eq_getElem hi,e])).1
   ·simp only [Cs,RepC]
    refine ⟨.inr ⟨b,o,cap,?_,?_,hm,.inl ⟨rfl,fun hne=>?_,?_⟩⟩,trivial⟩
    ·rw [rows_eq,List.length_map,h1]
    ·rw [rows_eq,List.length_map,h1];exact hle
    ·have hl0:0<l.length:=by
      cases l with
      | nil=>exact absurd (rows_nil fR) hne
      | cons _ _=>simp
     obtain⟨x,hx⟩:=get_lt hl0
     obtain⟨_,vs,k1,_,k2⟩:=h2 0 x hx
     have:=k2 0 hz0
     rw [List.getElem?_eq_getElem (by omega)] at this
     have hlt:=cell_lt this
     simpa [Addr.add] using hlt
    ·rw [rows_eq]
     refine rows_of_at l o (fun x _=>hl x) (fun i x hi=>?_)
     obtain⟨_,vs,k1,k3,k2⟩:=h2 i x hi
     refine row_of_cs (fR x) (fC x) vs _ (hR x) k3 (fun j v hj=>?_)
     have hjl:=(List.getElem?_eq_some_iff.1 hj).1
     have:=k2 j (by omega)
     rw [hj,Addr.add_lit,Addr.add_lit] at this
     exact this⟩
end Go.Ar
