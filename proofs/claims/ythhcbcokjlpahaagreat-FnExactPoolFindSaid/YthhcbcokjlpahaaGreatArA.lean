import Derived.Deep.AppendSrc
import Derived.Laws.Sem
import Derived.WalkKit
import Derived.Laws.IdiomCopy
import Derived.Below
namespace Go.Ar
set_option linter.unusedVariables false
set_option linter.unusedSimpArgs false
inductive Fl where
 | own | lent | shr
 deriving DecidableEq
inductive Rt where
 | bx (t:Nat) | tp (t:Nat) | gl (g:Nat)
 deriving DecidableEq
structure Pl where
 r:Rt
 ps:List (Nat × Int × Nat)
 o:Nat
inductive V where
 | b (x:Bool) | i (k:IntKind) (n:Int) | s (l:List UInt8)
 | nil | sl (f:Fl) (z:Nat) (xs:List (List V))
 | ag (cs:List V) | tu (vs:List V)
 | rf (p:Pl) (z:Nat) (u:Option (Int × Int))
 | pt (p:Pl) | fn (f:Nat) (caps:List V) | cv (k:Nat × Nat) (u:Value) | un
def Fl.meet:Fl→Fl→Fl
 | .own,f=>f
 | .lent,.shr=>.shr
 | .lent,_=>.lent
 | .shr,_=>.shr
def BlockOk(w:World)(b o n:Nat):Prop := ∃cur e fz,w.heap[b]?=some (.cells cur e fz)∧o+n≤cur.size∧(fz.1=fz.2∨cur.size≤fz.1)
theorem fz_no{fz:Nat × Nat}{m j:Nat}(h:fz.1=fz.2∨m≤fz.1)(hj:j<m):¬ (fz.1≤j∧j<fz.2):=by omega
mutual
def RepC(w:World)(Sh:Nat→Prop)(md:Fl):V→Value→(Nat→Prop)→Prop
 | .b x,v,_=>v=.bool x
 | .i k n,v,_=>v=.int k n
 | .s l,v,_=>v=.string ⟨l.toArray⟩
 | .nil,v,_=>v=.slice none 0 0
 | .cv _ u,v,_=>v=u∧v.oneCell'=true
 | .sl f z xs,v,T=>((∃al,v=.slice al 0 0)∧xs=[])∨∃b o c,v=.slice (some ⟨b,o,none⟩) xs.length c∧xs.length≤c∧c≤maxLen ∧
   ((md.meet f=.shr∧(xs≠[]→Sh b)∧RepRows w Sh .shr z xs b o (fun _=>False)) ∨
    (md.meet f=.lent∧T b∧Sh b∧BlockOk w b o (c*z)∧RepRows w Sh .lent z xs b o (fun x=>T x∧x≠b)) ∨
    (md.meet f=.own∧T b∧¬Sh b∧BlockOk w b o (c*z)∧RepRows w Sh .own z xs b o (fun x=>T x∧x≠b)))
 | .un,v,_=>v.oneCell'=true
 | _,_,_=>False
def RepRow(w:World)(Sh:Nat→Prop)(md:Fl):List V→Nat→Nat→(Nat→Prop)→Prop
 | [],_,_,_=>True
 | c::cs,b,o,T=>∃v T1 T2,w.cell? ⟨b,o,none⟩=some v∧RepC w Sh md c v T1∧RepRow w Sh md cs b (o+1) T2 ∧
   (∀x,T1 x→T x∧¬T2 x)∧(∀x,T2 x→T x)
def RepRows(w:World)(Sh:Nat→Prop)(md:Fl)(z:Nat):List (List V)→Nat→Nat→(Nat→Prop)→Prop
 | [],_,_,_=>True
 | r::rs,b,o,T=>r.length=z∧∃T1 T2,RepRow w Sh md r b o T1∧RepRows w Sh md z rs b (o+z) T2 ∧
   (∀x,T1 x→T x∧¬T2 x)∧(∀x,T2 x→T x)
end
theorem cell_of_heap{w w':World}{b:Nat}(h:w'.heap[b]?=w.heap[b]?)(o:Nat):w'.cell? ⟨b,o,none⟩=w.cell? ⟨b,o,none⟩:=by
 simp only [World.cell?,h]
theorem BlockOk.frame{w w':World}{b o n:Nat}(h:w'.heap[b]?=w.heap[b]?)(k:BlockOk w b o n):BlockOk w' b o n:=by
 unfold BlockOk at *;rw [h];exact k
mutual
theorem RepC.frame{w w':World}{Sh:Nat→Prop}(hS:∀b,Sh b→w'.heap[b]?=w.heap[b]?)(md:Fl):∀ (c:V) (v:Value) (T:Nat→Prop),(∀b,T b→w'.heap[b]?=w.heap[b]?)→RepC w Sh md c v T→RepC w' Sh md c v T
 | .b _,_,_,_,h | .i _ _,_,_,_,h | .cv _ _,_,_,_,h | .s _,_,_,_,h | .nil,_,_,_,h | .un,_,_,_,h=>h
 | .ag _,_,_,_,h | .tu _,_,_,_,h | .rf _ _ _,_,_,_,h | .pt _,_,_,_,h | .fn _ _,_,_,_,h=>h.elim
 | .sl f z xs,v,T,hT,h=>by
  simp only [RepC] at h ⊢
  rcases h with h | ⟨b,o,c,hv,h1,h2,h⟩
  ·exact .inl h
  ·refine .inr ⟨b,o,c,hv,h1,h2,?_⟩
   rcases h with ⟨hm,hs,hr⟩ | ⟨hm,ht,hs,hb,hr⟩ | ⟨hm,ht,hs,hb,hr⟩
   ·refine .inl ⟨hm,hs,?_⟩
    by_cases hx:xs=[]
    ·subst hx;trivial
    ·exact RepRows.frame hS .shr z xs b o _ (fun _ h=>h.elim) (fun j _=>cell_of_heap (hS b (hs hx)) _) hr
   ·exact .inr (.inl ⟨hm,ht,hs,hb.frame (hT b ht),RepRows.frame hS .lent z xs b o _ (fun x hx=>hT x hx.1) (fun j _=>cell_of_heap (hT b ht) _) hr⟩)
   ·exact .inr (.inr ⟨hm,ht,hs,hb.frame (hT b ht),RepRows.frame hS .own z xs b o _ (fun x hx=>hT x hx.1) (fun j _=>cell_of_heap (hT b ht) _) hr⟩)
theorem RepRow.frame{w w':World}{Sh:Nat→Prop}(hS:∀b,Sh b→w'.heap[b]?=w.heap[b]?)(md:Fl):∀ (cs:List V) (b o:Nat) (T:Nat→Prop),(∀b,T b→w'.heap[b]?=w.heap[b]?) →
  (∀j,j<cs.length→w'.cell? ⟨b,o+j,none⟩=w.cell? ⟨b,o+j,none⟩)→RepRow w Sh md cs b o T→RepRow w' Sh md cs b o T
 | [],_,_,_,_,_,_=>by simp only [RepRow]
 | c::cs,b,o,T,hT,hc,h=>by
  simp only [RepRow] at h ⊢
  obtain⟨v,T1,T2,hv,h1,h2,d1,d2⟩:=h
  refine ⟨v,T1,T2,?_,RepC.frame hS md c v T1 (fun x hx=>hT x (d1 x hx).1) h1,RepRow.frame hS md cs b (o+1) T2 (fun x hx=>hT x (d2 x hx)) ?_ h2,d1,d2⟩
  ·have:=hc 0 (by simp);rw [Nat.add_zero] at this;rw [this];exact hv
  ·intro j hj
   have:=hc (j+1) (by simp;omega)
   rwa [show o+(j+1)=o+1+j by omega] at this
theorem RepRows.frame{w w':World}{Sh:Nat→Prop}(hS:∀b,Sh b→w'.heap[b]?=w.heap[b]?)(md:Fl)(z:Nat):∀ (xs:List (List V)) (b o:Nat) (T:Nat→Prop),(∀b,T b→w'.heap[b]?=w.heap[b]?) →
  (∀j,j<xs.length*z→w'.cell? ⟨b,o+j,none⟩=w.cell? ⟨b,o+j,none⟩)→RepRows w Sh md z xs b o T→RepRows w' Sh md z xs b o T
 | [],_,_,_,_,_,_=>by simp only [RepRows]
 | r::rs,b,o,T,hT,hc,h=>by
  simp only [RepRows] at h ⊢
  obtain⟨hl,T1,T2,h1,h2,d1,d2⟩:=h
  refine ⟨hl,T1,T2,RepRow.frame hS md r b o T1 (fun x hx=>hT x (d1 x hx).1) (fun j hj=>hc j ?_) h1,RepRows.frame hS md z rs b (o+z) T2 (fun x hx=>hT x (d2 x hx)) ?_ h2,d1,d2⟩
  ·simp only [List.length_cons,Nat.add_mul,Nat.one_mul];omega
  ·intro j hj
   have:=hc (j+z) (by simp only [List.length_cons,Nat.add_mul,Nat.one_mul];omega)
   rwa [show o+(j+z)=o+z+j by omega] at this
end
mutual
theorem RepC.mono{w:World}{Sh:Nat→Prop}{md:Fl}:∀ (c:V) (v:Value) (T T':Nat→Prop),(∀x,T x→T' x)→RepC w Sh md c v T→RepC w Sh md c v T'
 | .b _,_,_,_,_,h | .i _ _,_,_,_,_,h | .cv _ _,_,_,_,_,h | .s _,_,_,_,_,h | .nil,_,_,_,_,h | .un,_,_,_,_,h=>h
 | .ag _,_,_,_,_,h | .tu _,_,_,_,_,h | .rf _ _ _,_,_,_,_,h | .pt _,_,_,_,_,h | .fn _ _,_,_,_,_,h=>h.elim
 | .sl f z xs,v,T,T',hT,h=>by
  simp only [RepC] at h ⊢
  rcases h with h | ⟨b,o,c,hv,h1,h2,h⟩
  ·exact .inl h
  ·refine .inr ⟨b,o,c,hv,h1,h2,?_⟩
   rcases h with h | ⟨hm,ht,hs,hb,hr⟩ | ⟨hm,ht,hs,hb,hr⟩
   ·exact .inl h
   ·exact .inr (.inl ⟨hm,hT _ ht,hs,hb,RepRows.mono xs _ _ _ _ _ (fun x hx=>⟨hT x hx.1,hx.2⟩) hr⟩)
   ·exact .inr (.inr ⟨hm,hT _ ht,hs,hb,RepRows.mono xs _ _ _ _ _ (fun x hx=>⟨hT x hx.1,hx.2⟩) hr⟩)
theorem RepRow.mono{w:World}{Sh:Nat→Prop}{md:Fl}:∀ (cs:List V) (b o:Nat) (T T':Nat→Prop),(∀x,T x→T' x)→RepRow w Sh md cs b o T→RepRow w Sh md cs b o T'
 | [],_,_,_,_,_,_=>by simp only [RepRow]
 | c::cs,b,o,T,T',hT,h=>by
  simp only [RepRow] at h ⊢
  obtain⟨v,T1,T2,hv,h1,h2,d1,d2⟩:=h
  exact ⟨v,T1,T2,hv,h1,h2,fun x hx=>⟨hT x (d1 x hx).1,(d1 x hx).2⟩,fun x hx=>hT x (d2 x hx)⟩
theorem RepRows.mono{w:World}{Sh:Nat→Prop}{md:Fl}:∀ (xs:List (List V)) (z b o:Nat) (T T':Nat→Prop),(∀x,T x→T' x)→RepRows w Sh md z xs b o T→RepRows w Sh md z xs b o T'
 | [],_,_,_,_,_,_,_=>by simp only [RepRows]
 | r::rs,z,b,o,T,T',hT,h=>by
  simp only [RepRows] at h ⊢
  obtain⟨hl,T1,T2,h1,h2,d1,d2⟩:=h
  exact ⟨hl,T1,T2,h1,h2,fun x hx=>⟨hT x (d1 x hx).1,(d1 x hx).2⟩,fun x hx=>hT x (d2 x hx)⟩
end
/-! The shared set may grow by blocks without title here; titled blocks keep their side. -/
mutual
theorem RepC.shr_mono{w:World}{Sh Sh':Nat→Prop}{md:Fl}(hs:∀b,Sh b→Sh' b):∀ (c:V) (v:Value) (T:Nat→Prop),(md=.own→∀b,T b→Sh' b→Sh b)→RepC w Sh md c v T→RepC w Sh' md c v T
 | .b _,_,_,_,h | .i _ _,_,_,_,h | .cv _ _,_,_,_,h | .s _,_,_,_,h | .nil,_,_,_,h | .un,_,_,_,h=>h
 | .ag _,_,_,_,h | .tu _,_,_,_,h | .rf _ _ _,_,_,_,h | .pt _,_,_,_,h | .fn _ _,_,_,_,h=>h.elim
 | .sl f z xs,v,T,hT,h=>by
  simp only [RepC] at h ⊢
  rcases h with h | ⟨b,o,c,hv,h1,h2,h⟩
  ·exact .inl h
  ·refine .inr ⟨b,o,c,hv,h1,h2,?_⟩
   rcases h with ⟨hm,h3,hr⟩ | ⟨hm,ht,h3,hb,hr⟩ | ⟨hm,ht,h3,hb,hr⟩
   ·exact .inl ⟨hm,fun hx=>hs _ (h3 hx),RepRows.shr_mono hs xs _ _ _ _ (fun h=>by cases h) hr⟩
   ·exact .inr (.inl ⟨hm,ht,hs _ h3,hb,RepRows.shr_mono hs xs _ _ _ _ (fun h=>by cases h) hr⟩)
   ·have ho:md=.own:=by cases md <;> cases f <;> simp_all [Fl.meet]
    exact .inr (.inr ⟨hm,ht,fun h=>h3 (hT ho _ ht h),hb,RepRows.shr_mono hs xs _ _ _ _ (fun _ x hx=>hT ho x hx.1) hr⟩)
theorem RepRow.shr_mono{w:World}{Sh Sh':Nat→Prop}{md:Fl}(hs:∀b,Sh b→Sh' b):∀ (cs:List V) (b o:Nat) (T:Nat→Prop),(md=.own→∀b,T b→Sh' b→Sh b)→RepRow w Sh md cs b o T→RepRow w Sh' md cs b o T
 | [],_,_,_,_,_=>by simp only [RepRow]
 | c::cs,b,o,T,hT,h=>by
  simp only [RepRow] at h ⊢
  obtain⟨v,T1,T2,hv,h1,h2,d1,d2⟩:=h
  exact ⟨v,T1,T2,hv,RepC.shr_mono hs c v T1 (fun e x hx=>hT e x (d1 x hx).1) h1,RepRow.shr_mono hs cs b _ T2 (fun e x hx=>hT e x (d2 x hx)) h2,d1,d2⟩
theorem RepRows.shr_mono{w:World}{Sh Sh':Nat→Prop}{md:Fl}(hs:∀b,Sh b→Sh' b):∀ (xs:List (List V)) (z b o:Nat) (T:Nat→Prop),(md=.own→∀b,T b→Sh' b→Sh b)→RepRows w Sh md z xs b o T→RepRows w Sh' md z xs b o T
 | [],_,_,_,_,_,_=>by simp only [RepRows]
 | r::rs,z,b,o,T,hT,h=>by
  simp only [RepRows] at h ⊢
  obtain⟨hl,T1,T2,h1,h2,d1,d2⟩:=h
  exact ⟨hl,T1,T2,RepRow.shr_mono hs r b o T1 (fun e x hx=>hT e x (d1 x hx).1) h1,RepRows.shr_mono hs rs z b _ T2 (fun e x hx=>hT e x (d2 x hx)) h2,d1,d2⟩
end
/-! Lending: own content becomes lent, its blocks joining the shared ones. -/
mutual
theorem RepC.lend{w:World}{Sh Sh':Nat→Prop}(hs:∀b,Sh b→Sh' b):∀ (c:V) (v:Value) (T:Nat→Prop),(∀b,T b→Sh' b)→RepC w Sh .own c v T→RepC w Sh' .lent c v T
 | .b _,_,_,_,h | .i _ _,_,_,_,h | .cv _ _,_,_,_,h | .s _,_,_,_,h | .nil,_,_,_,h | .un,_,_,_,h=>h
 | .ag _,_,_,_,h | .tu _,_,_,_,h | .rf _ _ _,_,_,_,h | .pt _,_,_,_,h | .fn _ _,_,_,_,h=>h.elim
 | .sl f z xs,v,T,hT,h=>by
  simp only [RepC] at h ⊢
  rcases h with h | ⟨b,o,c,hv,h1,h2,h⟩
  ·exact .inl h
  ·refine .inr ⟨b,o,c,hv,h1,h2,?_⟩
   rcases h with ⟨hm,h3,hr⟩ | ⟨hm,ht,h3,hb,hr⟩ | ⟨hm,ht,h3,hb,hr⟩
   ·refine .inl ⟨?_,fun hx=>hs _ (h3 hx),RepRows.shr_mono hs xs _ _ _ _ (fun h=>by cases h) hr⟩
    cases f <;> simp_all [Fl.meet]
   ·refine .inr (.inl ⟨?_,ht,hs _ h3,hb,RepRows.shr_mono hs xs _ _ _ _ (fun h=>by cases h) hr⟩)
    cases f <;> simp_all [Fl.meet]
   ·refine .inr (.inl ⟨?_,ht,hT _ ht,hb,RepRows.lend hs xs _ _ _ _ (fun x hx=>hT x hx.1) hr⟩)
    cases f <;> simp_all [Fl.meet]
theorem RepRow.lend{w:World}{Sh Sh':Nat→Prop}(hs:∀b,Sh b→Sh' b):∀ (cs:List V) (b o:Nat) (T:Nat→Prop),(∀b,T b→Sh' b)→RepRow w Sh .own cs b o T→RepRow w Sh' .lent cs b o T
 | [],_,_,_,_,_=>by simp only [RepRow]
 | c::cs,b,o,T,hT,h=>by
  simp only [RepRow] at h ⊢
  obtain⟨v,T1,T2,hv,h1,h2,d1,d2⟩:=h
  exact ⟨v,T1,T2,hv,RepC.lend hs c v T1 (fun x hx=>hT x (d1 x hx).1) h1,RepRow.lend hs cs b _ T2 (fun x hx=>hT x (d2 x hx)) h2,d1,d2⟩
theorem RepRows.lend{w:World}{Sh Sh':Nat→Prop}(hs:∀b,Sh b→Sh' b):∀ (xs:List (List V)) (z b o:Nat) (T:Nat→Prop),(∀b,T b→Sh' b)→RepRows w Sh .own z xs b o T→RepRows w Sh' .lent z xs b o T
 | [],_,_,_,_,_,_=>by simp only [RepRows]
 | r::rs,z,b,o,T,hT,h=>by
  simp only [RepRows] at h ⊢
  obtain⟨hl,T1,T2,h1,h2,d1,d2⟩:=h
  exact ⟨hl,T1,T2,RepRow.lend hs r b o T1 (fun x hx=>hT x (d1 x hx).1) h1,RepRows.lend hs rs z b _ T2 (fun x hx=>hT x (d2 x hx)) h2,d1,d2⟩
end
mutual
theorem RepC.share{w:World}{Sh:Nat→Prop}:∀ (c:V) (v:Value) (T T':Nat→Prop),RepC w Sh .lent c v T→RepC w Sh .shr c v T'
 | .b _,_,_,_,h | .i _ _,_,_,_,h | .cv _ _,_,_,_,h | .s _,_,_,_,h | .nil,_,_,_,h | .un,_,_,_,h=>h
 | .ag _,_,_,_,h | .tu _,_,_,_,h | .rf _ _ _,_,_,_,h | .pt _,_,_,_,h | .fn _ _,_,_,_,h=>h.elim
 | .sl f z xs,v,T,T',h=>by
  simp only [RepC] at h ⊢
  rcases h with h | ⟨b,o,c,hv,h1,h2,h⟩
  ·exact .inl h
  ·refine .inr ⟨b,o,c,hv,h1,h2,.inl ⟨rfl,?_⟩⟩
   rcases h with ⟨hm,h3,hr⟩ | ⟨hm,ht,h3,hb,hr⟩ | ⟨hm,ht,h3,hb,hr⟩
   ·exact ⟨h3,hr⟩
   ·exact ⟨fun _=>h3,RepRows.share xs _ _ _ _ _ hr⟩
   ·exact absurd hm (by cases f <;> simp [Fl.meet])
theorem RepRow.share{w:World}{Sh:Nat→Prop}:∀ (cs:List V) (b o:Nat) (T T':Nat→Prop),RepRow w Sh .lent cs b o T→RepRow w Sh .shr cs b o T'
 | [],_,_,_,_,_=>by simp only [RepRow]
 | c::cs,b,o,T,T',h=>by
  simp only [RepRow] at h ⊢
  obtain⟨v,T1,T2,hv,h1,h2,d1,d2⟩:=h
  exact ⟨v,fun _=>False,fun _=>False,hv,RepC.share c v T1 _ h1,RepRow.share cs b _ T2 _ h2,fun _ h=>h.elim,fun _ h=>h.elim⟩
theorem RepRows.share{w:World}{Sh:Nat→Prop}:∀ (xs:List (List V)) (z b o:Nat) (T T':Nat→Prop),RepRows w Sh .lent z xs b o T→RepRows w Sh .shr z xs b o T'
 | [],_,_,_,_,_,_=>by simp only [RepRows]
 | r::rs,z,b,o,T,T',h=>by
  simp only [RepRows] at h ⊢
  obtain⟨hl,T1,T2,h1,h2,d1,d2⟩:=h
  exact ⟨hl,fun _=>False,fun _=>False,RepRow.share r b o T1 _ h1,RepRows.share rs z b _ T2 _ h2,fun _ h=>h.elim,fun _ h=>h.elim⟩
end
/-- What may change in the world around a place: block b alone, and there only the cells from lo on, n of them. -/
structure Upd (w w':World) (b lo n:Nat):Prop where
 heap:∀x,x≠b→w'.heap[x]?=w.heap[x]?
 cell:∀j,¬ (lo≤j∧j<lo+n)→w'.cell? ⟨b,j,none⟩=w.cell? ⟨b,j,none⟩
 blk:∀o m,BlockOk w b o m→BlockOk w' b o m
theorem Upd.refl(w:World)(b lo n:Nat):Upd w w b lo n:=⟨fun _ _=>rfl,fun _ _=>rfl,fun _ _ h=>h⟩
/-- One cell of a row, and the row with another cell in its place. -/
theorem RepRow.focus{w:World}{Sh:Nat→Prop}{md:Fl}{b:Nat}:∀ (row:List V) (o:Nat) (T:Nat→Prop) (k:Nat) (c:V),RepRow w Sh md row b o T→row[k]?=some c →
  ∃ (v:Value) (T1 T2:Nat→Prop),w.cell? ⟨b,o+k,none⟩=some v∧RepC w Sh md c v T1∧(∀x,T1 x→T x∧¬T2 x)∧(∀x,T2 x→T x) ∧
   ∀ (w':World) (Sh':Nat→Prop) (c':V) (v':Value) (T1':Nat→Prop),
    (∀x,Sh x→w'.heap[x]?=w.heap[x]?)→(∀x,T2 x→w'.heap[x]?=w.heap[x]?) →
    (∀j,j<row.length→j≠k→w'.cell? ⟨b,o+j,none⟩=w.cell? ⟨b,o+j,none⟩) →
    (∀x,Sh x→Sh' x)→(∀x,T2 x→Sh' x→Sh x)→(∀x,T1' x→¬T2 x) →
    w'.cell? ⟨b,o+k,none⟩=some v'→RepC w' Sh' md c' v' T1'→RepRow w' Sh' md (row.set k c') b o (fun x=>T1' x∨T2 x)
 | [],_,_,_,_,_,hk=>by simp at hk
 | c0::cs,o,T,0,c,h,hk=>by
  simp only [RepRow] at h
  obtain⟨v,T1,T2,hv,h1,h2,d1,d2⟩:=h
  obtain rfl:c0=c:=by simpa using hk
  refine ⟨v,T1,T2,hv,h1,d1,d2,?_⟩
  intro w' Sh' c' v' T1' hS hT hc hs1 hs2 hd hv' hr'
  simp only [List.set_cons_zero,RepRow]
  refine ⟨v',T1',T2,hv',hr',?_,fun x hx=>⟨.inl hx,hd x hx⟩,fun x hx=>.inr hx⟩
  refine RepRow.shr_mono hs1 cs b (o+1) T2 (fun _=>hs2) (RepRow.frame hS md cs b (o+1) T2 hT (fun j hj=>?_) h2)
  have:=hc (j+1) (by simp;omega) (by omega)
  rwa [show o+(j+1)=o+1+j by omega] at this
 | c0::cs,o,T,k+1,c,h,hk=>by
  simp only [RepRow] at h
  obtain⟨v0,S1,S2,hv0,h1,h2,d1,d2⟩:=h
  obtain⟨v,T1,T2,hv,hr,e1,e2,H⟩:=RepRow.focus cs (o+1) S2 k c h2 (by simpa using hk)
  refine ⟨v,T1,(fun x=>S1 x∨T2 x),?_,hr,?_,?_,?_⟩
  ·rwa [show o+(k+1)=o+1+k by omega]
  ·intro x hx
   exact ⟨d2 x (e1 x hx).1,fun h=>h.elim (fun h=>(d1 x h).2 (e1 x hx).1) (e1 x hx).2⟩
  ·intro x hx
   exact hx.elim (fun h=>(d1 x h).1) (fun h=>d2 x (e2 x h))
  ·intro w' Sh' c' v' T1' hS hT hc hs1 hs2 hd hv' hr'
   simp only [List.set_cons_succ,RepRow]
   have h0:=hc 0 (by simp) (by omega)
   rw [Nat.add_zero] at h0
   refine ⟨v0,S1,(fun x=>T1' x∨T2 x),by rw [h0];exact hv0,?_,?_,?_,?_⟩
   ·exact RepC.shr_mono hs1 c0 v0 S1 (fun _ x hx=>hs2 x (.inl hx)) (RepC.frame hS md c0 v0 S1 (fun x hx=>hT x (.inl hx)) h1)
   ·refine H w' Sh' c' v' T1' hS (fun x hx=>hT x (.inr hx)) (fun j hj hjk=>?_) hs1 (fun x hx=>hs2 x (.inr hx)) (fun x hx h=>hd x hx (.inr h)) ?_ hr'
    ·have:=hc (j+1) (by simp;omega) (by omega)
     rwa [show o+(j+1)=o+1+j by omega] at this
    ·rwa [show o+(k+1)=o+1+k by omega] at hv'
   ·intro x hx
    refine ⟨.inr (.inl hx),fun h=>h.elim (fun h=>hd x h (.inl hx)) (fun h=>(d1 x hx).2 (e2 x h))⟩
   ·intro x hx
    exact hx.elim .inl (fun h=>.inr (.inr h))
/-- One row among rows, and the rows with another one in its place. -/
theorem RepRows.focus{w:World}{Sh:Nat→Prop}{md:Fl}{z b:Nat}:∀ (xs:List (List V)) (o:Nat) (T:Nat→Prop) (i:Nat) (r:List V),RepRows w Sh md z xs b o T→xs[i]?=some r →
  ∃ (T1 T2:Nat→Prop),r.length=z∧RepRow w Sh md r b (o+i*z) T1∧(∀x,T1 x→T x∧¬T2 x)∧(∀x,T2 x→T x) ∧
   ∀ (w':World) (Sh':Nat→Prop) (r':List V) (T1':Nat→Prop),
    (∀x,Sh x→w'.heap[x]?=w.heap[x]?)→(∀x,T2 x→w'.heap[x]?=w.heap[x]?) →
    (∀j,j<xs.length*z→¬ (i*z≤j∧j<i*z+z)→w'.cell? ⟨b,o+j,none⟩=w.cell? ⟨b,o+j,none⟩) →
    (∀x,Sh x→Sh' x)→(∀x,T2 x→Sh' x→Sh x)→(∀x,T1' x→¬T2 x) →
    r'.length=z→RepRow w' Sh' md r' b (o+i*z) T1'→RepRows w' Sh' md z (xs.set i r') b o (fun x=>T1' x∨T2 x)
 | [],_,_,_,_,_,hi=>by simp at hi
 | r0::rs,o,T,0,r,h,hi=>by
  simp only [RepRows] at h
  obtain⟨hl,T1,T2,h1,h2,d1,d2⟩:=h
  obtain rfl:r0=r:=by simpa using hi
  refine ⟨T1,T2,hl,by rwa [Nat.zero_mul,Nat.add_zero],d1,d2,?_⟩
  intro w' Sh' r' T1' hS hT hc hs1 hs2 hd hl' hr'
  simp only [List.set_cons_zero,RepRows]
  rw [Nat.zero_mul,Nat.add_zero] at hr'
  refine ⟨hl',T1',T2,hr',?_,fun x hx=>⟨.inl hx,hd x hx⟩,fun x hx=>.inr hx⟩
  refine RepRows.shr_mono hs1 rs z b (o+z) T2 (fun _=>hs2) (RepRows.frame hS md z rs b (o+z) T2 hT (fun j hj=>?_) h2)
  have:=hc (j+z) (by simp only [List.length_cons,Nat.add_mul,Nat.one_mul];omega) (by omega)
  rwa [show o+(j+z)=o+z+j by omega] at this
 | r0::rs,o,T,i+1,r,h,hi=>by
  simp only [RepRows] at h
  obtain⟨hl,S1,S2,h1,h2,d1,d2⟩:=h
  obtain⟨T1,T2,hlr,hr,e1,e2,H⟩:=RepRows.focus rs (o+z) S2 i r h2 (by simpa using hi)
  have hadd:o+z+i*z=o+(i+1)*z:=by rw [Nat.add_mul,Nat.one_mul];omega
  refine ⟨T1,(fun x=>S1 x∨T2 x),hlr,by rwa [hadd] at hr,?_,?_,?_⟩
  ·intro x hx
   exact ⟨d2 x (e1 x hx).1,fun h=>h.elim (fun h=>(d1 x h).2 (e1 x hx).1) (e1 x hx).2⟩
  ·intro x hx
   exact hx.elim (fun h=>(d1 x h).1) (fun h=>d2 x (e2 x h))
  ·intro w' Sh' r' T1' hS hT hc hs1 hs2 hd hl' hr'
   simp only [List.set_cons_succ,RepRows]
   refine ⟨hl,S1,(fun x=>T1' x∨T2 x),?_,?_,?_,?_⟩
   ·refine RepRow.shr_mono hs1 r0 b o S1 (fun _ x hx=>hs2 x (.inl hx)) (RepRow.frame hS md r0 b o S1 (fun x hx=>hT x (.inl hx)) (fun j hj=>?_) h1)
    refine hc j (by simp only [List.length_cons,Nat.add_mul,Nat.one_mul];omega) ?_
    rw [Nat.add_mul,Nat.one_mul];omega
   ·refine H w' Sh' r' T1' hS (fun x hx=>hT x (.inr hx)) (fun j hj hji=>?_) hs1 (fun x hx=>hs2 x (.inr hx)) (fun x hx h=>hd x hx (.inr h)) hl' (by rwa [hadd])
    have:=hc (j+z) (by simp only [List.length_cons,Nat.add_mul,Nat.one_mul];omega) (by rw [Nat.add_mul,Nat.one_mul];omega)
    rwa [show o+(j+z)=o+z+j by omega] at this
   ·intro x hx
    refine ⟨.inr (.inl hx),fun h=>h.elim (fun h=>hd x h (.inl hx)) (fun h=>(d1 x hx).2 (e2 x h))⟩
   ·intro x hx
    exact hx.elim .inl (fun h=>.inr (.inr h))
/-! Constants that the evaluation leaves alone. -/
theorem kp{α:Type}(x:α):∃y,y=x:=⟨x,rfl⟩
noncomputable def at_:List (List V)→Int→Option (List V):=Classical.choose (kp fun(xs:List (List V)) (i:Int)=>if 0≤i then xs[i.toNat]? else none)
theorem at_eq(xs:List (List V))(i:Int):at_ xs i=if 0≤i then xs[i.toNat]? else none:=by
 unfold at_;rw [Classical.choose_spec (kp fun(xs:List (List V)) (i:Int)=>if 0≤i then xs[i.toNat]? else none)]
noncomputable def setAt:List (List V)→Int→List V→List (List V):=Classical.choose (kp fun(xs:List (List V)) (i:Int) (r:List V)=>xs.set i.toNat r)
theorem setAt_eq(xs:List (List V))(i:Int)(r:List V):setAt xs i r=xs.set i.toNat r:=by
 unfold setAt;rw [Classical.choose_spec (kp fun(xs:List (List V)) (i:Int) (r:List V)=>xs.set i.toNat r)]
/-! Where a place lies. -/
inductive Sr where
 | mem (b o:Nat) | val (v:Value)
def Sr.cell(w:World):Sr→Nat→Option Value
 | .mem b o,k=>w.cell? ⟨b,o+k,none⟩
 | .val v,k=>if k=0 then some v else none
def stepS(w:World)(s:Sr)(p:Nat × Int × Nat):Option Sr :=
 match s.cell w p.1 with
 | some (.slice (some a) _ _)=>if a.spot.isSome then none else some (.mem a.block (a.off+p.2.1.toNat*p.2.2))
 | _=>none
def res(w:World):Sr→List (Nat × Int × Nat)→Option Sr
 | s,[]=>some s
 | s,p::ps=>(stepS w s p).bind fun s'=>res w s' ps
noncomputable def navK:Fl→List V→List (Nat × Int × Nat)→(Fl→List V→Prop)→Prop
 | md,row,[],K=>K md row
 | md,row,(k,i,z)::ps,K =>
  match row.getD k .un with
  | .sl f z' xs=>bif z' == z then ∃r,at_ xs i=some r∧navK (md.meet f) r ps K else False
  | _=>False
noncomputable def updK:List V→List (Nat × Int × Nat)→(List V→(List V→V→Prop)→Prop)→(List V→V→Prop)→Prop
 | row,[],f,K=>f row K
 | row,(k,i,z)::ps,f,K =>
  match row.getD k .un with
  | .sl .own z' xs=>bif z' == z then ∃r,at_ xs i=some r∧updK r ps f (fun r' x=>K (row.set k (.sl .own z' (setAt xs i r'))) x) else False
  | _=>False
theorem getD_some{row:List V}{k:Nat}{c:V}(h:row.getD k .un=c)(hc:c≠.un):row[k]?=some c:=by
 simp only [List.getD_eq_getElem?_getD] at h
 cases hr:row[k]? with
 | none=>rw [hr] at h;exact absurd h.symm hc
 | some x=>rw [hr] at h;exact congrArg some h
theorem navK_sound{w:World}{Sh:Nat→Prop}:∀ (ps:List (Nat × Int × Nat)) (md:Fl) (row:List V) (b o:Nat) (T:Nat→Prop) (K:Fl→List V→Prop),RepRow w Sh md row b o T→navK md row ps K →
  ∃ (md':Fl) (row':List V) (b' o':Nat) (T':Nat→Prop),res w (.mem b o) ps=some (.mem b' o')∧RepRow w Sh md' row' b' o' T'∧(∀x,T' x→T x)∧(b'=b∨T b'∨Sh b')∧K md' row'
 | [],md,row,b,o,T,K,h,hk=>⟨md,row,b,o,T,rfl,h,fun _ h=>h,.inl rfl,hk⟩
 | (k,i,z)::ps,md,row,b,o,T,K,h,hk=>by
  unfold navK at hk
  split at hk
  ·rename_i f z' xs hg
   have hz:z'=z:=by
    cases hb:(z' == z) with
    | true=>simpa using hb
    | false=>rw [hb] at hk;exact hk.elim
   subst hz
   simp only [beq_self_eq_true,cond_true] at hk
   obtain⟨r,hr,hk⟩:=hk
   rw [at_eq] at hr
   have h0:0≤i:=by by_cases h:0≤i;exact h;rw [if_neg h] at hr;cases hr
   rw [if_pos h0] at hr
   obtain⟨v,T1,T2,hv,hc,d1,d2,_⟩:=RepRow.focus row o T k _ h (getD_some hg (by simp))
   simp only [RepC] at hc
   rcases hc with ⟨_,rfl⟩ | ⟨b1,o1,c,rfl,h1,h2,hc⟩
   ·simp at hr
   ·have hrr:∃T',RepRows w Sh (md.meet f) z' xs b1 o1 T'∧(∀x,T' x→T1 x)∧(T1 b1∨Sh b1):=by
     rcases hc with ⟨hm,hq,h⟩ | ⟨hm,hq,_,_,h⟩ | ⟨hm,hq,_,_,h⟩
     ·exact ⟨fun _=>False,by rw [hm];exact h,fun _ h=>h.elim,.inr (hq (by rintro rfl;simp at hr))⟩
     ·exact ⟨fun x=>T1 x∧x≠b1,by rw [hm];exact h,fun _ h=>h.1,.inl hq⟩
     ·exact ⟨fun x=>T1 x∧x≠b1,by rw [hm];exact h,fun _ h=>h.1,.inl hq⟩
    obtain⟨T',hrr,hT',hb1⟩:=hrr
    obtain⟨S1,S2,hl,hrow,e1,_,_⟩:=RepRows.focus xs o1 T' i.toNat r hrr hr
    obtain⟨md',row',b',o',T'',hres,hrep,hsub,hwh,hK⟩:=navK_sound ps (md.meet f) r b1 (o1+i.toNat*z') S1 K hrow hk
    have hw2:b'=b∨T b'∨Sh b':=by
     rcases hwh with rfl | hh | hh
     ·rcases hb1 with hh | hh
      ·exact .inr (.inl (d1 _ hh).1)
      ·exact .inr (.inr hh)
     ·exact .inr (.inl (d1 _ (hT' _ (e1 _ hh).1)).1)
     ·exact .inr (.inr hh)
    refine ⟨md',row',b',o',T'',?_,hrep,fun x hx=>(d1 x (hT' x (e1 x (hsub x hx)).1)).1,hw2,hK⟩
    simp only [res,stepS,Sr.cell,hv,Option.isSome_none,Bool.false_eq_true,if_false,Option.bind_some]
    exact hres
  ·exact hk.elim
def pfx:List (Nat × Int × Nat)→List (Nat × Int × Nat)→Prop
 | [],_=>True
 | a::as,b::bs=>a=b∧pfx as bs
 | _::_,[]=>False
/-- What an update below a place of memory comes to (the statement, for one path). -/
def UpdS(w:World)(Sh:Nat→Prop)(f:List V→(List V→V→Prop)→Prop)(ps:List (Nat × Int × Nat)):Prop :=
 ∀ (row:List V) (b o:Nat) (T:Nat→Prop) (K:List V→V→Prop),RepRow w Sh .own row b o T→¬T b→¬Sh b→BlockOk w b o row.length→updK row ps f K →
  ∃ (row1:List V) (b' o':Nat) (T':Nat→Prop) (K':List V→V→Prop),res w (.mem b o) ps=some (.mem b' o')∧RepRow w Sh .own row1 b' o' T'∧(∀x,T' x→T x)∧¬T' b'∧¬Sh b'∧((b'=b∧o'=o∧row1=row)∨T b')∧BlockOk w b' o' row1.length∧f row1 K' ∧
   (∀w'':World,(∀x,¬T' x→x≠b'→w''.heap[x]?=w.heap[x]?)→∀ps0,pfx ps0 ps→res w'' (.mem b o) ps0=res w (.mem b o) ps0) ∧
   ∀ (row2:List V) (x:V) (w':World) (Sh':Nat→Prop) (T2:Nat→Prop),K' row2 x→row2.length=row1.length→Upd w w' b' o' row1.length →
    (∀x,Sh x→Sh' x)→(∀x,T x→¬T' x→Sh' x→Sh x)→(∀x,T2 x→¬ (T x∧¬T' x))→¬Sh' b'→RepRow w' Sh' .own row2 b' o' T2 →
    ∃row',K row' x∧row'.length=row.length∧RepRow w' Sh' .own row' b o (fun x=>(T x∧¬T' x)∨T2 x)
theorem BlockOk.part{w:World}{b o c z i n:Nat}(h:BlockOk w b o (c*z))(hi:i<n)(hn:n≤c):BlockOk w b (o+i*z) z:=by
 obtain⟨cur,e,fz,h1,h2,h3⟩:=h
 have:i*z+z≤c*z:=by
  have:=Nat.mul_le_mul_right z (show i+1≤c by omega)
  rwa [Nat.add_mul,Nat.one_mul] at this
 exact ⟨cur,e,fz,h1,by omega,h3⟩
/-- The same below a slice's header. -/
theorem updC_of{w:World}{Sh:Nat→Prop}{f:List V→(List V→V→Prop)→Prop}{ps:List (Nat × Int × Nat)}(ih:UpdS w Sh f ps){z:Nat}{xs:List (List V)}{v:Value}{T1:Nat→Prop}{i:Int}{r:List V}{K:List V→V→Prop}
  (hc:RepC w Sh .own (.sl .own z xs) v T1) (hr:at_ xs i=some r) (hk:updK r ps f K) :
  ∃ (b1 o1 n c:Nat) (row1:List V) (b' o':Nat) (T':Nat→Prop) (K':List V→V→Prop),v=.slice (some ⟨b1,o1,none⟩) n c∧res w (.mem b1 (o1+i.toNat*z)) ps=some (.mem b' o')∧RepRow w Sh .own row1 b' o' T'∧(∀x,T' x→T1 x)∧¬T' b'∧¬Sh b'∧T1 b'∧BlockOk w b' o' row1.length∧f row1 K' ∧
   (∀w'':World,(∀x,¬T' x→x≠b'→w''.heap[x]?=w.heap[x]?)→∀ps0,pfx ps0 ps→res w'' (.mem b1 (o1+i.toNat*z)) ps0=res w (.mem b1 (o1+i.toNat*z)) ps0) ∧
   ∀ (row2:List V) (x:V) (w':World) (Sh':Nat→Prop) (T2:Nat→Prop),K' row2 x→row2.length=row1.length→Upd w w' b' o' row1.length →
    (∀x,Sh x→Sh' x)→(∀x,T1 x→¬T' x→Sh' x→Sh x)→(∀x,T2 x→¬ (T1 x∧¬T' x))→¬Sh' b'→RepRow w' Sh' .own row2 b' o' T2 →
    ∃r',K r' x∧RepC w' Sh' .own (.sl .own z (setAt xs i r')) v (fun x=>(T1 x∧¬T' x)∨T2 x):=by
 rw [at_eq] at hr
 have h0:0≤i:=by by_cases h:0≤i;exact h;rw [if_neg h] at hr;cases hr
 rw [if_pos h0] at hr
 simp only [RepC] at hc
 rcases hc with ⟨_,rfl⟩ | ⟨b1,o1,c,rfl,h1,h2,hc⟩
 ·simp at hr
 rcases hc with ⟨hm,_⟩ | ⟨hm,_⟩ | ⟨hm,ht1,hs1,hbk,hrr⟩
 ·cases hm
 ·cases hm
 obtain⟨S1,S2,hl,hrow,e1,e2,HR⟩:=RepRows.focus xs o1 _ i.toNat r hrr hr
 obtain⟨row1,b',o',T',K',hres,hrep,hsub,hb',hs',hwhere,hbk2,hf,hpf,HU⟩:=ih r b1 (o1+i.toNat*z) S1 _ hrow (fun h=>((e1 _ h).1).2 rfl) hs1 (by rw [hl];exact hbk.part (List.getElem?_eq_some_iff.1 hr).1 h1) hk
 have hbT:T1 b':=by
  rcases hwhere with ⟨h,_⟩ | h
  ·exact h▸ht1
  ·exact ((e1 _ h).1).1
 refine ⟨b1,o1,xs.length,c,row1,b',o',T',K',rfl,hres,hrep,fun x hx=>((e1 x (hsub x hx)).1).1,hb',hs',hbT,hbk2,hf,hpf,?_⟩
 intro row2 xv w' Sh' T3 hK' hl2 hU hsh hst hT3 hshb hr2
 have hS1':∀x,S1 x→T1 x∧x≠b1:=fun x hx=>(e1 x hx).1
 obtain⟨r',hKr,hlr,hrr'⟩:=HU row2 xv w' Sh' T3 hK' hl2 hU hsh (fun x hx hnx=>hst x (hS1' x hx).1 hnx)
  (fun x hx h=>hT3 x hx ⟨(hS1' x h.1).1,h.2⟩) hshb hr2
 have hShne:∀x,Sh x→w'.heap[x]?=w.heap[x]?:=fun x hx=>hU.heap x (fun e=>hs' (e▸hx))
 have hcells:∀j,j<xs.length*z→¬ (i.toNat*z≤j∧j<i.toNat*z+z)→w'.cell? ⟨b1,o1+j,none⟩=w.cell? ⟨b1,o1+j,none⟩:=by
  intro j hj hn
  by_cases e:b1=b'
  ·subst e
   refine hU.cell _ ?_
   rcases hwhere with ⟨_,ho,hro⟩ | h
   ·subst ho hro
    omega
   ·exact absurd rfl ((e1 _ h).1).2
  ·exact cell_of_heap (hU.heap b1 e) _
 have hrows:=HR w' Sh' r' (fun x=>(S1 x∧¬T' x)∨T3 x) hShne
  (fun x hx=>hU.heap x (fun e=>by
   subst e
   rcases hwhere with ⟨h,_⟩ | h
   ·exact (e2 _ hx).2 h
   ·exact (e1 _ h).2 hx)) hcells hsh
  (fun x hx=>hst x (e2 x hx).1 (fun h=>(e1 x (hsub x h)).2 hx))
  (fun x hx h=>by
   rcases hx with ⟨hx,_⟩ | hx
   ·exact (e1 x hx).2 h
   ·exact hT3 x hx ⟨(e2 x h).1,fun h'=>(e1 x (hsub x h')).2 h⟩)
  (by omega) hrr'
 have hTb1:¬T' b1:=fun h=>((e1 _ (hsub _ h)).1).2 rfl
 have hbk':BlockOk w' b1 o1 (c*z):=by
  by_cases e:b1=b'
  ·subst e;exact hU.blk _ _ hbk
  ·exact hbk.frame (hU.heap b1 e)
 have hSb1:¬Sh' b1:=fun hh=>hs1 (hst b1 ht1 hTb1 hh)
 refine ⟨r',hKr,?_⟩
 simp only [RepC]
 refine .inr ⟨b1,o1,c,?_,?_,h2,.inr (.inr ⟨rfl,.inl ⟨ht1,hTb1⟩,hSb1,hbk',?_⟩)⟩
 ·rw [setAt_eq,List.length_set]
 ·rw [setAt_eq,List.length_set];exact h1
 ·rw [setAt_eq]
  refine RepRows.mono _ _ _ _ _ _ ?_ hrows
  intro x hx
  rcases hx with (⟨hx,hn⟩ | hx) | hx
  ·exact ⟨.inl ⟨(hS1' x hx).1,hn⟩,(hS1' x hx).2⟩
  ·exact ⟨.inr hx,fun e=>hT3 x hx (e▸⟨ht1,hTb1⟩)⟩
  ·exact ⟨.inl ⟨(e2 x hx).1,fun h=>(e1 x (hsub x h)).2 hx⟩,(e2 x hx).2⟩
theorem res_cons{w:World}{s:Sr}{k:Nat}{i:Int}{z:Nat}{ps:List (Nat × Int × Nat)}{b1 o1 n c:Nat}(hv:s.cell w k=some (.slice (some ⟨b1,o1,none⟩) n c)):res w s ((k,i,z)::ps)=res w (.mem b1 (o1+i.toNat*z)) ps:=by
 simp only [res,stepS,hv,Option.isSome_none,Bool.false_eq_true,if_false,Option.bind_some]
theorem updK_sound{w:World}{Sh:Nat→Prop}(f:List V→(List V→V→Prop)→Prop):∀ (ps:List (Nat × Int × Nat)),UpdS w Sh f ps
 | [],row,b,o,T,K,h,hb,hs,hbk0,hk=>by
  refine ⟨row,b,o,T,K,rfl,h,fun _ h=>h,hb,hs,.inl ⟨rfl,rfl,rfl⟩,hbk0,hk,fun _ _ ps0 h0=>by cases ps0 with | nil=>rfl | cons _ _=>exact h0.elim,?_⟩
  intro row2 x w' Sh' T2 hK hl _ _ _ _ _ hr
  exact ⟨row2,hK,hl,RepRow.mono _ _ _ _ _ (fun x hx=>.inr hx) hr⟩
 | (k,i,z)::ps,row,b,o,T,K,h,hb,hs,hbk0,hk=>by
  unfold updK at hk
  split at hk
  ·rename_i z' xs hg
   have hz:z'=z:=by
    cases hb:(z' == z) with
    | true=>simpa using hb
    | false=>rw [hb] at hk;exact hk.elim
   subst hz
   simp only [beq_self_eq_true,cond_true] at hk
   obtain⟨r,hr,hk⟩:=hk
   have hk0:=getD_some hg (by simp)
   obtain⟨v,T1,T2,hv,hc,d1,d2,H⟩:=RepRow.focus row o T k _ h hk0
   obtain⟨b1,o1,n,c,row1,b',o',T',K',rfl,hres,hrep,hsub,hb',hs',hT1b,hbk2,hf,hpf,HU⟩:=updC_of (updK_sound f ps) hc hr hk
   have hbb':b'≠b:=by rintro rfl;exact hb (d1 _ hT1b).1
   refine ⟨row1,b',o',T',K',(res_cons (s:=.mem b o) hv).trans hres,hrep,fun x hx=>(d1 x (hsub x hx)).1,hb',hs',.inr (d1 _ hT1b).1,hbk2,hf,?_,?_⟩
   ·intro w'' hw ps0 h0
    cases ps0 with
    | nil=>rfl
    | cons p0 ps0 =>
     obtain⟨rfl,h0⟩:=h0
     rw [res_cons (s:=.mem b o) (w:=w) hv,res_cons (s:=.mem b o) (w:=w'') ((cell_of_heap (hw b (fun hh=>hb (d1 _ (hsub _ hh)).1) hbb'.symm) _).trans hv)]
     exact hpf w'' hw ps0 h0
   intro row2 xv w' Sh' T3 hK' hl2 hU hsh hst hT3 hshb hr2
   have hShne:∀x,Sh x→w'.heap[x]?=w.heap[x]?:=fun x hx=>hU.heap x (fun e=>hs' (e▸hx))
   obtain⟨r',hKr,hC⟩:=HU row2 xv w' Sh' T3 hK' hl2 hU hsh (fun x hx hnx=>hst x (d1 x hx).1 hnx) (fun x hx h=>hT3 x hx ⟨(d1 x h.1).1,h.2⟩) hshb hr2
   refine ⟨_,hKr,by simp,?_⟩
   refine RepRow.mono _ _ _ _ _ ?_ (H w' Sh' _ _ (fun x=>(T1 x∧¬T' x)∨T3 x) hShne
    (fun x hx=>hU.heap x (fun e=>(d1 _ hT1b).2 (e▸hx)))
    (fun j hj hjk=>cell_of_heap (hU.heap b hbb'.symm) _) hsh
    (fun x hx=>hst x (d2 x hx) (fun h=>(d1 x (hsub x h)).2 hx))
    (fun x hx h=>by
     rcases hx with ⟨hx,_⟩ | hx
     ·exact (d1 x hx).2 h
     ·exact hT3 x hx ⟨d2 x h,fun h'=>(d1 x (hsub x h')).2 h⟩)
    (by rw [cell_of_heap (hU.heap b hbb'.symm)];exact hv) hC)
   intro x hx
   rcases hx with (⟨hx,hn⟩ | hx) | hx
   ·exact .inl ⟨(d1 x hx).1,hn⟩
   ·exact .inr hx
   ·exact .inl ⟨d2 x hx,fun h=>(d1 x (hsub x h)).2 hx⟩
  ·exact hk.elim
def subV(z:Nat)(u:Option (Int × Int))(hv v:Value):Prop :=
 match u with
 | none=>v=hv∧∃x n c,hv=.slice x n c
 | some (lo,hi)=>((∃al,hv=.slice al 0 0)∧∃al,v=.slice al 0 0)∨∃b o len cap m,hv=.slice (some ⟨b,o,none⟩) len cap∧lo.toNat≤hi.toNat∧hi.toNat≤len∧len≤cap∧hi.toNat≤m∧m≤cap ∧
   v=.slice (some (if m=lo.toNat then ⟨b,o,none⟩ else ⟨b,o+lo.toNat*z,none⟩)) (hi.toNat-lo.toNat) (m-lo.toNat)
mutual
def RepT(w:World)(Sh:Nat→Prop)(ρ:Rt→Option Sr):V→Value→(Nat→Prop)→Prop
 | .pt p,v,_=>∃s b o,ρ p.r=some s∧res w s p.ps=some (.mem b o)∧v=.pointer (some ⟨b,o+p.o,none⟩)
 | .rf p z u,v,_=>∃s s' hv,ρ p.r=some s∧res w s p.ps=some s'∧s'.cell w p.o=some hv∧subV z u hv v
 | .ag cs,v,T=>∃vs:List Value,v=.agg vs.toArray∧RepTs w Sh ρ cs vs T
 | .tu cs,v,T=>∃vs:List Value,v=.tuple vs.toArray∧RepTs w Sh ρ cs vs T
 | .fn f caps,v,T=>∃vs:List Value,v=.func (.func f) #[] vs.toArray∧RepTs w Sh ρ caps vs T
 | .b x,v,_=>v=.bool x
 | .i k n,v,_=>v=.int k n
 | .s l,v,_=>v=.string ⟨l.toArray⟩
 | .nil,v,_=>v=.slice none 0 0
 | .cv _ u,v,_=>v=u∧v.oneCell'=true
 | .sl f z xs,v,T=>RepC w Sh .own (.sl f z xs) v T
 | .un,_,_=>True
def RepTs(w:World)(Sh:Nat→Prop)(ρ:Rt→Option Sr):List V→List Value→(Nat→Prop)→Prop
 | [],[],_=>True
 | c::cs,v::vs,T=>∃T1 T2,RepT w Sh ρ c v T1∧RepTs w Sh ρ cs vs T2∧(∀x,T1 x→T x∧¬T2 x)∧(∀x,T2 x→T x)
 | _,_,_=>False
end
def isSliceV:Value→Bool
 | .slice _ _ _=>true
 | _=>false
theorem stepS_frame{w w':World}(hsl:∀a v,w.cell? a=some v→isSliceV v=true→w'.cell? a=some v){s s':Sr}{p:Nat × Int × Nat}(h:stepS w s p=some s'):stepS w' s p=some s':=by
 unfold stepS at h ⊢
 cases s with
 | val v=>exact h
 | mem b o =>
  simp only [Sr.cell] at h ⊢
  cases hc:w.cell? ⟨b,o+p.1,none⟩ with
  | none=>rw [hc] at h;cases h
  | some v =>
   rw [hc] at h
   cases v with
   | slice x n c=>rw [hsl _ _ hc rfl];exact h
   | _=>cases h
theorem res_frame{w w':World}(hsl:∀a v,w.cell? a=some v→isSliceV v=true→w'.cell? a=some v):∀ (ps:List (Nat × Int × Nat)) (s s':Sr),res w s ps=some s'→res w' s ps=some s'
 | [],_,_,h=>h
 | p::ps,s,s',h=>by
  simp only [res] at h ⊢
  cases hs:stepS w s p with
  | none=>rw [hs] at h;cases h
  | some s1 =>
   rw [hs] at h
   rw [stepS_frame hsl hs]
   exact res_frame hsl ps s1 s' h
theorem subV_slice{z:Nat}{u:Option (Int × Int)}{hv v:Value}(h:subV z u hv v):isSliceV hv=true:=by
 unfold subV at h
 split at h
 ·obtain⟨_,x,n,c,rfl⟩:=h;rfl
 ·rcases h with ⟨⟨al,rfl⟩,_⟩ | ⟨b,o,len,cap,m,rfl,_⟩
  ·rfl
  ·rfl
mutual
theorem RepT.frame{w w':World}{Sh:Nat→Prop}{ρ:Rt→Option Sr}(hS:∀b,Sh b→w'.heap[b]?=w.heap[b]?)(hsl:∀a v,w.cell? a=some v→isSliceV v=true→w'.cell? a=some v):∀ (c:V) (v:Value) (T:Nat→Prop),(∀b,T b→w'.heap[b]?=w.heap[b]?)→RepT w Sh ρ c v T→RepT w' Sh ρ c v T
 | .b _,_,_,_,h | .i _ _,_,_,_,h | .cv _ _,_,_,_,h | .s _,_,_,_,h | .nil,_,_,_,h | .un,_,_,_,h=>h
 | .sl f z xs,v,T,hT,h=>RepC.frame hS .own (.sl f z xs) v T hT h
 | .pt p,v,T,_,h=>by
  simp only [RepT] at h ⊢
  obtain⟨s,b,o,h1,h2,h3⟩:=h
  exact ⟨s,b,o,h1,res_frame hsl _ _ _ h2,h3⟩
 | .rf p z u,v,T,_,h=>by
  simp only [RepT] at h ⊢
  obtain⟨s,s',hv,h1,h2,h3,h4⟩:=h
  refine ⟨s,s',hv,h1,res_frame hsl _ _ _ h2,?_,h4⟩
  cases s' with
  | val x=>exact h3
  | mem b o=>exact hsl _ _ h3 (subV_slice h4)
 | .ag cs,v,T,hT,h=>by
  simp only [RepT] at h ⊢
  obtain⟨vs,h1,h2⟩:=h
  exact ⟨vs,h1,RepTs.frame hS hsl cs vs T hT h2⟩
 | .tu cs,v,T,hT,h=>by
  simp only [RepT] at h ⊢
  obtain⟨vs,h1,h2⟩:=h
  exact ⟨vs,h1,RepTs.frame hS hsl cs vs T hT h2⟩
 | .fn f cs,v,T,hT,h=>by
  simp only [RepT] at h ⊢
  obtain⟨vs,h1,h2⟩:=h
  exact ⟨vs,h1,RepTs.frame hS hsl cs vs T hT h2⟩
theorem RepTs.frame{w w':World}{Sh:Nat→Prop}{ρ:Rt→Option Sr}(hS:∀b,Sh b→w'.heap[b]?=w.heap[b]?)(hsl:∀a v,w.cell? a=some v→isSliceV v=true→w'.cell? a=some v):∀ (cs:List V) (vs:List Value) (T:Nat→Prop),(∀b,T b→w'.heap[b]?=w.heap[b]?)→RepTs w Sh ρ cs vs T→RepTs w' Sh ρ cs vs T
 | [],[],_,_,_=>by simp only [RepTs]
 | c::cs,v::vs,T,hT,h=>by
  simp only [RepTs] at h ⊢
  obtain⟨T1,T2,h1,h2,d1,d2⟩:=h
  exact ⟨T1,T2,RepT.frame hS hsl c v T1 (fun x hx=>hT x (d1 x hx).1) h1,RepTs.frame hS hsl cs vs T2 (fun x hx=>hT x (d2 x hx)) h2,d1,d2⟩
 | [],_::_,_,_,h=>by simp only [RepTs] at h
 | _::_,[],_,_,h=>by simp only [RepTs] at h
end
mutual
theorem RepT.mono{w:World}{Sh:Nat→Prop}{ρ:Rt→Option Sr}:∀ (c:V) (v:Value) (T T':Nat→Prop),(∀x,T x→T' x)→RepT w Sh ρ c v T→RepT w Sh ρ c v T'
 | .b _,_,_,_,_,h | .i _ _,_,_,_,_,h | .cv _ _,_,_,_,_,h | .s _,_,_,_,_,h | .nil,_,_,_,_,h | .un,_,_,_,_,h=>h
 | .sl f z xs,v,T,T',hT,h=>RepC.mono (.sl f z xs) v T T' hT h
 | .pt p,v,T,T',_,h=>by simp only [RepT] at h ⊢;exact h
 | .rf p z u,v,T,T',_,h=>by simp only [RepT] at h ⊢;exact h
 | .ag cs,v,T,T',hT,h=>by
  simp only [RepT] at h ⊢
  obtain⟨vs,h1,h2⟩:=h
  exact ⟨vs,h1,RepTs.mono cs vs T T' hT h2⟩
 | .tu cs,v,T,T',hT,h=>by
  simp only [RepT] at h ⊢
  obtain⟨vs,h1,h2⟩:=h
  exact ⟨vs,h1,RepTs.mono cs vs T T' hT h2⟩
 | .fn f cs,v,T,T',hT,h=>by
  simp only [RepT] at h ⊢
  obtain⟨vs,h1,h2⟩:=h
  exact ⟨vs,h1,RepTs.mono cs vs T T' hT h2⟩
theorem RepTs.mono{w:World}{Sh:Nat→Prop}{ρ:Rt→Option Sr}:∀ (cs:List V) (vs:List Value) (T T':Nat→Prop),(∀x,T x→T' x)→RepTs w Sh ρ cs vs T→RepTs w Sh ρ cs vs T'
 | [],[],_,_,_,_=>by simp only [RepTs]
 | c::cs,v::vs,T,T',hT,h=>by
  simp only [RepTs] at h ⊢
  obtain⟨T1,T2,h1,h2,d1,d2⟩:=h
  exact ⟨T1,T2,h1,h2,fun x hx=>⟨hT x (d1 x hx).1,(d1 x hx).2⟩,fun x hx=>hT x (d2 x hx)⟩
 | [],_::_,_,_,_,h=>by simp only [RepTs] at h
 | _::_,[],_,_,_,h=>by simp only [RepTs] at h
end
mutual
theorem RepT.shr_mono{w:World}{Sh Sh':Nat→Prop}{ρ:Rt→Option Sr}(hs:∀b,Sh b→Sh' b):∀ (c:V) (v:Value) (T:Nat→Prop),(∀b,T b→Sh' b→Sh b)→RepT w Sh ρ c v T→RepT w Sh' ρ c v T
 | .b _,_,_,_,h | .i _ _,_,_,_,h | .cv _ _,_,_,_,h | .s _,_,_,_,h | .nil,_,_,_,h | .un,_,_,_,h=>h
 | .sl f z xs,v,T,hT,h=>RepC.shr_mono hs (.sl f z xs) v T (fun _=>hT) h
 | .pt p,v,T,_,h=>by simp only [RepT] at h ⊢;exact h
 | .rf p z u,v,T,_,h=>by simp only [RepT] at h ⊢;exact h
 | .ag cs,v,T,hT,h=>by
  simp only [RepT] at h ⊢
  obtain⟨vs,h1,h2⟩:=h
  exact ⟨vs,h1,RepTs.shr_mono hs cs vs T hT h2⟩
 | .tu cs,v,T,hT,h=>by
  simp only [RepT] at h ⊢
  obtain⟨vs,h1,h2⟩:=h
  exact ⟨vs,h1,RepTs.shr_mono hs cs vs T hT h2⟩
 | .fn f cs,v,T,hT,h=>by
  simp only [RepT] at h ⊢
  obtain⟨vs,h1,h2⟩:=h
  exact ⟨vs,h1,RepTs.shr_mono hs cs vs T hT h2⟩
theorem RepTs.shr_mono{w:World}{Sh Sh':Nat→Prop}{ρ:Rt→Option Sr}(hs:∀b,Sh b→Sh' b):∀ (cs:List V) (vs:List Value) (T:Nat→Prop),(∀b,T b→Sh' b→Sh b)→RepTs w Sh ρ cs vs T→RepTs w Sh' ρ cs vs T
 | [],[],_,_,_=>by simp only [RepTs]
 | c::cs,v::vs,T,hT,h=>by
  simp only [RepTs] at h ⊢
  obtain⟨T1,T2,h1,h2,d1,d2⟩:=h
  exact ⟨T1,T2,RepT.shr_mono hs c v T1 (fun x hx=>hT x (d1 x hx).1) h1,RepTs.shr_mono hs cs vs T2 (fun x hx=>hT x (d2 x hx)) h2,d1,d2⟩
 | [],_::_,_,_,h=>by simp only [RepTs] at h
 | _::_,[],_,_,h=>by simp only [RepTs] at h
end
/-! ### States -/
structure St where
 t:List V
 m:List (List V)
 g:List (List V)
inductive Slot where
 | no | tm (t:Nat) | bb (t:Nat) | bc (t:Nat) | gb (g:Nat) | gc (g:Nat) | dm
 deriving DecidableEq
/-- What a function is given: the world at its start, what is shared then, the titles handed in, where the callers' roots lie. -/
structure Cx where
 w0:World
 Sh0:Nat→Prop
 H:Nat→Prop
 gm:Fl
 gl:Nat→Sr
structure Gh where
 ow:Nat→Slot
 Sh:Nat→Prop
 bx:Nat→Nat
 tv:Nat→Value
def rho(c:Cx)(G:Gh):Rt→Option Sr
 | .bx t=>some (.mem (G.bx t) 0)
 | .tp t=>some (.val (G.tv t))
 | .gl g=>some (c.gl g)
def GOkN(c:Cx)(w:World)(Sh:Nat→Prop)(ow:Nat→Slot)(g:Nat)(row:List V):Prop :=
 match c.gm,c.gl g with
 | .own,.mem b o=>True∧o=0∧ow b=.gb g∧¬Sh b∧BlockOk w b 0 row.length∧RepRow w Sh .own row b 0 (fun x=>ow x=.gc g)
 | .own,.val v=>True∧∃f z xs,row=[.sl f z xs]∧RepC w Sh .own (.sl f z xs) v (fun x=>ow x=.gc g)
 | _,.mem b o=>row=[]∨(Sh b∧RepRow w Sh .shr row b o (fun _=>False))
 | _,.val v=>row=[]∨∃cl,row=[cl]∧RepC w Sh .shr cl v (fun _=>False)
/-- A callers' root: nothing is known of it, or this. -/
def GOk(c:Cx)(w:World)(Sh:Nat→Prop)(ow:Nat→Slot)(g:Nat)(row:List V):Prop:=row=[]∨GOkN c w Sh ow g row
open Go.RowKit in
structure Rel (c:Cx) (st:St) (a:Act) (w:World) (G:Gh):Prop where
 tl:a.tmps.size=st.t.length
 df:a.defers=[]
 tm:∀t v,st.t[t]?=some v→RepT w G.Sh (rho c G) v (a.tmps.getD t undef) (fun b=>G.ow b=.tm t)
 tv:∀t f z xs,st.t[t]?=some (.sl f z xs)→a.tmps.getD t undef=G.tv t
 mb:∀t row,st.m[t]?=some row→row≠[]→G.ow (G.bx t)=.bb t∧¬G.Sh (G.bx t)∧BlockOk w (G.bx t) 0 row.length∧RepRow w G.Sh .own row (G.bx t) 0 (fun b=>G.ow b=.bc t)
 gb:∀g row,st.g[g]?=some row→GOk c w G.Sh G.ow g row
 ob:∀b,G.ow b≠.no→b<w.heap.size∧(c.w0.heap.size≤b∨c.H b)
 sb:∀b,G.Sh b→b<w.heap.size∧(c.Sh0 b∨c.w0.heap.size≤b∨c.H b)
 s0:∀b,c.Sh0 b→G.Sh b
 fr:∀b,b<c.w0.heap.size→¬c.H b→w.heap[b]?=c.w0.heap[b]?
 sz:c.w0.heap.size≤w.heap.size
 eos:w.os=c.w0.os
 etape:w.tape=c.w0.tape
 eout:w.output=c.w0.output
theorem GOk.frame{c:Cx}{w w':World}{Sh:Nat→Prop}{ow:Nat→Slot}{g:Nat}{row:List V}(hS:∀b,Sh b→w'.heap[b]?=w.heap[b]?)(hO:∀b,ow b≠.no→w'.heap[b]?=w.heap[b]?)
  (h:GOk c w Sh ow g row):GOk c w' Sh ow g row:=by
 rcases h with h | h
 ·exact .inl h
 refine .inr ?_
 unfold GOkN at h ⊢
 split at h
 ·obtain⟨h1,h2,h3,h4,h5,h6⟩:=h
  refine ⟨h1,h2,h3,h4,h5.frame (hO _ (by rw [h3];simp)),RepRow.frame hS _ _ _ _ _ (fun b hb=>hO b (by rw [hb];simp)) (fun j _=>cell_of_heap (hO _ (by rw [h3];simp)) _) h6⟩
 ·obtain⟨h1,f,z,xs,h2,h3⟩:=h
  exact ⟨h1,f,z,xs,h2,RepC.frame hS _ _ _ _ (fun b hb=>hO b (by rw [hb];simp)) h3⟩
 ·rcases h with h | ⟨h1,h2⟩
  ·exact .inl h
  ·exact .inr ⟨h1,RepRow.frame hS _ _ _ _ _ (fun _ h=>h.elim) (fun j _=>cell_of_heap (hS _ h1) _) h2⟩
 ·rcases h with h | ⟨cl,h1,h2⟩
  ·exact .inl h
  ·exact .inr ⟨cl,h1,RepC.frame hS _ _ _ _ (fun _ h=>h.elim) h2⟩
theorem cell_lt{w:World}{a:Addr}{v:Value}(h:w.cell? a=some v):a.block<w.heap.size:=World.block_lt_of_cell? w a h
open Go.RowKit in
/-- The world may grow. -/
theorem Rel.ext{c:Cx}{st:St}{a:Act}{w w':World}{G:Gh}(h:Rel c st a w G)(hb:Below w.heap.size w w'):Rel c st a w' G:=by
 have hS:∀b,G.Sh b→w'.heap[b]?=w.heap[b]?:=fun b hb'=>hb.block b (h.sb b hb').1
 have hO:∀b,G.ow b≠.no→w'.heap[b]?=w.heap[b]?:=fun b hb'=>hb.block b (h.ob b hb').1
 have hsl:∀a v,w.cell? a=some v→isSliceV v=true→w'.cell? a=some v:=fun a v ha _=>(World.cell?_of_block (hb.block _ (cell_lt ha))).trans ha
 refine ⟨h.tl,h.df,fun t v ht=>RepT.frame hS hsl v _ _ (fun b hb=>hO b (by rw [hb];simp)) (h.tm t v ht),h.tv,?_,fun g row hg=>(h.gb g row hg).frame hS hO,?_,?_,h.s0,?_,Nat.le_trans h.sz hb.size,hb.os.trans h.eos,hb.tape.trans h.etape,hb.output.trans h.eout⟩
 ·intro t row ht hr
  obtain⟨h1,h2,h3,h4⟩:=h.mb t row ht hr
  exact ⟨h1,h2,h3.frame (hO _ (by rw [h1];simp)),RepRow.frame hS _ _ _ _ _ (fun b hb=>hO b (by rw [hb];simp)) (fun j _=>cell_of_heap (hO _ (by rw [h1];simp)) _) h4⟩
 ·intro b hb'
  have:=h.ob b hb'
  exact ⟨Nat.lt_of_lt_of_le this.1 hb.size,this.2⟩
 ·intro b hb'
  have:=h.sb b hb'
  exact ⟨Nat.lt_of_lt_of_le this.1 hb.size,this.2⟩
 ·intro b h1 h2
  rw [hb.block b (Nat.lt_of_lt_of_le h1 h.sz)]
  exact h.fr b h1 h2
/-- A reference to a place under root r: does it occur in a value? -/
def Rt.beq:Rt→Rt→Bool
 | .bx a,.bx b=>Nat.beq a b
 | .tp a,.tp b=>Nat.beq a b
 | .gl a,.gl b=>Nat.beq a b
 | _,_=>false
theorem Rt.beq_iff(a b:Rt):Rt.beq a b=true↔a=b:=by
 cases a <;> cases b <;> simp [Rt.beq]
mutual
def hit(r:Rt):V→Bool
 | .pt p=>Rt.beq p.r r
 | .rf p _ _=>Rt.beq p.r r
 | .ag cs=>hits r cs
 | .tu cs=>hits r cs
 | .fn _ cs=>hits r cs
 | _=>false
def hits(r:Rt):List V→Bool
 | []=>false
 | c::cs=>hit r c || hits r cs
end
def killR(r:Rt)(t:List V):List V:=t.map fun v=>bif hit r v then .un else v
def isSl:V→Bool
 | .sl _ _ _=>true
 | _=>false
def putT(t:List V)(dst:Option Nat)(v:V):List V :=
 match dst with
 | none=>t
 | some d=>bif isSl v then (killR (.tp d) t).set d v else t.set d v
def pu(st:St)(dst:Option Nat)(v:V):St:={ st with t:=putT st.t dst v }
mutual
/-- A representation does not hang on a root that it does not name. -/
theorem RepT.rho{w:World}{Sh:Nat→Prop}{ρ ρ':Rt→Option Sr}{r:Rt}(hρ:∀r',r'≠r→ρ' r'=ρ r'):∀ (c:V) (v:Value) (T:Nat→Prop),hit r c=false→RepT w Sh ρ c v T→RepT w Sh ρ' c v T
 | .b _,_,_,_,h | .i _ _,_,_,_,h | .cv _ _,_,_,_,h | .s _,_,_,_,h | .nil,_,_,_,h | .un,_,_,_,h | .sl _ _ _,_,_,_,h=>h
 | .pt p,v,T,hh,h=>by
  simp only [hit] at hh
  simp only [RepT] at h ⊢
  rw [hρ _ (fun e=>by rw [(Rt.beq_iff _ _).2 e] at hh;cases hh)];exact h
 | .rf p z u,v,T,hh,h=>by
  simp only [hit] at hh
  simp only [RepT] at h ⊢
  rw [hρ _ (fun e=>by rw [(Rt.beq_iff _ _).2 e] at hh;cases hh)];exact h
 | .ag cs,v,T,hh,h=>by
  simp only [hit] at hh
  simp only [RepT] at h ⊢
  obtain⟨vs,h1,h2⟩:=h
  exact ⟨vs,h1,RepTs.rho hρ cs vs T hh h2⟩
 | .tu cs,v,T,hh,h=>by
  simp only [hit] at hh
  simp only [RepT] at h ⊢
  obtain⟨vs,h1,h2⟩:=h
  exact ⟨vs,h1,RepTs.rho hρ cs vs T hh h2⟩
 | .fn f cs,v,T,hh,h=>by
  simp only [hit] at hh
  simp only [RepT] at h ⊢
  obtain⟨vs,h1,h2⟩:=h
  exact ⟨vs,h1,RepTs.rho hρ cs vs T hh h2⟩
theorem RepTs.rho{w:World}{Sh:Nat→Prop}{ρ ρ':Rt→Option Sr}{r:Rt}(hρ:∀r',r'≠r→ρ' r'=ρ r'):∀ (cs:List V) (vs:List Value) (T:Nat→Prop),hits r cs=false→RepTs w Sh ρ cs vs T→RepTs w Sh ρ' cs vs T
 | [],[],_,_,_=>by simp only [RepTs]
 | c::cs,v::vs,T,hh,h=>by
  simp only [hits,Bool.or_eq_false_iff] at hh
  simp only [RepTs] at h ⊢
  obtain⟨T1,T2,h1,h2,d1,d2⟩:=h
  exact ⟨T1,T2,RepT.rho hρ c v T1 hh.1 h1,RepTs.rho hρ cs vs T2 hh.2 h2,d1,d2⟩
 | [],_::_,_,_,h=>by simp only [RepTs] at h
 | _::_,[],_,_,h=>by simp only [RepTs] at h
end
theorem killR_get{r:Rt}{t:List V}{j:Nat}{v:V}(h:(killR r t)[j]?=some v):∃v0,t[j]?=some v0∧((v=v0∧hit r v0=false)∨v=.un):=by
 unfold killR at h
 rw [List.getElem?_map] at h
 cases ht:t[j]? with
 | none=>rw [ht] at h;cases h
 | some v0 =>
  rw [ht] at h
  simp only [Option.map_some,Option.some.injEq] at h
  refine ⟨v0,rfl,?_⟩
  cases hh:hit r v0 with
  | true=>rw [hh] at h;exact .inr h.symm
  | false=>rw [hh] at h;exact .inl ⟨h.symm,rfl⟩
open Classical in
/-- Titles T, which nobody holds, go to a slot. -/
noncomputable def give(ow:Nat→Slot)(T:Nat→Prop)(s:Slot):Nat→Slot:=fun b=>if T b then s else ow b
theorem give_yes{ow:Nat→Slot}{T:Nat→Prop}{s:Slot}{b:Nat}(h:T b):give ow T s b=s:=by unfold give;rw [if_pos h]
theorem give_no{ow:Nat→Slot}{T:Nat→Prop}{s:Slot}{b:Nat}(h:¬T b):give ow T s b=ow b:=by unfold give;rw [if_neg h]
theorem give_keep{ow:Nat→Slot}{T:Nat→Prop}{s s':Slot}(hf:∀b,T b→ow b=.no∨ow b=s){b:Nat}(h:ow b=s')(hn:s'≠.no):give ow T s b=s':=by
 by_cases hb:T b
 ·rw [give_yes hb]
  rcases hf b hb with h' | h'
  ·rw [h'] at h;exact absurd h.symm hn
  ·rw [←h,h']
 ·rw [give_no hb,h]
theorem GOk.ow{c:Cx}{w:World}{Sh:Nat→Prop}{ow ow':Nat→Slot}{g:Nat}{row:List V}(hg:∀b,ow b=.gb g→ow' b=.gb g)(hc:∀b,ow b=.gc g→ow' b=.gc g)(h:GOk c w Sh ow g row):GOk c w Sh ow' g row:=by
 rcases h with h | h
 ·exact .inl h
 refine .inr ?_
 unfold GOkN at h ⊢
 split at h
 ·obtain⟨h1,h2,h3,h4,h5,h6⟩:=h
  exact ⟨h1,h2,hg _ h3,h4,h5,RepRow.mono _ _ _ _ _ hc h6⟩
 ·obtain⟨h1,f,z,xs,h2,h3⟩:=h
  exact ⟨h1,f,z,xs,h2,RepC.mono _ _ _ _ hc h3⟩
 ·exact h
 ·exact h
theorem getD_set_other(t:Array Value)(d j:Nat)(u x:Value)(h:j≠d):(t.setIfInBounds d u).getD j x=t.getD j x:=by
 simp only [Array.getD_eq_getD_getElem?,Array.getElem?_setIfInBounds]
 rw [if_neg (Ne.symm h)]
theorem getD_set_same(t:Array Value)(d:Nat)(u x:Value)(h:d<t.size):(t.setIfInBounds d u).getD d x=u:=by
 simp [Array.getD_eq_getD_getElem?,h]
/-- A value comes into a temporary, with titles that nobody holds. -/
theorem Rel.putX{c:Cx}{st:St}{a:Act}{w:World}{G:Gh}(h:Rel c st a w G)(dst:Option Nat)(v:V)(u:Value)(T:Nat→Prop)(hv:RepT w G.Sh (Ar.rho c G) v u T)
  (hself:∀d,dst=some d→isSl v=false→True) (hT:∀b,T b→G.ow b=.no) (hTb:∀b,T b→b<w.heap.size∧(c.w0.heap.size≤b∨c.H b))
  (hit0:∀d,dst=some d→isSl v=true→hit (.tp d) v=false):∃G',Rel c (pu st dst v) (a.put dst u) w G'∧(∀b,¬T b→G.ow b=.no→G'.ow b=.no)∧G'.Sh=G.Sh:=by
 cases dst with
 | none=>exact ⟨G,h,fun _ _ hn=>hn,rfl⟩
 | some d =>
  have hf:∀b,T b→G.ow b=.no∨G.ow b=.tm d:=fun b hb=>.inl (hT b hb)
  have key:∀ (G':Gh),G'.ow=give G.ow T (.tm d)→G'.Sh=G.Sh→G'.bx=G.bx→(∀t,t≠d→G'.tv t=G.tv t)→(isSl v=true→G'.tv d=u) →
    (∀t v0,t≠d→(putT st.t (some d) v)[t]?=some v0→RepT w G.Sh (Ar.rho c G') v0 (a.tmps.getD t undef) (fun b=>G.ow b=.tm t)) →
    (∀t v0,t≠d→(putT st.t (some d) v)[t]?=some v0→isSl v0=true→st.t[t]?=some v0) →
    RepT w G.Sh (Ar.rho c G') v u T→(putT st.t (some d) v).length=st.t.length→(putT st.t (some d) v)[d]?=(if d<st.t.length then some v else none) →
    Rel c (pu st (some d) v) (a.put (some d) u) w G':=by
   intro G' e1 e2 e3 e4 e4' htm hsl hvv hlen hget
   refine ⟨?_,h.df,?_,?_,?_,?_,?_,?_,?_,h.fr,h.sz,h.eos,h.etape,h.eout⟩
   ·simp only [pu,Act.put,Array.size_setIfInBounds,hlen];exact h.tl
   ·intro t v0 ht
    rw [e1,e2]
    by_cases htd:t=d
    ·subst htd
     simp only [pu] at ht
     rw [hget] at ht
     split at ht
     ·rename_i hlt
      obtain rfl:=Option.some.inj ht
      have:(a.put (some t) u).tmps.getD t undef=u:=getD_set_same _ _ _ _ (by rw [h.tl];exact hlt)
      rw [this]
      exact RepT.mono _ _ _ _ (fun b hb=>give_yes hb) hvv
     ·cases ht
    ·have:(a.put (some d) u).tmps.getD t undef=a.tmps.getD t undef:=getD_set_other _ _ _ _ _ htd
     rw [this]
     exact RepT.mono _ _ _ _ (fun b hb=>give_keep hf hb (by simp)) (htm t v0 htd ht)
   ·intro t f z xs ht
    by_cases htd:t=d
    ·subst htd
     simp only [pu] at ht
     rw [hget] at ht
     split at ht
     ·rename_i hlt
      obtain rfl:=Option.some.inj ht
      have:(a.put (some t) u).tmps.getD t undef=u:=getD_set_same _ _ _ _ (by rw [h.tl];exact hlt)
      rw [this,e4' rfl]
     ·cases ht
    ·have:(a.put (some d) u).tmps.getD t undef=a.tmps.getD t undef:=getD_set_other _ _ _ _ _ htd
     rw [this,e4 t htd]
     exact h.tv t f z xs (hsl t _ htd ht rfl)
   ·intro t row ht hr
    rw [e1,e2,e3]
    obtain⟨h1,h2,h3,h4⟩:=h.mb t row ht hr
    exact ⟨give_keep hf h1 (by simp),h2,h3,RepRow.mono _ _ _ _ _ (fun b hb=>give_keep hf hb (by simp)) h4⟩
   ·intro g row hg
    rw [e1,e2]
    exact (h.gb g row hg).ow (fun b hb=>give_keep hf hb (by simp)) (fun b hb=>give_keep hf hb (by simp))
   ·intro b hb
    rw [e1] at hb
    by_cases hTT:T b
    ·exact hTb b hTT
    ·rw [give_no hTT] at hb;exact h.ob b hb
   ·rw [e2];exact h.sb
   ·rw [e2];exact h.s0
  cases hs:isSl v with
  | false =>
   refine ⟨{ G with ow:=give G.ow T (.tm d) },key _ rfl rfl rfl (fun _ _=>rfl) (fun e=>by rw [hs] at e;cases e) ?_ ?_ ?_ ?_ ?_,fun b hb hn=>(give_no hb).trans hn,rfl⟩
   ·intro t v0 htd ht
    simp only [putT,hs,cond_false] at ht
    rw [List.getElem?_set_ne (Ne.symm htd)] at ht
    exact h.tm t v0 ht
   ·intro t v0 htd ht _
    simp only [putT,hs,cond_false] at ht
    rwa [List.getElem?_set_ne (Ne.symm htd)] at ht
   ·exact hv
   ·simp [putT,hs]
   ·simp only [putT,hs,cond_false,List.getElem?_set]
    simp
  | true =>
   have hρ:∀r',r'≠Rt.tp d→Ar.rho c { G with ow:=give G.ow T (.tm d),tv:=fun t=>if t=d then u else G.tv t } r'=Ar.rho c G r':=by
    intro r' hr
    cases r' with
    | bx t=>rfl
    | gl g=>rfl
    | tp t=>simp only [Ar.rho];rw [if_neg (fun e=>hr (by rw [e]))]
   refine ⟨{ G with ow:=give G.ow T (.tm d),tv:=fun t=>if t=d then u else G.tv t },key _ rfl rfl rfl (fun t ht=>if_neg ht) (fun _=>if_pos rfl) ?_ ?_ ?_ ?_ ?_,fun b hb hn=>(give_no hb).trans hn,rfl⟩
   ·intro t v0 htd ht
    simp only [putT,hs,cond_true] at ht
    rw [List.getElem?_set_ne (Ne.symm htd)] at ht
    obtain⟨v1,h1,h2⟩:=killR_get ht
    rcases h2 with ⟨rfl,h2⟩ | rfl
    ·exact RepT.rho hρ _ _ _ h2 (h.tm t _ h1)
    ·trivial
   ·intro t v0 htd ht hs0
    simp only [putT,hs,cond_true] at ht
    rw [List.getElem?_set_ne (Ne.symm htd)] at ht
    obtain⟨v1,h1,h2⟩:=killR_get ht
    rcases h2 with ⟨rfl,h2⟩ | rfl
    ·exact h1
    ·cases hs0
   ·exact RepT.rho hρ _ _ _ (hit0 d rfl hs) hv
   ·simp [putT,hs,killR]
   ·simp only [putT,hs,cond_true,List.getElem?_set]
    simp [killR]
theorem Rel.put{c:Cx}{st:St}{a:Act}{w:World}{G:Gh}(h:Rel c st a w G)(dst:Option Nat)(v:V)(u:Value)(T:Nat→Prop)(hv:RepT w G.Sh (Ar.rho c G) v u T)
  (hself:∀d,dst=some d→isSl v=false→True) (hT:∀b,T b→G.ow b=.no) (hTb:∀b,T b→b<w.heap.size∧(c.w0.heap.size≤b∨c.H b))
  (hit0:∀d,dst=some d→isSl v=true→hit (.tp d) v=false):∃G',Rel c (pu st dst v) (a.put dst u) w G':=by
 obtain⟨G',k,_⟩:=h.putX dst v u T hv hself hT hTb hit0
 exact ⟨G',k⟩
def RootOk(w:World)(Sh:Nat→Prop)(ow:Nat→Slot)(src:Sr)(cs bs:Slot)(row:List V):Prop :=
 match src with
 | .mem b o=>o=0∧ow b=bs∧¬Sh b∧BlockOk w b 0 row.length∧RepRow w Sh .own row b 0 (fun x=>ow x=cs)
 | .val v=>∃f z xs,row=[.sl f z xs]∧RepC w Sh .own (.sl f z xs) v (fun x=>ow x=cs)
theorem heap_push_lt(h:Array Obj)(o:Obj)(b:Nat)(hb:b<h.size):(h.push o)[b]?=h[b]?:=by
 rw [Array.getElem?_push,if_neg (by omega)]
theorem alloc_heap_lt(w:World)(o:Obj)(b:Nat)(hb:b<w.heap.size):(w.alloc o).heap[b]?=w.heap[b]?:=heap_push_lt _ _ _ hb
theorem root_upd{w:World}{Sh:Nat→Prop}{ow:Nat→Slot}{src:Sr}{cs bs:Slot}{row:List V}{ps:List (Nat × Int × Nat)}{f:List V→(List V→V→Prop)→Prop}{K:List V→V→Prop}
  (h:RootOk w Sh ow src cs bs row) (hk:updK row ps f K) (hcb:bs≠cs) (hc0:cs≠.no) (hb0:bs≠.no) (hO:∀b,ow b≠.no→b<w.heap.size) (hSs:∀b,Sh b→b<w.heap.size) (hps:(∃v,src=.val v)→ps≠[]) :
  ∃ (row1:List V) (b' o':Nat) (T':Nat→Prop) (K':List V→V→Prop),res w src ps=some (.mem b' o')∧RepRow w Sh .own row1 b' o' T'∧(∀x,T' x→ow x=cs)∧¬T' b'∧¬Sh b'∧(ow b'=cs∨ow b'=bs)∧b' < w.heap.size∧BlockOk w b' o' row1.length∧f row1 K' ∧
   (∀w'':World,(∀x,¬T' x→x≠b'→w''.heap[x]?=w.heap[x]?)→∀ps0,pfx ps0 ps→res w'' src ps0=res w src ps0) ∧
   ∀ (row2:List V) (x:V) (w':World) (Sh':Nat→Prop) (T2:Nat→Prop),K' row2 x→row2.length=row1.length→Upd w w' b' o' row1.length→w'.heap.size=w.heap.size →
    (∀x,Sh x→Sh' x)→(∀x,Sh' x→Sh x∨(T' x∧¬T2 x))→(∀x,T2 x→T' x∨ow x=.no)→RepRow w' Sh' .own row2 b' o' T2 →
    ∃row',K row' x∧row'.length=row.length∧RootOk w' Sh' (give (give ow (fun x=>T' x∧¬T2 x) .no) T2 cs) src cs bs row':=by
 have fin:∀ (T' T2:Nat→Prop),(∀x,T' x→ow x=cs)→∀x,((ow x=cs∧¬T' x)∨T2 x)→give (give ow (fun x=>T' x∧¬T2 x) .no) T2 cs x=cs:=by
  intro T' T2 hT' x hx
  by_cases h2:T2 x
  ·exact give_yes h2
  ·rw [give_no h2]
   rcases hx with ⟨h3,h4⟩ | h3
   ·rw [give_no (fun h=>h4 h.1),h3]
   ·exact absurd h3 h2
 cases src with
 | mem b o =>
  obtain⟨rfl,hb,hsb,hbk,hr⟩:=h
  have hblt:b<w.heap.size:=by
   obtain⟨cur,e,fz,hh,_⟩:=hbk
   exact (Array.getElem?_eq_some_iff.1 hh).1
  obtain⟨row1,b',o',T',K',h1,h2,h3,h4,h5,h6,hbk2,h7,hpf,H⟩:=updK_sound f ps row b 0 _ K hr (fun e=>hcb (hb.symm.trans e)) hsb hbk hk
  have hwh:ow b'=cs∨b'=b:=by rcases h6 with ⟨h,_⟩ | h;exact .inr h;exact .inl h
  refine ⟨row1,b',o',T',K',h1,h2,h3,h4,h5,hwh.imp id (fun e=>by rw [e];exact hb),?_,hbk2,h7,hpf,?_⟩
  ·rcases hwh with h | rfl
   ·exact hO _ (by rw [h];exact hc0)
   ·exact hblt
  ·intro row2 x w' Sh' T2 hK hl hU hsz hs1 hs2 hT2 hr2
   have hshb:¬Sh' b':=fun hh=>(hs2 _ hh).elim h5 (fun hh=>h4 hh.1)
   obtain⟨row',k1,k2,k3⟩:=H row2 x w' Sh' T2 hK hl hU hs1 (fun y hy hny hh=>(hs2 y hh).elim id (fun hh=>absurd hh.1 hny))
    (fun y hy hh=>(hT2 y hy).elim hh.2 (fun e=>hc0 (hh.1.symm.trans e))) hshb hr2
   refine ⟨row',k1,k2,rfl,?_,?_,?_,RepRow.mono _ _ _ _ _ (fin T' T2 h3) k3⟩
   ·have hnb:¬T2 b:=fun hh=>(hT2 b hh).elim (fun hh=>hcb (by rw [←hb,h3 b hh])) (fun e=>hb0 (by rw [←hb,e]))
    rw [give_no hnb,give_no (fun hh=>hcb (by rw [←hb,h3 b hh.1])),hb]
   ·intro hh
    exact (hs2 b hh).elim hsb (fun hh=>hcb (by rw [←hb,h3 b hh.1]))
   ·rw [k2]
    by_cases e:b=b'
    ·subst e;exact hU.blk _ _ hbk
    ·exact hbk.frame (hU.heap b e)
 | val v =>
  obtain⟨f0,z0,xs0,rfl,hr⟩:=h
  cases ps with
  | nil=>exact absurd rfl (hps ⟨v,rfl⟩)
  | cons p ps =>
   obtain⟨k,i,z⟩:=p
   unfold updK at hk
   split at hk
   ·rename_i z' xs hg
    have hz:z'=z:=by
     cases hb:(z' == z) with
     | true=>simpa using hb
     | false=>rw [hb] at hk;exact hk.elim
    subst hz
    simp only [beq_self_eq_true,cond_true] at hk
    obtain⟨r,hr0,hk⟩:=hk
    have hk0:k=0:=by
     have:=getD_some hg (by simp)
     cases k with
     | zero=>rfl
     | succ k=>simp at this
    subst hk0
    have hcl:V.sl f0 z0 xs0=.sl .own z' xs:=by simpa using hg
    injection hcl with e1 e2 e3
    subst e1 e2 e3
    obtain⟨b1,o1,n,c,row1,b',o',T',K',rfl,hres,hrep,hsub,hb',hs',hT1b,hbk2,hf,hpf,HU⟩:=updC_of (updK_sound f ps) hr hr0 hk
    refine ⟨row1,b',o',T',K',(res_cons (by rfl)).trans hres,hrep,hsub,hb',hs',.inl hT1b,hO _ (by rw [hT1b];exact hc0),hbk2,hf,?_,?_⟩
    ·intro w'' hw ps0 h0
     cases ps0 with
     | nil=>rfl
     | cons p0 ps0 =>
      obtain⟨rfl,h0⟩:=h0
      rw [res_cons (s:=.val _) (w:=w) rfl,res_cons (s:=.val _) (w:=w'') rfl]
      exact hpf w'' hw ps0 h0
    intro row2 x w' Sh' T2 hK hl hU hsz hs1 hs2 hT2 hr2
    have hshb:¬Sh' b':=fun hh=>(hs2 _ hh).elim hs' (fun hh=>hb' hh.1)
    obtain⟨r',k1,k2⟩:=HU row2 x w' Sh' T2 hK hl hU hs1 (fun y hy hny hh=>(hs2 y hh).elim id (fun hh=>absurd hh.1 hny))
     (fun y hy hh=>(hT2 y hy).elim hh.2 (fun e=>hc0 (hh.1.symm.trans e))) hshb hr2
    exact ⟨_,k1,by simp,_,_,_,rfl,RepC.mono _ _ _ _ (fin T' T2 hsub) k2⟩
   ·exact hk.elim
def rowOf(st:St):Rt→List V
 | .bx t=>st.m.getD t []
 | .tp t=>[st.t.getD t .un]
 | .gl g=>st.g.getD g []
def setRow(st:St)(r:Rt)(row:List V):St :=
 match r with
 | .bx t=>{ st with m:=st.m.set t row }
 | .tp t=>{ st with t:=st.t.set t (row.getD 0 .un) }
 | .gl g=>{ st with g:=st.g.set g row }
def csl:Rt→Slot
 | .bx t=>.bc t
 | .tp t=>.tm t
 | .gl g=>.gc g
def bsl:Rt→Slot
 | .bx t=>.bb t
 | .tp _=>.dm
 | .gl g=>.gb g
theorem getD_nil_some{m:List (List V)}{t:Nat}(h:m.getD t []≠[]):m[t]?=some (m.getD t []):=by
 simp only [List.getD_eq_getElem?_getD] at h ⊢
 cases hm:m[t]? with
 | none=>rw [hm] at h;exact absurd rfl h
 | some r=>simp
theorem repT_of_C{w:World}{Sh:Nat→Prop}{ρ:Rt→Option Sr}{v:V}{u:Value}{T:Nat→Prop}(h:RepC w Sh .own v u T):RepT w Sh ρ v u T:=by
 cases v <;> first | exact h | trivial | exact h.elim
/-- A root that may be written. -/
theorem Rel.root{c:Cx}{st:St}{a:Act}{w:World}{G:Gh}(h:Rel c st a w G)(r:Rt)(hne:rowOf st r≠[])(htp:∀t,r=.tp t→isSl (st.t.getD t .un)=true)(hgl:∀g,r=.gl g→c.gm=.own) :
  ∃src,Ar.rho c G r=some src∧RootOk w G.Sh G.ow src (csl r) (bsl r) (rowOf st r):=by
 cases r with
 | bx t =>
  refine ⟨_,rfl,?_⟩
  obtain⟨h1,h2,h3,h4⟩:=h.mb t _ (getD_nil_some hne) hne
  exact ⟨rfl,h1,h2,h3,h4⟩
 | tp t =>
  have hs:=htp t rfl
  refine ⟨_,rfl,?_⟩
  cases hv:st.t.getD t .un with
  | sl f z xs =>
   have ht:=getD_some hv (by simp)
   have:=h.tm t _ ht
   rw [h.tv t f z xs ht] at this
   exact ⟨f,z,xs,by simp only [rowOf,hv],this⟩
  | _=>rw [hv] at hs;cases hs
 | gl g =>
  have hg:=(h.gb g _ (getD_nil_some hne)).resolve_left hne
  have hgm:=hgl g rfl
  refine ⟨_,rfl,?_⟩
  unfold GOkN at hg
  rw [hgm] at hg
  cases hc:c.gl g with
  | mem b o=>rw [hc] at hg;exact ⟨hg.2.1,hg.2.2.1,hg.2.2.2.1,hg.2.2.2.2.1,hg.2.2.2.2.2⟩
  | val v=>rw [hc] at hg;obtain⟨_,f,z,xs,h1,h2⟩:=hg;exact ⟨f,z,xs,h1,h2⟩
theorem csl_ne(r:Rt):bsl r≠csl r:=by cases r <;> simp [bsl,csl]
theorem csl_no(r:Rt):csl r≠.no:=by cases r <;> simp [csl]
theorem bsl_no(r:Rt):bsl r≠.no:=by cases r <;> simp [bsl]
/-- The root's new content is laid into the state. -/
theorem Rel.setRoot{c:Cx}{st:St}{a:Act}{w:World}{G:Gh}(h:Rel c st a w G)(r:Rt){row':List V}{w':World}{Sh' T' T2:Nat→Prop}{t':List V}{b' lo n:Nat}{src:Sr}
  (hsrc:Ar.rho c G r=some src) (hlen:row'.length=(rowOf st r).length) (hne:rowOf st r≠[]) (hgl:∀g,r=.gl g→c.gm=.own∧True)
  (htp:∀t,r=.tp t→isSl (st.t.getD t .un)=true)
  (hrow:RootOk w' Sh' (give (give G.ow (fun x=>T' x∧¬T2 x) .no) T2 (csl r)) src (csl r) (bsl r) row')
  (hT':∀x,T' x→G.ow x=csl r) (hT2:∀x,T2 x→T' x∨(G.ow x=.no∧x<w.heap.size∧(c.w0.heap.size≤x∨c.H x)))
  (hb':G.ow b'=csl r∨G.ow b'=bsl r) (hsb':¬G.Sh b') (hU:Upd w w' b' lo n) (hsz:w'.heap.size=w.heap.size) (h1:w'.os=w.os) (h2:w'.tape=w.tape) (h3:w'.output=w.output)
  (hs1:∀x,G.Sh x→Sh' x) (hs2:∀x,Sh' x→G.Sh x∨(T' x∧¬T2 x))
  (htl:t'.length=st.t.length) (htm:∀ (s:Nat) (v:V),t'[s]?=some v→r≠.tp s→RepT w' G.Sh (Ar.rho c G) v (a.tmps.getD s undef) (fun b=>G.ow b=.tm s)) (htv:∀ (s:Nat) (v:V),t'[s]?=some v→isSl v=true→st.t[s]?=some v) :
  Rel c (setRow { st with t:=t' } r row') a w' { G with ow:=give (give G.ow (fun x=>T' x∧¬T2 x) .no) T2 (csl r),Sh:=Sh' }:=by
 have hkeep:∀x s,G.ow x=s→s≠csl r→s≠.no→give (give G.ow (fun x=>T' x∧¬T2 x) .no) T2 (csl r) x=s:=by
  intro x s hx hs hn
  have h2':¬T2 x:=fun hh=>(hT2 x hh).elim (fun hh=>hs (by rw [←hx,hT' x hh])) (fun hh=>hn (by rw [←hx,hh.1]))
  rw [give_no h2',give_no (fun hh=>hs (by rw [←hx,hT' x hh.1])),hx]
 have hfr:∀x,G.ow x≠csl r→G.ow x≠bsl r→w'.heap[x]?=w.heap[x]?:=fun x h1 h2=>hU.heap x (fun e=>by subst e;exact hb'.elim h1 h2)
 have hS:∀x,G.Sh x→w'.heap[x]?=w.heap[x]?:=fun x hx=>hU.heap x (fun e=>hsb' (e▸hx))
 have hshk:∀x s,G.ow x=s→s≠csl r→Sh' x→G.Sh x:=fun x s hx hs hh=>(hs2 x hh).elim id (fun hh=>absurd (by rw [←hx,hT' x hh.1]) hs)
 have hb'n:G.ow b'≠.no:=by rcases hb' with e | e <;> rw [e];exact csl_no r;exact bsl_no r
 have base:∀ (st':St),st'.t.length=st.t.length →
   (∀ (s:Nat) (v:V),st'.t[s]?=some v→r≠.tp s→t'[s]?=some v) →
   (∀ (s:Nat) (v:V),st'.t[s]?=some v→r=.tp s→(RepT w' Sh' (Ar.rho c G) v (a.tmps.getD s undef) (fun b=>give (give G.ow (fun x=>T' x∧¬T2 x) .no) T2 (csl r) b=.tm s))∧(isSl v=true→a.tmps.getD s undef=G.tv s)) →
   (∀ (s:Nat) (row:List V),st'.m[s]?=some row→r≠.bx s→st.m[s]?=some row) →
   (∀ (s:Nat) (row:List V),st'.m[s]?=some row→r=.bx s→row=row') →
   (∀ (s:Nat) (row:List V),st'.g[s]?=some row→(∀g,r≠.gl g)→st.g[s]?=some row) →
   (∀ (s:Nat) (row:List V),st'.g[s]?=some row→∀g,r=.gl g→(s=g∧row=row')∨(s≠g∧st.g[s]?=some row)) →
   Rel c st' a w' { G with ow:=give (give G.ow (fun x=>T' x∧¬T2 x) .no) T2 (csl r),Sh:=Sh' }:=by
  intro st' e1 e2 e3 e4 e5 e6 e7
  refine ⟨by rw [e1];exact h.tl,h.df,?_,?_,?_,?_,?_,?_,?_,?_,by rw [hsz];exact h.sz,h1.trans h.eos,h2.trans h.etape,h3.trans h.eout⟩
  ·intro s v hs
   by_cases hr:r=.tp s
   ·exact (e3 s v hs hr).1
   ·have:=htm s v (e2 s v hs hr) hr
    have hne:(Slot.tm s)≠csl r:=fun e=>hr (by cases r <;> simp [csl] at e;rw [e])
    exact RepT.mono _ _ _ _ (fun b hb=>hkeep b _ hb hne (by simp)) (RepT.shr_mono hs1 _ _ _ (fun b hb=>hshk b _ hb hne) this)
  ·intro s f z xs hs
   by_cases hr:r=.tp s
   ·exact (e3 s _ hs hr).2 rfl
   ·exact h.tv s f z xs (htv s _ (e2 s _ hs hr) rfl)
  ·intro s row hs hn
   by_cases hr:r=.bx s
   ·obtain rfl:=e5 s row hs hr
    subst hr
    obtain rfl:Sr.mem (G.bx s) 0=src:=by simpa [Ar.rho] using hsrc
    exact ⟨hrow.2.1,hrow.2.2.1,hrow.2.2.2.1,hrow.2.2.2.2⟩
   ·obtain⟨k1,k2,k3,k4⟩:=h.mb s row (e4 s row hs hr) hn
    have n1:(Slot.bb s)≠csl r:=by cases r <;> simp [csl]
    have n2:(Slot.bb s)≠bsl r:=fun e=>hr (by cases r <;> simp [bsl] at e;rw [e])
    have n3:(Slot.bc s)≠csl r:=fun e=>hr (by cases r <;> simp [csl] at e;rw [e])
    have n4:(Slot.bc s)≠bsl r:=by cases r <;> simp [bsl]
    have hh:w'.heap[G.bx s]?=w.heap[G.bx s]?:=hfr _ (by rw [k1];exact n1) (by rw [k1];exact n2)
    refine ⟨hkeep _ _ k1 n1 (by simp),fun hx=>k2 (hshk _ _ k1 n1 hx),k3.frame hh,?_⟩
    exact RepRow.mono _ _ _ _ _ (fun b hb=>hkeep b _ hb n3 (by simp)) (RepRow.shr_mono hs1 _ _ _ _ (fun _ b hb=>hshk b _ hb n3)
     (RepRow.frame hS _ _ _ _ _ (fun b hb=>hfr b (by rw [hb];exact n3) (by rw [hb];exact n4)) (fun j _=>cell_of_heap hh _) k4))
  ·intro s row hs
   have other:st.g[s]?=some row→(∀g,r=.gl g→s≠g)→GOk c w' Sh' (give (give G.ow (fun x=>T' x∧¬T2 x) .no) T2 (csl r)) s row:=by
    intro hs' hr
    have hg:=h.gb s row hs'
    have n1:(Slot.gb s)≠csl r:=by cases r <;> simp [csl]
    have n2:(Slot.gb s)≠bsl r:=fun e=>by cases r <;> simp [bsl] at e;exact hr _ rfl e
    have n3:(Slot.gc s)≠csl r:=fun e=>by cases r <;> simp [csl] at e;exact hr _ rfl e
    have n4:(Slot.gc s)≠bsl r:=by cases r <;> simp [bsl]
    rcases hg with hg | hg
    ·exact .inl hg
    refine .inr ?_
    unfold GOkN at hg ⊢
    split at hg
    ·obtain⟨g1,g2,g3,g4,g5,g6⟩:=hg
     rename_i b o _ _
     have hh:w'.heap[b]?=w.heap[b]?:=hfr _ (by rw [g3];exact n1) (by rw [g3];exact n2)
     exact ⟨g1,g2,hkeep _ _ g3 n1 (by simp),fun hx=>g4 (hshk _ _ g3 n1 hx),g5.frame hh,RepRow.mono _ _ _ _ _ (fun b hb=>hkeep b _ hb n3 (by simp)) (RepRow.shr_mono hs1 _ _ _ _ (fun _ b hb=>hshk b _ hb n3)
      (RepRow.frame hS _ _ _ _ _ (fun b hb=>hfr b (by rw [hb];exact n3) (by rw [hb];exact n4)) (fun j _=>cell_of_heap hh _) g6))⟩
    ·obtain⟨g1,f,z,xs,g2,g3⟩:=hg
     exact ⟨g1,f,z,xs,g2,RepC.mono _ _ _ _ (fun b hb=>hkeep b _ hb n3 (by simp)) (RepC.shr_mono hs1 _ _ _ (fun _ b hb=>hshk b _ hb n3)
      (RepC.frame hS _ _ _ _ (fun b hb=>hfr b (by rw [hb];exact n3) (by rw [hb];exact n4)) g3))⟩
    ·rcases hg with g1 | ⟨g1,g2⟩
     ·exact .inl g1
     ·exact .inr ⟨hs1 _ g1,RepRow.shr_mono hs1 _ _ _ _ (fun _ _ h=>h.elim) (RepRow.frame hS _ _ _ _ _ (fun _ h=>h.elim) (fun j _=>cell_of_heap (hS _ g1) _) g2)⟩
    ·rcases hg with g1 | ⟨cl,g1,g2⟩
     ·exact .inl g1
     ·exact .inr ⟨cl,g1,RepC.shr_mono hs1 _ _ _ (fun _ _ h=>h.elim) (RepC.frame hS _ _ _ _ (fun _ h=>h.elim) g2)⟩
   by_cases hr:∃g,r=.gl g
   ·obtain⟨g,hr⟩:=hr
    rcases e7 s row hs g hr with ⟨rfl,rfl⟩ | ⟨hsg,hs'⟩
    ·subst hr
     obtain⟨hgm,hg0⟩:=hgl s rfl
     obtain rfl:c.gl s=src:=by simpa [Ar.rho] using hsrc
     refine .inr ?_
     unfold GOkN
     rw [hgm]
     cases hc:c.gl s with
     | mem b o=>rw [hc] at hrow;exact ⟨hg0,hrow.1,hrow.2.1,hrow.2.2.1,hrow.2.2.2.1,hrow.2.2.2.2⟩
     | val v =>
      rw [hc] at hrow
      obtain⟨f,z,xs,k1,k2⟩:=hrow
      exact ⟨hg0,f,z,xs,k1,k2⟩
    ·subst hr
     exact other hs' (fun g' e=>by injection e with e;rw [←e];exact hsg)
   ·exact other (e6 s row hs (fun g e=>hr ⟨g,e⟩)) (fun g e=>absurd ⟨g,e⟩ hr)
  ·intro b hb
   show b<w'.heap.size∧_
   rw [hsz]
   by_cases h2':T2 b
   ·rcases hT2 b h2' with hh | hh
    ·exact h.ob b (by rw [hT' b hh];exact csl_no r)
    ·exact hh.2
   ·simp only at hb
    rw [give_no h2'] at hb
    by_cases h3':T' b∧¬T2 b
    ·rw [give_yes h3'] at hb;exact absurd rfl hb
    ·rw [give_no h3'] at hb;exact h.ob b hb
  ·intro b hb
   show b<w'.heap.size∧_
   rw [hsz]
   rcases hs2 b hb with hh | hh
   ·exact h.sb b hh
   ·have:=h.ob b (by rw [hT' b hh.1];exact csl_no r)
    exact ⟨this.1,.inr this.2⟩
  ·exact fun b hb=>hs1 b (h.s0 b hb)
  ·intro b h1' h2'
   rw [hU.heap b (fun e=>by
    have:=(h.ob b' hb'n).2
    rw [←e] at this
    rcases this with hh | hh
    ·omega
    ·exact h2' hh)]
   exact h.fr b h1' h2'
 cases r with
 | bx t =>
  refine base _ (by simp [setRow,htl]) (fun s v hs _=>hs) (fun s v _ e=>by cases e) ?_ ?_ (fun s row hs _=>hs) (fun s row _ g e=>by cases e)
  ·intro s row hs hr
   simp only [setRow] at hs
   rwa [List.getElem?_set_ne (fun e=>hr (by rw [e]))] at hs
  ·intro s row hs hr
   injection hr with hr
   subst hr
   simp only [setRow,List.getElem?_set] at hs
   simp at hs
   exact hs.2.symm
 | gl g =>
  refine base _ (by simp [setRow,htl]) (fun s v hs _=>hs) (fun s v _ e=>by cases e) (fun s row hs _=>hs) (fun s row _ e=>by cases e) (fun s row _ e=>absurd rfl (e g)) ?_
  intro s row hs g' hg'
  injection hg' with hg'
  subst hg'
  simp only [setRow] at hs
  by_cases e:s=g
  ·subst e
   simp only [List.getElem?_set] at hs
   simp at hs
   exact .inl ⟨rfl,hs.2.symm⟩
  ·rw [List.getElem?_set_ne (Ne.symm e)] at hs
   exact .inr ⟨e,hs⟩
 | tp t =>
  refine base _ (by simp [setRow,htl]) ?_ ?_ (fun s row hs _=>hs) (fun s row _ e=>by cases e) (fun s row hs _=>hs) (fun s row _ g e=>by cases e)
  ·intro s v hs hr
   simp only [setRow] at hs
   rwa [List.getElem?_set_ne (fun e=>hr (by rw [e]))] at hs
  ·intro s v hs hr
   injection hr with hr
   subst hr
   simp only [setRow,List.getElem?_set] at hs
   simp at hs
   obtain⟨hlt,rfl⟩:=hs
   obtain rfl:Sr.val (G.tv t)=src:=by simpa [Ar.rho] using hsrc
   obtain⟨f1,z1,xs1,k1,k2⟩:=hrow
   subst k1
   have hsl:=htp t rfl
   have htt:a.tmps.getD t undef=G.tv t:=by
    cases hv:st.t.getD t .un with
    | sl f z xs=>exact h.tv t f z xs (getD_some hv (by simp))
    | _=>rw [hv] at hsl;cases hsl
   refine ⟨?_,fun _=>htt⟩
   rw [htt]
   exact repT_of_C k2
/-! ### Cells of values, stores, loads -/
def RepCs(w:World)(Sh:Nat→Prop):List V→List Value→(Nat→Prop)→Prop
 | [],[],_=>True
 | c::cs,v::vs,T=>∃T1 T2,RepC w Sh .own c v T1∧RepCs w Sh cs vs T2∧(∀x,T1 x→T x∧¬T2 x)∧(∀x,T2 x→T x)
 | _,_,_=>False
theorem RepCs.len{w:World}{Sh:Nat→Prop}:∀ (cs:List V) (vs:List Value) (T:Nat→Prop),RepCs w Sh cs vs T→cs.length=vs.length
 | [],[],_,_=>rfl
 | c::cs,v::vs,T,h=>by
  obtain⟨_,T2,_,h2,_⟩:=h
  simp [RepCs.len cs vs T2 h2]
 | [],_::_,_,h=>h.elim
 | _::_,[],_,h=>h.elim
theorem RepCs.row{w w':World}{Sh:Nat→Prop}{b:Nat}(hS:∀x,Sh x→w'.heap[x]?=w.heap[x]?):∀ (cs:List V) (vs:List Value) (T:Nat→Prop) (o:Nat),(∀x,T x→w'.heap[x]?=w.heap[x]?) →
  (∀j v,vs[j]?=some v→w'.cell? ⟨b,o+j,none⟩=some v)→RepCs w Sh cs vs T→RepRow w' Sh .own cs b o T
 | [],[],_,_,_,_,_=>by simp only [RepRow]
 | c::cs,v::vs,T,o,hT,hc,h=>by
  obtain⟨T1,T2,h1,h2,d1,d2⟩:=h
  simp only [RepRow]
  refine ⟨v,T1,T2,hc 0 v rfl,RepC.frame hS _ _ _ _ (fun x hx=>hT x (d1 x hx).1) h1,RepCs.row hS cs vs T2 (o+1) (fun x hx=>hT x (d2 x hx)) (fun j u hj=>?_) h2,d1,d2⟩
  have:=hc (j+1) u hj
  rwa [show o+(j+1)=o+1+j by omega] at this
 | [],_::_,_,_,_,_,h=>h.elim
 | _::_,[],_,_,_,_,h=>h.elim
theorem RepC.one{w:World}{Sh:Nat→Prop}{md:Fl}{c:V}{v:Value}{T:Nat→Prop}(h:RepC w Sh md c v T):v.oneCell'=true:=by
 cases c with
 | un=>exact h
 | sl f z xs =>
  simp only [RepC] at h
  rcases h with ⟨⟨al,rfl⟩,_⟩ | ⟨b,o,c,rfl,_⟩ <;> rfl
 | b x=>have:v=_:=h;subst this;rfl
 | i k n=>have:v=_:=h;subst this;rfl
 | cv k u=>exact h.2
 | s l=>have:v=_:=h;subst this;rfl
 | nil=>have:v=_:=h;subst this;rfl
 | _=>exact h.elim
/-- What may lie in memory. -/
def plain:V→Bool
 | .b _=>true | .i _ _=>true | .cv _ _=>true | .s _=>true | .nil=>true | .sl _ _ _=>true
 | _=>false
def plains:List V→Bool
 | []=>true
 | c::cs=>plain c && plains cs
theorem repC_of_T{w:World}{Sh:Nat→Prop}{ρ:Rt→Option Sr}{c:V}{v:Value}{T:Nat→Prop}(hp:plain c=true)(h:RepT w Sh ρ c v T):RepC w Sh .own c v T:=by
 cases c <;> first | exact h | cases hp
theorem repCs_of_Ts{w:World}{Sh:Nat→Prop}{ρ:Rt→Option Sr}:∀ (cs:List V) (vs:List Value) (T:Nat→Prop),plains cs=true→RepTs w Sh ρ cs vs T→RepCs w Sh cs vs T
 | [],[],_,_,_=>trivial
 | c::cs,v::vs,T,hp,h=>by
  simp only [plains,Bool.and_eq_true] at hp
  simp only [RepTs] at h
  obtain⟨T1,T2,h1,h2,d1,d2⟩:=h
  exact ⟨T1,T2,repC_of_T hp.1 h1,repCs_of_Ts cs vs T2 hp.2 h2,d1,d2⟩
 | [],_::_,_,_,h=>by simp only [RepTs] at h
 | _::_,[],_,_,h=>by simp only [RepTs] at h
/-- A nil that comes where a slice lay becomes an empty slice of that kind. -/
def fitC(old new:V):V :=
 match new with
 | .nil=>(match old with | .sl _ z _=>.sl .own z [] | _=>.nil)
 | v=>v
def fits:List V→List V→List V
 | o::os,n::ns=>fitC o n::fits os ns
 | _,ns=>ns
theorem fitC_rep{w:World}{Sh:Nat→Prop}{md:Fl}{old c:V}{v:Value}{T:Nat→Prop}(h:RepC w Sh md c v T):RepC w Sh md (fitC old c) v T:=by
 cases c with
 | nil =>
  cases old with
  | sl f z xs =>
   have:v=.slice none 0 0:=h
   simp only [fitC,RepC]
   exact .inl ⟨⟨none,this⟩,trivial⟩
  | _=>exact h
 | _=>exact h
theorem fits_rep{w:World}{Sh:Nat→Prop}:∀ (os cs:List V) (vs:List Value) (T:Nat→Prop),RepCs w Sh cs vs T→RepCs w Sh (fits os cs) vs T
 | [],_,_,_,h=>by simpa [fits] using h
 | _::_,[],_,_,h=>by simpa [fits] using h
 | o::os,c::cs,[],_,h=>h.elim
 | o::os,c::cs,v::vs,T,h=>by
  obtain⟨T1,T2,h1,h2,d1,d2⟩:=h
  exact ⟨T1,T2,fitC_rep h1,fits_rep os cs vs T2 h2,d1,d2⟩
theorem fits_length:∀ (os cs:List V),(fits os cs).length=cs.length
 | [],_=>by simp [fits]
 | _::_,[]=>by simp [fits]
 | o::os,c::cs=>by simp [fits,fits_length os cs]
theorem plains_one{w:World}{Sh:Nat→Prop}:∀ (cs:List V) (vs:List Value) (T:Nat→Prop),plains cs=true→RepCs w Sh cs vs T→∀v∈vs,v.oneCell'=true
 | [],[],_,_,_,v,hv=>by cases hv
 | c::cs,u::vs,T,hp,h,v,hv=>by
  simp only [plains,Bool.and_eq_true] at hp
  obtain⟨T1,T2,h1,h2,_⟩:=h
  rcases List.mem_cons.1 hv with rfl | hv
  ·exact h1.one
  ·exact plains_one cs vs T2 hp.2 h2 v hv
 | [],_::_,_,_,h,_,_=>h.elim
 | _::_,[],_,_,h,_,_=>h.elim
theorem Upd.setCell(w:World)(b o:Nat)(v:Value):Upd w (w.setCell ⟨b,o,none⟩ v) b o 1:=by
 refine ⟨fun x hx=>?_,fun j hj=>?_,fun o' m h=>?_⟩
 ·simp only [World.setCell,Array.getElem?_modify]
  rw [if_neg (fun e=>hx e.symm)]
 ·refine World.cell?_setCell_other _ _ _ _ (fun e=>?_)
  injection e with _ e2 _
  omega
 ·obtain⟨cur,e,fz,h1,h2,h3⟩:=h
  refine ⟨cur.setIfInBounds o v,e,fz,?_,by simpa using h2,by simpa using h3⟩
  simp [World.setCell,Array.getElem?_modify,h1]
theorem Upd.setCells(b:Nat):∀ (vs:List Value) (o:Nat) (w:World),Upd w (w.setCells b o vs) b o vs.length
 | [],o,w=>Upd.refl w b o 0
 | v::vs,o,w=>by
  have h1:=Upd.setCell w b o v
  have h2:=Upd.setCells b vs (o+1) (w.setCell ⟨b,o,none⟩ v)
  refine ⟨fun x hx=>(h2.heap x hx).trans (h1.heap x hx),fun j hj=>?_,fun o' m h=>h2.blk _ _ (h1.blk _ _ h)⟩
  simp only [List.length_cons] at hj
  exact (h2.cell j (by omega)).trans (h1.cell j (by omega))
theorem setCells_size(b:Nat):∀ (vs:List Value) (o:Nat) (w:World),(w.setCells b o vs).heap.size=w.heap.size∧(w.setCells b o vs).os=w.os∧(w.setCells b o vs).tape=w.tape∧(w.setCells b o vs).output=w.output
 | [],_,_=>⟨rfl,rfl,rfl,rfl⟩
 | v::vs,o,w=>by
  obtain⟨h1,h2,h3,h4⟩:=setCells_size b vs (o+1) (w.setCell ⟨b,o,none⟩ v)
  exact ⟨h1.trans (by simp),h2,h3,h4⟩
theorem Upd.weaken{w w':World}{b lo n lo' n':Nat}(h:Upd w w' b lo n)(h1:lo'≤lo)(h2:lo+n≤lo' + n'):Upd w w' b lo' n' :=
 ⟨h.heap,fun j hj=>h.cell j (by omega),h.blk⟩
theorem BlockOk.frozen{w:World}{b o n:Nat}(h:BlockOk w b o n)(j:Nat)(hj:j<n):w.frozen? ⟨b,o+j,none⟩=false:=by
 obtain⟨cur,e,fz,h1,h2,h3⟩:=h
 have:=fz_no h3 (show o+j<cur.size by omega)
 simp only [World.frozen?,h1]
 simpa using this
theorem BlockOk.cell{w:World}{b o n:Nat}(h:BlockOk w b o n)(j:Nat)(hj:j<n):(w.cell? ⟨b,o+j,none⟩).isSome=true:=by
 obtain⟨cur,e,fz,h1,h2,h3⟩:=h
 simp only [World.cell?,h1]
 simp
 omega
theorem RepCs.one{w:World}{Sh:Nat→Prop}:∀ (cs:List V) (vs:List Value) (T:Nat→Prop),RepCs w Sh cs vs T→∀v∈vs,v.oneCell'=true
 | [],[],_,_,v,hv=>by cases hv
 | c::cs,u::vs,T,h,v,hv=>by
  obtain⟨T1,T2,h1,h2,_⟩:=h
  rcases List.mem_cons.1 hv with rfl | hv
  ·exact h1.one
  ·exact RepCs.one cs vs T2 h2 v hv
 | [],_::_,_,h,_,_=>h.elim
 | _::_,[],_,h,_,_=>h.elim
end Go.Ar
