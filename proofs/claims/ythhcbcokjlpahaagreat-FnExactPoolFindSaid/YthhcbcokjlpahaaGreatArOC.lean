import Derived.Test.YthhcbcokjlpahaaGreatArOM
namespace Go.Ar
set_option linter.unusedVariables false
set_option linter.unusedSimpArgs false
/-! ### copy: rows of plain cells over rows of plain cells -/
def valC:V→Value
 | .b x=>.bool x
 | .i k n=>.int k n
 | .s l=>.string ⟨l.toArray⟩
 | _=>undef
theorem scal_val{w:World}{Sh:Nat→Prop}{md:Fl}{c:V}{v:Value}{T:Nat→Prop}(hs:scal c=true)(h:RepC w Sh md c v T):v=valC c:=by
 cases c with
 | b _=>exact h
 | i _ _=>exact h
 | s _=>exact h
 | _=>cases hs
theorem val_scal{w:World}{Sh:Nat→Prop}{md:Fl}{c:V}{T:Nat→Prop}(hs:scal c=true):RepC w Sh md c (valC c) T:=by
 cases c with
 | b _=>exact rfl
 | i _ _=>exact rfl
 | s _=>exact rfl
 | _=>cases hs
theorem val_one{c:V}(hs:scal c=true):(valC c).oneCell'=true:=by
 cases c with
 | b _=>rfl
 | i _ _=>rfl
 | s _=>rfl
 | _=>cases hs
theorem row_vals{w:World}{Sh:Nat→Prop}{md:Fl}{b:Nat}:∀ (r:List V) (o:Nat) (T:Nat→Prop),scals r=true→RepRow w Sh md r b o T→∀j c,r[j]?=some c→w.cell? ⟨b,o+j,none⟩=some (valC c)
 | [],_,_,_,_,_,_,h=>by simp at h
 | c::r,o,T,hs,h,j,c',hj=>by
  simp only [scals,Bool.and_eq_true] at hs
  simp only [RepRow] at h
  obtain⟨v,T1,T2,hv,h1,h2,_,_⟩:=h
  cases j with
  | zero =>
   obtain rfl:c=c':=by simpa using hj
   rw [Nat.add_zero,hv,scal_val hs.1 h1]
  | succ j =>
   have:=row_vals r (o+1) T2 hs.2 h2 j c' (by simpa using hj)
   rwa [show o+(j+1)=o+1+j by omega]
theorem vals_row{w:World}{Sh:Nat→Prop}{md:Fl}{b:Nat}:∀ (r:List V) (o:Nat),scals r=true→(∀j c,r[j]?=some c→w.cell? ⟨b,o+j,none⟩=some (valC c))→RepRow w Sh md r b o (fun _=>False)
 | [],_,_,_=>by simp only [RepRow]
 | c::r,o,hs,h=>by
  simp only [scals,Bool.and_eq_true] at hs
  simp only [RepRow]
  refine ⟨valC c,fun _=>False,fun _=>False,by simpa using h 0 c rfl,val_scal hs.1,vals_row r (o+1) hs.2 (fun j c' hj=>?_),fun _ hh=>hh.elim,fun _ hh=>hh⟩
  have:=h (j+1) c' (by simpa using hj)
  rwa [show o+(j+1)=o+1+j by omega] at this
theorem rows_vals{w:World}{Sh:Nat→Prop}{md:Fl}{b z:Nat}:∀ (xs:List (List V)) (o:Nat) (T:Nat→Prop),(∀r∈xs,scals r=true)→RepRows w Sh md z xs b o T→(∀r∈xs,r.length=z)∧∀j c,xs.flatten[j]?=some c→w.cell? ⟨b,o+j,none⟩=some (valC c)
 | [],_,_,_,_=>⟨by simp,fun j c h=>by simp at h⟩
 | r::xs,o,T,hs,h=>by
  simp only [RepRows] at h
  obtain⟨hl,T1,T2,h1,h2,_,_⟩:=h
  obtain⟨k1,k2⟩:=rows_vals xs (o+z) T2 (fun r hr=>hs r (by simp [hr])) h2
  refine ⟨fun r' hr'=>?_,fun j c hj=>?_⟩
  ·rcases List.mem_cons.1 hr' with rfl | hr'
   ·exact hl
   ·exact k1 r' hr'
  ·rw [List.flatten_cons] at hj
   by_cases hjr:j<r.length
   ·rw [List.getElem?_append_left hjr] at hj
    exact row_vals r o T1 (hs r (by simp)) h1 j c hj
   ·rw [List.getElem?_append_right (by omega)] at hj
    have:=k2 (j-r.length) c hj
    rwa [hl,show o+z+(j-z)=o+j by omega] at this
theorem vals_rows{w:World}{Sh:Nat→Prop}{md:Fl}{b z:Nat}:∀ (xs:List (List V)) (o:Nat),(∀r∈xs,scals r=true)→(∀r∈xs,r.length=z)→(∀j c,xs.flatten[j]?=some c→w.cell? ⟨b,o+j,none⟩=some (valC c))→RepRows w Sh md z xs b o (fun _=>False)
 | [],_,_,_,_=>by simp only [RepRows]
 | r::xs,o,hs,hl,h=>by
  have hlr:=hl r (by simp)
  simp only [RepRows]
  refine ⟨hlr,fun _=>False,fun _=>False,vals_row r o (hs r (by simp)) (fun j c hj=>?_),vals_rows xs (o+z) (fun r hr=>hs r (by simp [hr])) (fun r hr=>hl r (by simp [hr])) (fun j c hj=>?_),fun _ hh=>hh.elim,fun _ hh=>hh⟩
  ·refine h j c ?_
   rw [List.flatten_cons,List.getElem?_append_left (List.getElem?_eq_some_iff.1 hj).1];exact hj
  ·have:=h (z+j) c (by rw [List.flatten_cons,List.getElem?_append_right (by omega),hlr,Nat.add_sub_cancel_left];exact hj)
   rwa [←Nat.add_assoc] at this
theorem flat_take{z:Nat}:∀ (xs:List (List V)) (n:Nat),(∀r∈xs,r.length=z)→(xs.take n).flatten=xs.flatten.take (n*z)
 | [],n,_=>by simp
 | r::xs,0,_=>by simp
 | r::xs,n+1,h=>by
  have hr:=h r (by simp)
  rw [List.take_succ_cons,List.flatten_cons,List.flatten_cons,flat_take xs n (fun r hr=>h r (by simp [hr])),List.take_append,hr,Nat.add_mul,Nat.one_mul,Nat.add_sub_cancel,List.take_of_length_le (l:=r) (by omega)]
theorem flat_drop{z:Nat}:∀ (xs:List (List V)) (n:Nat),(∀r∈xs,r.length=z)→(xs.drop n).flatten=xs.flatten.drop (n*z)
 | [],n,_=>by simp
 | r::xs,0,_=>by simp
 | r::xs,n+1,h=>by
  have hr:=h r (by simp)
  rw [List.drop_succ_cons,List.flatten_cons,flat_drop xs n (fun r hr=>h r (by simp [hr])),List.drop_append,hr,Nat.add_mul,Nat.one_mul,Nat.add_sub_cancel,List.drop_of_length_le (l:=r) (by omega),List.nil_append]
theorem flat_length{z:Nat}:∀ (xs:List (List V)),(∀r∈xs,r.length=z)→xs.flatten.length=xs.length*z
 | [],_=>by simp
 | r::xs,h=>by
  rw [List.flatten_cons,List.length_append,flat_length xs (fun r hr=>h r (by simp [hr])),h r (by simp),List.length_cons,Nat.add_mul,Nat.one_mul,Nat.add_comm]
/-- Where a part of a slice begins, and how long it is. -/
def vlo:Option (Int × Int)→Nat
 | none=>0
 | some (lo,_)=>lo.toNat
def vln:Option (Int × Int)→Nat→Nat
 | none,n=>n
 | some (lo,hi),n=>min hi.toNat n-lo.toNat
/-- ys laid over xs from row lo on. -/
def ovr(xs ys:List (List V))(lo:Nat):List (List V):=xs.take lo++ys++xs.drop (lo+ys.length)
def cpyF(u:Option (Int × Int))(xs ys:List (List V)):List (List V):=ovr xs (ys.take (vln u xs.length)) (vlo u)
def cpnF(u:Option (Int × Int))(xs ys:List (List V)):Int:=(min ys.length (vln u xs.length):Nat)
noncomputable def cpy:Option (Int × Int)→List (List V)→List (List V)→List (List V):=Classical.choose (kp cpyF)
theorem cpy_eq:cpy=cpyF:=Classical.choose_spec (kp cpyF)
noncomputable def cpn:Option (Int × Int)→List (List V)→List (List V)→Int:=Classical.choose (kp cpnF)
theorem cpn_eq:cpn=cpnF:=Classical.choose_spec (kp cpnF)
/-- Plain rows laid over the plain rows of own content. -/
theorem over_rows{P:Program}{w:World}{Sh T:Nat→Prop}{z b o cap:Nat}{xs ys:List (List V)}{lo:Nat}(hsx:∀r∈xs,scals r=true)(hsy:∀r∈ys,scals r=true)(hwy:∀r∈ys,r.length=z)
  (hb:T b) (hsb:¬Sh b) (hle:xs.length≤cap) (hok:BlockOk w b o (cap*z)) (hr:RepRows w Sh .own z xs b o (fun x=>T x∧x≠b)) (hn:lo+ys.length≤xs.length) :
  ∃w',(storeCells ⟨b,o+lo*z,none⟩ (ys.flatten.map valC)).run P w=.ok () w'∧BlockOk w' b o (cap*z)∧RepRows w' Sh .own z (ovr xs ys lo) b o (fun x=>T x∧x≠b)∧(ovr xs ys lo).length=xs.length ∧
   Upd w w' b (o+lo*z) ys.flatten.length∧w'.heap.size=w.heap.size∧w'.os=w.os∧w'.tape=w.tape∧w'.output=w.output:=by
 obtain⟨k1,k2⟩:=rows_vals xs o _ hsx hr
 have hfl:=flat_length ys hwy
 have hxl:=flat_length xs k1
 have hbnd:lo*z+ys.flatten.length≤cap*z:=by
  rw [hfl,←Nat.add_mul]
  exact Nat.mul_le_mul_right z (by omega)
 have hU:=Upd.setCells b (ys.flatten.map valC) (o+lo*z) w
 obtain⟨z1,z2,z3,z4⟩:=setCells_size b (ys.flatten.map valC) (o+lo*z) w
 have hlen:(ovr xs ys lo).length=xs.length:=by simp [ovr];omega
 refine ⟨w.setCells b (o+lo*z) (ys.flatten.map valC),?_,hU.blk _ _ hok,?_,hlen,by rw [List.length_map] at hU;exact hU,z1,z2,z3,z4⟩
 ·have:=run_storeCells_cells (P:=P) b (o+lo*z) (ys.flatten.map valC) 0 w (fun j hj=>by
   have:=hok.cell (lo*z+j) (by rw [List.length_map] at hj;omega)
   rw [Nat.add_zero];rwa [←Nat.add_assoc] at this) (fun j hj=>by
   have:=hok.frozen (lo*z+j) (by rw [List.length_map] at hj;omega)
   rw [Nat.add_zero];rwa [←Nat.add_assoc] at this) (fun v hv=>by
   obtain⟨c,hc,rfl⟩:=List.mem_map.1 hv
   obtain⟨r,hr,hcr⟩:=List.mem_flatten.1 hc
   have hs:=hsy r hr
   refine val_one ?_
   have:∀ (r:List V),scals r=true→∀c∈r,scal c=true:=by
    intro r
    induction r with
    | nil=>intro _ c hc;cases hc
    | cons d r ih =>
     intro h c hc
     simp only [scals,Bool.and_eq_true] at h
     rcases List.mem_cons.1 hc with rfl | hc
     ·exact h.1
     ·exact ih h.2 c hc
   exact this r hs c hcr)
  rwa [Nat.add_zero] at this
 ·have hso:∀r∈ovr xs ys lo,scals r=true:=by
   intro r hr
   simp only [ovr,List.mem_append] at hr
   rcases hr with (hr | hr) | hr
   ·exact hsx r (List.mem_of_mem_take hr)
   ·exact hsy r hr
   ·exact hsx r (List.mem_of_mem_drop hr)
  have hlo:∀r∈ovr xs ys lo,r.length=z:=by
   intro r hr
   simp only [ovr,List.mem_append] at hr
   rcases hr with (hr | hr) | hr
   ·exact k1 r (List.mem_of_mem_take hr)
   ·exact hwy r hr
   ·exact k1 r (List.mem_of_mem_drop hr)
  refine RepRows.mono _ _ _ _ _ _ (fun _ h=>h.elim) (vals_rows (ovr xs ys lo) o hso hlo (fun j c hj=>?_))
  have hflat:(ovr xs ys lo).flatten=xs.flatten.take (lo*z)++ys.flatten++xs.flatten.drop ((lo+ys.length)*z):=by
   simp only [ovr,List.flatten_append,flat_take xs lo k1,flat_drop xs _ k1]
  rw [hflat] at hj
  have htl:(xs.flatten.take (lo*z)).length=lo*z:=by
   rw [List.length_take,hxl]
   have:=Nat.mul_le_mul_right z (show lo≤xs.length by omega)
   omega
  by_cases h1:j<lo*z
  ·rw [List.getElem?_append_left (by rw [List.length_append,htl];omega),List.getElem?_append_left (by omega),List.getElem?_take,if_pos h1] at hj
   rw [hU.cell (o+j) (by omega)]
   exact k2 j c hj
  ·by_cases h2:j<lo*z+ys.flatten.length
   ·rw [List.getElem?_append_left (by rw [List.length_append,htl];omega),List.getElem?_append_right (by omega),htl] at hj
    have hjl:j-lo*z<(ys.flatten.map valC).length:=by rw [List.length_map];omega
    have:=World.cell?_setCells_in b (ys.flatten.map valC) (o+lo*z) w (fun i hi=>by
     have:=hok.cell (lo*z+i) (by rw [List.length_map] at hi;omega)
     rwa [←Nat.add_assoc] at this) (j-lo*z) hjl
    rw [show o+lo*z+(j-lo*z)=o+j by omega] at this
    rw [this,List.getElem_map]
    obtain⟨hlt,e⟩:=List.getElem?_eq_some_iff.1 hj
    rw [e]
   ·rw [List.getElem?_append_right (by rw [List.length_append,htl];omega),List.length_append,htl,List.getElem?_drop] at hj
    rw [hU.cell (o+j) (by rw [List.length_map];omega)]
    refine k2 j c ?_
    rw [←hj]
    congr 1
    rw [hfl,Nat.add_mul]
    have:lo*z+ys.length*z≤j:=by rw [←hfl];omega
    omega
/-- The cells of a slice of plain rows, wherever it lies. -/
theorem src_cells{w:World}{Sh T:Nat→Prop}{md f:Fl}{z:Nat}{ys:List (List V)}{v:Value}(hs:∀r∈ys,scals r=true)(h:RepC w Sh md (.sl f z ys) v T) :
  ∃al n cc,v=.slice al n cc∧n=ys.length∧(al=none→ys=[])∧∀a,al=some a→∀j c,ys.flatten[j]?=some c→w.cell? (a.add j)=some (valC c):=by
 rcases h.hdr with ⟨⟨al,rfl⟩,rfl⟩ | ⟨b,o,c,rfl,h1,h2,T',hr⟩
 ·exact ⟨al,0,0,rfl,rfl,fun _=>rfl,fun a _ j c hj=>by simp at hj⟩
 ·refine ⟨some ⟨b,o,none⟩,ys.length,c,rfl,rfl,(fun e=>?_),fun a e j cc hj=>?_⟩
  ·cases e
  injection e with e
  subst e
  rw [Addr.add_lit]
  exact (rows_vals ys o T' hs hr).2 j cc hj
theorem GOk.frame2{c:Cx}{w w':World}{Sh:Nat→Prop}{ow:Nat→Slot}{g:Nat}{row:List V}(hS:∀b,Sh b→w'.heap[b]?=w.heap[b]?)(hO:∀b,(ow b=.gb g∨ow b=.gc g)→w'.heap[b]?=w.heap[b]?)
  (h:GOk c w Sh ow g row):GOk c w' Sh ow g row:=by
 rcases h with h | h
 ·exact .inl h
 refine .inr ?_
 unfold GOkN at h ⊢
 split at h
 ·obtain⟨h1,h2,h3,h4,h5,h6⟩:=h
  refine ⟨h1,h2,h3,h4,h5.frame (hO _ (.inl h3)),RepRow.frame hS _ _ _ _ _ (fun b hb=>hO b (.inr hb)) (fun j _=>cell_of_heap (hO _ (.inl h3)) _) h6⟩
 ·obtain⟨h1,f,z,xs,h2,h3⟩:=h
  exact ⟨h1,f,z,xs,h2,RepC.frame hS _ _ _ _ (fun b hb=>hO b (.inr hb)) h3⟩
 ·rcases h with h | ⟨h1,h2⟩
  ·exact .inl h
  ·exact .inr ⟨h1,RepRow.frame hS _ _ _ _ _ (fun _ h=>h.elim) (fun j _=>cell_of_heap (hS _ h1) _) h2⟩
 ·rcases h with h | ⟨cl,h1,h2⟩
  ·exact .inl h
  ·exact .inr ⟨cl,h1,RepC.frame hS _ _ _ _ (fun _ h=>h.elim) h2⟩
section
variable {E:Env} {c:Cx} {S:St} {a:Act} {w:World} {G:Gh}
/-- Content of a temporary is written over with plain cells: nothing else changes. -/
theorem Rel.over(h:Rel c S a w G){s z:Nat}{xs xs':List (List V)}{w':World}{b lo n:Nat}(hs:S.t[s]?=some (.sl .own z xs))(hb:G.ow b=.tm s)(hU:Upd w w' b lo n)
  (hpl:∀j,lo≤j→j<lo+n→∀v,w.cell? ⟨b,j,none⟩=some v→isSliceV v=false) (hr:RepC w' G.Sh .own (.sl .own z xs') (a.tmps.getD s undef) (fun b=>G.ow b=.tm s)) (hnb:¬G.Sh b)
  (h0:w'.heap.size=w.heap.size) (h1:w'.os=w.os) (h2:w'.tape=w.tape) (h3:w'.output=w.output):Rel c { S with t:=S.t.set s (.sl .own z xs') } a w' G:=by
 have hS:∀x,G.Sh x→w'.heap[x]?=w.heap[x]?:=fun x hx=>hU.heap x (fun e=>hnb (e▸hx))
 have hsl:∀ad v,w.cell? ad=some v→isSliceV v=true→w'.cell? ad=some v:=by
  intro ad v hv hi
  obtain⟨b',o',sp⟩:=ad
  by_cases e:b'=b
  ·subst e
   cases sp with
   | none =>
    by_cases hj:lo≤o'∧o' < lo+n
    ·rw [hpl o' hj.1 hj.2 v hv] at hi;cases hi
    ·rw [hU.cell o' hj];exact hv
   | some sp =>
    exfalso
    simp only [World.cell?] at hv
    cases hh:w.heap[b']? with
    | none=>rw [hh] at hv;cases hv
    | some ob=>rw [hh] at hv;cases ob <;> simp at hv
  ·have:=hU.heap b' e
   simp only [World.cell?] at hv ⊢
   rw [this];exact hv
 have hne:∀x s',G.ow x=s'→s'≠.tm s→w'.heap[x]?=w.heap[x]?:=fun x s' hx hn=>hU.heap x (fun e=>hn (by rw [←hx,e,hb]))
 refine ⟨by simpa using h.tl,h.df,?_,?_,?_,?_,fun b hb=>by rw [h0];exact h.ob b hb,fun b hb=>by rw [h0];exact h.sb b hb,h.s0,?_,by rw [h0];exact h.sz,h1.trans h.eos,h2.trans h.etape,h3.trans h.eout⟩
 ·intro t v ht
  simp only at ht
  by_cases e:t=s
  ·subst e
   simp only [List.getElem?_set] at ht
   simp at ht
   obtain⟨_,rfl⟩:=ht
   exact hr
  ·rw [List.getElem?_set_ne (Ne.symm e)] at ht
   exact RepT.frame hS hsl v _ _ (fun x hx=>hne x _ hx (by simpa using e)) (h.tm t v ht)
 ·intro t f z' ys ht
  simp only at ht
  by_cases e:t=s
  ·subst e
   exact h.tv t .own z xs hs
  ·rw [List.getElem?_set_ne (Ne.symm e)] at ht
   exact h.tv t f z' ys ht
 ·intro t row ht hr
  obtain⟨k1,k2,k3,k4⟩:=h.mb t row ht hr
  have e:=hne _ _ k1 (by simp)
  exact ⟨k1,k2,k3.frame e,RepRow.frame hS _ _ _ _ _ (fun x hx=>hne x _ hx (by simp)) (fun j _=>cell_of_heap e _) k4⟩
 ·intro g row hg
  exact GOk.frame2 hS (fun x hx=>hne x _ rfl (by rcases hx with e | e <;> rw [e] <;> simp)) (h.gb g row hg)
 ·intro x q1 q2
  rw [hU.heap x ?_]
  ·exact h.fr x q1 q2
  ·rintro rfl
   have:=(h.ob x (by rw [hb];simp)).2
   rcases this with e | e
   ·omega
   ·exact q2 e
theorem scal_flat{xs:List (List V)}(hs:∀r∈xs,scals r=true):∀c∈xs.flatten,scal c=true:=by
 intro c hc
 obtain⟨r,hr,hcr⟩:=List.mem_flatten.1 hc
 have:∀ (r:List V),scals r=true→∀c∈r,scal c=true:=by
  intro r
  induction r with
  | nil=>intro _ c hc;cases hc
  | cons d r ih =>
   intro h c hc
   simp only [scals,Bool.and_eq_true] at h
   rcases List.mem_cons.1 hc with rfl | hc
   ·exact h.1
   ·exact ih h.2 c hc
 exact this r (hs r hr) c hcr
theorem val_nsl{c:V}(hs:scal c=true):isSliceV (valC c)=false:=by
 cases c with
 | b _=>rfl
 | i _ _=>rfl
 | s _=>rfl
 | _=>cases hs
theorem copy_rel(hE:EnvOk E)(h:Rel c S a w G){t t2 e s z o:Nat}{u:Option (Int × Int)}{xs ys:List (List V)}{vx vy:Value}{T0 T:Nat→Prop}{md f:Fl}{z2:Nat}{ty:TypeId}
  (hkt:(E.ti t).k=.slice e) (hkn:kn (E.ti e).k=true) (hz:z=(E.ti e).sz) (hx:RepT w G.Sh (Ar.rho c G) (.rf ⟨.tp s,[],o⟩ z u) vx T0) (hs:S.t[s]?=some (.sl .own z xs)) (hy:RepC w G.Sh md (.sl f z2 ys) vy T)
  (hsx:∀r∈xs,scals r=true) (hsy:∀r∈ys,scals r=true) (hwy:∀r∈ys,r.length=z) :
  ∃w',(Builtin.copy_ #[t,t2] ty #[vx,vy]).run E.P w=.ok (.int .i64 (cpnF u xs ys)) w'∧Rel c { S with t:=S.t.set s (.sl .own z (cpyF u xs ys)) } a w' G:=by
 have hu:=(hE t (by rw [hkt];rfl)).und
 rw [hkt] at hu
 have hu:E.P.underlying t=some (.slice e):=hu
 obtain⟨xi,zv,i1,i2,_⟩:=(hE e hkn).info
 have hr:=h.tm s _ hs
 have htv:=h.tv s .own z xs hs
 simp only [RepT] at hx
 obtain⟨src,s',hv,hsrc,hres,hcell,hsub⟩:=hx
 simp only [Ar.rho,Option.some.injEq] at hsrc
 subst hsrc
 simp only [res,Option.some.injEq] at hres
 subst hres
 obtain rfl:G.tv s=hv:=by
  simp only [Sr.cell] at hcell
  split at hcell
  ·simpa using hcell
  ·cases hcell
 rw [←htv] at hsub
 have hr:RepC w G.Sh .own (.sl .own z xs) (a.tmps.getD s undef) (fun b=>G.ow b=.tm s):=hr
 -- the source
 obtain⟨al,n2,cc2,rfl,rfl,hal,hcs⟩:=src_cells hsy hy
 have hfc:∀m,m≤ys.length→(Builtin.firstCells (E.ti e).sz m (.slice al ys.length cc2)).run E.P w=.ok ((ys.take m).flatten.map valC).toArray w:=by
  intro m hm
  cases al with
  | none =>
   rw [hal rfl]
   simpa using run_firstCells_none (P:=E.P) (w:=w) _ _ _ _
  | some ad =>
   refine run_firstCells_some w _ _ _ _ _ _ ?_ (fun j v hj=>?_)
   ·rw [List.length_map,flat_length (z:=z) _ (fun r hr=>hwy r (List.mem_of_mem_take hr)),List.length_take,Nat.min_eq_left hm,hz]
   ·rw [List.getElem?_map] at hj
    cases hcj:(ys.take m).flatten[j]? with
    | none=>rw [hcj] at hj;cases hj
    | some cj =>
     rw [hcj] at hj
     simp only [Option.map_some,Option.some.injEq] at hj
     subst hj
     refine hcs ad rfl j cj ?_
     rw [flat_take (z:=z) _ _ hwy] at hcj
     rw [List.getElem?_take] at hcj
     split at hcj
     ·exact hcj
     ·cases hcj
 have hcopy:∀ (base:Option Addr) (dl dc:Nat) (w':World),vx=.slice base dl dc→(match base with | some ad=>storeCells ad ((ys.take (min ys.length dl)).flatten.map valC) | none=>pure ()).run E.P w=.ok () w' →
   (Builtin.copy_ #[t,t2] ty #[vx,.slice al ys.length cc2]).run E.P w=.ok (.int .i64 (min ys.length dl:Nat)) w':=by
  intro base dl dc w' hvx hst
  subst hvx
  have hfc':=hfc (Nat.min ys.length dl) (Nat.min_le_left _ _)
  have hmm:min ys.length dl=Nat.min ys.length dl:=rfl
  rw [hmm] at hst ⊢
  rw [←i2] at hfc'
  cases base with
  | none =>
   simp only [Sem.run_pure,Result.ok.injEq,true_and] at hst
   subst hst
   simp [Builtin.copy_,run_underlying hu,Builtin.lenOf,sizeOf,typeInfo,i1,goInt]
   rw [hfc']
   simp
  | some ad =>
   simp only at hst
   simp [Builtin.copy_,run_underlying hu,Builtin.lenOf,sizeOf,typeInfo,i1,goInt]
   rw [hfc']
   simp only [Result.andThen_ok,List.toList_toArray]
   rw [hst]
   simp
 have hcpn:∀dl,vln u xs.length=dl→cpnF u xs ys=((min ys.length dl:Nat):Int):=fun dl e=>by rw [cpnF,e]
 have htk:∀dl,ys.take (min ys.length dl)=ys.take dl:=fun dl=>by
  rw [←List.take_take,List.take_of_length_le (by rw [List.length_take];omega)]
 have hnone:∀ (base:Option Addr) (dc:Nat),vx=.slice base 0 dc→vln u xs.length=0→∃w',(Builtin.copy_ #[t,t2] ty #[vx,.slice al ys.length cc2]).run E.P w=.ok (.int .i64 (cpnF u xs ys)) w'∧Rel c { S with t:=S.t.set s (.sl .own z (cpyF u xs ys)) } a w' G:=by
  intro base dc hvx hv0
  refine ⟨w,?_,?_⟩
  ·rw [hcpn 0 hv0]
   refine hcopy base 0 dc w hvx ?_
   cases base <;> simp [storeCells]
  ·have:cpyF u xs ys=xs:=by simp [cpyF,ovr,hv0]
   rw [this]
   have:S.t.set s (.sl .own z xs)=S.t:=List.ext_getElem? fun j=>by
    rw [List.getElem?_set]
    split
    ·rename_i e;subst e;rw [hs];simp [(List.getElem?_eq_some_iff.1 hs).1]
    ·rfl
   rw [this]
   exact h
 have hr':=hr
 simp only [RepC] at hr'
 rcases hr' with ⟨⟨al',hnil⟩,rfl⟩ | ⟨b,o',cp,hhv,hlc,hcm,hr'⟩
 ·-- nothing to write to
  have hdl:∃base dc,vx=.slice base 0 dc:=by
   rw [hnil] at hsub
   unfold subV at hsub
   split at hsub
   ·obtain⟨rfl,_⟩:=hsub;exact ⟨_,_,rfl⟩
   ·rcases hsub with ⟨_,al'',rfl⟩ | ⟨b,o2,len,cap,mm,q1,q2,q3,q4,hm1,hm2,rfl⟩
    ·exact ⟨_,_,rfl⟩
    ·injection q1 with q1 q5 q6
     subst q5
     exact ⟨_,_,by rw [show _-_=0 by omega]⟩
  obtain⟨base,dc,hvx⟩:=hdl
  exact hnone base dc hvx (by cases u with | none=>rfl | some q=>simp [vln])
 ·rcases hr' with ⟨hm,_⟩ | ⟨hm,_⟩ | ⟨_,hTb,hnb,hok,hrows⟩
  ·cases hm
  ·cases hm
  ·rw [hhv] at hsub
   have hbx:∃base dl dc,vx=.slice base dl dc∧vln u xs.length=dl∧(dl≠0→base=some ⟨b,o' + vlo u*z,none⟩∧vlo u+dl≤xs.length):=by
    unfold subV at hsub
    split at hsub
    ·obtain⟨rfl,_⟩:=hsub
     exact ⟨_,_,_,rfl,rfl,fun _=>⟨by simp [vlo],by simp [vlo,vln]⟩⟩
    ·rename_i lo hi
     rcases hsub with ⟨⟨al'',q⟩,al3,rfl⟩ | ⟨b2,o2,len,cap,mm,q1,q2,q3,q4,hm1,hm2,rfl⟩
     ·injection q with q1 q2 q3
      exact ⟨_,_,_,rfl,by rw [q2];simp [vln],fun hh=>absurd rfl hh⟩
     ·injection q1 with q1 q5 q6
      injection q1 with q1
      injection q1 with q7 q8
      subst q5 q6 q7 q8
      refine ⟨_,_,_,rfl,by simp only [vln];omega,fun hne=>⟨?_,by simp only [vlo];omega⟩⟩
      rw [if_neg (by omega)]
      rfl
   obtain⟨base,dl,dc,hvx,hvl,hb⟩:=hbx
   by_cases hd0:dl=0
   ·subst hd0
    exact hnone base dc hvx hvl
   ·obtain⟨rfl,hlo⟩:=hb hd0
    have hys:(ys.take (min ys.length dl)).length≤dl:=by rw [List.length_take];omega
    obtain⟨w',k1,k2,k3,k4,k5,k6,k7,k8,k9⟩:=over_rows (P:=E.P) (lo:=vlo u) (ys:=ys.take (min ys.length dl)) hsx (fun r hr=>hsy r (List.mem_of_mem_take hr)) (fun r hr=>hwy r (List.mem_of_mem_take hr)) hTb hnb hlc hok hrows (by omega)
    refine ⟨w',?_,?_⟩
    ·rw [hcpn dl hvl]
     exact hcopy _ dl dc w' hvx k1
    ·have hc:cpyF u xs ys=ovr xs (ys.take (min ys.length dl)) (vlo u):=by rw [cpyF,hvl,htk]
     rw [hc]
     obtain⟨e1,e2⟩:=rows_vals xs o' _ hsx hrows
     have hxl:=flat_length xs e1
     have hyl:=flat_length (z:=z) (ys.take (min ys.length dl)) (fun r hr=>hwy r (List.mem_of_mem_take hr))
     have hbd:vlo u*z+(ys.take (min ys.length dl)).flatten.length≤xs.flatten.length:=by
      rw [hyl,hxl,←Nat.add_mul]
      exact Nat.mul_le_mul_right z (by omega)
     refine h.over hs hTb k5 (fun j q1 q2 v hv=>?_) ?_ hnb k6 k7 k8 k9
     ·have hj:j-o' < xs.flatten.length:=by omega
      have:=e2 (j-o') _ (List.getElem?_eq_getElem hj)
      rw [show o' + (j-o')=j by omega,hv] at this
      injection this with this
      rw [this]
      exact val_nsl (scal_flat hsx _ (List.getElem_mem hj))
     ·rw [hhv]
      simp only [RepC]
      exact .inr ⟨b,o',cp,by rw [k4],by rw [k4];exact hlc,hcm,.inr (.inr ⟨rfl,hTb,hnb,k2,k3⟩)⟩
/-- What may be copied. -/
noncomputable def CpOk:Nat→List (List V)→List (List V)→Prop:=Classical.choose (kp fun(z:Nat) (xs ys:List (List V))=>(∀r∈xs,scals r=true)∧(∀r∈ys,scals r=true)∧∀r∈ys,r.length=z)
theorem CpOk_eq{z:Nat}{xs ys:List (List V)}:CpOk z xs ys=((∀r∈xs,scals r=true)∧(∀r∈ys,scals r=true)∧∀r∈ys,r.length=z):=by
 unfold CpOk;rw [Classical.choose_spec (kp fun(z:Nat) (xs ys:List (List V))=>(∀r∈xs,scals r=true)∧(∀r∈ys,scals r=true)∧∀r∈ys,r.length=z)]
noncomputable def copyQ(E:Env)(st:St)(ts:List Nat)(args:List Operand)(K:Nat→V→V→Prop):Prop :=
 match ts,args with
 | [t,_],[x,y] =>
  (match (E.ti t).k with
  | .slice e =>
   (match ev st x with
   | .rf ⟨.tp s,[],_⟩ z u =>
    (match st.t.getD s .un with
    | .sl .own z' xs=>bif kn (E.ti e).k && (Nat.beq z' z && Nat.beq z (E.ti e).sz) then slK E st (ev st y) fun ys=>CpOk z xs ys∧K s (.sl .own z (cpy u xs ys)) (.i .i64 (cpn u xs ys)) else False
    | _=>False)
   | _=>False)
  | _=>False)
 | _,_=>False
theorem copyQ_sound(hE:EnvOk E)(hfit:Fit E c)(h:Rel c S a w G){o:Oper}{args:Array Operand}{ts:Array TypeId}(ho:o.op=.call { callee:=.builtin .copy,args:=args,argTypes:=ts }){K:Nat→V→V→Prop}(hk:copyQ E S ts.toList args.toList K) :
  ∃ (s:Nat) (x:V) (n:Int) (w':World),K s x (.i .i64 n)∧S.t.getD s .un≠.un∧(execOp a.eval o).run E.P w=.ok (.value (.int .i64 n)) w'∧∀S',Rel c S' a w G→S'.t.getD s .un=S.t.getD s .un→Rel c { S' with t:=S'.t.set s x } a w' G:=by
 unfold copyQ at hk
 split at hk
 ·rename_i t t2 x y e1 e2
  have e1:ts = #[t,t2]:=Array.ext' (by simpa using e1)
  have e2:args = #[x,y]:=Array.ext' (by simpa using e2)
  subst e1 e2
  split at hk
  ·rename_i e hkt
   split at hk
   ·rename_i s o' z u hgx
    split at hk
    ·rename_i z' xs hgs
     cases hc:kn (E.ti e).k && (Nat.beq z' z && Nat.beq z (E.ti e).sz) with
     | false=>rw [hc] at hk;exact hk.elim
     | true =>
      rw [hc] at hk
      simp only [cond_true] at hk
      simp only [Bool.and_eq_true] at hc
      obtain⟨hkn,hb1,hb2⟩:=hc
      have hz1:=Nat.eq_of_beq_eq_true hb1
      have hz2:=Nat.eq_of_beq_eq_true hb2
      subst hz1
      obtain⟨Tx,hx⟩:=h.ev x
      obtain⟨Ty,hy⟩:=h.ev y
      rw [hgx] at hx
      obtain⟨md,f,z2,ys,T,⟨k1,k2⟩,k3⟩:=slK_sound2 h hfit hy hk
      rw [CpOk_eq] at k1
      rw [cpn_eq,cpy_eq] at k2
      obtain⟨w',q1,q2⟩:=copy_rel (t2:=t2) (ty:=o.type) hE h hkt hkn hz2 hx (getD_some hgs (by simp)) k3 k1.1 k1.2.1 k1.2.2
      refine ⟨s,_,_,w',k2,by rw [hgs];simp,?_,fun S' hS' he=>?_⟩
      ·simp [execOp,ho,resolve,invoke,builtin,q1]
      ·rw [hgs] at he
       obtain⟨w2,q3,q4⟩:=copy_rel (t2:=t2) (ty:=o.type) hE hS' hkt hkn hz2 hx (getD_some he (by simp)) k3 k1.1 k1.2.1 k1.2.2
       rw [q1] at q3
       injection q3 with _ q3
       subst q3
       exact q4
    ·exact hk.elim
   ·exact hk.elim
  ·exact hk.elim
 ·exact hk.elim
/-! ### A literal's bytes, turned into their own type: the block gets a mark behind its cells -/
theorem Upd.freeze{w:World}{b n:Nat}(hsz:∀cur e fz,w.heap[b]?=some (.cells cur e fz)→cur.size=n):Upd w (w.freeze ⟨b,n,none⟩ 1) b 0 0:=by
 unfold World.freeze
 rw [if_neg (by decide)]
 refine ⟨fun x hx=>?_,fun j _=>?_,fun o m h=>?_⟩
 ·simp only [Array.getElem?_modify]
  rw [if_neg (fun e=>hx e.symm)]
 ·simp only [World.cell?,Array.getElem?_modify,if_pos]
  cases hh:w.heap[b]? with
  | none=>simp
  | some ob=>cases ob <;> simp
 ·obtain⟨cur,e,fz,h1,h2,h3⟩:=h
  have hn:=hsz _ _ _ h1
  obtain⟨lo,hi⟩:=fz
  have e1:(w.heap.modify b fun | .cells c elem (lo,hi)=>Obj.cells c elem (if lo == hi then (n,n+1) else (min lo n,max hi (n+1))) | o=>o)[b]? =
    some (.cells cur e (if lo == hi then (n,n+1) else (min lo n,max hi (n+1)))):=by
   simp [Array.getElem?_modify,h1]
  refine ⟨cur,e,_,e1,h2,?_⟩
  dsimp only at h3
  split
  ·exact .inr (by omega)
  ·rename_i hne
   have hne:lo≠hi:=by simpa using hne
   rcases h3 with h3 | h3
   ·exact absurd h3 hne
   ·right
    show cur.size≤min lo n
    omega
theorem freeze_size(w:World)(ad:Addr)(n:Nat):(w.freeze ad n).heap.size=w.heap.size∧(w.freeze ad n).os=w.os∧(w.freeze ad n).tape=w.tape∧(w.freeze ad n).output=w.output:=by
 unfold World.freeze
 split
 ·exact ⟨rfl,rfl,rfl,rfl⟩
 ·exact ⟨by simp,rfl,rfl,rfl⟩
def isSk:TK→Bool
 | .slice _=>true
 | _=>false
noncomputable def cvM(E:Env)(st:St)(t:Nat)(x:Operand)(K:V→St→Prop):Prop :=
 match (E.ti t).k,x with
 | .slice e,.tmp s=>(match (E.ti e).k,st.t.getD s .un with
  | .int .u8,.sl .own z (r::rs)=>coA E st x K
  | _,_=>False)
 | _,_=>False
theorem cvM_sound{o:Oper}{t:Nat}{x:Operand}(hE:EnvOk E)(hfit:Fit E c)(ho:o.op=.convert t t x):OpS E c o fun st K=>cvM E st t x fun v st'=>K (pu st' o.dst v):=by
 intro st a w G K N Q h hk hN
 unfold cvM at hk
 split at hk
 ·rename_i e s hkt
  have hu:=(hE t (by rw [hkt];rfl)).und
  rw [hkt] at hu
  have hu:E.P.underlying t=some (.slice e):=hu
  split at hk
  ·rename_i z r rs hke hgs
   have hue:=(hE e (by rw [hke];rfl)).und
   rw [hke] at hue
   have hue:E.P.underlying e=some (.int .u8):=hue
   have hs:st.t[s]?=some (.sl .own z (r::rs)):=getD_some hgs (by simp)
   have hrep:=h.tm s _ hs
   have hev:a.eval (.tmp s)=a.tmps.getD s undef:=rfl
   simp only [RepT,RepC] at hrep
   rcases hrep with ⟨_,he⟩ | ⟨b,o',cp,hhv,hlc,hcm,hr'⟩
   ·cases he
   rcases hr' with ⟨hm,_⟩ | ⟨hm,_⟩ | ⟨_,hTb,hnb,hok,hrows⟩
   ·cases hm
   ·cases hm
   obtain⟨cur,e',fz,hb1,hb2,hb3⟩:=id hok
   have hsh:w.shape? b=some (e',cur.size):=by unfold World.shape?;rw [hb1]
   have hU:Upd w (w.freeze ⟨b,cur.size,none⟩ 1) b 0 0:=Upd.freeze fun cur2 e2 fz2 hh=>by rw [hb1] at hh;cases hh;rfl
   obtain⟨z1,z2,z3,z4⟩:=freeze_size w ⟨b,cur.size,none⟩ 1
   have hRel:Rel c { st with t:=st.t.set s (.sl .own z (r::rs)) } a (w.freeze ⟨b,cur.size,none⟩ 1) G:=by
    refine h.over hs hTb hU (fun j h1 h2=>by omega) ?_ hnb z1 z2 z3 z4
    simp only [RepC]
    refine .inr ⟨b,o',cp,hhv,hlc,hcm,.inr (.inr ⟨rfl,hTb,hnb,hU.blk _ _ hok,?_⟩)⟩
    exact RepRows.frame (fun x hx=>hU.heap x (fun e=>hnb (e▸hx))) .own z _ b o' _ (fun x hx=>hU.heap x hx.2) (fun j _=>hU.cell _ (by omega)) hrows
   have hst:({ st with t:=st.t.set s (.sl .own z (r::rs)) }:St)=st:=by
    have:st.t.set s (.sl .own z (r::rs))=st.t:=List.ext_getElem? fun j=>by
     rw [List.getElem?_set]
     split
     ·rename_i e;subst e;rw [hs];simp [(List.getElem?_eq_some_iff.1 hs).1]
     ·rfl
    rw [this]
   rw [hst] at hRel
   obtain⟨st',G',k1,k2⟩:=(coA_sound hfit hRel hk).put
   refine wp_value (v:=a.eval (.tmp s)) (w':=w.freeze ⟨b,cur.size,none⟩ 1) ?_ (hN _ _ _ _ k1 k2)
   simp [execOp,ho,convert,run_underlying hu,run_underlying hue,hev,hhv,markStringish,hsh]
  ·exact hk.elim
 ·exact hk.elim
end
end Go.Ar
