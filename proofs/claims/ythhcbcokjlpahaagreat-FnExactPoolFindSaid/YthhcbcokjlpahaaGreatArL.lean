import Derived.Test.YthhcbcokjlpahaaGreatArK
import Derived.Deep.Upon
namespace Go.Ar
set_option linter.unusedVariables false
set_option linter.unusedSimpArgs false
/-! ### append, of values -/
theorem RepRows.app{w:World}{Sh:Nat→Prop}{md:Fl}{z b:Nat}{ys:List (List V)}{T2:Nat→Prop}:∀ (xs:List (List V)) (o:Nat) (T1:Nat→Prop),RepRows w Sh md z xs b o T1→RepRows w Sh md z ys b (o+xs.length*z) T2→(∀x,T1 x→¬T2 x) →
  RepRows w Sh md z (xs++ys) b o (fun x=>T1 x∨T2 x)
 | [],o,T1,_,h2,_=>by
  simp only [List.length_nil,Nat.zero_mul,Nat.add_zero] at h2
  exact RepRows.mono _ _ _ _ _ _ (fun _ h=>.inr h) h2
 | r::rs,o,T1,h,h2,hd=>by
  simp only [RepRows] at h
  obtain⟨hl,S1,S2,k1,k2,d1,d2⟩:=h
  have:=RepRows.app rs (o+z) S2 k2 (by simp only [List.length_cons,Nat.succ_mul] at h2;rwa [show o+z+rs.length*z=o+(rs.length*z+z) by omega]) (fun x hx=>hd x (d2 x hx))
  simp only [List.cons_append,RepRows]
  exact ⟨hl,S1,_,k1,this,fun x hx=>⟨.inl (d1 x hx).1,fun hh=>hh.elim (d1 x hx).2 (hd x (d1 x hx).1)⟩,fun x hx=>hx.imp (d2 x) id⟩
/-- What becomes of the world: the blocks of T1 may be written, new ones may come. -/
structure Wr (w w':World) (T1:Nat→Prop):Prop where
 heap:∀b,b<w.heap.size→¬T1 b→w'.heap[b]?=w.heap[b]?
 size:w.heap.size≤w'.heap.size
 os:w'.os=w.os
 tape:w'.tape=w.tape
 output:w'.output=w.output
 or:RowKit.Below w.heap.size w w'∨∀x,¬T1 x→w'.heap[x]?=w.heap[x]?
theorem app_run{E:Env}{w:World}{Sh T1 T2:Nat→Prop}{t tx ty e:Nat}(hu:E.P.underlying t=some (.slice e))(hT:TOk E.P e (E.ti e)){xs ys:List (List V)}{vx x:Value}{news:List Value}
  (hSs:∀b,Sh b→b<w.heap.size) (h1s:∀b,T1 b→b<w.heap.size) (h2s:∀b,T2 b→b<w.heap.size)
  (hx:RepC w Sh .own (.sl .own (E.ti e).sz xs) vx T1) (hs:Src E.P (E.ti e).sz tx x ys.length news w) (hy:RepCs w Sh ys.flatten news T2) (hyz:∀r∈ys,r.length=(E.ti e).sz)
  (hd:∀b,T1 b→¬T2 b) (hroom:((xs.length+ys.length:Nat):Int)*((E.ti e).by_:Int)≤140737488355328) (hr2:xs.length+ys.length≤140737488355328) :
  ∃r w' T',(Builtin.append_ #[t,tx] ty #[vx,x]).run E.P w=.ok r w'∧RepC w' Sh .own (.sl .own (E.ti e).sz (xs++ys)) r T'∧(∀b,T' b→T1 b∨T2 b∨w.heap.size≤b)∧(∀b,T' b→b<w'.heap.size)∧∃Tb:Nat→Prop,Wr w w' Tb∧∀b,Tb b→T1 b∧¬Sh b:=by
 obtain⟨xi,z,i1,i2,i3,i4,i5,i6,i7,i8⟩:=hT.info
 have hroom':(xs.length+ys.length)*(E.ti e).by_≤140737488355328:=by
  rw [←Int.natCast_mul] at hroom;omega
 have hnl:news.length=ys.length*(E.ti e).sz:=hs.newsLen
 have grow:∀ (base:Option Addr) (sLen sCap:Nat) (olds:List Value),(Builtin.firstCells (E.ti e).sz sLen (.slice base sLen sCap)).run E.P w.drew=.ok olds.toArray w.drew→sLen=xs.length→sCap<sLen+ys.length →
   RepCs w Sh xs.flatten olds T1→(∀r∈xs,r.length=(E.ti e).sz)→vx=.slice base sLen sCap →
   ∃r w' T',(Builtin.append_ #[t,tx] ty #[vx,x]).run E.P w=.ok r w'∧RepC w' Sh .own (.sl .own (E.ti e).sz (xs++ys)) r T'∧(∀b,T' b→T1 b∨T2 b∨w.heap.size≤b)∧(∀b,T' b→b<w'.heap.size)∧∃Tb:Nat→Prop,Wr w w' Tb∧∀b,Tb b→T1 b∧¬Sh b:=by
  intro base sLen sCap olds hold hsl hg ho hxz hv
  subst hsl hv
  have hfit:=growslice_fits hg hroom'
  have hrun:=run_append_grow_src w t tx ty e xi z hu i1 i4 base xs.length sCap olds (by rw [i2];exact hold) x ys.length news (by rw [i2];exact hs) hg (by omega) (by rw [i3];exact hfit)
  have hcap:xs.length+ys.length≤grownCap w (xs.length+ys.length) sCap e:=by unfold grownCap Question.cut;simp
  have hm:=grownCap_le_maxLen w (xs.length+ys.length) sCap e (by simp only [maxLen];omega)
  have hol:olds.length=xs.length*(E.ti e).sz:=by
   rw [←ho.len,List.length_flatten]
   have e2:xs.map List.length=List.replicate xs.length (E.ti e).sz:=by
    refine List.eq_replicate_iff.2 ⟨by simp,fun n hn=>?_⟩
    obtain⟨r,hr,rfl⟩:=List.mem_map.1 hn
    exact hxz r hr
   rw [e2,List.sum_replicate_nat]
  have hzs:(Builtin.zeroCells z.cells (grownCap w (xs.length+ys.length) sCap e-(xs.length+ys.length))).size=(grownCap w (xs.length+ys.length) sCap e-(xs.length+ys.length))*(E.ti e).sz:=by
   simp [Builtin.zeroCells,i5]
  have hj:=RepCs.join hy _ _ _ ho hd
  have hrep:=fresh_row (w:=w) (w':=w.drew.alloc (.cells ((olds++news).toArray++Builtin.zeroCells z.cells (grownCap w (xs.length+ys.length) sCap e-(xs.length+ys.length))) e)) (Sh:=Sh) (T:=fun b=>T1 b∨T2 b) (rows:=xs++ys) (vals:=olds++news) (z:=(E.ti e).sz) (e:=e) (fz:=(0,0)) (cc:=grownCap w (xs.length+ys.length) sCap e)
   hSs (fun b hb=>hb.elim (h1s b) (h2s b)) (by rw [List.flatten_append];exact hj) (fun r hr=>(List.mem_append.1 hr).elim (hxz r) (hyz r)) (alloc_at w.drew _) (.inl rfl) (fun b hb=>alloc_heap_lt w.drew _ _ hb)
   (fun j v hj=>by
    have hjl:=(List.getElem?_eq_some_iff.1 hj).1
    rw [Array.getElem?_append_left (by simpa using hjl)]
    simpa using hj)
   (by
    rw [Array.size_append,hzs]
    simp only [List.size_toArray,List.length_append,hol,hnl]
    rw [←Nat.add_mul,←Nat.add_mul]
    apply Nat.mul_le_mul_right;omega)
   (by rw [List.length_append];exact hcap) hm
  rw [List.length_append] at hrep
  refine ⟨_,_,_,hrun,hrep,fun b hb=>?_,fun b hb=>?_,fun _=>False,⟨fun b hb _=>alloc_heap_lt w.drew _ _ hb,by simp,rfl,rfl,rfl,.inl (((RowKit.Below.refl _ w).drew).alloc (Nat.le_refl _) _)⟩,fun _ h=>h.elim⟩
  ·rcases hb with rfl | hb | hb
   ·exact .inr (.inr (Nat.le_refl _))
   ·exact .inl hb
   ·exact .inr (.inl hb)
  ·have hsz:∀o,(w.drew.alloc o).heap.size=w.heap.size+1:=fun o=>by simp
   rw [hsz]
   rcases hb with rfl | hb | hb
   ·omega
   ·have:=h1s b hb;omega
   ·have:=h2s b hb;omega
 have hx':=hx
 simp only [RepC] at hx'
 rcases hx' with ⟨⟨al,rfl⟩,rfl⟩ | ⟨b,o,c,rfl,q1,q2,hx'⟩
 ·by_cases hn:ys=[]
  ·subst hn
   have hns:news=[]:=List.eq_nil_of_length_eq_zero (by simpa using hnl)
   subst hns
   have hrun:=run_append_nothing w t tx ty e xi hu i1 al 0 0 (Nat.le_refl _) x (by rw [i2];exact hs)
   exact ⟨_,_,T1,hrun,hx,fun b hb=>.inl hb,h1s,fun _=>False,⟨fun _ _ _=>rfl,Nat.le_refl _,rfl,rfl,rfl,.inr fun _ _=>rfl⟩,fun _ h=>h.elim⟩
  ·have hpos:0<ys.length:=List.length_pos_iff.2 hn
   have hfc:∀ (w:World),(Builtin.firstCells (E.ti e).sz 0 (.slice al 0 0)).run E.P w=.ok [].toArray w:=fun w=>by
    cases al with
    | none=>exact run_firstCells_none _ _ _ _ _
    | some a=>exact run_firstCells_some w _ _ _ _ _ [] (by simp) (fun j v h=>by simp at h)
   exact grow al 0 0 [] (hfc _) rfl (by simpa using hpos) trivial (by simp) rfl
 ·rcases hx' with ⟨hm,_⟩ | ⟨hm,_⟩ | ⟨_,h3,h4,h5,h6⟩
  ·cases hm
  ·cases hm
  by_cases hle:xs.length+ys.length≤c
  ·have hoff:o+xs.length*(E.ti e).sz+news.length≤o+c*(E.ti e).sz:=by
    have:=Nat.mul_le_mul_right (E.ti e).sz hle
    rw [Nat.add_mul] at this
    omega
   have hrun:=run_append_room_src w t tx ty e xi hu i1 b o xs.length c x ys.length news (by rw [i2];exact hs) hle
    (fun j hj=>by
     have:=h5.cell (xs.length*(E.ti e).sz+j) (by omega)
     rw [i2];rwa [Nat.add_assoc])
    (fun j hj=>by
     have:=h5.frozen (xs.length*(E.ti e).sz+j) (by omega)
     rw [i2];rwa [Nat.add_assoc])
   rw [i2] at hrun
   have hU:=Upd.setCells b news (o+xs.length*(E.ti e).sz) w
   obtain⟨z1,z2,z3,z4⟩:=setCells_size b news (o+xs.length*(E.ti e).sz) w
   have hS:∀x,Sh x→(w.setCells b (o+xs.length*(E.ti e).sz) news).heap[x]?=w.heap[x]?:=fun x hx=>hU.heap x (fun e=>h4 (e▸hx))
   refine ⟨_,_,(fun x=>T1 x∨T2 x),hrun,?_,fun b hb=>hb.imp id .inl,fun b hb=>by rw [z1];exact hb.elim (h1s b) (h2s b),fun b'=>b'=b,⟨fun b' _ hb'=>hU.heap b' hb',by rw [z1];exact Nat.le_refl _,z2,z3,z4,.inr fun b' hb'=>hU.heap b' hb'⟩,fun b' e=>e▸⟨h3,h4⟩⟩
   simp only [RepC]
   refine .inr ⟨b,o,c,by rw [List.length_append],by rw [List.length_append];exact hle,q2,.inr (.inr ⟨rfl,.inl h3,h4,hU.blk _ _ h5,?_⟩)⟩
   have hold:RepRows (w.setCells b (o+xs.length*(E.ti e).sz) news) Sh .own (E.ti e).sz xs b o (fun x=>T1 x∧x≠b) :=
    RepRows.frame hS _ _ _ _ _ _ (fun x hx=>hU.heap x hx.2) (fun j hj=>hU.cell _ (by omega)) h6
   have hnew:RepRows (w.setCells b (o+xs.length*(E.ti e).sz) news) Sh .own (E.ti e).sz ys b (o+xs.length*(E.ti e).sz) T2:=by
    refine rows_of_cs (w:=w) hS ys news T2 _ (fun x hx=>hU.heap x (fun e=>hd b h3 (e▸hx))) hyz (fun j v hj=>?_) hy
    have hjl:=(List.getElem?_eq_some_iff.1 hj).1
    have:=World.cell?_setCells_in b news (o+xs.length*(E.ti e).sz) w (fun j hj=>by
     have:=h5.cell (xs.length*(E.ti e).sz+j) (by omega)
     rwa [←Nat.add_assoc] at this) j hjl
    rw [this]
    rwa [List.getElem?_eq_getElem hjl] at hj
   exact RepRows.mono _ _ _ _ _ _ (fun x hx=>hx.elim (fun hx=>⟨.inl hx.1,hx.2⟩) (fun hx=>⟨.inr hx,fun e=>hd b h3 (e▸hx)⟩)) (RepRows.app xs o _ hold hnew (fun x hx=>hd x hx.1))
  ·obtain⟨olds,k1,k2,k3⟩:=cs_of_rows xs o _ h6
   have hol:olds.length=xs.length*(E.ti e).sz:=by
    rw [←k1.len,List.length_flatten]
    have e2:xs.map List.length=List.replicate xs.length (E.ti e).sz:=by
     refine List.eq_replicate_iff.2 ⟨by simp,fun n hn=>?_⟩
     obtain⟨r,hr,rfl⟩:=List.mem_map.1 hn
     exact k3 r hr
    rw [e2,List.sum_replicate_nat]
   exact grow (some ⟨b,o,none⟩) xs.length c olds (run_firstCells_some w.drew _ _ _ _ _ olds hol (fun j v hj=>by rw [Addr.add_lit];simpa using k2 j v hj)) rfl (by omega) (RepCs.mono _ _ _ _ (fun x hx=>hx.1) k1) k3 rfl
end Go.Ar
