import Derived.Test.YthhcbcokjlpahaaGreatArPH
namespace Go.Ar
set_option linter.unusedVariables false
set_option linter.unusedSimpArgs false
/-! ### Regions -/
noncomputable def regA(E:Env)(ops:List Oper):List Oper→St→(St→Prop)→Prop
 | [],st,K=>K st
 | o::rest,st,K=>gdA ops o st (fun _=>opA E o st fun st'=>regA E ops rest st' K) (fun _=>regA E ops rest (pu st o.dst (.tu [])) K)
section
variable {E:Env} {c:Cx}
theorem regA_sound(hE:EnvOk E)(hfit:Fit E c){ops:Array Oper}{Q:Exit→Act→World→Prop}:∀ (l:List Oper) (st:St) (a:Act) (w:World) (G:Gh) (K:St→Prop),Rel c st a w G→regA E ops.toList l st K →
  (∀st' a' w' G',K st'→Rel c st' a' w' G'→Q .normal a' w')→wpList E.P ops Q l a w
 | [],st,a,w,G,K,h,hk,hQ=>hQ st a w G hk h
 | o::rest,st,a,w,G,K,h,hk,hQ=>by
  simp only [regA] at hk
  unfold wpList
  rcases gdA_sound h hk with ⟨h1,h2⟩ | ⟨h1,h2⟩
  ·rw [if_pos h1]
   exact .inl (opA_sound hE hfit st a w G _ _ _ h h2 fun st' a' w' G' hk' h'=>regA_sound hE hfit rest st' a' w' G' K h' hk' hQ)
  ·rw [if_neg (by rw [h1];simp)]
   obtain⟨G',hG⟩:=h.put0 o.dst (v:=.tu []) (u:=undef) (by simp only [RepT];exact ⟨[],rfl,by simp only [RepTs]⟩)
   exact regA_sound hE hfit rest _ _ _ G' K hG h2 hQ
/-! ### Code -/
inductive Ex where
 | normal | exit (n:Nat) | ret
def ExQ(Q:Ex→St→Prop)(c:Cx)(R:Exit→Act→World→Prop):Prop :=
 ∀e st a w G,Q e st→Rel c st a w G→(match e with | .normal=>R .normal a w | .exit n=>R (.exit n) a w | .ret=>R .ret a w)
/-- Temporaries and boxes behind which nothing is known any more at a loop's head. -/
def fgt{α:Type}(u:α)(kp:List Nat):Nat→List α→List α
 | _,[]=>[]
 | j,v::t=>(bif kp.any (Nat.beq j) then v else u)::fgt u kp (j+1) t
def fgS(kp km:List Nat)(st:St):St:={ t:=fgt .un kp 0 st.t,m:=fgt [] km 0 st.m,g:=st.g }
def LoopF(aw:(Ex→St→Prop)→St→Prop)(Q:Ex→St→Prop)(st:St):Prop :=
 ∃ (kp km:List Nat) (I:Nat→St→Prop),(∃n,I n (fgS kp km st))∧∀n st',I n st'→aw (fun e st''=>match e with | .normal=>∃m,m<n∧I m (fgS kp km st'') | e=>Q e st'') st'
theorem fgt_get{α:Type}(u:α)(kp:List Nat):∀ (t:List α) (j i:Nat) (v:α),(fgt u kp j t)[i]?=some v→t[i]?=some v∨(v=u∧i<t.length)
 | [],_,_,_,h=>by simp [fgt] at h
 | x::t,j,0,v,h=>by
  simp only [fgt,List.getElem?_cons_zero,Option.some.injEq] at h
  cases hb:kp.any (Nat.beq j) with
  | true=>rw [hb] at h;exact .inl (by simpa using h)
  | false=>rw [hb] at h;exact .inr ⟨by simpa using h.symm,by simp⟩
 | x::t,j,i+1,v,h=>by
  simp only [fgt,List.getElem?_cons_succ] at h
  rcases fgt_get u kp t (j+1) i v h with h | ⟨h,h'⟩
  ·exact .inl (by simpa using h)
  ·exact .inr ⟨h,by simpa using h'⟩
theorem fgt_length{α:Type}(u:α)(kp:List Nat):∀ (t:List α) (j:Nat),(fgt u kp j t).length=t.length
 | [],_=>rfl
 | x::t,j=>by simp [fgt,fgt_length u kp t (j+1)]
theorem Rel.fgS{c:Cx}{st:St}{a:Act}{w:World}{G:Gh}(h:Rel c st a w G)(kp km:List Nat):Rel c (fgS kp km st) a w G:=by
 refine ⟨?_,h.df,?_,?_,?_,h.gb,h.ob,h.sb,h.s0,h.fr,h.sz,h.eos,h.etape,h.eout⟩
 ·show _=(fgt V.un kp 0 st.t).length
  rw [fgt_length];exact h.tl
 ·intro t v ht
  rcases fgt_get _ _ _ _ _ _ ht with h1 | ⟨rfl,_⟩
  ·exact h.tm t v h1
  ·simp only [RepT]
 ·intro t f z xs ht
  rcases fgt_get _ _ _ _ _ _ ht with h1 | ⟨h1,_⟩
  ·exact h.tv t f z xs h1
  ·cases h1
 ·intro t row ht hr
  rcases fgt_get _ _ _ _ _ _ ht with h1 | ⟨h1,_⟩
  ·exact h.mb t row h1 hr
  ·exact absurd h1 hr
/-- The loop's head: what is kept, with some slots laid anew. -/
def lay{α:Type}:List (Nat × α)→List α→List α
 | [],t=>t
 | (j,v)::l,t=>lay l (t.set j v)
def hdS(kp km:List Nat)(ut:List (Nat × V))(um:List (Nat × List V))(st:St):St:={ t:=lay ut (fgt .un kp 0 st.t),m:=lay um (fgt [] km 0 st.m),g:=st.g }
noncomputable def LoopK:((Ex→St→Prop)→St→Prop)→(Ex→St→Prop)→St→Prop:=Classical.choose (kp LoopF)
theorem LoopK_eq:LoopK=LoopF:=Classical.choose_spec (kp LoopF)
def hdG(kp km:List Nat)(ut:List (Nat × V))(um:List (Nat × List V))(ug:List (List V))(st:St):St:={ t:=lay ut (fgt .un kp 0 st.t),m:=lay um (fgt [] km 0 st.m),g:=ug }
theorem LoopK.introG{α:Type}{aw:(Ex→St→Prop)→St→Prop}{Q:Ex→St→Prop}{st:St}(kp km:List Nat)(ut:α→List (Nat × V))(um:α→List (Nat × List V))(ug:α→List (List V))(J:Nat→α→Prop)
  (h0:∃n a,J n a∧fgS kp km st=hdG kp km (ut a) (um a) (ug a) st)
  (hr:∀n a,J n a→aw (fun e st''=>match e with | .normal=>∃m a',(m<n∧J m a')∧fgS kp km st''=hdG kp km (ut a') (um a') (ug a') st | e=>Q e st'') (hdG kp km (ut a) (um a) (ug a) st)):LoopK aw Q st:=by
 rw [LoopK_eq]
 obtain⟨n,a,h1,h2⟩:=h0
 refine ⟨kp,km,fun n s=>∃a,J n a∧s=hdG kp km (ut a) (um a) (ug a) st,⟨n,a,h1,h2⟩,fun n s hs=>?_⟩
 obtain⟨a,h1,rfl⟩:=hs
 have h3:=hr n a h1
 have e:(fun(e:Ex) (st'':St)=>match e with | .normal=>∃m,m<n∧∃a',J m a'∧fgS kp km st''=hdG kp km (ut a') (um a') (ug a') st | e=>Q e st'')=(fun e st''=>match e with | .normal=>∃m a',(m<n∧J m a')∧fgS kp km st''=hdG kp km (ut a') (um a') (ug a') st | e=>Q e st''):=by
  funext e st''
  cases e with
  | normal=>exact propext ⟨fun⟨m,h,a,h',h''⟩=>⟨m,a,⟨h,h'⟩,h''⟩,fun⟨m,a,⟨h,h'⟩,h''⟩=>⟨m,h,a,h',h''⟩⟩
  | _=>rfl
 rw [e];exact h3
theorem LoopK.intro{α:Type}{aw:(Ex→St→Prop)→St→Prop}{Q:Ex→St→Prop}{st:St}(kp km:List Nat)(ut:α→List (Nat × V))(um:α→List (Nat × List V))(J:Nat→α→Prop)
  (h0:∃n a,J n a∧fgS kp km st=hdS kp km (ut a) (um a) st)
  (hr:∀n a,J n a→aw (fun e st''=>match e with | .normal=>∃m a',(m<n∧J m a')∧fgS kp km st''=hdS kp km (ut a') (um a') st | e=>Q e st'') (hdS kp km (ut a) (um a) st)):LoopK aw Q st :=
 LoopK.introG kp km ut um (fun _=>st.g) J h0 hr
/-- Every drawn region of a code is in order. -/
def okCd(E:Env):Code→Bool
 | .seq x y=>okCd E x && okCd E y
 | .cond _ y z=>okCd E y && okCd E z
 | .block _ x=>okCd E x
 | .loop x=>okCd E x
 | .region _ ops draw => !draw || okPl E ops
 | _=>true
noncomputable def aw(E:Env):Code→(Ex→St→Prop)→St→Prop
 | .skip,Q,st=>Q .normal st
 | .seq x y,Q,st=>aw E x (fun e st'=>match e with | .normal=>aw E y Q st' | e=>Q e st') st
 | .cond x y z,Q,st=>(match ev st x with | .b t=>(match t with | true=>aw E y Q st | false=>aw E z Q st) | _=>False)
 | .block id x,Q,st=>aw E x (fun e st'=>match e with | .exit n=>bif Nat.beq n id then Q .normal st' else Q (.exit n) st' | e=>Q e st') st
 | .exit n,Q,st=>Q (.exit n) st
 | .ret,Q,st=>Q .ret st
 | .loop x,Q,st=>LoopK (aw E x) Q st
 | .region _ ops draw,Q,st=>(match draw with | true=>regD E ops.toList (ops.toList.zip (rowsO E ops.toList)) st.t [] st (Q .normal) | false=>regA E ops.toList ops.toList st (Q .normal))
 | _,_,_=>False
theorem wp_loop_rel{P:Program}{c:Code}{Q:Exit→Act→World→Prop}(J:Nat→Act→World→Prop){n:Nat}{a:Act}{w:World}(h₀:J n a w)
  (round:∀n a w,J n a w→c.wp P (Exit.then (fun a' w'=>∃m,m<n∧J m a' w') Q) a w):(Code.loop c).wp P Q a w:=by
 intro b k cs
 have key:∀n a w,J n a w →
   ∃e a' w',Q e a' w'∧Arrives P (lone (b.at a (.code c :: .inLoop c::k)) cs w) b k cs e a' w':=by
  intro n
  induction n using Nat.strongRecOn with
  | _ n ih =>
   intro a w hI
   obtain⟨e,a₁,w₁,hq,harr⟩:=round n a w hI b (.inLoop c::k) cs
   cases e with
   | normal =>
    obtain⟨m,hlt,hI₁⟩:=hq
    obtain⟨e₂,a₂,w₂,hq₂,harr₂⟩:=ih m hlt a₁ w₁ hI₁
    exact ⟨e₂,a₂,w₂,hq₂,.of_steps (Steps.trans harr (.one step_inLoop)) harr₂⟩
   | exit id=>exact ⟨_,a₁,w₁,hq,.pass (x:=.inLoop c) rfl (fun _ _=>.inl (by simp)) harr⟩
   | goto l=>exact ⟨_,a₁,w₁,hq,.pass (x:=.inLoop c) rfl (fun _ _=>.inl (by simp)) harr⟩
   | ret=>exact ⟨_,a₁,w₁,hq,.pass (x:=.inLoop c) rfl (fun _ _=>.inl (by simp)) harr⟩
   | panic ch=>exact ⟨_,a₁,w₁,hq,.pass (x:=.inLoop c) rfl (fun _ _=>.inl (by simp)) harr⟩
   | outgrown=>exact ⟨_,a₁,w₁,hq,.pass (x:=.inLoop c) rfl (fun _ _=>.inl (by simp)) harr⟩
 obtain⟨e,a',w',hq,harr⟩:=key _ a w h₀
 exact ⟨e,a',w',hq,.of_steps (.one step_loop) harr⟩
def KeepC(Fx:Act→Prop):Code→Prop
 | .seq x y=>KeepC Fx x∧KeepC Fx y
 | .cond _ y z=>KeepC Fx y∧KeepC Fx z
 | .block _ x=>KeepC Fx x
 | .loop x=>KeepC Fx x
 | .region _ ops _=>∀ (i:Nat) (o:Oper),ops[i]?=some o→KeepF Fx o
 | _=>True
theorem keep_true(cd:Code):KeepC (fun _=>True) cd:=by
 induction cd with
 | seq x y ihx ihy=>exact ⟨ihx,ihy⟩
 | cond x y z ihy ihz=>exact ⟨ihy,ihz⟩
 | block id x ih=>exact ih
 | loop x ih=>exact ih
 | region id ops draw=>exact fun i o _ a d v _=>trivial
 | _=>trivial
def ExQF(Fx:Act→Prop)(Q:Ex→St→Prop)(c:Cx)(R:Exit→Act→World→Prop):Prop :=
 ∀e st a w G,Q e st→Rel c st a w G→Fx a→(match e with | .normal=>R .normal a w | .exit n=>R (.exit n) a w | .ret=>R .ret a w)
theorem aw_soundF{Fx:Act→Prop}(hE:EnvOk E)(hfit:Fit E c)(hm:E.P.follows .mixedOrders=true):∀ (cd:Code) (Q:Ex→St→Prop) (R:Exit→Act→World→Prop) (st:St) (a:Act) (w:World) (G:Gh),okCd E cd=true→KeepC Fx cd→Fx a→Rel c st a w G→aw E cd Q st→ExQF Fx Q c R→cd.wp E.P R a w:=by
 intro cd
 induction cd with
 | skip=>intro Q R st a w G hd hf ha h hk hQ;exact wp_skip (hQ .normal st a w G hk h ha)
 | seq x y ihx ihy =>
  intro Q R st a w G hd hf ha h hk hQ
  simp only [aw] at hk
  simp only [okCd,Bool.and_eq_true] at hd
  refine wp_seq (ihx _ _ st a w G hd.1 hf.1 ha h hk fun e st' a' w' G' hq h' ha'=>?_)
  cases e with
  | normal=>exact ihy Q R st' a' w' G' hd.2 hf.2 ha' h' hq hQ
  | exit n=>exact hQ (.exit n) st' a' w' G' hq h' ha'
  | ret=>exact hQ .ret st' a' w' G' hq h' ha'
 | cond x y z ihy ihz =>
  intro Q R st a w G hd hf ha h hk hQ
  simp only [aw] at hk
  simp only [okCd,Bool.and_eq_true] at hd
  obtain⟨T,hx⟩:=h.ev x
  split at hk
  ·rename_i t hg
   rw [hg] at hx
   have hx:a.eval x=.bool t:=hx
   cases t with
   | true=>exact wp_cond_true hx (ihy Q R st a w G hd.1 hf.1 ha h hk hQ)
   | false=>exact wp_cond_false hx (ihz Q R st a w G hd.2 hf.2 ha h hk hQ)
  ·exact hk.elim
 | block id x ih =>
  intro Q R st a w G hd hf ha h hk hQ
  simp only [aw] at hk
  refine wp_block (ih _ _ st a w G hd hf ha h hk fun e st' a' w' G' hq h' ha'=>?_)
  cases e with
  | normal=>exact hQ .normal st' a' w' G' hq h' ha'
  | exit n =>
   simp only at hq ⊢
   show (if n=id then R .normal a' w' else R (.exit n) a' w')
   cases hb:Nat.beq n id with
   | true =>
    rw [hb] at hq
    rw [if_pos (Nat.eq_of_beq_eq_true hb)]
    exact hQ .normal st' a' w' G' hq h' ha'
   | false =>
    rw [hb] at hq
    rw [if_neg (fun e=>by subst e;simp at hb)]
    exact hQ (.exit n) st' a' w' G' hq h' ha'
  | ret=>exact hQ .ret st' a' w' G' hq h' ha'
 | exit n=>intro Q R st a w G hd hf ha h hk hQ;exact wp_exit (hQ (.exit n) st a w G hk h ha)
 | ret=>intro Q R st a w G hd hf ha h hk hQ;exact wp_ret (hQ .ret st a w G hk h ha)
 | loop x ih =>
  intro Q R st a w G hd hf ha h hk hQ
  simp only [aw,LoopK_eq] at hk
  obtain⟨kp,km,I,⟨n,hI⟩,hround⟩:=hk
  refine wp_loop_rel (fun n a w=>∃st G,Rel c st a w G∧Fx a∧I n st) (n:=n) ⟨Ar.fgS kp km st,G,h.fgS kp km,ha,hI⟩ fun n a w hJ=>?_
  obtain⟨st,G,h,ha,hI⟩:=hJ
  refine ih _ _ st a w G hd hf ha h (hround n st hI) fun e st' a' w' G' hq h' ha'=>?_
  cases e with
  | normal =>
   obtain⟨m,hm,hI'⟩:=hq
   exact ⟨m,hm,Ar.fgS kp km st',G',h'.fgS kp km,ha',hI'⟩
  | exit k=>exact hQ (.exit k) st' a' w' G' hq h' ha'
  | ret=>exact hQ .ret st' a' w' G' hq h' ha'
 | region id ops draw =>
  intro Q R st a w G hd hf ha h hk hQ
  cases draw with
  | true =>
   simp only [aw] at hk
   exact draw_sound hE hfit hm ha hf (by simpa [okCd] using hd) h hk fun st' a' w' G' hq h' ha'=>hQ .normal st' a' w' G' hq h' ha'
  | false =>
   simp only [aw] at hk
   exact wp_region_list (list_fx _ _ _ (fun o ho=>let ⟨i,hi⟩:=List.mem_iff_getElem?.1 ho;hf i o (by simpa using hi)) ha (regA_sound (Q:=QF Fx R) hE hfit _ st a w G _ h hk fun st' a' w' G' hq h' ha'=>hQ .normal st' a' w' G' hq h' ha'))
 | _=>intro Q R st a w G hd hf ha h hk hQ;simp only [aw] at hk
theorem aw_sound(hE:EnvOk E)(hfit:Fit E c)(hm:E.P.follows .mixedOrders=true)(cd:Code)(Q:Ex→St→Prop)(R:Exit→Act→World→Prop)(st:St)(a:Act)(w:World)(G:Gh)(hd:okCd E cd=true)(h:Rel c st a w G)(hk:aw E cd Q st)(hQ:ExQ Q c R):cd.wp E.P R a w :=
 aw_soundF (Fx:=fun _=>True) hE hfit hm cd Q R st a w G hd (keep_true cd) trivial h hk fun e st a w G h1 h2 _=>hQ e st a w G h1 h2
end
end Go.Ar
