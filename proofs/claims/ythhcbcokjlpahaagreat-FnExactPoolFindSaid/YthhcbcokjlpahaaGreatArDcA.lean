import Derived.Test.YthhcbcokjlpahaaGreatArWS
namespace Go.Ar
open Go.Proofs
set_option linter.unusedVariables false
set_option linter.unusedSimpArgs false
set_option maxRecDepth 20000
/-! ### Code with cuts: at a cut all that is known is what lies in the slots that are named -/
inductive CT where
 | o | s (l r:CT) | k (l r:CT)
def CT.l:CT→CT
 | .o=>.o | .s l _=>l | .k l _=>l
def CT.r:CT→CT
 | .o=>.o | .s _ r=>r | .k _ r=>r
def CT.cut:CT→Bool
 | .k _ _=>true | _=>false
def CutF(ax ay:(Ex→St→Prop)→St→Prop)(Q:Ex→St→Prop)(st:St):Prop :=
 ∃ (kp km:List Nat) (I:St→Prop),ax (fun e st''=>match e with | .normal=>I (fgS kp km st'') | e=>Q e st'') st∧∀st',I st'→ay Q st'
noncomputable def CutK:((Ex→St→Prop)→St→Prop)→((Ex→St→Prop)→St→Prop)→(Ex→St→Prop)→St→Prop:=Classical.choose (kp CutF)
theorem CutK_eq:CutK=CutF:=Classical.choose_spec (kp CutF)
theorem CutK.intro{α:Type}{ax ay:(Ex→St→Prop)→St→Prop}{Q:Ex→St→Prop}{st:St}(kp km:List Nat)(ut:α→List (Nat × V))(um:α→List (Nat × List V))(J:α→Prop)
  (hx:ax (fun e st''=>match e with | .normal=>∃a',J a'∧fgS kp km st''=hdS kp km (ut a') (um a') st | e=>Q e st'') st)
  (hy:∀a,J a→ay Q (hdS kp km (ut a) (um a) st)):CutK ax ay Q st:=by
 rw [CutK_eq]
 refine ⟨kp,km,fun s=>∃a,J a∧s=hdS kp km (ut a) (um a) st,hx,fun s hs=>?_⟩
 obtain⟨a,h1,rfl⟩:=hs
 exact hy a h1
theorem CutK.introG{α:Type}{ax ay:(Ex→St→Prop)→St→Prop}{Q:Ex→St→Prop}{st:St}(kp km:List Nat)(ut:α→List (Nat × V))(um:α→List (Nat × List V))(ug:α→List (List V))(J:α→Prop)
  (hx:ax (fun e st''=>match e with | .normal=>∃a',J a'∧fgS kp km st''=hdG kp km (ut a') (um a') (ug a') st | e=>Q e st'') st)
  (hy:∀a,J a→ay Q (hdG kp km (ut a) (um a) (ug a) st)):CutK ax ay Q st:=by
 rw [CutK_eq]
 refine ⟨kp,km,fun s=>∃a,J a∧s=hdG kp km (ut a) (um a) (ug a) st,hx,fun s hs=>?_⟩
 obtain⟨a,h1,rfl⟩:=hs
 exact hy a h1
/-- An operation without what the run does not look at. -/
def stp (o : Oper) : Oper := { o with type := 0, pos := "", after := #[] }
theorem gdA_stp(ops:List Oper)(o:Oper)(st:St)(y n:Unit→Prop):gdA (ops.map stp) (stp o) st y n=gdA ops o st y n:=by
 unfold gdA
 show (match o.guard with | none=>y () | some (g,want)=>_)=_
 cases o.guard with
 | none=>rfl
 | some gw =>
  obtain⟨g,want⟩:=gw
  have e:((ops.map stp)[g]?).bind (·.dst)=(ops[g]?).bind (·.dst):=by
   rw [List.getElem?_map]
   cases ops[g]? <;> rfl
  simp only [e]
theorem regA_stp(E:Env)(ops:List Oper):∀ (l:List Oper) (st:St) (K:St→Prop),regA E (ops.map stp) (l.map stp) st K=regA E ops l st K
 | [],_,_=>rfl
 | o::rest,st,K=>by
  simp only [List.map_cons,regA,gdA_stp]
  have e:∀st',regA E (ops.map stp) (rest.map stp) st' K=regA E ops rest st' K:=fun st'=>regA_stp E ops rest st' K
  simp only [e]
  rfl
theorem regD_stp(E:Env)(ops:List Oper):∀ (l:List (Oper × PRow)) (s0 acc:List V) (st:St) (K:St→Prop),regD E (ops.map stp) (l.map fun x=>(stp x.1,x.2)) s0 acc st K=regD E ops l s0 acc st K
 | [],_,_,_,_=>rfl
 | (o,r)::rest,s0,acc,st,K=>by
  simp only [List.map_cons,regD,gdA_stp]
  have e:∀s0 acc st',regD E (ops.map stp) (rest.map fun x=>(stp x.1,x.2)) s0 acc st' K=regD E ops rest s0 acc st' K:=fun s0 acc st'=>regD_stp E ops rest s0 acc st' K
  simp only [e]
  cases r.tt with
  | true=>rfl
  | false =>
   simp only [stepP,gdA_stp]
   rfl
theorem zip_stp:∀ (l:List Oper) (r:List PRow),(l.map stp).zip r=(l.zip r).map fun x=>(stp x.1,x.2)
 | [],_=>rfl
 | _::_,[]=>rfl
 | o::l,x::r=>by simp only [List.map_cons,List.zip_cons_cons,zip_stp l r]
noncomputable def regU(E:Env)(C:Nat)(tab:List (Nat × List PRow))(i:Nat)(ops:Array Oper)(dr:Bool)(K:Ex→St→Prop)(st:St):Prop :=
 match dr with
 | true=>(match tabT tab i with | some r=>regC E (ops.toList.map stp) C ((ops.toList.map stp).zip r) st.t [] st (K .normal) | none=>aw E (.region i ops true) K st)
 | false=>regA E (ops.toList.map stp) (ops.toList.map stp) st (K .normal)
theorem regU_eq{E:Env}{C:Nat}{tab:List (Nat × List PRow)}{i:Nat}{ops:Array Oper}{dr:Bool}(hok:okT E tab (.region i ops dr)=true)(K:Ex→St→Prop)(st:St):regU E C tab i ops dr K st=aw E (.region i ops dr) K st:=by
 unfold regU
 cases dr with
 | false=>simp only [regA_stp];unfold aw;rfl
 | true =>
  rw [←regT_eq (C:=C) hok K st]
  unfold regT
  cases ht:tabT tab i with
  | none=>rfl
  | some r=>simp only [zip_stp,regC_eq,regD_stp]
theorem awD.rest{E:Env}{C:Nat}{tab:List (Nat × List PRow)}{i:Nat}{ops:Array Oper}{dr:Bool}{K:Ex→St→Prop}{st:St}(h:regU E C tab i ops dr K st):Q (regU E C tab) i ops dr K st:=by rw [Q_eq];exact h
/-- Code in parts, with cuts. -/
noncomputable def awD(E:Env)(C:Nat)(tab:List (Nat × List PRow))(B:Nat):Code→CT→(Nat→Ex→St→Prop)→Nat→St→Prop
 | .region i ops dr,_,K,0,st=>Q (regU E C tab) i ops dr (K B) st
 | .region i ops dr,_,K,n+1,st=>regU E C tab i ops dr (K n) st
 | .skip,_,K,n,st=>K n .normal st
 | .seq x y,ct,K,n,st=>bif ct.cut then CutK (fun Qx st=>awD E C tab B x ct.l (fun _=>Qx) B st) (fun Qx st=>awD E C tab B y ct.r (fun _=>Qx) B st) (K n) st
   else awD E C tab B x ct.l (fun n e st'=>match e with | .normal=>awD E C tab B y ct.r K n st' | e=>K n e st') n st
 | .cond x y z,ct,K,n,st=>(match ev st x with | .b t=>(match t with | true=>awD E C tab B y ct.l K n st | false=>awD E C tab B z ct.r K n st) | _=>False)
 | .block id x,ct,K,n,st=>awD E C tab B x ct.l (fun n e st'=>match e with | .exit m=>(match Nat.beq m id with | true=>K n .normal st' | false=>K n (.exit m) st') | e=>K n e st') n st
 | .exit m,_,K,n,st=>K n (.exit m) st
 | .ret,_,K,n,st=>K n .ret st
 | .loop x,ct,K,n,st=>LoopK (fun Qx st=>awD E C tab B x ct.l (fun _=>Qx) B st) (K n) st
 | _,_,_,_,_=>False
theorem awD_sound{E:Env}{c:Cx}{Fx:Act→Prop}(hE:EnvOk E)(hfit:Fit E c)(hm:E.P.follows .mixedOrders=true){C:Nat}{tab:List (Nat × List PRow)}{B:Nat}:∀ (cd:Code) (ct:CT) (K:Nat→Ex→St→Prop) (R:Exit→Act→World→Prop) (n:Nat) (st:St) (a:Act) (w:World) (G:Gh),okT E tab cd=true→okCd E cd=true→KeepC Fx cd→Fx a→Rel c st a w G→awD E C tab B cd ct K n st→(∀n,ExQF Fx (K n) c R)→cd.wp E.P R a w:=by
 intro cd
 induction cd with
 | skip=>intro ct K R n st a w G ht hd hf ha h hk hQ;exact wp_skip (hQ n .normal st a w G hk h ha)
 | seq x y ihx ihy =>
  intro ct K R n st a w G ht hd hf ha h hk hQ
  simp only [awD] at hk
  simp only [okCd,okT,Bool.and_eq_true] at hd ht
  cases hc:ct.cut with
  | true =>
   rw [hc] at hk
   simp only [cond_true,CutK_eq] at hk
   obtain⟨kp,km,I,hx,hy⟩:=hk
   refine wp_seq (ihx _ _ _ B st a w G ht.1 hd.1 hf.1 ha h hx fun _ e st' a' w' G' hq h' ha'=>?_)
   cases e with
   | normal=>exact ihy _ _ R B _ a' w' G' ht.2 hd.2 hf.2 ha' (h'.fgS kp km) (hy _ hq) (fun _=>hQ n)
   | exit m=>exact hQ n (.exit m) st' a' w' G' hq h' ha'
   | ret=>exact hQ n .ret st' a' w' G' hq h' ha'
  | false =>
   rw [hc] at hk
   simp only [cond_false] at hk
   refine wp_seq (ihx _ _ _ n st a w G ht.1 hd.1 hf.1 ha h hk fun n e st' a' w' G' hq h' ha'=>?_)
   cases e with
   | normal=>exact ihy _ _ R n st' a' w' G' ht.2 hd.2 hf.2 ha' h' hq hQ
   | exit m=>exact hQ n (.exit m) st' a' w' G' hq h' ha'
   | ret=>exact hQ n .ret st' a' w' G' hq h' ha'
 | cond x y z ihy ihz =>
  intro ct K R n st a w G ht hd hf ha h hk hQ
  simp only [awD] at hk
  simp only [okCd,okT,Bool.and_eq_true] at hd ht
  obtain⟨T,hx⟩:=h.ev x
  split at hk
  ·rename_i t hg
   rw [hg] at hx
   have hx:a.eval x=.bool t:=hx
   cases t with
   | true=>exact wp_cond_true hx (ihy _ K R n st a w G ht.1 hd.1 hf.1 ha h hk hQ)
   | false=>exact wp_cond_false hx (ihz _ K R n st a w G ht.2 hd.2 hf.2 ha h hk hQ)
  ·exact hk.elim
 | block id x ih =>
  intro ct K R n st a w G ht hd hf ha h hk hQ
  simp only [awD] at hk
  refine wp_block (ih _ _ _ n st a w G ht hd hf ha h hk fun n e st' a' w' G' hq h' ha'=>?_)
  cases e with
  | normal=>exact hQ n .normal st' a' w' G' hq h' ha'
  | exit m =>
   simp only at hq ⊢
   show (if m=id then R .normal a' w' else R (.exit m) a' w')
   cases hb:Nat.beq m id with
   | true =>
    rw [hb] at hq
    rw [if_pos (Nat.eq_of_beq_eq_true hb)]
    exact hQ n .normal st' a' w' G' hq h' ha'
   | false =>
    rw [hb] at hq
    rw [if_neg (fun e=>by subst e;simp at hb)]
    exact hQ n (.exit m) st' a' w' G' hq h' ha'
  | ret=>exact hQ n .ret st' a' w' G' hq h' ha'
 | exit m=>intro ct K R n st a w G ht hd hf ha h hk hQ;exact wp_exit (hQ n (.exit m) st a w G hk h ha)
 | ret=>intro ct K R n st a w G ht hd hf ha h hk hQ;exact wp_ret (hQ n .ret st a w G hk h ha)
 | loop x ih =>
  intro ct K R n st a w G ht hd hf ha h hk hQ
  simp only [awD,LoopK_eq] at hk
  obtain⟨kp,km,I,⟨n0,hI⟩,hround⟩:=hk
  refine wp_loop_rel (fun n a w=>∃st G,Rel c st a w G∧Fx a∧I n st) (n:=n0) ⟨Ar.fgS kp km st,G,h.fgS kp km,ha,hI⟩ fun n1 a w hJ=>?_
  obtain⟨st,G,h,ha,hI⟩:=hJ
  refine ih _ _ _ B st a w G ht hd hf ha h (hround n1 st hI) fun _ e st' a' w' G' hq h' ha'=>?_
  cases e with
  | normal =>
   obtain⟨m,hm,hI'⟩:=hq
   exact ⟨m,hm,Ar.fgS kp km st',G',h'.fgS kp km,ha',hI'⟩
  | exit k=>exact hQ n (.exit k) st' a' w' G' hq h' ha'
  | ret=>exact hQ n .ret st' a' w' G' hq h' ha'
 | region id ops draw =>
  intro ct K R n st a w G ht hd hf ha h hk hQ
  have key:∀m,aw E (.region id ops draw) (K m) st→(Code.region id ops draw).wp E.P R a w:=fun m hk=>aw_soundF hE hfit hm (.region id ops draw) (K m) R st a w G hd hf ha h hk (hQ m)
  cases n with
  | zero =>
   simp only [awD,Q_eq] at hk
   rw [regU_eq ht] at hk
   exact key _ hk
  | succ n =>
   simp only [awD] at hk
   rw [regU_eq ht] at hk
   exact key _ hk
 | _=>intro ct K R n st a w G ht hd hf ha h hk hQ;simp only [awD] at hk
/-- A function's contract out of its code's run with cuts. -/
theorem retD {f : Nat} {fn : Func} {cd : Code} {args : List V} {g : List (List V)} {r : V} (C B : Nat) (tab : List (Nat × List PRow)) (ct : CT) (hf : Tryz.prog.funcs[f]? = some fn) (hb : fn.body = some cd) (hd : okCd (env (fun _ => false) []) cd = true) (ht : okT (env (fun _ => false) []) tab cd = true) (hnm : (fn.name == "runtime.NumGoroutine") = false) (ho : OwnV r)
  (hk:awD (env (fun _=>false) []) C tab B cd ct (fun _ e st=>match e with | .exit _=>False | _=>valL (env (fun _=>false) []) st fn.results.toList fun vs _=>bif okA (outV vs) then LeV (outV vs) r else False) B
   { t:=args++List.replicate (fn.ntmps-args.length) (.tu []),m:=List.replicate fn.ntmps [],g:=g }):Ret pg f true args g r :=
 ret_of_snd (X:=fun Qx st=>awD (env (fun _=>false) []) C tab B cd ct (fun _=>Qx) B st) (env_ok _ _) rfl (fun _=>rfl) (pg_func hf) hb
  (fun c hfit Qx R st a w G h hk hQ=>awD_sound (Fx:=fun _=>True) (env_ok _ _) hfit pg_mixed cd ct (fun _=>Qx) R B st a w G ht hd (keep_true cd) trivial h hk fun _ e st a w G h1 h2 _=>hQ e st a w G h1 h2) hnm (fun _=>ho) hk
theorem okT_ti{E E':Env}(h:E.ti=E'.ti)(tab:List (Nat × List PRow))(cd:Code):okT E tab cd=okT E' tab cd:=by
 induction cd with
 | seq x y hx hy=>unfold okT;rw [hx,hy]
 | cond x y z hy hz=>unfold okT;rw [hy,hz]
 | block n x hx=>unfold okT;exact hx
 | loop x hx=>unfold okT;exact hx
 | region n ops draw =>
  cases draw with
  | false=>rfl
  | true =>
   unfold okT rowsO tbl
   simp only [bfs_ti h,isPu_ti h]
 | _=>simp only [okT]
theorem retDM {f : Nat} {fn : Func} {cd : Code} {vals : List Value} {args gs gs' : List V} {r : V} (C B : Nat) (tab : List (Nat × List PRow)) (ct : CT) (hf : Tryz.prog.funcs[f]? = some fn) (hb : fn.body = some cd) (hd : okCd (env (fun _ => false) []) cd = true) (ht : okT (env (fun _ => false) []) tab cd = true) (hnm : (fn.name == "runtime.NumGoroutine") = false)
  (hr:scalT r=true) (h1:OwnVs gs) (h1':allSl gs=true) (h2:OwnVs gs') (h2':allSl gs'=true) (hl':gs'.length=vals.length)
  (hk:awD (envM vals) C tab B cd ct (fun _ e st=>match e with | .exit _=>False | _=>valL (envM vals) st fn.results.toList fun vs st2=>bif okA (outV vs) then LeV (outV vs) r∧st2.g=gRows gs' else False) B
   { t:=args++List.replicate (fn.ntmps-args.length) (.tu []),m:=List.replicate fn.ntmps [],g:=gRows gs }):RetM pg f vals args gs r gs' :=
 ret_of_sndM (X:=fun Qx st=>awD (envM vals) C tab B cd ct (fun _=>Qx) B st) (envM_ok vals) rfl (fun _=>rfl) (fun _=>rfl) (pg_func hf) hb
  (fun c hfit Qx R st a w G h hk hQ=>awD_sound (Fx:=fun _=>True) (envM_ok vals) hfit pg_mixed cd ct (fun _=>Qx) R B st a w G ((okT_ti (E:=envM vals) (E':=env (fun _=>false) []) rfl tab cd).trans ht) ((okCd_ti (E:=envM vals) (E':=env (fun _=>false) []) rfl cd).trans hd) (keep_true cd) trivial h hk fun _ e st a w G h1 h2 _=>hQ e st a w G h1 h2) hnm hr h1 h1' h2 h2' hl' hk
end Go.Ar
