import Derived.Test.YthhcbcokjlpahaaGreatArPF
namespace Go.Ar
set_option linter.unusedVariables false
set_option linter.unusedSimpArgs false
/-! ### The plan of a drawn region -/
structure PRow where
 tt:Bool
 ms:List Nat
 tu:List Nat
def dstsO(ops:List Oper):List Nat:=ops.filterMap (·.dst)
def tmO(ds:List Nat):List (Nat × Operand)→List Nat
 | []=>[]
 | (_,.tmp s)::ps=>bif mem ds s then s::tmO ds ps else tmO ds ps
 | _::ps=>tmO ds ps
/-- The temporary whose content is behind a part of it. -/
def opOf:List Oper→Nat→Option Op
 | [],_=>none
 | o::os,d=>match o.dst with | some k=>bif Nat.beq k d then some o.op else opOf os d | none=>opOf os d
def srcT(ops:List Oper):Nat→Nat→List Nat
 | 0,_=>[]
 | n+1,d=>match opOf ops d with
  | some (.move (.tmp s))=>[s]
  | some (.slice _ (.tmp j) _ _ _)=>srcT ops n j
  | _=>[]
/-- The box behind an address. -/
def bxT(ops:List Oper):Nat→Nat→List Nat
 | 0,_=>[]
 | n+1,d=>match opOf ops d with
  | some (.fieldAddr _ (.tmp j) _)=>bxT ops n j
  | some (.alloc _)=>[d]
  | none=>[d]
  | _=>[]
def touO(ops:List Oper)(ds:List Nat)(o:Oper):List Nat :=
 (match o.op with
  | .call { callee:=.builtin .copy,args:=args,.. }=>(match args.toList with | .tmp j::_=>srcT ops 3 j | _=>[])
  | .call { callee:=.builtin .append,args:=args,.. }=>(match args.toList with | [.tmp j,.tmp y]=>srcT ops 3 j++[y,DM] | _=>[])
  | .build _ parts=>tmO ds parts.toList
  | .buildSlice _ _ parts=>tmO ds parts.toList
  | .move (.tmp s)=>bif mem ds s then [s] else []
  | .extract (.tmp s) _=>bif mem ds s then [s] else []
  | .store _ (.tmp x) _=>bxT ops 4 x
  | _=>[])++o.dst.toList
/-- Neither before nor behind. -/
def unO(k b:Nat):Nat→List Bf→List Nat
 | _,[]=>[]
 | i,r::l=>bif (Nat.beq i k || Nat.testBit b i) || Nat.testBit r.b k then unO k b (i+1) l else i::unO k b (i+1) l
def mkRow(ts:List (List Nat))(k:Nat)(u:List Nat):PRow:=⟨u.isEmpty,(u.map fun i=>ts.getD i []).flatten,ts.getD k []⟩
def rowsG(tb:List Bf)(ts:List (List Nat)):Nat→List Bf→List PRow
 | _,[]=>[]
 | k,r::l=>mkRow ts k (unO k r.b 0 tb)::rowsG tb ts (k+1) l
def rowsO(E:Env)(ops:List Oper):List PRow:=rowsG (tbl E ops) (ops.map (touO ops (dstsO ops))) 0 (tbl E ops)
theorem unO_mem{k b:Nat}:∀ (l:List Bf) (i j:Nat) (r:Bf),l[j]?=some r→i+j≠k→b.testBit (i+j)=false→r.b.testBit k=false→i+j∈unO k b i l
 | [],_,_,_,h,_,_,_=>by simp at h
 | r0::l,i,0,r,h,h1,h2,h3=>by
  simp only [List.getElem?_cons_zero,Option.some.injEq] at h
  subst h
  have hb:Nat.beq i k=false:=by
   cases hb:Nat.beq i k with
   | false=>rfl
   | true=>exact absurd (Nat.eq_of_beq_eq_true hb) h1
  rw [Nat.add_zero] at h2
  simp [unO,hb,h2,h3]
 | r0::l,i,j+1,r,h,h1,h2,h3=>by
  simp only [List.getElem?_cons_succ] at h
  have:=unO_mem l (i+1) j r h (by omega) (by rw [show i+1+j=i+(j+1) by omega];exact h2) h3
  rw [show i+1+j=i+(j+1) by omega] at this
  simp only [unO]
  cases ((Nat.beq i k || Nat.testBit b i) || Nat.testBit r0.b k)
  ·exact List.mem_cons_of_mem _ this
  ·exact this
theorem rowsG_get{tb:List Bf}{ts:List (List Nat)}:∀ (l:List Bf) (k j:Nat) (r:PRow),(rowsG tb ts k l)[j]?=some r→∃f,l[j]?=some f∧r=mkRow ts (k+j) (unO (k+j) f.b 0 tb)
 | [],_,_,_,h=>by simp [rowsG] at h
 | f::l,k,0,r,h=>by
  simp only [rowsG,List.getElem?_cons_zero,Option.some.injEq] at h
  exact ⟨f,rfl,h.symm⟩
 | f::l,k,j+1,r,h=>by
  simp only [rowsG,List.getElem?_cons_succ] at h
  obtain⟨f',h1,h2⟩:=rowsG_get l (k+1) j r h
  exact ⟨f',by simpa using h1,by rw [h2,show k+1+j=k+(j+1) by omega]⟩
theorem rowsG_len{tb:List Bf}{ts:List (List Nat)}:∀ (l:List Bf) (k:Nat),(rowsG tb ts k l).length=l.length
 | [],_=>rfl
 | f::l,k=>by simp [rowsG,rowsG_len l]
theorem rowsO_len{E:Env}{ops:List Oper}:(rowsO E ops).length=ops.length:=by rw [rowsO,rowsG_len,tbl_len]
/-- What a row says. -/
theorem rowsO_get{E:Env}{ops:List Oper}{k:Nat}{r:PRow}{o:Oper}(h:(rowsO E ops)[k]?=some r)(ho:ops[k]?=some o) :
  ∃f,(tbl E ops)[k]?=some f∧r.tu=touO ops (dstsO ops) o ∧
   (∀i g oi,i≠k→(tbl E ops)[i]?=some g→ops[i]?=some oi→f.b.testBit i=false→g.b.testBit k=false→r.tt=false∧∀x∈touO ops (dstsO ops) oi,x∈r.ms):=by
 obtain⟨f,h1,h2⟩:=rowsG_get _ _ _ _ h
 rw [Nat.zero_add] at h2
 refine ⟨f,h1,?_,fun i g oi hik hg hoi hb1 hb2=>?_⟩
 ·rw [h2];simp [mkRow,ho]
 ·have hm:=unO_mem (k:=k) (b:=f.b) (tbl E ops) 0 i g hg (by rw [Nat.zero_add];exact hik) (by rw [Nat.zero_add];exact hb1) hb2
  rw [Nat.zero_add] at hm
  rw [h2]
  refine ⟨?_,fun x hx=>?_⟩
  ·show List.isEmpty _=false
   cases hu:unO k f.b 0 (tbl E ops) with
   | nil=>rw [hu] at hm;cases hm
   | cons _ _=>rfl
  ·show x∈List.flatten _
   rw [List.mem_flatten]
   exact ⟨touO ops (dstsO ops) oi,List.mem_map.2 ⟨i,hm,by simp [hoi]⟩,hx⟩
def bOf(tb:List Bf)(k:Nat):Nat:=match tb[k]? with | some r=>r.b | none=>0
def okPl(E:Env)(ops:Array Oper):Bool :=
 Region.noSelect ops &&
 ((List.range ops.size).all fun k=>match ops[k]? with
  | none=>false
  | some o=>Nat.ble (depOf o+1) (Nat.shiftLeft 1 k) &&
   (bif isPu E o then (List.range ops.size).all fun j=>(Nat.beq j k || Nat.testBit (bOf (tbl E ops.toList) k) j) || (match ops[j]? with | some oj=>Nat.testBit (depOf oj) k || Oper.apart ops o oj | none=>true) else true)) &&
 (rowsO E ops.toList).all fun r=>r.tu.all fun x => !(mem r.ms x)
/-! ### One operation's step -/
def cpq:V→Bool
 | .b _=>true | .i _ _=>true | .s _=>true | .nil=>true
 | .sl .shr _ _=>true
 | _=>false
/-- One operand is own, the others are plain. -/
def ownAg:V→Bool
 | .ag cs=>plains cs && !(cps cs)
 | _=>false
def okO(t:List V)(s:Nat):Bool→List Operand→Bool
 | d,[]=>d
 | d,.tmp j::xs=>bif Nat.beq j s then (!d && ownAg (t.getD s .un)) && okO t s true xs else cpq (t.getD j .un) && okO t s d xs
 | d,.const _::xs=>okO t s d xs
 | _,_=>false
def fstO(t:List V):List Operand→Option Nat
 | []=>none
 | .tmp j::xs=>bif ownAg (t.getD j .un) then some j else fstO t xs
 | _::xs=>fstO t xs
theorem okO_wk{M S:St}(hg:∀ (j:Nat) (v:V),M.t.getD j .un=v→v≠.un→S.t.getD j .un=v)(s:Nat):∀ (xs:List Operand) (d:Bool),okO M.t s d xs=true→okO S.t s d xs=true∧xs.map (ev M)=xs.map (ev S)
 | [],d,h=>⟨h,rfl⟩
 | .tmp j::xs,d,h=>by
  simp only [okO] at h ⊢
  cases hj:Nat.beq j s with
  | true =>
   rw [hj] at h
   simp only [cond_true,Bool.and_eq_true] at h ⊢
   obtain⟨⟨h1,h2⟩,h3⟩:=h
   have e:=hg s _ rfl (fun e=>by rw [e] at h2;cases h2)
   obtain⟨k1,k2⟩:=okO_wk hg s xs true h3
   have hjs:=Nat.eq_of_beq_eq_true hj
   refine ⟨⟨⟨h1,by rw [e];exact h2⟩,k1⟩,?_⟩
   simp only [List.map_cons,k2,ev,hjs,e]
  | false =>
   rw [hj] at h
   simp only [cond_false,Bool.and_eq_true] at h ⊢
   obtain⟨h2,h3⟩:=h
   have e:=hg j _ rfl (fun e=>by rw [e] at h2;cases h2)
   obtain⟨k1,k2⟩:=okO_wk hg s xs d h3
   refine ⟨⟨by rw [e];exact h2,k1⟩,?_⟩
   simp only [List.map_cons,k2,ev,e]
 | .const v::xs,d,h=>by
  simp only [okO] at h ⊢
  obtain⟨k1,k2⟩:=okO_wk hg s xs d h
  exact ⟨k1,by simp only [List.map_cons,k2];rfl⟩
 | .func _::xs,d,h=>by simp [okO] at h
 | .global _::xs,d,h=>by simp [okO] at h
def aft(S:St)(s:Nat)(d:Bool):St:=bif d then { S with t:=S.t.set s .un } else S
theorem aft_get{S:St}{s j:Nat}{d:Bool}(h:Nat.beq j s=false):(aft S s d).t.getD j .un=S.t.getD j .un:=by
 cases d with
 | false=>rfl
 | true =>
  have hn:s≠j:=fun e=>by subst e;simp at h
  simp [aft,List.getElem?_set_ne hn]
theorem mvA_cpq{st:St}{j:Nat}{K:V→St→Prop}(h:cpq (st.t.getD j .un)=true)(hk:K (st.t.getD j .un) st):mvA st (.tmp j) K:=by
 unfold mvA
 dsimp only
 generalize hv:st.t.getD j .un=v at h hk ⊢
 cases v with
 | sl f z xs=>cases f <;> first | exact hk | cases h
 | b _=>exact hk
 | i _ _=>exact hk
 | s _=>exact hk
 | nil=>exact hk
 | _=>cases h
theorem coA_cpq{E:Env}{st:St}{j:Nat}{K:V→St→Prop}(h:cpq (st.t.getD j .un)=true)(hk:K (st.t.getD j .un) st):coA E st (.tmp j) K:=by
 unfold coA
 dsimp only
 generalize hv:st.t.getD j .un=v at h hk ⊢
 cases v with
 | sl f z xs=>cases f <;> first | exact hk | cases h
 | b _=>exact hk
 | i _ _=>exact hk
 | s _=>exact hk
 | nil=>exact hk
 | _=>cases h
theorem mvL_own{S:St}{s:Nat}:∀ (xs:List Operand) (d:Bool) (K:List V→St→Prop),okO S.t s d xs=true→K (xs.map (ev S)) (aft S s true)→mvL (aft S s d) xs K
 | [],d,K,h,hk=>by simp only [okO] at h;subst h;exact hk
 | .tmp j::xs,d,K,h,hk=>by
  simp only [okO] at h
  unfold mvL
  cases hj:Nat.beq j s with
  | true =>
   rw [hj] at h
   simp only [cond_true,Bool.and_eq_true,Bool.not_eq_true'] at h
   obtain⟨⟨rfl,h2⟩,h3⟩:=h
   have hjs:=Nat.eq_of_beq_eq_true hj
   subst hjs
   have:=mvL_own xs true (fun vs st''=>K (S.t.getD j .un::vs) st'') h3 hk
   unfold mvA
   show (match S.t.getD j .un with | .sl .shr z xs=>_ | .sl _ z _=>_ | v=>_)
   cases hv:S.t.getD j .un with
   | ag cs =>
    rw [hv] at h2 this
    simp only [ownAg,Bool.and_eq_true,Bool.not_eq_true'] at h2
    simp only [cp,h2.2,cond_false]
    exact this
   | _=>rw [hv] at h2;cases h2
  | false =>
   rw [hj] at h
   simp only [cond_false,Bool.and_eq_true] at h
   have hg:=aft_get (S:=S) (d:=d) hj
   refine mvA_cpq (by rw [hg];exact h.1) ?_
   rw [hg]
   exact mvL_own xs d (fun vs st''=>K (S.t.getD j .un::vs) st'') h.2 hk
 | .const v::xs,d,K,h,hk=>by
  simp only [okO] at h
  unfold mvL mvA
  exact mvL_own xs d (fun vs st''=>K (cst v::vs) st'') h hk
 | .func _::xs,d,K,h,hk=>by simp [okO] at h
 | .global _::xs,d,K,h,hk=>by simp [okO] at h
theorem coCs_plain{E:Env}{st:St}:∀ (cs:List V) (K:List V→St→Prop),plains cs=true→K cs st→coCs E st cs K
 | [],K,_,hk=>hk
 | v::cs,K,h,hk=>by
  simp only [plains,Bool.and_eq_true] at h
  have:=coCs_plain (E:=E) (st:=st) cs (fun vs st'=>K (v::vs) st') h.2 hk
  unfold coCs
  cases v with
  | rf _ _ _=>cases h.1
  | _=>exact this
theorem coL_own{E:Env}{S:St}{s:Nat}:∀ (xs:List Operand) (d:Bool) (K:List V→St→Prop),okO S.t s d xs=true→K (xs.map (ev S)) (aft S s true)→coL E (aft S s d) xs K
 | [],d,K,h,hk=>by simp only [okO] at h;subst h;exact hk
 | .tmp j::xs,d,K,h,hk=>by
  simp only [okO] at h
  unfold coL
  cases hj:Nat.beq j s with
  | true =>
   rw [hj] at h
   simp only [cond_true,Bool.and_eq_true,Bool.not_eq_true'] at h
   obtain⟨⟨rfl,h2⟩,h3⟩:=h
   have hjs:=Nat.eq_of_beq_eq_true hj
   subst hjs
   have:=coL_own (E:=E) xs true (fun vs st''=>K (S.t.getD j .un::vs) st'') h3 hk
   unfold coA
   show (match S.t.getD j .un with | .rf p z u=>_ | .ag cs=>_ | v=>_)
   cases hv:S.t.getD j .un with
   | ag cs =>
    rw [hv] at h2 this
    simp only [ownAg,Bool.and_eq_true,Bool.not_eq_true'] at h2
    exact coCs_plain cs _ h2.1 this
   | _=>rw [hv] at h2;cases h2
  | false =>
   rw [hj] at h
   simp only [cond_false,Bool.and_eq_true] at h
   have hg:=aft_get (S:=S) (d:=d) hj
   refine coA_cpq (by rw [hg];exact h.1) ?_
   rw [hg]
   exact coL_own (E:=E) xs d (fun vs st''=>K (S.t.getD j .un::vs) st'') h.2 hk
 | .const v::xs,d,K,h,hk=>by
  simp only [okO] at h
  unfold coL coA
  exact coL_own (E:=E) xs d (fun vs st''=>K (cst v::vs) st'') h hk
 | .func _::xs,d,K,h,hk=>by simp [okO] at h
 | .global _::xs,d,K,h,hk=>by simp [okO] at h
noncomputable def stQ(E:Env)(o:Oper)(t:Nat)(x y:Operand)(M:St)(K:Pt→Prop):Prop :=
 match o.dst with
 | some _=>False
 | none=>(match ev M x with
  | .pt ⟨.bx b,[],k⟩=>(match (kn (E.ti t).k && Nat.beq 1 (E.ti t).sz) && scal (ev M y) with
   | true=>(match (rowOf M (.bx b)).drop k with
    | old::_=>(match scal old with | true=>K (.w b ((rowOf M (.bx b)).set k (ev M y))) | false=>False)
    | []=>False)
   | false=>False)
  | _=>False)
/-- An append whose slices are both own, of temporaries. -/
noncomputable def appQ(E:Env)(d:Option Nat)(M:St)(ts:List Nat)(args:List Operand)(K:Pt→Prop):Prop :=
 match d,ts,args with
 | some _,[t,tx],[.tmp jx,.tmp jy] =>
  (match (E.ti t).k,(E.ti tx).k with
  | .slice e,.slice _=>(match kn (E.ti e).k with
   | true=>(match M.t.getD jx .un with
    | .rf ⟨.tp s,[],0⟩ z none=>(match M.t.getD s .un with
     | .sl .own z1 xs=>(match M.t.getD jy .un with
      | .sl .own z2 ys=>(match ((z == (E.ti e).sz && z1 == z) && z2 == (E.ti e).sz) && !(Nat.beq jy s) with
       | true=>Room (plus (llen xs) (llen ys)) (E.ti e).by_∧K (.a s jy (.sl .own (E.ti e).sz (app xs ys)))
       | false=>False)
      | _=>False)
     | _=>False)
    | _=>False)
   | false=>False)
  | _,_=>False)
 | _,_,_=>False
theorem appQ_det{E:Env}{d:Option Nat}{M:St}{ts:List Nat}{args:List Operand}{K:Pt→Prop}(h:appQ E d M ts args K):∃p,appQ E d M ts args (fun q=>q=p)∧K p:=by
 unfold appQ at h ⊢
 split at h
 ·split at h
  ·split at h
   ·split at h
    ·split at h
     ·split at h
      ·split at h
       ·rename_i hc
        exact ⟨_,⟨h.1,rfl⟩,h.2⟩
       ·exact h.elim
      ·exact h.elim
     ·exact h.elim
    ·exact h.elim
   ·exact h.elim
  ·exact h.elim
 ·exact h.elim
noncomputable def stpY(E:Env)(o:Oper)(M:St)(K:Pt→Prop):Prop :=
 match o.op with
 | .alloc t=>(match o.dst with | some d=>bif kn (E.ti t).k then K (.al (E.ti t).zr) else False | none=>False)
 | .move (.tmp s)=>(match M.t.getD s .un with
   | .un=>False
   | .sl .shr z xs=>K (.q (.sl .shr z xs))
   | .sl _ z _=>K (.q (.rf ⟨.tp s,[],0⟩ z none))
   | v=>(match cp v with | true=>K (.q v) | false=>K (.c s .un v)))
 | .extract (.tmp s) j=>(match M.t.getD s .un with
   | .tu cs=>(match nthV cs j with | some v=>(match cp v with | true=>K (.q v) | false=>K (.c s (.tu (cs.set j .un)) v)) | none=>False)
   | _=>False)
 | .build t parts=>(match fstO M.t (parts.toList.map (·.2)) with
   | some s=>(match (E.ti t).k with
    | .strct fs=>bif okO M.t s false (parts.toList.map (·.2)) then bdP fs (parts.toList.map (·.1)) ((parts.toList.map (·.2)).map (ev M)) (E.ti t).zr fun cells=>K (.c s .un (.ag cells)) else False
    | _=>False)
   | none=>qA E o M fun v=>K (.q v))
 | .buildSlice t len parts=>(match fstO M.t (parts.toList.map (·.2)) with
   | some s=>(match (E.ti t).k with
    | .slice e=>bif okO M.t s false (parts.toList.map (·.2)) && ((kn (E.ti e).k && isSeq 0 parts.toList && Nat.beq parts.toList.length len && Nat.ble (len*(E.ti e).sz+len) 16777216) && okL (E.ti e).sz ((parts.toList.map (·.2)).map (ev M))) then K (.c s .un (.sl .own (E.ti e).sz (((parts.toList.map (·.2)).map (ev M)).map fun v=>fits (E.ti e).zr (cellsOf v)))) else False
    | _=>False)
   | none=>qA E o M fun v=>K (.q v))
 | .binOp _ _ _ y _=>(match ev M y with | .nil=>False | _=>qA E o M fun v=>K (.q v))
 | .call { callee:=.builtin .copy,args:=args,argTypes:=ts }=>copyQ E M ts.toList args.toList fun s x v=>K (.c s x v)
 | .store t x y=>stQ E o t x y M K
 | .call { callee:=.builtin .append,args:=args,argTypes:=ts }=>appQ E o.dst M ts.toList args.toList K
 | _=>qA E o M fun v=>K (.q v)
noncomputable def stepP(E:Env)(ops:List Oper)(o:Oper)(M:St)(K:Pt→Prop):Prop:=gdA ops o M (fun _=>stpY E o M K) (fun _=>K (.q (.tu [])))
def chkP(d:Option Nat)(r:PRow)(p:Pt)(s0 acc:List V):Bool :=
 (p.sl d).all (mem r.tu) && (p.vs d).all (fun v => !(hitA r.ms v)) &&
 (bif kly p then (match d with | some d => !(hitsA (klS p d) s0) && !(hitsA (klS p d) acc) | none => !(isApp p)) else true)
noncomputable def regD(E:Env)(ops:List Oper):List (Oper × PRow)→List V→List V→St→(St→Prop)→Prop
 | [],_,_,st,K=>K st
 | (o,r)::rest,s0,acc,st,K =>
  (match r.tt with
  | true=>gdA ops o st (fun _=>opA E o st fun st'=>regD E ops rest st'.t [] st' K) (fun _=>regD E ops rest (pu st o.dst (.tu [])).t [] (pu st o.dst (.tu [])) K)
  | false=>stepP E ops o (maskS r.ms st) fun p=>(match chkP o.dst r p s0 acc with | true=>regD E ops rest s0 (p.vs o.dst++acc) (apP o.dst p st) K | false=>False))
theorem gdA_two(ops:List Oper)(o:Oper)(st:St):(∀y n,gdA ops o st y n=y ())∨(∀y n,gdA ops o st y n=n ())∨(∀y n,gdA ops o st y n=False):=by
 unfold gdA
 cases hg:o.guard with
 | none=>exact .inl fun _ _=>rfl
 | some gw =>
  obtain⟨g,want⟩:=gw
  simp only
  cases hd:(ops[g]?).bind (·.dst) with
  | none=>exact .inr (.inl fun _ _=>rfl)
  | some d =>
   simp only
   cases hx:st.t.getD d .un with
   | b x =>
    cases want <;> cases x
    ·exact .inl fun _ _=>rfl
    ·exact .inr (.inl fun _ _=>rfl)
    ·exact .inr (.inl fun _ _=>rfl)
    ·exact .inl fun _ _=>rfl
   | tu vs =>
    cases vs with
    | nil=>exact .inr (.inl fun _ _=>rfl)
    | cons _ _=>exact .inr (.inr fun _ _=>rfl)
   | _=>exact .inr (.inr fun _ _=>rfl)
theorem bdP_mono{fs:List (Nat × Nat × Bool)}{K K':List V→Prop}(hk:∀cs,K cs→K' cs):∀ (is:List Nat) (vs cells:List V),bdP fs is vs cells K→bdP fs is vs cells K'
 | i::is,v::vs,cells,h=>by
  unfold bdP at h ⊢
  split at h
  ·cases hc:(okc v && (Nat.beq (cellsOf v).length _ && Nat.ble _ cells.length)) with
   | false=>rw [hc] at h;exact h.elim
   | true=>rw [hc] at h;exact bdP_mono hk is vs _ h
  ·exact h.elim
 | [],[],cells,h=>hk _ h
 | [],_::_,_,h=>by simp only [bdP] at h
 | _::_,[],_,h=>by simp only [bdP] at h
theorem bdP_det{fs:List (Nat × Nat × Bool)}{K:List V→Prop}:∀ (is:List Nat) (vs cells:List V),bdP fs is vs cells K→∃cs,bdP fs is vs cells (fun x=>x=cs)∧K cs
 | i::is,v::vs,cells,h=>by
  unfold bdP at h
  split at h
  ·rename_i off n ag hf
   cases hc:(okc v && (Nat.beq (cellsOf v).length n && Nat.ble (off+n) cells.length)) with
   | false=>rw [hc] at h;exact h.elim
   | true =>
    rw [hc] at h
    obtain⟨cs,h1,h2⟩:=bdP_det is vs _ h
    refine ⟨cs,?_,h2⟩
    unfold bdP
    simp only [hf,hc,cond_true]
    exact h1
  ·exact h.elim
 | [],[],cells,h=>⟨cells,rfl,h⟩
 | [],_::_,_,h=>by simp only [bdP] at h
 | _::_,[],_,h=>by simp only [bdP] at h
theorem qA_det{E:Env}{o:Oper}{st:St}(hb:∀op t x y yt,o.op=.binOp op t x y yt→ev st y≠.nil):Det (qA E o st):=by
 intro K h
 unfold qA at h ⊢
 split at h
 ·exact qmv_det K h
 ·split at h
  ·rename_i t hg
   cases t with
   | true=>exact qmv_det K h
   | false=>exact qmv_det K h
  ·exact h.elim
 ·exact loadA_det K h
 ·split at h
  ·exact ⟨_,rfl,h⟩
  ·exact h.elim
 ·rename_i t x j ho
  unfold fieldAddrA at h ⊢
  split at h
  ·split at h
   ·exact ⟨_,rfl,h⟩
   ·exact h.elim
  ·exact h.elim
 ·rename_i op t x y yt ho;exact binA_det (hb _ _ _ _ _ ho) K h
 ·exact unA_det K h
 ·exact sixA_det K h
 ·exact ixA_det K h
 ·exact slA_det K h
 ·exact mkA_det K h
 ·exact fdA_det K h
 ·exact cvA_det K h
 ·unfold buQ at h ⊢
  split at h
  ·cases hc:cpL st _ with
   | false=>rw [hc] at h;exact h.elim
   | true =>
    rw [hc] at h
    obtain⟨cells,h1,h2⟩:=bdP_det _ _ _ h
    exact ⟨.ag cells,bdP_mono (fun cs e=>by rw [e]) _ _ _ h1,h2⟩
  ·exact h.elim
 ·unfold bs0 at h ⊢
  split at h
  ·cases hkn:(_ && okL _ _) with
   | false=>rw [hkn] at h;exact h.elim
   | true=>rw [hkn] at h;exact ⟨_,rfl,h⟩
  ·exact h.elim
 ·exact qex_det K h
 ·split at h
  ·exact h.elim
  ·exact buiA_det K h
  ·split at h
   ·rename_i f caps hg
    cases hl:E.ln f with
    | true=>rw [hl] at h;exact h.elim
    | false=>rw [hl] at h;exact callQ_det K h
   ·exact h.elim
  ·exact h.elim
 ·exact h.elim
theorem q_eq(v:V):(fun u:V=>Pt.q u=Pt.q v)=(fun u=>u=v):=by
 funext u
 exact propext ⟨fun h=>by injection h,fun h=>by rw [h]⟩
theorem copyQ_det{E:Env}{st:St}{ts:List Nat}{args:List Operand}{K:Nat→V→V→Prop}(h:copyQ E st ts args K):∃s x v,copyQ E st ts args (fun s' x' v'=>Pt.c s' x' v'=Pt.c s x v)∧K s x v:=by
 unfold copyQ at h ⊢
 split at h
 ·split at h
  ·split at h
   ·split at h
    ·cases hc:(kn _ && (Nat.beq _ _ && Nat.beq _ _)) with
     | false=>rw [hc] at h;exact h.elim
     | true =>
      rw [hc] at h
      simp only [cond_true] at h
      obtain⟨ys,h1,h2,h3⟩:=slK_det h
      refine ⟨_,_,_,?_,h3⟩
      simp only [cond_true]
      refine slK_mono (fun y hy=>?_) h1
      subst hy
      exact ⟨h2,rfl⟩
    ·exact h.elim
   ·exact h.elim
  ·exact h.elim
 ·exact h.elim
theorem stpY_det{E:Env}{o:Oper}{M:St}{K:Pt→Prop}(h:stpY E o M K):∃p,stpY E o M (fun q=>q=p)∧K p:=by
 have key:(∀op t x y yt,o.op=.binOp op t x y yt→ev M y≠.nil)→qA E o M (fun v=>K (.q v))→∃p,(∃v,p=Pt.q v∧qA E o M (fun u=>Pt.q u=p))∧K p:=by
  intro hb h
  obtain⟨v,h1,h2⟩:=qA_det hb _ h
  exact ⟨.q v,⟨v,rfl,by rw [q_eq];exact h1⟩,h2⟩
 unfold stpY at h ⊢
 split at h
 ·split at h
  ·cases hk:kn _ with
   | true=>rw [hk] at h;exact ⟨_,rfl,h⟩
   | false=>rw [hk] at h;exact h.elim
  ·exact h.elim
 ·split at h
  ·exact h.elim
  ·exact ⟨_,rfl,h⟩
  ·exact ⟨_,rfl,h⟩
  ·cases hc:cp _ with
   | true=>rw [hc] at h;exact ⟨_,rfl,h⟩
   | false=>rw [hc] at h;exact ⟨_,rfl,h⟩
 ·split at h
  ·split at h
   ·cases hc:cp _ with
    | true=>rw [hc] at h;exact ⟨_,rfl,h⟩
    | false=>rw [hc] at h;exact ⟨_,rfl,h⟩
   ·exact h.elim
  ·exact h.elim
 ·split at h
  ·split at h
   ·cases hc:okO M.t _ false _ with
    | false=>rw [hc] at h;exact h.elim
    | true =>
     rw [hc] at h
     obtain⟨cells,h1,h2⟩:=bdP_det _ _ _ h
     exact ⟨_,bdP_mono (fun cs e=>by rw [e]) _ _ _ h1,h2⟩
   ·exact h.elim
  ·obtain⟨p,⟨v,_,h1⟩,h2⟩:=key (fun op' t' x' y' yt' ho'=>by simp_all) h
   exact ⟨p,h1,h2⟩
 ·split at h
  ·split at h
   ·rename_i e _
    cases hc:(okO M.t _ false _ && _) with
    | false=>rw [hc] at h;exact h.elim
    | true=>rw [hc] at h;exact ⟨_,rfl,h⟩
   ·exact h.elim
  ·obtain⟨p,⟨v,_,h1⟩,h2⟩:=key (fun op' t' x' y' yt' ho'=>by simp_all) h
   exact ⟨p,h1,h2⟩
 ·rename_i op t x y yt ho
  split at h
  ·exact h.elim
  ·rename_i hn
   obtain⟨p,⟨v,_,h1⟩,h2⟩:=key (fun op' t' x' y' yt' ho'=>by rw [ho] at ho';injection ho' with _ _ _ e _;rw [←e];exact hn) h
   exact ⟨p,h1,h2⟩
 ·obtain⟨s,x,v,h1,h2⟩:=copyQ_det h
  exact ⟨.c s x v,h1,h2⟩
 ·unfold stQ at h ⊢
  split at h
  ·exact h.elim
  ·split at h
   ·split at h
    ·split at h
     ·split at h
      ·exact ⟨_,rfl,h⟩
      ·exact h.elim
     ·exact h.elim
    ·exact h.elim
   ·exact h.elim
 ·exact appQ_det h
 ·rename_i h0 _ _ _
  obtain⟨p,⟨v,_,h1⟩,h2⟩:=key (fun op' t' x' y' yt' ho'=>absurd ho' (h0 _ _ _ _ _)) h
  exact ⟨p,h1,h2⟩
section
variable {E:Env} {c:Cx} {o:Oper}
theorem hits_set{r:Rt}:∀ (cs:List V) (j:Nat),hits r cs=false→hits r (cs.set j .un)=false
 | [],_,_=>by simp [hits]
 | v::cs,0,h=>by
  simp only [hits,Bool.or_eq_false_iff] at h
  simp only [List.set_cons_zero,hits,Bool.or_eq_false_iff]
  exact ⟨by simp [hit],h.2⟩
 | v::cs,j+1,h=>by
  simp only [hits,Bool.or_eq_false_iff] at h
  simp only [List.set_cons_succ,hits,Bool.or_eq_false_iff]
  exact ⟨h.1,hits_set cs j h.2⟩
theorem Wk.get{M S:St}(hw:Wk M S){s:Nat}{v:V}(h:M.t.getD s .un=v)(hv:v≠.un):S.t[s]?=some v:=by
 rcases hw.t s v (getD_some h hv) with h1 | h1
 ·exact h1
 ·exact absurd h1 hv
theorem q_sound(hE:EnvOk E)(hfit:Fit E c){S M:St}{a:Act}{w:World}{G:Gh}{v:V}{N:Act→World→Prop}{Q:Exit→Act→World→Prop}(h:Rel c S a w G)(hw:Wk M S)(hk:qA E o M fun u=>u=v)
  (hkl:isSl v=true→∀d,o.dst=some d→∀v∈S.t,hit (.tp d) v=false∧hit (.bx d) v=false) (hN:∀a' w' G',Rel c (apP o.dst (.q v) S) a' w' G'→N a' w'):o.wp E.P a w N Q:=by
 refine qA_sound hE hfit M a w G (fun u=>u=v) N Q (h.wk hw) hk fun v' u w' T hv hb hr hT=>?_
 subst hv
 obtain⟨G',hG⟩:=(h.ext hb).put1 o.dst (v:=v') (u:=u) (T:=T) hr (fun b hb'=>by
  obtain⟨z1,z2⟩:=hT b hb'
  refine ⟨?_,z2,.inl (Nat.le_trans h.sz z1)⟩
  cases ho':G.ow b with
  | no=>rfl
  | _=>have:=(h.ob b (by rw [ho'];simp)).1;omega)
 refine hN _ _ G' ?_
 have e:pu S o.dst v'=apP o.dst (.q v') S:=by
  unfold pu apP putT putD
  cases hd:o.dst with
  | none=>rfl
  | some d =>
   cases hs:isSl v' with
   | false=>rfl
   | true =>
    simp only [cond_true]
    rw [killR_id _ fun x hx=>(hkl hs d hd x hx).1]
 rw [←e];exact hG
theorem scal_cpq{v:V}(h:scal v=true):cpq v=true:=by cases v <;> first | rfl | cases h
theorem scal_cells{v:V}(h:scal v=true):cellsOf v=[v]:=by cases v <;> first | rfl | cases h
theorem scal_plain{v:V}(h:scal v=true):plain v=true:=by cases v <;> first | rfl | cases h
theorem scal_fit{u v:V}(h:scal v=true):fitC u v=v:=by cases v <;> first | rfl | cases h
theorem coA_scal{E:Env}{st:St}{y:Operand}{v:V}{K:V→St→Prop}(he:ev st y=v)(h:scal v=true)(hk:K v st):coA E st y K:=by
 cases y with
 | tmp j=>subst he;exact coA_cpq (scal_cpq h) hk
 | const u=>subst he;exact hk
 | func f=>subst he;cases h
 | global g=>subst he;cases h
theorem Wk.ev{M S:St}(hw:Wk M S){x:Operand}(h:ev M x≠.un):Ar.ev S x=Ar.ev M x:=by
 cases x with
 | tmp s =>
  have:=hw.get (s:=s) rfl h
  simp only [Ar.ev,List.getD_eq_getElem?_getD,this];rfl
 | _=>rfl
theorem Wk.row{M S:St}(hw:Wk M S){b:Nat}(h:M.m.getD b []≠[]):S.m.getD b []=M.m.getD b []:=by
 cases hm:M.m[b]? with
 | none=>rw [List.getD_eq_getElem?_getD,hm] at h;exact absurd rfl h
 | some row =>
  rw [List.getD_eq_getElem?_getD,hm] at h
  rcases hw.m b row hm with h1 | h1
  ·rw [List.getD_eq_getElem?_getD,List.getD_eq_getElem?_getD,hm,h1]
  ·exact absurd h1 h
theorem stQ_sound(hE:EnvOk E)(hfit:Fit E c){S M:St}{a:Act}{w:World}{G:Gh}{p:Pt}{t:Nat}{x y:Operand}{N:Act→World→Prop}{Q:Exit→Act→World→Prop}(h:Rel c S a w G)(hw:Wk M S)(ho:o.op=.store t x y)(hk:stQ E o t x y M fun q=>q=p)
  (hN:∀a' w' G',Rel c (apP o.dst p S) a' w' G'→N a' w'):o.wp E.P a w N Q:=by
 unfold stQ at hk
 split at hk
 ·exact hk.elim
 ·rename_i hd
  split at hk
  ·rename_i b k hx
   split at hk
   ·rename_i hc
    simp only [Bool.and_eq_true] at hc
    obtain⟨⟨hkn,hsz⟩,hsy⟩:=hc
    split at hk
    ·rename_i old rest hrow
     split at hk
     ·rename_i hso
      subst hk
      have hr:M.m.getD b []≠[]:=by
       intro e
       simp only [rowOf,e,List.drop_nil] at hrow
       cases hrow
      have hrS:rowOf S (.bx b)=rowOf M (.bx b):=hw.row hr
      have hxS:ev S x=.pt ⟨.bx b,[],k⟩:=by rw [hw.ev (by rw [hx];simp),hx]
      have hyS:ev S y=ev M y:=hw.ev (fun e=>by rw [e] at hsy;cases hsy)
      refine store_sound hE hfit ho S a w G (fun st'=>st'=apP o.dst (.w b ((rowOf M (.bx b)).set k (ev M y))) S) N Q h ?_ (fun st' a' w' G' e hr=>hN a' w' G' (e▸hr))
      unfold storeA
      rw [hxS]
      simp only [hkn,cond_true]
      refine coA_scal hyS hsy ?_
      rw [scal_cells hsy]
      have hsz':Nat.beq [ev M y].length (E.ti t).sz=true:=hsz
      rw [hsz']
      simp only [cond_true]
      unfold stA
      have hw1:((wrOk E (.bx b) [] && plains [ev M y]) && Nat.ble 1 [ev M y].length)=true:=by
       simp [wrOk,plains,scal_plain hsy]
      simp only [hw1,cond_true,updK,hrS]
      have htk:((rowOf M (.bx b)).drop k).take 1=[old]:=by rw [hrow];rfl
      refine ⟨hr,?_⟩
      unfold stF
      simp only [List.length_cons,List.length_nil,Nat.zero_add,htk,Nat.beq_refl,cond_true,scals,hso,Bool.and_self,fits,splice,scal_fit hsy]
      rw [hd]
      rfl
     ·exact hk.elim
    ·exact hk.elim
   ·exact hk.elim
  ·exact hk.elim
theorem killH_nd(kp:List Nat):∀ (t:List V) (j:Nat),(∀v∈t,deep v=false)→killH kp j t=t
 | [],_,_=>rfl
 | v::t,j,h=>by
  unfold killH
  rw [killH_nd kp t (j+1) fun x hx=>h x (by simp [hx]),h v (by simp)]
  cases kp.any (Nat.beq j) <;> rfl
theorem keepOk_nd{t:List V}{p:Pl}(h:∀v∈t,deep v=false):∀js:List Nat,keepOk t p js
 | []=>trivial
 | j::js=>by
  refine ⟨?_,keepOk_nd h js⟩
  have hd:deep (t.getD j .un)=false:=by
   cases e:t[j]? with
   | none=>rw [List.getD_eq_getElem?_getD,e];rfl
   | some v=>rw [List.getD_eq_getElem?_getD,e];exact h v (List.mem_of_getElem? e)
  split
  ·rename_i q hq
   rw [hq] at hd
   have:q.ps=[]:=by
    unfold deep at hd
    split at hd
    ·assumption
    ·cases hd
   rw [this]
   cases Rt.beq q.r p.r with
   | true=>trivial
   | false=>rfl
  ·exact hd
theorem appQ_sound(hE:EnvOk E)(hfit:Fit E c){S M:St}{a:Act}{w:World}{G:Gh}{p:Pt}{args:Array Operand}{ts:Array TypeId}{N:Act→World→Prop}{Q:Exit→Act→World→Prop}(h:Rel c S a w G)(hw:Wk M S)
  (ho:o.op=.call { callee:=.builtin .append,args:=args,argTypes:=ts }) (hk:appQ E o.dst M ts.toList args.toList fun q=>q=p)
  (hkl:∀d,o.dst=some d→∀v∈S.t,hit (.tp d) v=false∧hit (.bx d) v=false) (hda:isApp p=true→∀v∈S.t,deep v=false) (hN:∀a' w' G',Rel c (apP o.dst p S) a' w' G'→N a' w'):o.wp E.P a w N Q:=by
 unfold appQ at hk
 split at hk
 ·rename_i d t tx jx jy hd hts hargs
  split at hk
  ·rename_i e e' hk1 hk2
   split at hk
   ·rename_i hkn
    split at hk
    ·rename_i s z hjx
     split at hk
     ·rename_i z1 xs hs
      split at hk
      ·rename_i z2 ys hjy
       split at hk
       ·rename_i hc
        obtain⟨hroom,rfl⟩:=hk
        simp only [Bool.and_eq_true,Bool.not_eq_true',beq_iff_eq] at hc
        obtain⟨⟨⟨hz,hz1⟩,hz2⟩,hne⟩:=hc
        subst hz1
        have gS:∀ {j:Nat} {v:V},M.t.getD j .un=v→v≠.un→S.t.getD j .un=v:=fun h1 h2=>by
         have:=hw.get h1 h2;rw [List.getD_eq_getElem?_getD,this];rfl
        have xS:=gS hjx (by simp)
        have sS:=gS hs (by simp)
        have yS:=gS hjy (by simp)
        have hda:=hda rfl
        have hjs:s≠jy:=fun e=>by subst e;simp at hne
        have hS2:∀v∈(S.t.set s .un).set jy .un,v∈S.t∨v=V.un:=by
         intro v hv
         rcases List.mem_or_eq_of_mem_set hv with hv | hv
         ·rcases List.mem_or_eq_of_mem_set hv with hv | hv
          ·exact .inl hv
          ·exact .inr hv
         ·exact .inr hv
        have hnd:∀v∈(S.t.set s .un).set jy .un,deep v=false:=fun v hv=>(hS2 v hv).elim (hda v) (fun e=>by rw [e];rfl)
        refine append_sound hE hfit ho S a w G (fun st'=>st'=apP o.dst (.a s jy (.sl .own (E.ti e).sz (app xs ys))) S) N Q h ?_ (fun st' a' w' G' e hr=>hN a' w' G' (e▸hr))
        unfold appA
        rw [hts,hargs]
        simp only [hk1,hkn,cond_true]
        unfold dstA
        simp only [ev,xS]
        unfold takeA
        simp only [sS]
        rw [show (z1 == z1 && Nat.beq 0 0)=true by simp]
        simp only [cond_true,sub]
        rw [show (z1 == (E.ti e).sz)=true by simpa using hz]
        simp only [cond_true]
        unfold srcA
        simp only [hk2,ev]
        rw [show (S.t.set s .un).getD jy .un=.sl .own z2 ys by rw [List.getD_eq_getElem?_getD,List.getElem?_set_ne hjs,←List.getD_eq_getElem?_getD,yS]]
        simp only
        rw [show (z2 == (E.ti e).sz)=true by simpa using hz2]
        simp only [cond_true]
        refine ⟨hroom,keepOk_nd hnd _,?_⟩
        rw [killH_nd _ _ _ hnd,hd]
        simp only [pu,putT,apP,putD,isSl,cond_true]
        rw [killR_id _ fun v hv=>(hS2 v hv).elim (fun hv=>(hkl d hd v hv).1) (fun e=>by rw [e];rfl)]
       ·exact hk.elim
      ·exact hk.elim
     ·exact hk.elim
    ·exact hk.elim
   ·exact hk.elim
  ·exact hk.elim
 ·exact hk.elim
theorem stpY_sound(hE:EnvOk E)(hfit:Fit E c){S M:St}{a:Act}{w:World}{G:Gh}{p:Pt}{N:Act→World→Prop}{Q:Exit→Act→World→Prop}(h:Rel c S a w G)(hw:Wk M S)(hk:stpY E o M fun q=>q=p)
  (hkl:kly p=true→∀d,o.dst=some d→∀v∈S.t,hit (.tp d) v=false∧hit (.bx d) v=false) (hda:isApp p=true→∀v∈S.t,deep v=false) (hN:∀a' w' G',Rel c (apP o.dst p S) a' w' G'→N a' w'):o.wp E.P a w N Q:=by
 have hq:∀v,p=.q v→qA E o M (fun u=>u=v)→o.wp E.P a w N Q:=by
  intro v hp hq
  subst hp
  exact q_sound hE hfit h hw hq hkl hN
 unfold stpY at hk
 split at hk
 ·rename_i t ho
  split at hk
  ·rename_i d hd
   cases hkn:kn (E.ti t).k with
   | false=>rw [hkn] at hk;exact hk.elim
   | true =>
    rw [hkn] at hk
    have hk:Pt.al (E.ti t).zr=p:=hk
    subst hk
    refine alloc_sound hE ho S a w G (fun st'=>st'=apP o.dst (.al (E.ti t).zr) S) N Q h ?_ (fun st' a' w' G' e hr=>hN a' w' G' (e▸hr))
    unfold allocA
    rw [hd]
    simp only [hkn,cond_true]
    rw [killR_id _ fun x hx=>(hkl rfl d hd x hx).2]
    rfl
  ·exact hk.elim
 ·rename_i s ho
  have key:∀v,v≠.un→M.t.getD s .un=v→cp v=false→isSl v=false→Pt.c s .un v=p→o.wp E.P a w N Q:=by
   intro v hv hg hc hs hp
   subst hp
   have hS:=hw.get hg hv
   have hS':S.t.getD s .un=v:=by simp [hS]
   refine move_sound ho S a w G (fun st'=>st'=apP o.dst (.c s .un v) S) N Q h ?_ (fun st' a' w' G' e hr=>hN a' w' G' (e▸hr))
   unfold mvA
   simp only [hS']
   cases v <;> simp [isSl] at hs <;> simp only [hc,cond_false] <;> (cases o.dst <;> simp [pu,putT,apP,putD,isSl])
  have hqm:∀v,qmv M (.tmp s) (fun u=>u=v)→qA E o M (fun u=>u=v):=fun v hv=>by unfold qA;rw [ho];exact hv
  split at hk
  ·exact hk.elim
  ·rename_i z xs hg
   exact hq _ hk.symm (hqm _ (by unfold qmv;simp only [hg]))
  ·rename_i f z xs hf hg
   refine hq _ hk.symm (hqm _ ?_)
   unfold qmv
   cases f with
   | shr=>exact absurd rfl (hf)
   | own=>simp only [hg]
   | lent=>simp only [hg]
  ·rename_i hn1 hn2 hn3
   cases hc:cp (M.t.getD s .un) with
   | true =>
    rw [hc] at hk
    refine hq _ hk.symm (hqm _ ?_)
    unfold qmv
    simp only [hc,cond_true]
   | false =>
    rw [hc] at hk
    have hs:isSl (M.t.getD s .un)=false:=by
     unfold isSl
     split
     ·rename_i f z xs e;exact absurd e (hn3 f z xs)
     ·rfl
    exact key _ hn1 rfl hc hs hk
 ·rename_i s j ho
  split at hk
  ·rename_i cs hg
   have hS:=hw.get hg (by simp)
   have hS':S.t.getD s .un=.tu cs:=by simp [hS]
   split at hk
   ·rename_i v hj
    have hj:cs[j]?=some v:=by rw [←nthV_eq];exact hj
    cases hc:cp v with
    | true =>
     rw [hc] at hk
     exact hq _ hk.symm (by unfold qA;rw [ho];unfold qex;simp only [hg,nthV_eq,hj,hc,cond_true])
    | false =>
     rw [hc] at hk
     have hk:Pt.c s (.tu (cs.set j .un)) v=p:=hk
     subst hk
     refine extract_sound ho S a w G (fun st'=>st'=apP o.dst (.c s (.tu (cs.set j .un)) v) S) N Q h ?_ (fun st' a' w' G' e hr=>hN a' w' G' (e▸hr))
     unfold exA
     simp only [hS',nthV_eq,hj,hc,cond_false]
     cases hd:o.dst with
     | none=>rfl
     | some d =>
      simp only [pu,putT,apP,putD]
      cases hs:isSl v with
      | false=>rfl
      | true =>
       simp only [cond_true]
       rw [killR_id]
       intro x hx
       rcases List.mem_or_eq_of_mem_set hx with hx | rfl
       ·exact (hkl hs d hd x hx).1
       ·have:=(hkl hs d hd _ (List.mem_of_getElem? hS)).1
        simp only [hit] at this ⊢
        exact hits_set _ _ this
   ·exact hk.elim
  ·exact hk.elim
 ·rename_i t parts ho
  split at hk
  ·rename_i s hs
   split at hk
   ·rename_i fs hks
    cases hc:okO M.t s false (parts.toList.map (·.2)) with
    | false=>rw [hc] at hk;exact hk.elim
    | true =>
     rw [hc] at hk
     simp only [cond_true] at hk
     obtain⟨k1,k2⟩:=okO_wk (S:=S) (fun j v h1 h2=>by have:=hw.get h1 h2;rw [List.getD_eq_getElem?_getD,this];rfl) s _ _ hc
     rw [k2] at hk
     obtain⟨cells,h1,h2⟩:=bdP_det _ _ _ hk
     subst h2
     refine build_sound hE ho S a w G (fun st'=>st'=apP o.dst (.c s .un (.ag cells)) S) N Q h ?_ (fun st' a' w' G' e hr=>hN a' w' G' (e▸hr))
     unfold buA
     rw [hks]
     refine mvL_own (S:=S) (s:=s) _ false _ k1 ?_
     refine bdP_mono (fun cs e=>?_) _ _ _ h1
     subst e
     cases o.dst <;> simp [pu,putT,apP,putD,isSl,aft]
   ·exact hk.elim
  ·obtain⟨v,h1,h2⟩:=qA_det (fun op' t' x' y' yt' ho'=>by rw [ho] at ho';cases ho') _ hk
   exact hq v h2.symm h1
 ·rename_i t len parts ho
  split at hk
  ·rename_i s hs
   split at hk
   ·rename_i e hks
    cases hc:(okO M.t s false (parts.toList.map (·.2)) && ((kn (E.ti e).k && isSeq 0 parts.toList && Nat.beq parts.toList.length len && Nat.ble (len*(E.ti e).sz+len) 16777216) && okL (E.ti e).sz ((parts.toList.map (·.2)).map (ev M)))) with
    | false=>rw [hc] at hk;exact hk.elim
    | true =>
     rw [hc] at hk
     simp only [cond_true] at hk
     rw [Bool.and_eq_true,Bool.and_eq_true] at hc
     obtain⟨k1,k2⟩:=okO_wk (S:=S) (fun j v h1 h2=>by have:=hw.get h1 h2;rw [List.getD_eq_getElem?_getD,this];rfl) s _ _ hc.1
     rw [k2] at hk hc
     subst hk
     refine buildSlice_sound hE hfit ho S a w G (fun st'=>st'=apP o.dst (.c s .un (.sl .own (E.ti e).sz (((parts.toList.map (·.2)).map (ev S)).map fun v=>fits (E.ti e).zr (cellsOf v)))) S) N Q h ?_ (fun st' a' w' G' e hr=>hN a' w' G' (e▸hr))
     unfold bsA
     rw [hks]
     simp only [hc.2.1,cond_true]
     refine coL_own (S:=S) (s:=s) _ false _ k1 ?_
     rw [hc.2.2]
     simp only [cond_true]
     cases hd:o.dst with
     | none=>simp [pu,putT,apP,putD,aft]
     | some d =>
      simp only [pu,putT,apP,putD,aft,isSl,cond_true]
      rw [killR_id]
      intro x hx
      rcases List.mem_or_eq_of_mem_set hx with hx | rfl
      ·exact (hkl rfl d hd x hx).1
      ·rfl
   ·exact hk.elim
  ·obtain⟨v,h1,h2⟩:=qA_det (fun op' t' x' y' yt' ho'=>by rw [ho] at ho';cases ho') _ hk
   exact hq v h2.symm h1
 ·rename_i op t x y yt ho
  split at hk
  ·exact hk.elim
  ·obtain⟨v,h1,h2⟩:=qA_det (fun op' t' x' y' yt' ho'=>by
    rename_i hn
    rw [ho] at ho';injection ho' with _ _ _ e _;rw [←e];exact hn) _ hk
   exact hq v h2.symm h1
 ·rename_i args ts ho
  obtain⟨s,x,n,w',k1,k2,k3,k4⟩:=copyQ_sound hE hfit (h.wk hw) ho hk
  subst k1
  have hS:S.t.getD s .un=M.t.getD s .un:=by
   have:=hw.get rfl k2
   simp [this]
  obtain⟨G',hG⟩:=(k4 S h hS).put0 o.dst (v:=.i .i64 n) (u:=.int .i64 n) rfl
  refine wp_value k3 (hN _ _ G' ?_)
  have e:pu { S with t:=S.t.set s x } o.dst (.i .i64 n)=apP o.dst (.c s x (.i .i64 n)) S:=by
   cases o.dst <;> rfl
  rw [←e];exact hG
 ·rename_i t x y ho
  exact stQ_sound hE hfit h hw ho hk hN
 ·rename_i args ts ho
  refine appQ_sound hE hfit h hw ho hk (fun d hd=>hkl ?_ d hd) hda hN
  unfold appQ at hk
  (repeat' split at hk) <;> first | exact hk.elim | (obtain⟨_,rfl⟩:=hk;rfl)
 ·rename_i h0 _ _ _
  obtain⟨v,h1,h2⟩:=qA_det (fun op' t' x' y' yt' ho'=>absurd ho' (h0 _ _ _ _ _)) _ hk
  exact hq v h2.symm h1
/-- A pure operation yields its value in any world. -/
theorem pu_run(hE:EnvOk E){M:St}{a:Act}{w:World}{G:Gh}(hpu:isPu E o=true)(h:Rel c M a w G)(hk:(∃K,opA E o M K)∨(∃K,stpY E o M K)):∃u,∀w',(execOp a.eval o).run E.P w'=.ok (.value u) w':=by
 unfold isPu at hpu
 have hbin:∀op t x y yt,op=.add∨op=.sub→o.op=.binOp op t x y yt→(∃k,(E.ti t).k=.int k)→(∃K,binA E M op t (ev M x) (ev M y) K)→∃u,∀w',(execOp a.eval o).run E.P w'=.ok (.value u) w':=by
  intro op t x y yt hop ho ⟨k0,hk0⟩ ⟨K,hb⟩
  obtain⟨Tx,hx⟩:=h.ev x
  obtain⟨Ty,hy⟩:=h.ev y
  unfold binA at hb
  split at hb
  ·rename_i k n k' m e1 e2
   rw [e1] at hx
   rw [e2] at hy
   have hx:a.eval x=.int k n:=hx
   have hy:a.eval y=.int k' m:=hy
   have hkk:kEq k k'=true:=by
    rcases hop with rfl | rfl <;> (simp only at hb;cases hkk:kEq k k' with | true=>rfl | false=>rw [hkk] at hb;exact hb.elim)
   obtain rfl:=kEq_iff hkk
   refine ⟨.int k (iopF op k n m),fun w'=>?_⟩
   have e3:(binOp op t (.int k n) (.int k m)).run E.P w'=.ok (.int k (iopF op k n m)) w':=by
    rcases hop with rfl | rfl
    ·exact bin_int (op:=.add) ⟨by simp,by simp,by simp,by simp⟩
    ·exact bin_int (op:=.sub) ⟨by simp,by simp,by simp,by simp⟩
   have e4:(eqGuard op t x y (.int k n) (.int k m)).run E.P w'=.ok () w':=eqGuard_run rfl (by simp)
   simp [execOp,ho,hx,hy,e3,e4]
  ·rename_i l m e1 e2
   rw [e1] at hx
   rw [e2] at hy
   have hx:a.eval x=.string ⟨l.toArray⟩:=hx
   have hy:a.eval y=.string ⟨m.toArray⟩:=hy
   rcases hop with rfl | rfl
   ·obtain⟨h1,_⟩:=hb
    rw [Room_eq,plus_eq,slen_eq,slen_eq] at h1
    have hs1:(⟨l.toArray⟩:ByteArray).size=l.length:=by show l.toArray.size=_;simp
    have hs2:(⟨m.toArray⟩:ByteArray).size=m.length:=by show m.toArray.size=_;simp
    have hmax:IntKind.i64.max=9223372036854775807:=rfl
    have hle:¬ (((l.length+m.length:Nat):Int) > IntKind.i64.max):=by rw [hmax];omega
    refine ⟨.string (⟨l.toArray⟩ ++ ⟨m.toArray⟩),fun w'=>?_⟩
    have e4:(eqGuard .add t x y (.string ⟨l.toArray⟩) (.string ⟨m.toArray⟩)).run E.P w'=.ok () w':=eqGuard_run rfl (by simp)
    have e3:(binOp .add t (.string ⟨l.toArray⟩) (.string ⟨m.toArray⟩)).run E.P w'=.ok (.string (⟨l.toArray⟩ ++ ⟨m.toArray⟩)) w':=by
     simp only [binOp,Op.stringOp,hs1,hs2,if_neg hle,Sem.run_pure]
    simp [execOp,ho,hx,hy,e3,e4]
   ·exact hb.elim
  ·rcases hop with rfl | rfl <;> (rw [hk0] at hb;exact hb.elim)
  ·rcases hop with rfl | rfl <;> exact hb.elim
  ·rcases hop with rfl | rfl <;> (rw [hk0] at hb;exact hb.elim)
  ·exact hb.elim
 split at hpu
 ·rename_i x ho;exact ⟨a.eval x,fun w'=>by simp [execOp,ho]⟩
 ·rename_i x j ho
  have key:∃s cs v,x=.tmp s∧M.t.getD s .un=.tu cs∧cs[j]?=some v:=by
   rcases hk with ⟨K,hk⟩ | ⟨K,hk⟩
   ·unfold opA at hk
    rw [ho] at hk
    simp only [exA] at hk
    split at hk
    ·split at hk
     ·split at hk
      ·rename_i s _ cs hg _ v hj;exact ⟨s,cs,v,rfl,hg,by rw [←nthV_eq];exact hj⟩
      ·exact hk.elim
     ·exact hk.elim
    ·exact hk.elim
   ·unfold stpY at hk
    rw [ho] at hk
    split at hk
    ·rename_i e;cases e
    ·rename_i e;cases e
    ·rename_i s j' e
     injection e with e1 e2
     subst e1 e2
     split at hk
     ·split at hk
      ·rename_i _ cs hg _ v hj;exact ⟨s,cs,v,rfl,hg,by rw [←nthV_eq];exact hj⟩
      ·exact hk.elim
     ·exact hk.elim
    ·rename_i e;cases e
    ·rename_i e;cases e
    ·rename_i e;cases e
    ·rename_i e;cases e
    ·rename_i e;cases e
    ·rename_i e;cases e
    ·rename_i h0 h1 h2 h3 h4 h5 h6 h7 h8
     unfold qA at hk
     rw [ho] at hk
     simp only [qex] at hk
     split at hk
     ·rename_i s;exact absurd rfl (h2 s j)
     ·exact hk.elim
  obtain⟨s,cs,v,rfl,hg,hj⟩:=key
  have ht:=h.tmp s
  rw [hg] at ht
  simp only [RepT] at ht
  obtain⟨vs,h1,h2⟩:=ht
  obtain⟨u,T1,k1,_⟩:=RepTs.focus cs vs _ j v h2 hj
  refine ⟨u,fun w'=>?_⟩
  have hx:a.eval (.tmp s)=.tuple vs.toArray:=h1
  simp [execOp,ho,hx,Instr.extract,k1]
 ·rename_i t x j ho
  have key:∃K,fieldAddrA E t x j M K:=by
   rcases hk with ⟨K,hk⟩ | ⟨K,hk⟩
   ·unfold opA at hk;rw [ho] at hk;exact ⟨_,hk⟩
   ·unfold stpY at hk
    rw [ho] at hk
    simp only at hk
    unfold qA at hk;rw [ho] at hk;exact ⟨_,hk⟩
  obtain⟨K,hk⟩:=key
  unfold fieldAddrA at hk
  obtain⟨T,hx⟩:=h.ev x
  split at hk
  ·rename_i p fs hg hks
   rw [hg] at hx
   simp only [RepT] at hx
   obtain⟨src,b,o',h1,h2,hu⟩:=hx
   split at hk
   ·rename_i off n ag hf
    have hT:=hE t (by rw [hks];rfl)
    have hund:=hT.und
    rw [hks] at hund
    obtain⟨F,hF,hfs⟩:=hund
    obtain⟨f,xi,f1,f2,f3,f4,f5,_⟩:=hfs.fld j off n ag hf
    refine ⟨.pointer (some ⟨b,o' + (p.o+off),none⟩),fun w'=>?_⟩
    simp [execOp,ho,Instr.fieldAt,Instr.sureAddr,hu,run_underlying hF,f1,fieldPlace,sizeOf,typeInfo,f3,f4,f5,f2,Addr.add_lit,Nat.add_assoc]
   ·exact hk.elim
  ·exact hk.elim
 ·rename_i t x y yt ho
  refine hbin .add t x y yt (.inl rfl) ho (by split at hpu;(rename_i k hk0;exact ⟨k,hk0⟩);cases hpu) ?_
  rcases hk with ⟨K,hk⟩ | ⟨K,hk⟩
  ·unfold opA at hk;rw [ho] at hk;exact ⟨_,hk⟩
  ·unfold stpY at hk
   rw [ho] at hk
   simp only at hk
   split at hk
   ·exact hk.elim
   ·unfold qA at hk;rw [ho] at hk;exact ⟨_,hk⟩
 ·rename_i t x y yt ho
  refine hbin .sub t x y yt (.inr rfl) ho (by split at hpu;(rename_i k hk0;exact ⟨k,hk0⟩);cases hpu) ?_
  rcases hk with ⟨K,hk⟩ | ⟨K,hk⟩
  ·unfold opA at hk;rw [ho] at hk;exact ⟨_,hk⟩
  ·unfold stpY at hk
   rw [ho] at hk
   simp only at hk
   split at hk
   ·exact hk.elim
   ·unfold qA at hk;rw [ho] at hk;exact ⟨_,hk⟩
 ·cases hpu
end
end Go.Ar
