import Derived.Test.YthhcbcokjlpahaaGreatArD
import Derived.Laws.Cover3
import Derived.Laws.StructEq
namespace Go.Ar
set_option linter.unusedVariables false
set_option linter.unusedSimpArgs false
section ops
variable {E:Env} {c:Cx} {o:Oper}
/-! ### Equality of structs -/
noncomputable def vEq:List V→List V→Bool:=Classical.choose (kp fun(a b:List V)=>@decide (a=b) (Classical.propDecidable _))
theorem vEq_eq(a b:List V):vEq a b=@decide (a=b) (Classical.propDecidable _):=by unfold vEq;rw [Classical.choose_spec (kp fun(a b:List V)=>@decide (a=b) (Classical.propDecidable _))]
def okE:V→V→V→Bool
 | .b _,.b _,.b _=>true
 | .i k _,.i k1 _,.i k2 _=>kEq k1 k && kEq k2 k
 | .s _,.s _,.s _=>true
 | _,_,_=>false
def okEq:List V→List V→List V→Bool
 | [],[],[]=>true
 | z::zs,x::xs,y::ys=>okE z x y && okEq zs xs ys
 | _,_,_=>false
theorem dec_cons{x y:V}{xs ys:List V}{b:Bool}(h:b=true↔x=y):@decide (x::xs=y::ys) (Classical.propDecidable _)=(b && @decide (xs=ys) (Classical.propDecidable _)):=by
 cases b with
 | false =>
  rw [Bool.false_and,decide_eq_false_iff_not]
  intro e
  injection e with e1 e2
  cases h.2 e1
 | true =>
  obtain rfl:=h.1 rfl
  rw [Bool.true_and]
  congr 1
  simp
theorem part_scal{P:Program}{w:World}{t:TypeId}{d:TypeDesc}{cs:Array Value}{j:Nat}{v:Value}(hu:P.underlying t=some d)(hd:(∀F,d≠.struct F)∧∀n e,d≠.array n e)(hv:cs[j]?=some v):(part t cs j).run P w=.ok v w:=by
 have h1:(isAgg t).run P w=.ok false w:=by
  unfold isAgg
  cases d with
  | struct F=>exact absurd rfl (hd.1 F)
  | array n e=>exact absurd rfl (hd.2 n e)
  | _=>simp [run_underlying hu]
 unfold part
 rw [Sem.run_bind,h1]
 simp [hv]
theorem eqF_run{P:Program}{w:World}{Sh:Nat→Prop}{ρ:Rt→Option Sr}{xa ya:Array Value}:∀ (fs:List Field) (j:Nat) (zs xs ys:List V) (us vs:List Value) (Tx Ty:Nat→Prop),EqF P fs j zs→okEq zs xs ys=true→RepTs w Sh ρ xs us Tx→RepTs w Sh ρ ys vs Ty →
  (∀i v,us[i]?=some v→xa[j+i]?=some v)→(∀i v,vs[i]?=some v→ya[j+i]?=some v)→(Op.eqFields 9999 xa ya fs).run P w=.ok (@decide (xs=ys) (Classical.propDecidable _)) w
 | [],j,[],[],[],us,vs,Tx,Ty,_,_,_,_,_,_=>by
  simp [Op.eqFields]
 | f::fs,j,z::zs,x::xs,y::ys,u::us,v::vs,Tx,Ty,hF,hk,hx,hy,gx,gy=>by
  simp only [RepTs] at hx hy
  obtain⟨X1,X2,x1,x2,_⟩:=hx
  obtain⟨Y1,Y2,y1,y2,_⟩:=hy
  obtain⟨f1,f2,f3,f4⟩:=hF
  simp only [okEq,Bool.and_eq_true] at hk
  have ih:=eqF_run fs (j+1) zs xs ys us vs X2 Y2 f4 hk.2 x2 y2 (fun i v hv=>by have:=gx (i+1) v hv;rwa [show j+(i+1)=j+1+i by omega] at this) (fun i v hv=>by have:=gy (i+1) v hv;rwa [show j+(i+1)=j+1+i by omega] at this)
  have px:=gx 0 u rfl
  have py:=gy 0 v rfl
  rw [Nat.add_zero] at px py
  have fin:∀ (b:Bool) (d:TypeDesc),P.underlying f.type=some d→((∀F,d≠.struct F)∧∀n e,d≠.array n e)→(Op.equalIn 9999 f.type u v).run P w=.ok b w→(b=true↔x=y)→(Op.eqFields 9999 xa ya (f::fs)).run P w=.ok (@decide (x::xs=y::ys) (Classical.propDecidable _)) w:=by
   intro b d hu hd he hb
   rw [dec_cons hb]
   unfold Op.eqFields
   rw [if_pos f2,f1,Sem.run_bind,part_scal hu hd px]
   simp only [Result.andThen_ok]
   rw [Sem.run_bind,part_scal hu hd py]
   simp only [Result.andThen_ok]
   rw [Sem.run_bind,he]
   simp only [Result.andThen_ok]
   cases b with
   | false=>simp
   | true=>simpa using ih
  have hk1:=hk.1
  unfold okE at hk1
  split at hk1
  ·rename_i a b c
   have e1:u=.bool b:=x1
   have e2:v=.bool c:=y1
   subst e1 e2
   exact fin (b == c) _ f3 ⟨fun _ h=>(by cases h),fun _ _ h=>(by cases h)⟩ (run_equalIn_bool w 9998 _ _ _ f3) (by simp)
  ·rename_i k a k1 b k2 c
   simp only [Bool.and_eq_true] at hk1
   obtain rfl:=kEq_iff hk1.1
   obtain rfl:=kEq_iff hk1.2
   have e1:u=.int _ b:=x1
   have e2:v=.int _ c:=y1
   subst e1 e2
   exact fin (b == c) _ f3 ⟨fun _ h=>(by cases h),fun _ _ h=>(by cases h)⟩ (run_equalIn_int w 9998 _ _ _ _ _ f3) (by simp)
  ·rename_i a b c
   have e1:u=.string ⟨b.toArray⟩:=x1
   have e2:v=.string ⟨c.toArray⟩:=y1
   subst e1 e2
   exact fin (b == c) _ f3 ⟨fun _ h=>(by cases h),fun _ _ h=>(by cases h)⟩ (by rw [run_equalIn_string w 9998 _ _ _ f3,ByteArray.toList_eq,ByteArray.toList_eq]) (by simp)
  ·cases hk1
 | [],_,_::_,_,_,_,_,_,_,hF,_,_,_,_,_=>hF.elim
 | _::_,_,[],_,_,_,_,_,_,hF,_,_,_,_,_=>hF.elim
 | [],_,[],_::_,_,_,_,_,_,_,hk,_,_,_,_=>by simp [okEq] at hk
 | [],_,[],[],_::_,_,_,_,_,_,hk,_,_,_,_=>by simp [okEq] at hk
 | _::_,_,_::_,[],_,_,_,_,_,_,hk,_,_,_,_=>by simp [okEq] at hk
 | _::_,_,_::_,_::_,[],_,_,_,_,_,hk,_,_,_,_=>by simp [okEq] at hk
 | _::_,_,_::_,_::_,_::_,[],_,_,_,_,_,hx,_,_,_=>by simp only [RepTs] at hx
 | _::_,_,_::_,_::_,_::_,_::_,[],_,_,_,_,_,hy,_,_=>by simp only [RepTs] at hy
/-! ### Arithmetic, comparisons -/
noncomputable def binA(E:Env)(st:St)(op:BinOp)(t:Nat)(x y:V)(K:V→Prop):Prop :=
 match x,y with
 | .i k a,.i k' b =>
  (match op with
  | .add=>bif kEq k k' then K (.i k (iop .add k a b)) else False
  | .sub=>bif kEq k k' then K (.i k (iop .sub k a b)) else False
  | .mul=>bif kEq k k' then K (.i k (iop .mul k a b)) else False
  | .and=>bif kEq k k' then K (.i k (iop .and k a b)) else False
  | .or=>bif kEq k k' then K (.i k (iop .or k a b)) else False
  | .xor=>bif kEq k k' then K (.i k (iop .xor k a b)) else False
  | .andNot=>bif kEq k k' then K (.i k (iop .andNot k a b)) else False
  | .quo=>bif kEq k k' then icmp .neq b 0=true∧K (.i k (iop .quo k a b)) else False
  | .rem=>bif kEq k k' then icmp .neq b 0=true∧K (.i k (iop .rem k a b)) else False
  | .shl=>icmp .geq b 0=true∧K (.i k (iop .shl k a b))
  | .shr=>icmp .geq b 0=true∧K (.i k (iop .shr k a b))
  | .eql=>bif kEq k k' then K (.b (icmp .eql a b)) else False
  | .neq=>bif kEq k k' then K (.b (icmp .neq a b)) else False
  | .lss=>bif kEq k k' then K (.b (icmp .lss a b)) else False
  | .leq=>bif kEq k k' then K (.b (icmp .leq a b)) else False
  | .gtr=>bif kEq k k' then K (.b (icmp .gtr a b)) else False
  | .geq=>bif kEq k k' then K (.b (icmp .geq a b)) else False
  )
 | .s a,.s b =>
  (match op with
  | .add=>Room (plus (slen a) (slen b)) 1∧K (.s (sapp a b))
  | .eql=>K (.b (scmp .eql a b))
  | .neq=>K (.b (scmp .neq a b))
  | .lss=>K (.b (scmp .lss a b))
  | .leq=>K (.b (scmp .leq a b))
  | .gtr=>K (.b (scmp .gtr a b))
  | .geq=>K (.b (scmp .geq a b))
  | _=>False)
 | .b a,.b b =>
  (match (E.ti t).k,op with
  | .bool,.eql=>K (.b (a == b))
  | .bool,.neq=>K (.b (!(a == b)))
  | _,_=>False)
 | .ag xs,.ag ys =>
  (match op with
  | .eql=>bif (isS (E.ti t).k && scals (E.ti t).zr) && okEq (E.ti t).zr xs ys then K (.b (vEq xs ys)) else False
  | .neq=>bif (isS (E.ti t).k && scals (E.ti t).zr) && okEq (E.ti t).zr xs ys then K (.b (!(vEq xs ys))) else False
  | _=>False)
 | x,.nil =>
  (match (E.ti t).k,op with
  | .slice _,.eql=>slK E st x fun xs=>∀n:Bool,(n=true→xs=[])→(x=.nil→n=true)→K (.b n)
  | .slice _,.neq=>slK E st x fun xs=>∀n:Bool,(n=true→xs=[])→(x=.nil→n=true)→K (.b (!n))
  | _,_=>False)
 | _,_=>False
theorem eqGuard_run{P:Program}{w:World}{op:BinOp}{t:TypeId}{x y:Operand}{a b:Value}(ha:a.oneCell'=true)(hn:a≠.nilIface):(eqGuard op t x y a b).run P w=.ok () w:=by
 cases a with
 | nilIface=>exact absurd rfl hn
 | agg cs=>simp [Value.oneCell'] at ha
 | tuple cs=>simp [Value.oneCell'] at ha
 | _=>cases op <;> rfl
theorem bin_int{P:Program}{w:World}{op:BinOp}{t:TypeId}{k:IntKind}{a b:Int}(hop:op≠.shl∧op≠.shr∧op≠.quo∧op≠.rem) :
  (binOp op t (.int k a) (.int k b)).run P w=.ok (match op with | .eql | .neq | .lss | .leq | .gtr | .geq=>.bool (icmpF op a b) | _=>.int k (iopF op k a b)) w:=by
 obtain⟨h1,h2,h3,h4⟩:=hop
 cases op
 case shl=>exact absurd rfl h1
 case shr=>exact absurd rfl h2
 case quo=>exact absurd rfl h3
 case rem=>exact absurd rfl h4
 all_goals simp [binOp,Op.intArith,Op.intBits,Op.intCmp,icmpF,iopF]
theorem str_fact{l:List UInt8}:(⟨l.toArray⟩:ByteArray).toList=l:=by
 rw [ByteArray.toList_eq]
theorem bin_bool{P:Program}{w:World}{t:TypeId}{p q:Bool}(hu:P.underlying t=some .bool) :
  (binOp .eql t (.bool p) (.bool q)).run P w=.ok (.bool (p == q)) w∧(binOp .neq t (.bool p) (.bool q)).run P w=.ok (.bool (!(p == q))) w:=by
 have h:(Op.equal t (.bool p) (.bool q)).run P w=.ok (p == q) w:=run_equalIn_bool w 9999 t p q hu
 constructor
 ·show ((Op.equal t (.bool p) (.bool q)) >>= fun b=>(pure (Value.bool b):Sem Value)).run P w=_
  rw [Sem.run_bind,h];rfl
 ·show ((Op.equal t (.bool p) (.bool q)) >>= fun b=>(pure (Value.bool (!b)):Sem Value)).run P w=_
  rw [Sem.run_bind,h];rfl
theorem bin_nil{P:Program}{w:World}{t e:TypeId}{al:Option Addr}{n cc:Nat}(hu:P.underlying t=some (.slice e)) :
  (binOp .eql t (.slice al n cc) (.slice none 0 0)).run P w=.ok (.bool al.isNone) w∧(binOp .neq t (.slice al n cc) (.slice none 0 0)).run P w=.ok (.bool (!al.isNone)) w:=by
 have h:(Op.equal t (.slice al n cc) (.slice none 0 0)).run P w=.ok al.isNone w:=run_equal_slice_nil w t e al n cc hu
 constructor
 ·show ((Op.equal t (.slice al n cc) (.slice none 0 0)) >>= fun b=>(pure (Value.bool b):Sem Value)).run P w=_
  rw [Sem.run_bind,h];rfl
 ·show ((Op.equal t (.slice al n cc) (.slice none 0 0)) >>= fun b=>(pure (Value.bool (!b)):Sem Value)).run P w=_
  rw [Sem.run_bind,h];rfl
theorem binA_sound(hE:EnvOk E)(hfit:Fit E c){op:BinOp}{t yt:Nat}{x y:Operand}(ho:o.op=.binOp op t x y yt):OpQ E c o fun st K=>binA E st op t (ev st x) (ev st y) K:=by
 intro st a w G K N Q h hk hN
 obtain⟨Tx,hx⟩:=h.ev x
 obtain⟨Ty,hy⟩:=h.ev y
 have hrun:∀ (v:V) (u:Value),(eqGuard op t x y (a.eval x) (a.eval y)).run E.P w=.ok () w→(binOp op t (a.eval x) (a.eval y)).run E.P w=.ok u w→RepT w G.Sh (Ar.rho c G) v u (fun _=>False)→K v→o.wp E.P a w N Q:=by
  intro v u hg hb hv hkk
  have hG:=h.rep0 hv
  refine wp_value (v:=u) (w':=w) ?_ (hN _ _ _ _ hkk (RowKit.Below.refl _ _) hG noneT)
  simp [execOp,ho,hg,hb]
 unfold binA at hk
 split at hk
 ·rename_i k n k' m e1 e2
  rw [e1] at hx
  rw [e2] at hy
  have hx:a.eval x=.int k n:=hx
  have hy:a.eval y=.int k' m:=hy
  have hg:∀op,(eqGuard op t x y (a.eval x) (a.eval y)).run E.P w=.ok () w:=fun op=>eqGuard_run (by rw [hx];rfl) (by rw [hx];simp)
  cases op
  case shl =>
   simp only at hk
   obtain⟨h1,h2⟩:=hk
   rw [icmp_eq] at h1
   rw [iop_eq] at h2
   have h0:¬m<0:=by simp [icmpF] at h1;omega
   exact hrun (.i k (iopF .shl k n m)) (.int k (iopF .shl k n m)) (hg _) (by rw [hx,hy];simp [binOp,Op.shift,h0,iopF]) rfl h2
  case shr =>
   simp only at hk
   obtain⟨h1,h2⟩:=hk
   rw [icmp_eq] at h1
   rw [iop_eq] at h2
   have h0:¬m<0:=by simp [icmpF] at h1;omega
   exact hrun (.i k (iopF .shr k n m)) (.int k (iopF .shr k n m)) (hg _) (by rw [hx,hy];simp [binOp,Op.shift,h0,iopF]) rfl h2
  case quo =>
   simp only at hk
   cases hkk:kEq k k' with
   | false=>rw [hkk] at hk;exact hk.elim
   | true =>
    rw [hkk] at hk
    obtain rfl:=kEq_iff hkk
    obtain⟨h1,h2⟩:=hk
    rw [icmp_eq] at h1
    rw [iop_eq] at h2
    have h0:¬m=0:=by simpa [icmpF] using h1
    exact hrun (.i k (iopF .quo k n m)) (.int k (iopF .quo k n m)) (hg _) (by rw [hx,hy];simp [binOp,Op.intDiv,h0,iopF]) rfl h2
  case rem =>
   simp only at hk
   cases hkk:kEq k k' with
   | false=>rw [hkk] at hk;exact hk.elim
   | true =>
    rw [hkk] at hk
    obtain rfl:=kEq_iff hkk
    obtain⟨h1,h2⟩:=hk
    rw [icmp_eq] at h1
    rw [iop_eq] at h2
    have h0:¬m=0:=by simpa [icmpF] using h1
    exact hrun (.i k (iopF .rem k n m)) (.int k (iopF .rem k n m)) (hg _) (by rw [hx,hy];simp [binOp,Op.intDiv,h0,iopF]) rfl h2
  all_goals
   simp only at hk
   cases hkk:kEq k k' with
   | false=>rw [hkk] at hk;exact hk.elim
   | true =>
    rw [hkk] at hk
    obtain rfl:=kEq_iff hkk
    simp only [cond_true] at hk
    rw [hx,hy] at hrun
    first
    | (rw [iop_eq] at hk
       exact hrun (.i k (iopF _ k n m)) _ (eqGuard_run rfl (by simp)) (bin_int ⟨by simp,by simp,by simp,by simp⟩) rfl hk)
    | (rw [icmp_eq] at hk
       exact hrun (.b (icmpF _ n m)) _ (eqGuard_run rfl (by simp)) (bin_int ⟨by simp,by simp,by simp,by simp⟩) rfl hk)
 ·rename_i l m e1 e2
  rw [e1] at hx
  rw [e2] at hy
  have hx:a.eval x=.string ⟨l.toArray⟩:=hx
  have hy:a.eval y=.string ⟨m.toArray⟩:=hy
  rw [hx,hy] at hrun
  have hg:∀op,(eqGuard op t x y (.string ⟨l.toArray⟩) (.string ⟨m.toArray⟩)).run E.P w=.ok () w:=fun op=>eqGuard_run rfl (by simp)
  cases op
  case add =>
   simp only at hk
   obtain⟨h1,h2⟩:=hk
   rw [Room_eq,plus_eq,slen_eq,slen_eq] at h1
   rw [sapp_eq] at h2
   refine hrun (.s (l++m)) (.string ⟨(l++m).toArray⟩) (hg _) ?_ rfl h2
   have hs1:(⟨l.toArray⟩:ByteArray).size=l.length:=by show l.toArray.size=_;simp
   have hs2:(⟨m.toArray⟩:ByteArray).size=m.length:=by show m.toArray.size=_;simp
   have hmax:IntKind.i64.max=9223372036854775807:=rfl
   have hle:¬ (((l.length+m.length:Nat):Int) > IntKind.i64.max):=by rw [hmax];omega
   have happ:(⟨l.toArray⟩ ++ ⟨m.toArray⟩:ByteArray)=⟨(l++m).toArray⟩:=by
    apply ByteArray.ext
    simp [ByteArray.data_append]
   simp only [binOp,Op.stringOp,hs1,hs2,if_neg hle,Sem.run_pure,happ]
  all_goals simp only at hk
  all_goals first
   | exact hk.elim
   | (rw [scmp_eq] at hk
      refine hrun (.b (scmpF _ l m)) (.bool (scmpF _ l m)) (hg _) ?_ rfl hk
      simp only [binOp,Op.stringOp,Sem.run_pure,str_fact,scmpF])
 ·rename_i p q e1 e2
  rw [e1] at hx
  rw [e2] at hy
  have hx:a.eval x=.bool p:=hx
  have hy:a.eval y=.bool q:=hy
  rw [hx,hy] at hrun
  have hg:∀op,(eqGuard op t x y (.bool p) (.bool q)).run E.P w=.ok () w:=fun op=>eqGuard_run rfl (by simp)
  split at hk
  ·rename_i hks
   have hu:=(hE t (by rw [hks];rfl)).und
   rw [hks] at hu
   have hu:E.P.underlying t=some .bool:=hu
   exact hrun (.b (p == q)) (.bool (p == q)) (hg _) (bin_bool hu).1 rfl hk
  ·rename_i hks
   have hu:=(hE t (by rw [hks];rfl)).und
   rw [hks] at hu
   have hu:E.P.underlying t=some .bool:=hu
   exact hrun (.b (!(p == q))) (.bool (!(p == q))) (hg _) (bin_bool hu).2 rfl hk
  ·exact hk.elim
 ·rename_i xs ys e1 e2
  rw [e1] at hx
  rw [e2] at hy
  simp only [RepT] at hx hy
  obtain⟨us,hx,hxs⟩:=hx
  obtain⟨vs,hy,hys⟩:=hy
  have key:((isS (E.ti t).k && scals (E.ti t).zr) && okEq (E.ti t).zr xs ys)=true→(∀op,(eqGuard op t x y (a.eval x) (a.eval y)).run E.P w=.ok () w)∧(Op.equalIn 10000 t (a.eval x) (a.eval y)).run E.P w=.ok (vEq xs ys) w:=by
   intro hc
   simp only [Bool.and_eq_true] at hc
   obtain⟨⟨c1,c2⟩,c3⟩:=hc
   have hkn:kn (E.ti t).k=true:=by cases hk':(E.ti t).k <;> rw [hk'] at c1 <;> first | rfl | cases c1
   obtain⟨q1,q2,F,q3,q4⟩:=(hE t hkn).eqs c1 c2
   rw [hx,hy]
   refine ⟨fun op=>run_eqGuard_agg w op t x y _ _ q2,?_⟩
   have hfo:E.P.fieldsOf t=F:=by unfold Program.fieldsOf;rw [q3]
   rw [run_equalIn_agg w 9999 t _ _ (by rw [hfo];exact q3) q1,hfo,vEq_eq]
   exact eqF_run F.toList 0 _ xs ys us vs _ _ q4 c3 hxs hys (fun i v hv=>by simpa using hv) (fun i v hv=>by simpa using hv)
  split at hk
  ·cases hc:((isS (E.ti t).k && scals (E.ti t).zr) && okEq (E.ti t).zr xs ys) with
   | false=>rw [hc] at hk;exact hk.elim
   | true =>
    rw [hc] at hk
    obtain⟨k1,k2⟩:=key hc
    refine hrun (.b (vEq xs ys)) (.bool (vEq xs ys)) (k1 _) ?_ rfl hk
    rw [hx,hy] at k2 ⊢
    rw [run_eql_struct,k2];rfl
  ·cases hc:((isS (E.ti t).k && scals (E.ti t).zr) && okEq (E.ti t).zr xs ys) with
   | false=>rw [hc] at hk;exact hk.elim
   | true =>
    rw [hc] at hk
    obtain⟨k1,k2⟩:=key hc
    refine hrun (.b (!(vEq xs ys))) (.bool (!(vEq xs ys))) (k1 _) ?_ rfl hk
    rw [hx,hy] at k2 ⊢
    rw [run_neq_struct,k2];rfl
  ·exact hk.elim
 ·rename_i e2
  rw [e2] at hy
  have hy:a.eval y=.slice none 0 0:=hy
  split at hk
  ·rename_i ee hks
   have hu:=(hE t (by rw [hks];rfl)).und
   rw [hks] at hu
   have hu:E.P.underlying t=some (.slice ee):=hu
   obtain⟨xs,al,n,cc,k1,k2,k3,k4,k5⟩:=slK_sound h hfit hx hk
   rw [k2,hy] at hrun
   refine hrun (.b al.isNone) (.bool al.isNone) (eqGuard_run rfl (by simp)) (bin_nil hu).1 rfl (k1 _ (fun e=>k5 (by simpa using e)) (fun e=>?_))
   rw [e] at hx
   have hx':a.eval x=.slice none 0 0:=hx
   rw [k2] at hx'
   injection hx' with e1 _ _
   rw [e1];rfl
  ·rename_i ee hks
   have hu:=(hE t (by rw [hks];rfl)).und
   rw [hks] at hu
   have hu:E.P.underlying t=some (.slice ee):=hu
   obtain⟨xs,al,n,cc,k1,k2,k3,k4,k5⟩:=slK_sound h hfit hx hk
   rw [k2,hy] at hrun
   refine hrun (.b (!al.isNone)) (.bool (!al.isNone)) (eqGuard_run rfl (by simp)) (bin_nil hu).2 rfl (k1 _ (fun e=>k5 (by simpa using e)) (fun e=>?_))
   rw [e] at hx
   have hx':a.eval x=.slice none 0 0:=hx
   rw [k2] at hx'
   injection hx' with e1 _ _
   rw [e1];rfl
  ·exact hk.elim
 ·exact hk.elim
end ops
end Go.Ar
