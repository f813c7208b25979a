import Derived.Test.YthhcbcokjlpahaaGreatArP
import Derived.Orders
namespace Go.Ar
set_option linter.unusedVariables false
set_option linter.unusedSimpArgs false
/-! ### A region whose order is drawn: its operations commute -/
def mem(l:List Nat)(i:Nat):Bool:=l.any (Nat.beq i)
theorem mem_iff{l:List Nat}{i:Nat}:mem l i=true↔i∈l:=by
 unfold mem
 rw [List.any_eq_true]
 constructor
 ·rintro⟨x,hx,hb⟩;exact (Nat.eq_of_beq_eq_true hb)▸hx
 ·intro h;exact ⟨i,h,by simp⟩
/-- What must have run: a number whose bits are operations. -/
def depOf(o:Oper):Nat:=o.after.toList.foldl (fun m e=>bif Region.binds .any e then Nat.lor m (Nat.shiftLeft 1 e.on) else m) 0
def isPu(E:Env)(o:Oper):Bool :=
 match o.op with
 | .move _=>true
 | .extract _ _=>true
 | .fieldAddr _ _ _=>true
 | .binOp .add t _ _ _=>(match (E.ti t).k with | .int _=>true | _=>false)
 | .binOp .sub t _ _ _=>(match (E.ti t).k with | .int _=>true | _=>false)
 | _=>false
def sub_(a b:Nat):Bool:=Nat.beq (Nat.land a b) a
structure Bf where
 d:Nat
 pu:Bool
 b:Nat
/-- Pure operations that are ready come first. -/
def addP:List Bf→Nat→Nat→Nat
 | [],_,b=>b
 | r::l,i,b=>addP l (i+1) (bif (r.pu && !(Nat.testBit b i)) && sub_ r.d b then Nat.lor (Nat.lor b (Nat.shiftLeft 1 i)) r.b else b)
def orB:List Bf→Nat→Nat→Nat→Nat
 | [],_,_,b=>b
 | r::l,i,d,b=>orB l (i+1) d (bif Nat.testBit d i then Nat.lor b r.b else b)
def bfs(E:Env):List Oper→List Bf→List Bf
 | [],tb=>tb
 | o::os,tb=>bfs E os (tb++[⟨depOf o,isPu E o,addP tb 0 (orB tb 0 (depOf o) (depOf o))⟩])
theorem tb_lor(a b i:Nat):(Nat.lor a b).testBit i=(a.testBit i || b.testBit i):=Nat.testBit_or a b i
theorem tb_one(k i:Nat):(Nat.shiftLeft 1 k).testBit i=decide (k=i):=by
 show (1 <<< k).testBit i=_
 rw [Nat.shiftLeft_eq,Nat.one_mul,Nat.testBit_two_pow]
theorem sub_iff{a b:Nat}:sub_ a b=true↔∀i,a.testBit i=true→b.testBit i=true:=by
 unfold sub_
 constructor
 ·intro h i hi
  have h:=Nat.eq_of_beq_eq_true h
  have:(a &&& b).testBit i=a.testBit i:=congrArg (fun n=>Nat.testBit n i) h
  rw [Nat.testBit_and,hi,Bool.true_and] at this
  exact this
 ·intro h
  have:a &&& b=a:=by
   apply Nat.eq_of_testBit_eq
   intro i
   rw [Nat.testBit_and]
   cases ha:a.testBit i with
   | false=>rfl
   | true=>rw [h i ha];rfl
  show Nat.beq (a &&& b) a=true
  rw [this];simp
theorem dep_bit{l:List Edge}{m i:Nat}:(l.foldl (fun m e=>bif Region.binds .any e then Nat.lor m (Nat.shiftLeft 1 e.on) else m) m).testBit i=true↔m.testBit i=true∨∃e∈l,Region.binds .any e=true∧e.on=i:=by
 induction l generalizing m with
 | nil=>simp
 | cons e l ih =>
  rw [List.foldl_cons,ih]
  cases hb:Region.binds .any e with
  | false =>
   simp only [cond_false,List.mem_cons,exists_eq_or_imp,hb,Bool.false_eq_true,false_and,false_or]
  | true =>
   simp only [cond_true,tb_lor,tb_one,Bool.or_eq_true,decide_eq_true_eq,List.mem_cons,exists_eq_or_imp,hb,true_and]
   constructor
   ·rintro((h | h) | h)
    ·exact .inl h
    ·exact .inr (.inl h)
    ·exact .inr (.inr h)
   ·rintro(h | h | h)
    ·exact .inl (.inl h)
    ·exact .inl (.inr h)
    ·exact .inr h
theorem depOf_bit{o:Oper}{i:Nat}:(depOf o).testBit i=true↔∃e∈o.after,Region.binds .any e=true∧e.on=i:=by
 unfold depOf
 rw [dep_bit]
 simp
/-- Closed: with an operation all that comes before it. -/
def Clo(tb:List Bf)(D:Nat→Prop):Prop := ∀i,D i→∀r,tb[i]?=some r→∀j,r.b.testBit j=true→D j
/-- No pure operation below k is ready and yet to be done. -/
def NoPu(tb:List Bf)(D:Nat→Prop)(k:Nat):Prop := ∀i r,i<k→tb[i]?=some r→r.pu=true→(∀j,r.d.testBit j=true→D j)→D i
theorem orB_clo{D:Nat→Prop}{tb:List Bf}(hc:Clo tb D){d:Nat}(hd:∀i,d.testBit i=true→D i):∀ (l:List Bf) (i b:Nat),(∀j,l[j]?=tb[i+j]?∨l[j]?=none)→(∀j,b.testBit j=true→D j)→∀j,(orB l i d b).testBit j=true→D j
 | [],_,_,_,hb,j,h=>hb j h
 | r::l,i,b,hl,hb,j,h=>by
  simp only [orB] at h
  refine orB_clo hc hd l (i+1) _ (fun j=>by have:=hl (j+1);simpa [Nat.add_assoc,Nat.add_comm 1 j] using this) (fun j hj=>?_) j h
  cases ht:Nat.testBit d i with
  | false=>rw [ht] at hj;exact hb j hj
  | true =>
   rw [ht] at hj
   simp only [cond_true,tb_lor,Bool.or_eq_true] at hj
   rcases hj with hj | hj
   ·exact hb j hj
   ·have h0:=hl 0
    simp only [List.getElem?_cons_zero,Nat.add_zero,reduceCtorEq,or_false] at h0
    exact hc i (hd i ht) r h0.symm j hj
theorem addP_clo{D:Nat→Prop}{tb:List Bf}(hc:Clo tb D){k:Nat}(hp:NoPu tb D k):∀ (l:List Bf) (i b:Nat),(∀j,l[j]?=tb[i+j]?∨l[j]?=none)→i+l.length≤k→(∀j,b.testBit j=true→D j)→∀j,(addP l i b).testBit j=true→D j
 | [],_,_,_,_,hb,j,h=>hb j h
 | r::l,i,b,hl,hk,hb,j,h=>by
  simp only [addP] at h
  simp only [List.length_cons] at hk
  refine addP_clo hc hp l (i+1) _ (fun j=>by have:=hl (j+1);simpa [Nat.add_assoc,Nat.add_comm 1 j] using this) (by omega) (fun j hj=>?_) j h
  cases ht:((r.pu && !(Nat.testBit b i)) && sub_ r.d b) with
  | false=>rw [ht] at hj;exact hb j hj
  | true =>
   rw [ht] at hj
   simp only [cond_true,tb_lor,tb_one,Bool.or_eq_true,decide_eq_true_eq] at hj
   simp only [Bool.and_eq_true] at ht
   have h0:=hl 0
   simp only [List.getElem?_cons_zero,Nat.add_zero,reduceCtorEq,or_false] at h0
   have hDi:D i:=hp i r (by omega) h0.symm ht.1.1 (fun j hj=>hb j (sub_iff.1 ht.2 j hj))
   rcases hj with (hj | rfl) | hj
   ·exact hb j hj
   ·exact hDi
   ·exact hc i hDi r h0.symm j hj
theorem bfs_spec{E:Env}:∀ (os:List Oper) (tb:List Bf),∃tb2,bfs E os tb=tb++tb2∧tb2.length=os.length ∧
  ∀k o,os[k]?=some o→∃r,tb2[k]?=some r∧r.d=depOf o∧r.pu=isPu E o∧r.b=addP (tb++tb2.take k) 0 (orB (tb++tb2.take k) 0 (depOf o) (depOf o))
 | [],tb=>⟨[],by simp [bfs],rfl,fun k o h=>by simp at h⟩
 | o::os,tb=>by
  simp only [bfs]
  obtain⟨tb2,h1,h2,h3⟩:=bfs_spec (E:=E) os (tb++[⟨depOf o,isPu E o,addP tb 0 (orB tb 0 (depOf o) (depOf o))⟩])
  refine ⟨⟨depOf o,isPu E o,addP tb 0 (orB tb 0 (depOf o) (depOf o))⟩::tb2,by rw [h1];simp,by simp [h2],fun k o' hk=>?_⟩
  cases k with
  | zero =>
   simp only [List.getElem?_cons_zero,Option.some.injEq] at hk
   subst hk
   exact ⟨_,rfl,rfl,rfl,by simp⟩
  | succ k =>
   simp only [List.getElem?_cons_succ] at hk
   obtain⟨r,k1,k2,k3,k4⟩:=h3 k o' hk
   exact ⟨r,by simpa using k1,k2,k3,by rw [k4];simp⟩
/-- The table of a region's operations. -/
def tbl(E:Env)(ops:List Oper):List Bf:=bfs E ops []
theorem tbl_len{E:Env}{ops:List Oper}:(tbl E ops).length=ops.length:=by
 obtain⟨tb2,h1,h2,_⟩:=bfs_spec (E:=E) ops []
 unfold tbl;rw [h1];simpa using h2
theorem tbl_get{E:Env}{ops:List Oper}{k:Nat}{o:Oper}(h:ops[k]?=some o):∃r,(tbl E ops)[k]?=some r∧r.d=depOf o∧r.pu=isPu E o∧r.b=addP ((tbl E ops).take k) 0 (orB ((tbl E ops).take k) 0 (depOf o) (depOf o)):=by
 obtain⟨tb2,h1,h2,h3⟩:=bfs_spec (E:=E) ops []
 unfold tbl;rw [h1]
 obtain⟨r,k1,k2,k3,k4⟩:=h3 k o h
 exact ⟨r,by simpa using k1,k2,k3,by simpa using k4⟩
/-- Where an operation's needs are done and no pure one below it waits, all before it is done. -/
theorem bef_done{E:Env}{ops:List Oper}{D:Nat→Prop}(hc:Clo (tbl E ops) D){k:Nat}{o:Oper}{r:Bf}(h:ops[k]?=some o)(hr:(tbl E ops)[k]?=some r)
  (hp:NoPu (tbl E ops) D k) (hd:∀j,(depOf o).testBit j=true→D j):∀j,r.b.testBit j=true→D j:=by
 obtain⟨r',k1,k2,k3,k4⟩:=tbl_get (E:=E) h
 rw [k1] at hr
 injection hr with hr
 subst hr
 rw [k4]
 have hl:∀j,((tbl E ops).take k)[j]?=(tbl E ops)[0+j]?∨((tbl E ops).take k)[j]?=none:=fun j=>by
  rw [Nat.zero_add]
  by_cases hjk:j<k
  ·exact .inl (List.getElem?_take_of_lt hjk)
  ·exact .inr (List.getElem?_eq_none (by simp;omega))
 exact addP_clo hc hp _ 0 _ hl (by simp;omega) (orB_clo hc hd _ 0 _ hl hd)
end Go.Ar
