import Derived.Test.YthhcbcokjlpahaaGreatArW
namespace Go.Ar
open Go.Proofs
set_option linter.unusedVariables false
set_option linter.unusedSimpArgs false
set_option maxRecDepth 20000
/-! ### Lemmas for the walks -/
theorem ret_eq{P:Program}{f:Nat}{o:Bool}{vs:List V}{g:List (List V)}{v:V}(h:∀r,v=r→Ret P f o vs g r):Ret P f o vs g v:=h v rfl
theorem lt_llen{α:Type}{f:α→List V}{l:List α}{i:Nat}(h:icmp .lss (i:Int) (llen (rows f l))=true):i<l.length:=by
 rw [icmp_lss,llen_rows] at h;simp only [decide_eq_true_eq] at h;omega
theorem ge_llen{α:Type}{f:α→List V}{l:List α}{i:Nat}(h:icmp .lss (i:Int) (llen (rows f l))=false):l.length≤i:=by
 rw [icmp_lss,llen_rows] at h;simp only [decide_eq_false_iff_not] at h;omega
theorem take_snoc{α:Type}{l:List α}{i:Nat}{x:α}(h:l[i]?=some x):l.take (i+1)=l.take i++[x]:=by
 rw [List.take_add_one,h];rfl
theorem take_eq_snoc{α:Type}{a b:List α}{i:Nat}{x y:α}(h:a.take i=b.take i)(ha:a[i]?=some x)(hb:b[i]?=some y)(hxy:x=y):a.take (i+1)=b.take (i+1):=by
 rw [take_snoc ha,take_snoc hb,h,hxy]
theorem ne_at{α:Type}{a b:List α}{i:Nat}{x y:α}(ha:a[i]?=some x)(hb:b[i]?=some y)(hxy:x≠y):a≠b:=by
 intro e;subst e;rw [ha] at hb;exact hxy (Option.some.inj hb)
theorem eq_of_take{α:Type}{a b:List α}{i:Nat}(h:a.take i=b.take i)(ha:a.length≤i)(hl:a.length=b.length):a=b:=by
 rwa [List.take_of_length_le ha,List.take_of_length_le (by omega)] at h
theorem drop_at{α:Type}{l:List α}{i:Nat}{x:α}(h:l[i]?=some x):l.drop i=x::l.drop (i+1):=by
 obtain⟨hi,e⟩:=List.getElem?_eq_some_iff.1 h
 rw [List.drop_eq_getElem_cons hi,e]
theorem get_lt_len{α:Type}{l:List α}{i:Nat}{x:α}(h:l[i]?=some x):i<l.length:=(List.getElem?_eq_some_iff.1 h).1
/-- A slice's copy, as far as it is filled. -/
def fillF{α:Type}(d:α)(l:List α)(i:Nat):List α:=l.take i++List.replicate (l.length-i) d
theorem fillF_len{α:Type}(d:α)(l:List α)(i:Nat)(h:i≤l.length):(fillF d l i).length=l.length:=by simp [fillF];omega
theorem fillF_zero{α:Type}(d:α)(l:List α):fillF d l 0=List.replicate l.length d:=by simp [fillF]
theorem fillF_all{α:Type}(d:α)(l:List α)(i:Nat)(h:l.length≤i):fillF d l i=l:=by simp [fillF,List.take_of_length_le h,show l.length-i=0 by omega]
theorem fillF_set{α:Type}(d:α)(l:List α)(i:Nat)(x:α)(h:l[i]?=some x):(fillF d l i).set i x=fillF d l (i+1):=by
 have hi:=get_lt_len h
 have hl:(l.take i).length=i:=by simp;omega
 rw [fillF,fillF,take_snoc h,List.set_append_right _ _ (by omega),hl,Nat.sub_self,show l.length-i=(l.length-(i+1))+1 by omega,List.replicate_succ,List.set_cons_zero]
 simp
theorem rep_rows{α β:Type}{f:α→List V}{l:List α}{g:β→List V}(x:β):rep_ (llen (rows f l)) (g x)=rows g (List.replicate l.length x):=by
 rw [rep_eq,llen_rows,rows_eq];simp
theorem ins_rows{α:Type}{f:α→List V}{l:List α}:InS 0 (llen (rows f l)) (llen (rows f l)):=by rw [InS_eq,llen_rows];omega
theorem room_rows{α:Type}{f:α→List V}{l:List α}{k:Int}(h:l.length≤68719476736)(hk:0≤k∧k≤1024):Room (llen (rows f l)) k:=by
 rw [Room_eq,llen_rows]
 have:(l.length:Int)*k≤68719476736*1024:=Int.mul_le_mul (by omega) hk.2 hk.1 (by omega)
 omega
theorem set_rowsN{α:Type}{f:α→List V}{l:List α}{i:Nat}(x:α):setAt (rows f l) (i:Int) (f x)=rows f (l.set i x):=by
 rw [setAt_rows];simp
theorem at_setN{α:Type}{f:α→List V}{l:List α}{i:Nat}{x:α}(h:l[i]?=some x)(r:List V):at_ (setAt (rows f l) (i:Int) r) (i:Int)=some r:=by
 have:=get_lt_len h
 rw [at_eq,if_pos (by omega),setAt_eq,rows_eq]
 simp [this]
theorem set_setN(xs:List (List V))(i:Int)(r r':List V):setAt (setAt xs i r) i r'=setAt xs i r':=by
 rw [setAt_eq,setAt_eq,setAt_eq,List.set_set]
theorem inr_setN{α:Type}{f:α→List V}{l:List α}{i:Nat}{x:α}(h:l[i]?=some x)(r:List V):InR (i:Int) (llen (setAt (rows f l) (i:Int) r)):=by
 have:=inr_rowsN (f:=f) h
 rw [InR_eq] at this ⊢
 rwa [llen_eq,setAt_eq,List.length_set,←llen_eq]
/-! ### Measures -/
def sumS{α:Type}(f:α→Nat)(l:List α):Nat:=(l.map f).sum
theorem sumS_nil{α:Type}(f:α→Nat):sumS f []=0:=rfl
theorem sumS_append{α:Type}(f:α→Nat)(a b:List α):sumS f (a++b)=sumS f a+sumS f b:=by simp [sumS]
theorem sumS_one{α:Type}(f:α→Nat)(x:α):sumS f [x]=f x:=by simp [sumS]
theorem sumS_succ{α:Type}(f:α→Nat){l:List α}{i:Nat}{x:α}(h:l[i]?=some x):sumS f (l.take (i+1))=sumS f (l.take i)+f x:=by
 rw [take_snoc h,sumS_append,sumS_one]
theorem sumS_take{α:Type}(f:α→Nat)(l:List α)(i:Nat):sumS f (l.take i)≤sumS f l:=by
 have:=sumS_append f (l.take i) (l.drop i)
 rw [List.take_append_drop] at this;omega
theorem sumS_at{α:Type}(f:α→Nat){l:List α}{i:Nat}{x:α}(h:l[i]?=some x):sumS f (l.take i)+f x≤sumS f l:=by
 rw [←sumS_succ f h];exact sumS_take f l _
/-- The size of a slice: its length, and what is in it. -/
def szL{α:Type}(f:α→Nat)(l:List α):Nat:=l.length+sumS f l
theorem szL_len{α:Type}(f:α→Nat)(l:List α):l.length≤szL f l:=by unfold szL;omega
theorem szL_at{α:Type}(f:α→Nat){l:List α}{i:Nat}{x:α}(h:l[i]?=some x):f x≤szL f l:=by
 have:=sumS_at f h;unfold szL;omega
/-- What is left of a measure. -/
def lessS(left:Int)(n:Nat):Int:=if (n:Int)≤left then left-n else -1
theorem lessS_pos{l r:Int}{n:Nat}(e:lessS l n=r)(h:0≤r):r=l-n∧(n:Int)≤l:=by
 unfold lessS at e;split at e <;> omega
theorem lessS_neg{l r:Int}{n:Nat}(e:lessS l n=r)(h:r<0)(h0:0≤l):l<n:=by
 unfold lessS at e;split at e <;> omega
theorem lessS_eq{l:Int}{n:Nat}(h:(n:Int)≤l):lessS l n=l-n:=if_pos h
theorem lessS_lt{l:Int}{n:Nat}(h:l<n):lessS l n=-1:=if_neg (by omega)
theorem lt_zero{n:Int}(h:icmp .lss n 0=true):n<0:=by rw [icmp_lss] at h;simpa using h
theorem ge_zero{n:Int}(h:icmp .lss n 0=false):0≤n:=by rw [icmp_lss] at h;simp at h;omega
theorem sub_slen{l r:Int}{s:List UInt8}(e:iop .sub .i64 l (slen s)=r)(h0:0≤l)(h1:l≤1048576)(hs:s.length≤maxLen):r=l-(s.length:Int):=by
 rw [←e,iop_sub,slen_eq]
 unfold maxLen at hs
 exact wrap_i64 (by omega) (by omega)
theorem sub_llen{α:Type}{f:α→List V}{l:List α}{n r:Int}(e:iop .sub .i64 n (llen (rows f l))=r)(h0:0≤n)(h1:n≤1048576)(hl:l.length≤maxLen):r=n-(l.length:Int):=by
 rw [←e,iop_sub,llen_rows]
 unfold maxLen at hl
 exact wrap_i64 (by omega) (by omega)
/-- The invariant of a measure's loop. -/
def SzI{α:Type}(f:α→Nat)(l:List α)(left:Int)(i:Nat)(lf:Int):Prop:=lf=left-(l.length+sumS f (l.take i):Nat)∧0≤lf∧left≤1048576∧i≤l.length
theorem SzI.zero{α:Type}{f:α→Nat}{l:List α}{left lf:Int}(e:lf=left-(l.length:Int))(h:0≤lf)(h1:left≤1048576):SzI f l left 0 lf:=⟨by rw [List.take_zero,sumS_nil];exact e,h,h1,by omega⟩
theorem SzI.le{α:Type}{f:α→Nat}{l:List α}{left lf:Int}{i:Nat}(h:SzI f l left i lf):lf≤1048576:=by obtain⟨h1,h2,h3,_⟩:=h;omega
theorem SzI.len{α:Type}{f:α→Nat}{l:List α}{left lf:Int}{i:Nat}(h:SzI f l left i lf):l.length≤1048576:=by obtain⟨h1,h2,h3,_⟩:=h;omega
theorem SzI.step{α:Type}{f:α→Nat}{l:List α}{left lf r:Int}{i:Nat}{x:α}(h:SzI f l left i lf)(hx:l[i]?=some x)(e:lessS lf (f x)=r)(h0:0≤r):SzI f l left (i+1) r:=by
 have:=lessS_pos e h0
 obtain⟨h1,h2,h3,h4⟩:=h
 refine ⟨?_,h0,h3,get_lt_len hx⟩
 rw [sumS_succ f hx];omega
theorem SzI.neg{α:Type}{f:α→Nat}{l:List α}{left lf r:Int}{i:Nat}{x:α}(h:SzI f l left i lf)(hx:l[i]?=some x)(e:lessS lf (f x)=r)(h0:r<0) : -1=lessS left (szL f l):=by
 have:=lessS_neg e h0 h.2.1
 have h5:=sumS_at f hx
 obtain⟨h1,h2,h3,h4⟩:=h
 rw [lessS_lt]
 unfold szL;omega
theorem SzI.done{α:Type}{f:α→Nat}{l:List α}{left lf:Int}{i:Nat}(h:SzI f l left i lf)(hi:l.length≤i):lf=lessS left (szL f l):=by
 obtain⟨h1,h2,h3,h4⟩:=h
 rw [List.take_of_length_le hi] at h1
 rw [lessS_eq] <;> unfold szL <;> omega
theorem szL_neg{α:Type}{f:α→Nat}{l:List α}{left r:Int}(e:r=left-(l.length:Int))(h:r<0) : -1=lessS left (szL f l):=by
 rw [lessS_lt];unfold szL;omega
/-! ### Marks -/
def mkL{α:Type}(cnt:α→Nat)(mk:Int→α→α):Int→List α→List α
 | _,[]=>[]
 | k,x::l=>mk k x::mkL cnt mk (k+cnt x) l
theorem mkL_len{α:Type}(cnt:α→Nat)(mk:Int→α→α):∀ (l:List α) (k:Int),(mkL cnt mk k l).length=l.length
 | [],_=>rfl
 | x::l,k=>by simp [mkL,mkL_len cnt mk l]
theorem mkL_append{α:Type}(cnt:α→Nat)(mk:Int→α→α):∀ (a b:List α) (k:Int),mkL cnt mk k (a++b)=mkL cnt mk k a++mkL cnt mk (k+(sumS cnt a:Nat)) b
 | [],b,k=>by simp [mkL,sumS]
 | x::a,b,k=>by
  simp only [List.cons_append,mkL,mkL_append cnt mk a b]
  congr 3
  simp [sumS];omega
theorem mkL_at{α:Type}(cnt:α→Nat)(mk:Int→α→α){l:List α}{i:Nat}{x:α}(h:l[i]?=some x)(k:Int):(mkL cnt mk k l)[i]?=some (mk (k+(sumS cnt (l.take i):Nat)) x):=by
 have e:l=l.take i++x::l.drop (i+1):=by rw [←drop_at h,List.take_append_drop]
 have hl:(l.take i).length=i:=by have:=get_lt_len h;simp;omega
 generalize l.take i=a at e hl ⊢
 rw [e,mkL_append]
 rw [List.getElem?_append_right (by rw [mkL_len];omega),mkL_len,hl,Nat.sub_self]
 rfl
/-- The invariant of a mark's loop. -/
def MkI{α:Type}(cnt:α→Nat)(mk:Int→α→α)(l:List α)(k:Int)(i:Nat)(ki:Int)(x:List α):Prop:=ki=k+(sumS cnt (l.take i):Nat)∧x=mkL cnt mk k (l.take i)++l.drop i∧i≤l.length
theorem MkI.zero{α:Type}{cnt:α→Nat}{mk:Int→α→α}{l:List α}{k:Int}:MkI cnt mk l k 0 k l:=⟨by simp [sumS],by simp [mkL],by omega⟩
theorem MkI.len{α:Type}{cnt:α→Nat}{mk:Int→α→α}{l:List α}{k ki:Int}{i:Nat}{x:List α}(h:MkI cnt mk l k i ki x):x.length=l.length:=by
 rw [h.2.1,List.length_append,mkL_len,List.length_take,List.length_drop];have:=h.2.2;omega
theorem MkI.get{α:Type}{cnt:α→Nat}{mk:Int→α→α}{l:List α}{k ki:Int}{i:Nat}{x:List α}(h:MkI cnt mk l k i ki x)(hi:i<x.length):∃y,x[i]?=some y∧l[i]?=some y:=by
 have hl:=h.len
 obtain⟨y,hy⟩:=get_lt (l:=l) (i:=i) (by omega)
 refine ⟨y,?_,hy⟩
 rw [h.2.1,List.getElem?_append_right (by rw [mkL_len,List.length_take];omega),mkL_len,List.length_take,List.getElem?_drop,show i+(i-min i l.length)=i by omega]
 exact hy
theorem MkI.step{α:Type}{cnt:α→Nat}{mk:Int→α→α}{l:List α}{k ki kj:Int}{i:Nat}{x:List α}{y:α}(h:MkI cnt mk l k i ki x)(hy:l[i]?=some y)(hk:kj=ki+(cnt y:Nat)):MkI cnt mk l k (i+1) kj (x.set i (mk ki y)):=by
 obtain⟨h1,h2,h3⟩:=h
 have hl:=get_lt_len hy
 refine ⟨by rw [sumS_succ cnt hy];omega,?_,hl⟩
 rw [h2,take_snoc hy,mkL_append,List.set_append_right _ _ (by rw [mkL_len,List.length_take];omega),mkL_len,List.length_take,show i-min i l.length=0 by omega,drop_at hy,List.set_cons_zero,←h1]
 simp [mkL]
theorem MkI.bound{α:Type}{cnt:α→Nat}{mk:Int→α→α}{l:List α}{k ki:Int}{i:Nat}{x:List α}{y:α}(h:MkI cnt mk l k i ki x)(hy:l[i]?=some y){B:Int}(hB:k+(sumS cnt l:Nat)≤B):ki+(cnt y:Nat)≤B:=by
 have:=sumS_at cnt hy
 have:=h.1;omega
theorem MkI.pos{α:Type}{cnt:α→Nat}{mk:Int→α→α}{l:List α}{k ki:Int}{i:Nat}{x:List α}(h:MkI cnt mk l k i ki x)(h0:0≤k):0≤ki:=by have:=h.1;omega
theorem MkI.done{α:Type}{cnt:α→Nat}{mk:Int→α→α}{l:List α}{k ki:Int}{i:Nat}{x:List α}(h:MkI cnt mk l k i ki x)(hi:l.length≤i):ki=k+(sumS cnt l:Nat)∧x=mkL cnt mk k l:=by
 obtain⟨h1,h2,h3⟩:=h
 rw [List.take_of_length_le hi] at h1 h2
 rw [List.drop_of_length_le hi,List.append_nil] at h2
 exact ⟨h1,h2⟩
/-- A slice that is written, as it is handed to the function. -/
theorem inc_one{ki r:Int}(e:iop .add .i64 ki 1=r)(h0:0≤ki)(h1:ki≤4611686018427387904):r=ki+1:=by
 rw [←e,iop_add,wrap_i64 (by omega) (by omega)]
/-- Room for the marks. -/
def MkB(k:Int)(n:Nat):Prop:=0≤k∧k+(n:Int)≤1099511627776
theorem MkI.ok{α:Type}{cnt:α→Nat}{mk:Int→α→α}{l:List α}{k ki:Int}{i:Nat}{x:List α}{y:α}(h:MkI cnt mk l k i ki x)(hy:l[i]?=some y)(hB:MkB k (sumS cnt l)):MkB ki (cnt y):=⟨h.pos hB.1,h.bound hy hB.2⟩
theorem MkB.inc{k r:Int}{n:Nat}(h:MkB k n)(e:iop .add .i64 k 1=r)(m:Nat)(hm:1+m≤n):r=k+1∧MkB r m:=by
 obtain⟨h1,h2⟩:=h
 have:=inc_one e h1 (by omega)
 exact ⟨this,by omega,by omega⟩
theorem MkB.sub{k:Int}{n:Nat}(h:MkB k n)(m:Nat)(hm:m≤n):MkB k m:=⟨h.1,by have:=h.2;omega⟩
theorem MkB.add{k r:Int}{n:Nat}(h:MkB k n)(c m:Nat)(e:k+(c:Int)=r)(hm:c+m≤n):MkB r m:=⟨by have:=h.1;omega,by have:=h.2;omega⟩
/-- What is marked is held. -/
def HeI{α:Type}(cnt:α→Nat)(l:List α)(k:Int)(i:Nat)(ki:Int):Prop:=ki=k+(sumS cnt (l.take i):Nat)∧i≤l.length
theorem HeI.zero{α:Type}{cnt:α→Nat}{l:List α}{k:Int}:HeI cnt l k 0 k:=⟨by simp [sumS],by omega⟩
theorem HeI.step{α:Type}{cnt:α→Nat}{l:List α}{k ki kj:Int}{i:Nat}{y:α}(h:HeI cnt l k i ki)(hy:l[i]?=some y)(hk:kj=ki+(cnt y:Nat)):HeI cnt l k (i+1) kj:=by
 have:=h.1
 exact ⟨by rw [sumS_succ cnt hy];omega,get_lt_len hy⟩
theorem HeI.done{α:Type}{cnt:α→Nat}{l:List α}{k ki:Int}{i:Nat}(h:HeI cnt l k i ki)(hi:l.length≤i):ki=k+(sumS cnt l:Nat):=by
 have:=h.1;rwa [List.take_of_length_le hi] at this
theorem HeI.ok{α:Type}{cnt:α→Nat}{l:List α}{k ki:Int}{i:Nat}{y:α}(h:HeI cnt l k i ki)(hy:l[i]?=some y)(hB:MkB k (sumS cnt l)):MkB ki (cnt y):=by
 have:=sumS_at cnt hy
 have:=h.1
 obtain⟨h1,h2⟩:=hB
 exact ⟨by omega,by omega⟩
theorem HeI.bound{α:Type}{cnt:α→Nat}{l:List α}{k ki:Int}{i:Nat}{y:α}(h:HeI cnt l k i ki)(hy:l[i]?=some y){B:Int}(hB:k+(sumS cnt l:Nat)≤B):ki+(cnt y:Nat)≤B:=by
 have:=sumS_at cnt hy
 have:=h.1;omega
theorem HeI.pos{α:Type}{cnt:α→Nat}{l:List α}{k ki:Int}{i:Nat}(h:HeI cnt l k i ki)(h0:0≤k):0≤ki:=by have:=h.1;omega
end Go.Ar
