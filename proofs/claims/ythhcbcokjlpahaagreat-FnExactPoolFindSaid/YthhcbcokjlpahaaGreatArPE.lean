import Derived.Test.YthhcbcokjlpahaaGreatArPD
namespace Go.Ar
set_option linter.unusedVariables false
set_option linter.unusedSimpArgs false
/-! ### A quiet operation's value is fixed -/
theorem navK_mono{K K':Fl→List V→Prop}(hk:∀a b,K a b→K' a b):∀ (ps:List (Nat × Int × Nat)) (md:Fl) (row:List V),navK md row ps K→navK md row ps K'
 | [],md,row,h=>hk _ _ h
 | (k,i,z)::ps,md,row,h=>by
  unfold navK at h ⊢
  split at h
  ·rename_i f z' xs hg
   cases hz:(z' == z) with
   | false=>rw [hz] at h;exact h.elim
   | true =>
    rw [hz] at h
    obtain⟨r,hr,h⟩:=h
    exact ⟨r,hr,navK_mono hk ps _ _ h⟩
  ·exact h.elim
theorem navK_det{K:Fl→List V→Prop}:∀ (ps:List (Nat × Int × Nat)) (md:Fl) (row:List V),navK md row ps K→∃md' row',navK md row ps (fun a b=>a=md'∧b=row')∧K md' row'
 | [],md,row,h=>⟨md,row,⟨rfl,rfl⟩,h⟩
 | (k,i,z)::ps,md,row,h=>by
  unfold navK at h
  split at h
  ·rename_i f z' xs hg
   cases hz:(z' == z) with
   | false=>rw [hz] at h;exact h.elim
   | true =>
    rw [hz] at h
    obtain⟨r,hr,h⟩:=h
    obtain⟨md',row',h1,h2⟩:=navK_det ps _ _ h
    refine ⟨md',row',?_,h2⟩
    unfold navK
    simp only [hg,hz,cond_true]
    exact ⟨r,hr,h1⟩
  ·exact h.elim
section det
variable {E:Env} {st:St}
theorem dfA_mono{p:Pl}{z:Nat}{u:Option (Int × Int)}{K K':List (List V)→Prop}(hk:∀a,K a→K' a)(h:dfA E st p z u K):dfA E st p z u K':=by
 unfold dfA at h ⊢
 refine navK_mono ?_ _ _ _ h
 rintro a b ⟨h1,h2⟩
 refine ⟨h1,?_⟩
 split at h2
 ·rename_i f z' xs hg
  cases hz:(z' == z) with
  | false=>rw [hz] at h2;exact h2.elim
  | true=>rw [hz] at h2;exact hk _ h2
 ·exact h2.elim
theorem dfA_det{p:Pl}{z:Nat}{u:Option (Int × Int)}{K:List (List V)→Prop}(h:dfA E st p z u K):∃xs,dfA E st p z u (fun y=>y=xs)∧K xs:=by
 unfold dfA at h
 obtain⟨md',row',h1,h2,h3⟩:=navK_det _ _ _ h
 split at h3
 ·rename_i f z' xs hg
  cases hz:(z' == z) with
  | false=>rw [hz] at h3;exact h3.elim
  | true =>
   rw [hz] at h3
   refine ⟨_,?_,h3⟩
   unfold dfA
   refine navK_mono ?_ _ _ _ h1
   rintro a b ⟨rfl,rfl⟩
   refine ⟨h2,?_⟩
   simp only [hg,hz,cond_true]
 ·exact h3.elim
theorem slK_mono{v:V}{K K':List (List V)→Prop}(hk:∀a,K a→K' a)(h:slK E st v K):slK E st v K':=by
 unfold slK at h ⊢
 split at h
 ·exact hk _ h
 ·exact hk _ h
 ·exact dfA_mono hk h
 ·exact h.elim
theorem slK_det{v:V}{K:List (List V)→Prop}(h:slK E st v K):∃xs,slK E st v (fun y=>y=xs)∧K xs:=by
 unfold slK at h
 unfold slK
 split at h
 ·exact ⟨_,rfl,h⟩
 ·exact ⟨_,rfl,h⟩
 ·exact dfA_det h
 ·exact h.elim
theorem bdA_mono{x:Option Operand}{d:Int}{K K':Int→Prop}(hk:∀a,K a→K' a)(h:bdA st x d K):bdA st x d K':=by
 unfold bdA at h ⊢
 split at h
 ·exact hk _ h
 ·split at h
  ·exact hk _ h
  ·exact h.elim
theorem bdA_det{x:Option Operand}{d:Int}{K:Int→Prop}(h:bdA st x d K):∃n,bdA st x d (fun y=>y=n)∧K n:=by
 unfold bdA at h
 unfold bdA
 split at h
 ·exact ⟨_,rfl,h⟩
 ·split at h
  ·exact ⟨_,rfl,h⟩
  ·exact h.elim
mutual
theorem brL_mono{K K':List V→List (List V)→Prop}(hk:∀a b,K a b→K' a b):∀ (n:Nat) (vs:List V),brL E st n vs K→brL E st n vs K'
 | _,[],h=>by unfold brL at h ⊢;exact hk _ _ h
 | n,v::vs,h=>by
  cases v with
  | rf p z u=>simp only [brL] at h ⊢;exact dfA_mono (fun xs h=>brL_mono (fun a b=>hk _ _) n vs h) h
  | sl f z xs=>simp only [brL] at h ⊢;exact brL_mono (fun a b=>hk _ _) n vs h
  | pt p=>simp only [brL] at h ⊢;exact navK_mono (fun a b h=>⟨h.1,brL_mono (fun a b=>hk _ _) (n+1) vs h.2⟩) _ _ _ h
  | ag cs=>simp only [brL] at h ⊢;exact brL_mono (fun a b h=>brL_mono (fun a b=>hk _ _) _ vs h) n cs h
  | fn f cs=>simp only [brL] at h ⊢;exact brL_mono (fun a b h=>brL_mono (fun a b=>hk _ _) _ vs h) n cs h
  | tu cs=>simp only [brL] at h
  | un=>simp only [brL] at h
  | b x=>simp only [brL] at h ⊢;exact brL_mono (fun a b=>hk _ _) n vs h
  | i k x=>simp only [brL] at h ⊢;exact brL_mono (fun a b=>hk _ _) n vs h
  | cv k x=>simp only [brL] at h ⊢;exact brL_mono (fun a b=>hk _ _) n vs h
  | s x=>simp only [brL] at h ⊢;exact brL_mono (fun a b=>hk _ _) n vs h
  | nil=>simp only [brL] at h ⊢;exact brL_mono (fun a b=>hk _ _) n vs h
end
theorem brL_det{K:List V→List (List V)→Prop}:∀ (n:Nat) (vs:List V),brL E st n vs K→∃vs' g,brL E st n vs (fun a b=>a=vs'∧b=g)∧K vs' g
 | _,[],h=>by unfold brL at h;exact ⟨_,_,by unfold brL;exact ⟨rfl,rfl⟩,h⟩
 | n,v::vs,h=>by
  cases v with
  | rf p z u =>
   simp only [brL] at h ⊢
   obtain⟨xs,h1,h2⟩:=dfA_det h
   obtain⟨vs',g,h3,h4⟩:=brL_det n vs h2
   exact ⟨_,_,dfA_mono (by rintro _ rfl;exact brL_mono (by rintro _ _ ⟨rfl,rfl⟩;exact ⟨rfl,rfl⟩) n vs h3) h1,h4⟩
  | sl f z xs =>
   simp only [brL] at h ⊢
   obtain⟨vs',g,h3,h4⟩:=brL_det n vs h
   exact ⟨_,_,brL_mono (by rintro _ _ ⟨rfl,rfl⟩;exact ⟨rfl,rfl⟩) n vs h3,h4⟩
  | pt p =>
   simp only [brL] at h ⊢
   obtain⟨md,row,h1,h2,h0⟩:=navK_det _ _ _ h
   obtain⟨vs',g,h3,h4⟩:=brL_det (n+1) vs h0
   clear h0
   refine ⟨_,_,?_,h4⟩
   refine navK_mono ?_ _ _ _ h1
   rintro _ _ ⟨rfl,rfl⟩
   refine ⟨h2,brL_mono ?_ _ vs h3⟩
   rintro _ _ ⟨rfl,rfl⟩
   exact ⟨rfl,rfl⟩
  | ag cs =>
   simp only [brL] at h ⊢
   obtain⟨cs',g1,h1,h2⟩:=brL_det n cs h
   obtain⟨vs',g,h3,h4⟩:=brL_det _ vs h2
   exact ⟨_,_,brL_mono (by rintro _ _ ⟨rfl,rfl⟩;exact brL_mono (by rintro _ _ ⟨rfl,rfl⟩;exact ⟨rfl,rfl⟩) _ vs h3) n cs h1,h4⟩
  | fn f cs =>
   simp only [brL] at h ⊢
   obtain⟨cs',g1,h1,h2⟩:=brL_det n cs h
   obtain⟨vs',g,h3,h4⟩:=brL_det _ vs h2
   exact ⟨_,_,brL_mono (by rintro _ _ ⟨rfl,rfl⟩;exact brL_mono (by rintro _ _ ⟨rfl,rfl⟩;exact ⟨rfl,rfl⟩) _ vs h3) n cs h1,h4⟩
  | tu cs=>simp only [brL] at h
  | un=>simp only [brL] at h
  | b x | i k x | cv k x | s x | nil =>
   simp only [brL] at h ⊢
   obtain⟨vs',g,h3,h4⟩:=brL_det n vs h
   exact ⟨_,_,brL_mono (by rintro _ _ ⟨rfl,rfl⟩;exact ⟨rfl,rfl⟩) n vs h3,h4⟩
/-- A is asked of one value alone. -/
def Det(A:(V→Prop)→Prop):Prop := ∀K,A K→∃v,A (fun u=>u=v)∧K v
theorem qmv_det{x:Operand}:Det (qmv st x):=by
 intro K h
 unfold qmv at h
 unfold qmv
 split at h
 ·split at h
  ·exact h.elim
  ·exact ⟨_,rfl,h⟩
  ·exact ⟨_,rfl,h⟩
  ·cases hc:cp (st.t.getD _ .un) with
   | true=>rw [hc] at h;exact ⟨_,rfl,h⟩
   | false=>rw [hc] at h;exact h.elim
 ·exact ⟨_,rfl,h⟩
 ·exact ⟨_,rfl,h⟩
 ·exact h.elim
theorem qex_det{x:Operand}{j:Nat}:Det (qex st x j):=by
 intro K h
 unfold qex at h
 unfold qex
 split at h
 ·split at h
  ·split at h
   ·rename_i v hj
    cases hc:cp v with
    | true=>rw [hc] at h;exact ⟨_,rfl,h⟩
    | false=>rw [hc] at h;exact h.elim
   ·exact h.elim
  ·exact h.elim
 ·exact h.elim
theorem loadA_det{t:Nat}{x:Operand}:Det (loadA E t x st):=by
 intro K h
 unfold loadA at h
 unfold loadA
 split at h
 ·rename_i p hg
  cases hkn:kn (E.ti t).k with
  | false=>rw [hkn] at h;exact h.elim
  | true =>
   rw [hkn] at h
   obtain⟨md',row',h1,h2,h3⟩:=navK_det _ _ _ h
   cases hb:Nat.beq ((row'.drop p.o).take (E.ti t).sz).length (E.ti t).sz with
   | false=>rw [hb] at h3;exact h3.elim
   | true =>
    rw [hb] at h3
    simp only [cond_true] at h3
    cases ha:isAg (E.ti t).k with
    | true =>
     rw [ha] at h3
     refine ⟨_,?_,h3⟩
     simp only [cond_true]
     refine navK_mono ?_ _ _ _ h1
     rintro _ _ ⟨rfl,rfl⟩
     refine ⟨h2,?_⟩
     simp only [hb,cond_true]
    | false =>
     rw [ha] at h3
     simp only [cond_false] at h3
     split at h3
     ·rename_i cl hcl
      refine ⟨_,?_,h3⟩
      simp only [cond_true]
      refine navK_mono ?_ _ _ _ h1
      rintro _ _ ⟨rfl,rfl⟩
      refine ⟨h2,?_⟩
      rw [hcl] at hb
      simp only [hcl,hb,cond_true,cond_false]
     ·exact h3.elim
 ·exact h.elim
theorem binA_det{op:BinOp}{t:Nat}{x y:V}(hy:y≠.nil):Det (binA E st op t x y):=by
 intro K h
 unfold binA at h
 unfold binA
 split at h
 ·rename_i k a k' b
  cases op <;> simp only at h ⊢ <;> first
  | exact h.elim
  | (cases hk : kEq k k' with
     | false=>rw [hk] at h;exact h.elim
     | true=>rw [hk] at h;first | exact ⟨_,rfl,h⟩ | exact ⟨_,⟨h.1,rfl⟩,h.2⟩)
  | exact ⟨_,⟨h.1,rfl⟩,h.2⟩
 ·cases op <;> simp only at h ⊢ <;> first
  | exact h.elim
  | exact ⟨_,rfl,h⟩
  | exact ⟨_,⟨h.1,rfl⟩,h.2⟩
 ·split at h
  ·exact ⟨_,rfl,h⟩
  ·exact ⟨_,rfl,h⟩
  ·exact h.elim
 ·split at h
  ·cases hc:((isS (E.ti t).k && scals (E.ti t).zr) && okEq _ _ _) with
   | false=>rw [hc] at h;exact h.elim
   | true=>rw [hc] at h;exact ⟨_,rfl,h⟩
  ·cases hc:((isS (E.ti t).k && scals (E.ti t).zr) && okEq _ _ _) with
   | false=>rw [hc] at h;exact h.elim
   | true=>rw [hc] at h;exact ⟨_,rfl,h⟩
  ·exact h.elim
 ·exact absurd rfl hy
 ·exact h.elim
theorem unA_det{op:UnOp}{x:V}:Det (unA st op x):=by
 intro K h
 unfold unA at h
 unfold unA
 split at h
 ·exact ⟨_,rfl,h⟩
 ·exact ⟨_,rfl,h⟩
 ·exact h.elim
theorem sixA_det{t:Nat}{x ix:V}:Det (sixA E st t x ix):=by
 intro K h
 unfold sixA at h
 unfold sixA
 split at h
 ·exact ⟨_,⟨h.1,rfl⟩,h.2⟩
 ·exact h.elim
theorem lok_det{u:Option (Int × Int)}{A:Prop}{K:V→Prop}{v:V}(h:lok u (A∧K v)):lok u (A∧v=v)∧K v:=by
 unfold lok at h ⊢
 split at h
 ·exact ⟨⟨h.1,rfl⟩,h.2⟩
 ·exact ⟨⟨h.1,h.2.1,rfl⟩,h.2.2⟩
theorem ixA_det{t:Nat}{x:Operand}{ix:V}:Det (ixA E st t x ix):=by
 intro K h
 unfold ixA at h
 unfold ixA
 split at h
 ·rename_i e k i hks
  cases hkn:kn (E.ti e).k with
  | false=>rw [hkn] at h;exact h.elim
  | true =>
   rw [hkn] at h
   simp only [cond_true] at h ⊢
   split at h
   ·split at h
    ·rename_i f z xs hg
     cases hz:(z == (E.ti e).sz) with
     | false=>rw [hz] at h;exact h.elim
     | true=>rw [hz] at h;exact ⟨_,⟨h.1,rfl⟩,h.2⟩
    ·rename_i p z u hg
     cases hz:(z == (E.ti e).sz) with
     | false=>rw [hz] at h;exact h.elim
     | true =>
      rw [hz] at h
      simp only [cond_true] at h ⊢
      obtain⟨xs,h1,h2⟩:=dfA_det h
      obtain⟨h3,h4⟩:=lok_det h2
      exact ⟨_,dfA_mono (by rintro _ rfl;exact h3) h1,h4⟩
    ·exact h.elim
   ·exact h.elim
 ·exact h.elim
theorem slA_det{t:Nat}{x:Operand}{lo hi mx:Option Operand}:Det (slA E st t x lo hi mx):=by
 intro K h
 unfold slA at h
 unfold slA
 split at h
 ·split at h
  ·obtain⟨n1,h1,h2⟩:=bdA_det h
   obtain⟨n2,h3,h4,h5⟩:=bdA_det h2
   exact ⟨_,bdA_mono (by rintro _ rfl;exact bdA_mono (by rintro _ rfl;exact ⟨h4,rfl⟩) h3) h1,h5⟩
  ·exact h.elim
 ·rename_i e hks
  cases hkn:kn (E.ti e).k with
  | false=>rw [hkn] at h;exact h.elim
  | true =>
   rw [hkn] at h
   simp only [cond_true] at h ⊢
   split at h
   ·split at h
    ·rename_i z xs hg
     cases hz:(z == (E.ti e).sz) with
     | false=>rw [hz] at h;exact h.elim
     | true =>
      rw [hz] at h
      simp only [cond_true] at h ⊢
      obtain⟨n1,h1,h2⟩:=bdA_det h
      obtain⟨n2,h3,h4,h5⟩:=bdA_det h2
      exact ⟨_,bdA_mono (by rintro _ rfl;exact bdA_mono (by rintro _ rfl;exact ⟨h4,rfl⟩) h3) h1,h5⟩
    ·rename_i f z xs hf hg
     cases hz:(z == (E.ti e).sz) with
     | false=>rw [hz] at h;exact h.elim
     | true =>
      rw [hz] at h
      simp only [cond_true] at h ⊢
      obtain⟨n1,h1,h2⟩:=bdA_det h
      obtain⟨n2,h3,h4,h5⟩:=bdA_det h2
      exact ⟨_,bdA_mono (by rintro _ rfl;exact bdA_mono (by rintro _ rfl;exact ⟨h4,rfl⟩) h3) h1,h5⟩
    ·rename_i p z hg
     cases hz:(z == (E.ti e).sz) with
     | false=>rw [hz] at h;exact h.elim
     | true =>
      rw [hz] at h
      simp only [cond_true] at h ⊢
      obtain⟨xs,h0,h⟩:=dfA_det h
      obtain⟨n1,h1,h2⟩:=bdA_det h
      obtain⟨n2,h3,h4,h5⟩:=bdA_det h2
      exact ⟨_,dfA_mono (by rintro _ rfl;exact bdA_mono (by rintro _ rfl;exact bdA_mono (by rintro _ rfl;exact ⟨h4,rfl⟩) h3) h1) h0,h5⟩
    ·exact h.elim
   ·exact h.elim
 ·rename_i mo e hks
  cases hkn:kn (E.ti e).k with
  | false=>rw [hkn] at h;exact h.elim
  | true =>
   rw [hkn] at h
   simp only [cond_true] at h ⊢
   split at h
   ·split at h
    ·rename_i p z kh hn km mn hg hgh hgm
     cases hz:(z == (E.ti e).sz) with
     | false=>rw [hz] at h;exact h.elim
     | true =>
      rw [hz] at h
      simp only [cond_true] at h ⊢
      obtain⟨xs,h0,h⟩:=dfA_det h
      obtain⟨n1,h1,h4,h5,h6⟩:=bdA_det h
      exact ⟨_,dfA_mono (by rintro _ rfl;exact bdA_mono (by rintro _ rfl;exact ⟨h4,h5,rfl⟩) h1) h0,h6⟩
    ·exact h.elim
   ·exact h.elim
 ·exact h.elim
theorem mkA_det{t:Nat}{l cc:V}:Det (mkA E st t l cc):=by
 intro K h
 unfold mkA at h
 unfold mkA
 split at h
 ·rename_i e k l k' n hks
  cases hkn:kn (E.ti e).k with
  | false=>rw [hkn] at h;exact h.elim
  | true=>rw [hkn] at h;exact ⟨_,⟨h.1,h.2.1,rfl⟩,h.2.2⟩
 ·exact h.elim
theorem fdA_det{t j:Nat}{x:V}:Det (fdA E t x j):=by
 intro K h
 unfold fdA at h
 unfold fdA
 split at h
 ·split at h
  ·rename_i off n ag hf
   cases hb:Nat.ble (off+n) _ with
   | false=>rw [hb] at h;exact h.elim
   | true =>
    rw [hb] at h
    simp only [cond_true] at h ⊢
    cases ag with
    | true =>
     simp only [cond_true] at h ⊢
     cases hc:cps _ with
     | false=>rw [hc] at h;exact h.elim
     | true=>rw [hc] at h;exact ⟨_,rfl,h⟩
    | false =>
     simp only [cond_false] at h ⊢
     split at h
     ·rename_i v hv
      cases hc:cp v with
      | false=>rw [hc] at h;exact h.elim
      | true=>rw [hc] at h;exact ⟨_,rfl,h⟩
     ·exact h.elim
  ·exact h.elim
 ·exact h.elim
theorem cvA_det{src dst:Nat}{x:V}:Det (cvA E st src dst x):=by
 intro K h
 unfold cvA at h
 unfold cvA
 split at h
 ·split at h
  ·exact ⟨_,rfl,h⟩
  ·exact h.elim
 ·split at h
  ·exact ⟨_,rfl,h⟩
  ·exact h.elim
 ·split at h
  ·obtain⟨xs,h1,h2,h3⟩:=slK_det h
   exact ⟨_,slK_mono (by rintro _ rfl;exact ⟨h2,rfl⟩) h1,h3⟩
  ·exact h.elim
 ·split at h
  ·exact ⟨_,⟨h.1,rfl⟩,h.2⟩
  ·exact h.elim
 ·exact h.elim
theorem buiA_det{b:Builtin}{ts:List Nat}{args:List Operand}:Det (buiA E st b ts args):=by
 intro K h
 unfold buiA at h
 unfold buiA
 split at h
 ·split at h
  ·split at h
   ·exact ⟨_,rfl,h⟩
   ·exact h.elim
  ·obtain⟨xs,h1,h2⟩:=slK_det h
   exact ⟨_,slK_mono (by rintro _ rfl;rfl) h1,h2⟩
  ·exact h.elim
 ·split at h
  ·exact ⟨_,rfl,h⟩
  ·exact h.elim
 ·split at h
  ·exact ⟨_,rfl,h⟩
  ·exact h.elim
 ·exact h.elim
theorem callQ_det{x:Operand}{args:List Operand}:Det (callQ E st x args):=by
 intro K h
 unfold callQ at h
 unfold callQ
 split at h
 ·obtain⟨vs',g,h1,h2⟩:=brL_det _ _ h
  rw [CallK_eq] at h2
  obtain⟨r,h3,h4⟩:=h2
  cases ho:okA r with
  | false=>rw [ho] at h4;exact h4.elim
  | true =>
   rw [ho] at h4
   refine ⟨r,brL_mono ?_ _ _ h1,h4⟩
   rintro _ _ ⟨rfl,rfl⟩
   rw [CallK_eq]
   exact ⟨r,h3,by show (bif okA r then r=r else False);rw [ho];rfl⟩
 ·exact h.elim
end det
end Go.Ar
