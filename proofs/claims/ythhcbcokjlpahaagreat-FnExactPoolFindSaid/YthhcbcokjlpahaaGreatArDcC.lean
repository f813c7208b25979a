import Derived.Test.YthhcbcokjlpahaaGreatArDcB
namespace Go.Ar
open Go.Proofs
set_option linter.unusedVariables false
set_option linter.unusedSimpArgs false
set_option maxRecDepth 20000
/-! ### One script for all printed functions: the words that it uses -/
section
variable {α β γ σ ρ:Type}
/-- A loop, and a cut, with what a run keeps there. -/
noncomputable def lpt(_ _:List Nat)(_:σ→List (Nat × V))(_:σ→List (Nat × List V))(f:σ→Option (σ ⊕ ρ))(s:σ):Option ρ:=lp f s
noncomputable def lpg(_ _:List Nat)(_:σ→List (Nat × V))(_:σ→List (Nat × List V))(_:σ→List (List V))(f:σ→Option (σ ⊕ ρ))(s:σ):Option ρ:=lp f s
def bnt(_ _:List Nat)(_:α→List (Nat × V))(_:α→List (Nat × List V))(x:Option (α ⊕ β))(k:α→Option β):Option β:=bnd x (Sum.elim k some)
def bnu(_ _:List Nat)(_:α→List (Nat × V))(_:α→List (Nat × List V))(x:Option α)(k:α→Option β):Option β:=bnd x k
def bgt(_ _:List Nat)(_:α→List (Nat × V))(_:α→List (Nat × List V))(_:α→List (List V))(x:Option (α ⊕ β))(k:α→Option β):Option β:=bnd x (Sum.elim k some)
def bgu(_ _:List Nat)(_:α→List (Nat × V))(_:α→List (Nat × List V))(_:α→List (List V))(x:Option α)(k:α→Option β):Option β:=bnd x k
/-- What is computed, and what is to be shown of it. -/
def Yk(x:Option α)(P:α→Prop):Prop := ∃o,x=some o∧P o
theorem Yk.i{x:Option α}{r:α}(h:x=some r):Yk x fun o=>o=r:=⟨r,h,rfl⟩
theorem Yk.b{x:Option α}{f:α→Option β}{P:β→Prop}(h:Yk (bnd x f) P):∃y,x=some y∧Yk (f y) P:=by
 obtain⟨o,ho,hp⟩:=h;obtain⟨y,hy,hr⟩:=bnd_out ho;exact ⟨y,hy,o,hr,hp⟩
theorem Yk.s{a:α}{P:α→Prop}(h:Yk (some a) P):P a:=by obtain⟨o,ho,hp⟩:=h;cases ho;exact hp
theorem Yk.n{P:α→Prop}(h:Yk none P){G:Prop}:G:=by obtain⟨o,ho,hp⟩:=h;cases ho
theorem CondI{c:Bool}{A B:Option α}{P:α→Prop}{G:Prop}(h:Yk (cond c A B) P)(t:c=true→Yk A P→G)(f:c=false→Yk B P→G):G:=by
 cases c
 ·exact f rfl h
 ·exact t rfl h
theorem GtI{l:List α}{i:Int}{k:α→Option β}{P:β→Prop}{R:Prop}(h:Yk (bnd (gt l i) k) P)(t:∀y,gt l i=some y→Yk (k y) P→R):InR i (ln l)∧R:=by
 obtain⟨y,hy,h⟩:=h.b;exact ⟨gt_in hy,t y hy h⟩
theorem GtA{l:List α}{i:Int}{k:α→Option β}{P:β→Prop}{f:α→List V}{R:List V→Prop}(h:Yk (bnd (gt l i) k) P)(t:∀y,gt l i=some y→Yk (k y) P→R (f y)):∃row,at_ (rows f l) i=some row∧R row:=by
 obtain⟨y,hy,h⟩:=h.b;exact ⟨_,gt_at f hy,t y hy h⟩
theorem GtB{l:List UInt8}{i:Int}{k:UInt8→Option β}{P:β→Prop}{R:List V→Prop}(h:Yk (bnd (gt l i) k) P)(t:∀y,gt l i=some y→Yk (k y) P→R [.i .u8 (b2i y)]):∃row,at_ (bys l) i=some row∧R row:=by
 obtain⟨y,hy,h⟩:=h.b;exact ⟨_,gt_ab hy,t y hy h⟩
theorem CkI{p:Prop}{x:Option α}{P:α→Prop}{R:Prop}(h:Yk (ck p x) P)(t:Yk x P→R):p∧R:=by
 obtain⟨o,ho,hp⟩:=h;obtain⟨c,ho⟩:=ck_out ho;exact ⟨c,t ⟨o,ho,hp⟩⟩
theorem NqI{e:Prop}{K:Bool→Option β}{P:β→Prop}{R:Bool→Prop}{A B:Bool→Prop}(h:Yk (nq e K) P)(ha:∀n,A n→n=true→e)(t:∀n,Yk (K n) P→R n)(n:Bool)(a:A n)(_:B n):R n:=by
 obtain⟨o,ho,hp⟩:=h;exact t n ⟨o,nq_out ho n (ha n a),hp⟩
/-- A function's contract, found by what it computes. -/
class Kn (x:Option β) (S:outParam (β→Prop)):Prop where
 o:∀ {r},x=some r→S r
class Km (x:Option β) (S:outParam (β→Value→Prop)):Prop where
 o:∀ {r},x=some r→∀v,S r v
theorem CallC{P:Program}{f:Nat}{own:Bool}{args args':List V}{g g':List (List V)}{K:V→Prop}{x:Option β}{k:β→Option γ}{Pr:γ→Prop}{rep:β→V}(h:Yk (bnd x k) Pr)[c:Kn x fun r=>Ret P f own args' g' (rep r)]
  (ha:args=args') (hg:g=g') (hk:∀r,Yk (k r) Pr→K (rep r)):CallK P f own args g K:=by
 obtain⟨r,hr,h⟩:=h.b;exact CallK.introE ha hg (c.o hr) (hk r h)
theorem CallL{P:Program}{f:Nat}{own:Bool}{args args':List V}{g g':List (List V)}{K:V→Prop}{x:Option β}{k:β→Option γ}{Pr:γ→Prop}{rep:β→V}(h:Yk (bnd x k) Pr)[c:Kn x fun r=>Ret P f own args' g' (rep r)]
  (ha:LeFs args args') (hg:g=g') (hk:∀r,Yk (k r) Pr→K (rep r)):CallK P f own args g K:=by
 obtain⟨r,hr,h⟩:=h.b;exact CallK.introL ha hg (c.o hr) (hk r h)
theorem CallO{P:Program}{f:Nat}{own:Bool}{args args':List V}{g g':List (List V)}{K:V→Prop}{x:Option (Option α)}{kn:Option γ}{k:α→Option γ}{Pr:γ→Prop}{rep:α→V}(h:Yk (bnd x fun r=>oc r kn k) Pr)[c:Kn x fun r=>Ret P f own args' g' (nlV r rep)]
  (ha:args=args') (hg:g=g') (hn:Yk kn Pr→K .nil) (hk:∀r,Yk (k r) Pr→K (rep r)):CallK P f own args g K:=by
 obtain⟨r,hr,h⟩:=h.b
 cases r with
 | none=>exact CallK.introE ha hg (c.o hr) (hn h)
 | some r=>exact CallK.introE ha hg (c.o hr) (hk r h)
theorem CallB{P:Program}{f:Nat}{own:Bool}{args args':List V}{g g':List (List V)}{K:V→Prop}{x:Option β}{fl:β→Bool}{kt kf:β→Option γ}{Pr:γ→Prop}{rt rf:β→V}(h:Yk (bnd x fun r=>cond (fl r) (kt r) (kf r)) Pr)[c:Kn x fun r=>Ret P f own args' g' (cond (fl r) (rt r) (rf r))]
  (ha:args=args') (hg:g=g') (ht:∀r,Yk (kt r) Pr→K (rt r)) (hf:∀r,Yk (kf r) Pr→K (rf r)):CallK P f own args g K:=by
 obtain⟨r,hr,h⟩:=h.b
 have k:=c.o hr
 cases hb:fl r with
 | true=>rw [hb] at h k;exact CallK.introE ha hg k (ht r h)
 | false=>rw [hb] at h k;exact CallK.introE ha hg k (hf r h)
theorem OwnV_cond{b:Bool}{x y:V}(hx:OwnV x)(hy:OwnV y):OwnV (cond b x y):=by cases b <;> assumption
theorem CallM{P:Program}{f:Nat}{v:Value}{args args' gs gs':List V}{K:V→List V→Prop}{x:Option β}{k:β→Option γ}{Pr:γ→Prop}{rep:β→V}{reg:β→List V}(h:Yk (bnd x k) Pr)[c:Km x fun r v=>RetM P f [v] args' gs' (rep r) (reg r)]
  (ha:args=args') (hg:gs=gs') (hk:∀r,Yk (k r) Pr→K (rep r) (reg r)):CallMK P f [v] args gs K:=by
 obtain⟨r,hr,h⟩:=h.b;subst ha hg;exact CallMK.intro (c.o hr v) (hk r h)
theorem CutW{ax ay:(Ex→St→Prop)→St→Prop}{Q:Ex→St→Prop}{st:St}{kp km:List Nat}{ut:α→List (Nat × V)}{um:α→List (Nat × List V)}{x:Option (α ⊕ β)}{k:α→Option β}{P:β→Prop}(h:Yk (bnt kp km ut um x k) P)
  (hx:∀J:α→Prop,Yk x (Sum.elim J P)→ax (fun e st''=>match e with | .normal=>∃a',J a'∧fgS kp km st''=hdS kp km (ut a') (um a') st | e=>Q e st'') st)
  (hy:∀a,Yk (k a) P→ay Q (hdS kp km (ut a) (um a) st)):CutK ax ay Q st :=
 CutK.intro kp km ut um (fun a=>Yk (k a) P) (hx _ (by obtain⟨y,hy,o,ho,hp⟩:=Yk.b (f:=Sum.elim _ some) h;cases y with | inl a=>exact ⟨_,hy,o,ho,hp⟩ | inr b=>cases ho;exact ⟨_,hy,hp⟩)) hy
theorem CutV{ax ay:(Ex→St→Prop)→St→Prop}{Q:Ex→St→Prop}{st:St}{kp km:List Nat}{ut:α→List (Nat × V)}{um:α→List (Nat × List V)}{x:Option α}{k:α→Option β}{P:β→Prop}(h:Yk (bnu kp km ut um x k) P)
  (hx:∀J:α→Prop,Yk x J→ax (fun e st''=>match e with | .normal=>∃a',J a'∧fgS kp km st''=hdS kp km (ut a') (um a') st | e=>Q e st'') st)
  (hy:∀a,Yk (k a) P→ay Q (hdS kp km (ut a) (um a) st)):CutK ax ay Q st :=
 CutK.intro kp km ut um (fun a=>Yk (k a) P) (hx _ (by obtain⟨y,hy,h⟩:=Yk.b (x:=x) (f:=k) h;exact ⟨y,hy,h⟩)) hy
theorem CutWG{ax ay:(Ex→St→Prop)→St→Prop}{Q:Ex→St→Prop}{st:St}{kp km:List Nat}{ut:α→List (Nat × V)}{um:α→List (Nat × List V)}{ug:α→List (List V)}{x:Option (α ⊕ β)}{k:α→Option β}{P:β→Prop}(h:Yk (bgt kp km ut um ug x k) P)
  (hx:∀J:α→Prop,Yk x (Sum.elim J P)→ax (fun e st''=>match e with | .normal=>∃a',J a'∧fgS kp km st''=hdG kp km (ut a') (um a') (ug a') st | e=>Q e st'') st)
  (hy:∀a,Yk (k a) P→ay Q (hdG kp km (ut a) (um a) (ug a) st)):CutK ax ay Q st :=
 CutK.introG kp km ut um ug (fun a=>Yk (k a) P) (hx _ (by obtain⟨y,hy,o,ho,hp⟩:=Yk.b (f:=Sum.elim _ some) h;cases y with | inl a=>exact ⟨_,hy,o,ho,hp⟩ | inr b=>cases ho;exact ⟨_,hy,hp⟩)) hy
theorem CutVG{ax ay:(Ex→St→Prop)→St→Prop}{Q:Ex→St→Prop}{st:St}{kp km:List Nat}{ut:α→List (Nat × V)}{um:α→List (Nat × List V)}{ug:α→List (List V)}{x:Option α}{k:α→Option β}{P:β→Prop}(h:Yk (bgu kp km ut um ug x k) P)
  (hx:∀J:α→Prop,Yk x J→ax (fun e st''=>match e with | .normal=>∃a',J a'∧fgS kp km st''=hdG kp km (ut a') (um a') (ug a') st | e=>Q e st'') st)
  (hy:∀a,Yk (k a) P→ay Q (hdG kp km (ut a) (um a) (ug a) st)):CutK ax ay Q st :=
 CutK.introG kp km ut um ug (fun a=>Yk (k a) P) (hx _ (by obtain⟨y,hy,h⟩:=Yk.b (x:=x) (f:=k) h;exact ⟨y,hy,h⟩)) hy
theorem LoopW{aw:(Ex→St→Prop)→St→Prop}{Q:Ex→St→Prop}{st:St}{kp km:List Nat}{ut:σ→List (Nat × V)}{um:σ→List (Nat × List V)}{f:σ→Option (σ ⊕ ρ)}{s0:σ}{P:ρ→Prop}(h:Yk (lpt kp km ut um f s0) P)
  (h0:fgS kp km st=hdS kp km (ut s0) (um s0) st)
  (hr:∀ (J:σ→Prop) (s:σ),Yk (f s) (Sum.elim J P)→aw (fun e st''=>match e with | .normal=>∃s',J s'∧fgS kp km st''=hdS kp km (ut s') (um s') st | e=>Q e st'') (hdS kp km (ut s) (um s) st)):LoopK aw Q st:=by
 obtain⟨o,ho,hp⟩:=h
 exact LoopR ho kp km ut um h0 fun B s x hx hi hz=>hr B s ⟨x,hx,by cases x with | inl s'=>exact hi s' rfl | inr p=>have:=hz p rfl;subst this;exact hp⟩
theorem LoopWG{aw:(Ex→St→Prop)→St→Prop}{Q:Ex→St→Prop}{st:St}{kp km:List Nat}{ut:σ→List (Nat × V)}{um:σ→List (Nat × List V)}{ug:σ→List (List V)}{f:σ→Option (σ ⊕ ρ)}{s0:σ}{P:ρ→Prop}(h:Yk (lpg kp km ut um ug f s0) P)
  (h0:fgS kp km st=hdG kp km (ut s0) (um s0) (ug s0) st)
  (hr:∀ (J:σ→Prop) (s:σ),Yk (f s) (Sum.elim J P)→aw (fun e st''=>match e with | .normal=>∃s',J s'∧fgS kp km st''=hdG kp km (ut s') (um s') (ug s') st | e=>Q e st'') (hdG kp km (ut s) (um s) (ug s) st)):LoopK aw Q st:=by
 obtain⟨o,ho,hp⟩:=h
 exact LoopRG ho kp km ut um ug h0 fun B s x hx hi hz=>hr B s ⟨x,hx,by cases x with | inl s'=>exact hi s' rfl | inr p=>have:=hz p rfl;subst this;exact hp⟩
class OwnC (f:α→List V):Prop where
 o:∀l,OwnRs (rows f l)
end
instance:OwnC intR:=⟨own_intS⟩
instance:OwnC strR:=⟨own_stringS⟩
instance:OwnC booR:=⟨own_booS⟩
end Go.Ar
