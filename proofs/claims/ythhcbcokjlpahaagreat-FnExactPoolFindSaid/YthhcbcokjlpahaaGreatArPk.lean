import Derived.Test.YthhcbcokjlpahaaGreatArDcC
namespace Go.Ar
open Go.Proofs
set_option linter.unusedVariables false
set_option linter.unusedSimpArgs false
set_option maxRecDepth 20000
/-! ### Conditions as propositions -/
noncomputable def tb(P:Prop):Bool:=@decide P (Classical.propDecidable P)
theorem tb_iff{P:Prop}:tb P=true↔P:=by unfold tb;simp
theorem tb_pos{P:Prop}(h:P):tb P=true:=tb_iff.2 h
theorem tb_neg{P:Prop}(h:¬P):tb P=false:=by
 cases e:tb P with
 | false=>rfl
 | true=>exact absurd (tb_iff.1 e) h
theorem tb_congr{P Q:Prop}(h:P↔Q):tb P=tb Q:=by rw [propext h]
theorem tb_not{P:Prop}:(!tb P)=tb (¬P):=by
 by_cases h:P
 ·rw [tb_pos h,tb_neg (fun hn=>hn h)];rfl
 ·rw [tb_neg h,tb_pos h];rfl
theorem eq_tb(b:Bool):b=tb (b=true):=by cases b with
 | true=>rw [tb_pos rfl]
 | false=>rw [tb_neg (by simp)]
theorem tb_true:tb True=true:=tb_pos trivial
theorem tb_false:tb False=false:=tb_neg id
theorem cond_tb{α:Type}{P:Prop}(a b:α):cond (tb P) a b=@ite α P (Classical.propDecidable P) a b:=by
 by_cases h:P
 ·rw [tb_pos h,if_pos h];rfl
 ·rw [tb_neg h,if_neg h];rfl
theorem tdec{P:Prop}[Decidable P]:decide P=tb P:=by
 by_cases h:P
 ·rw [tb_pos h,decide_eq_true h]
 ·rw [tb_neg h,decide_eq_false h]
theorem bsome{α β:Type}(y:α)(f:α→Option β):bnd (some y) f=f y:=rfl
theorem bite{α β:Type}{P:Prop}(d:Decidable P)(x y:Option α)(f:α→Option β):bnd (@ite _ P d x y) f=@ite _ P d (bnd x f) (bnd y f):=by split <;> rfl
theorem c_eql(a b:Int):icmp .eql a b=tb (a=b):=by rw [icmp_eql,tdec]
theorem c_neq(a b:Int):icmp .neq a b=tb (¬a=b):=by rw [icmp_neq,tdec]
theorem c_lss(a b:Int):icmp .lss a b=tb (a<b):=by rw [icmp_lss,tdec]
theorem c_leq(a b:Int):icmp .leq a b=tb (a≤b):=by rw [icmp_leq,tdec]
theorem c_gtr(a b:Int):icmp .gtr a b=tb (b<a):=by rw [icmp_gtr,tdec]
theorem c_geq(a b:Int):icmp .geq a b=tb (b≤a):=by rw [icmp_geq,tdec]
theorem s_eql(a b:List UInt8):scmp .eql a b=tb (a=b):=by rw [scmp_eql,tdec]
theorem s_neq(a b:List UInt8):scmp .neq a b=tb (¬a=b):=by rw [scmp_neq,tdec]
/-- Comparisons and lengths, spelt out. -/
theorem PN:(∀a b,icmp .eql a b=tb (a=b))∧(∀a b,icmp .neq a b=tb (¬a=b))∧(∀a b,icmp .lss a b=tb (a<b))∧(∀a b,icmp .leq a b=tb (a≤b)) ∧
 (∀a b,icmp .gtr a b=tb (b<a))∧(∀a b,icmp .geq a b=tb (b≤a))∧(∀a b,scmp .eql a b=tb (a=b))∧(∀a b,scmp .neq a b=tb (¬a=b)) ∧
 (∀ {α:Type} {P:Prop} (a b:α),cond (tb P) a b=@ite α P (Classical.propDecidable P) a b)∧(∀ {P:Prop},(!tb P)=tb (¬P)) ∧
 (∀ {α β:Type} (y:α) (f:α→Option β),bnd (some y) f=f y)∧(∀ {α:Type} (l:List α),ln l=(l.length:Int))∧(∀ {α:Type} (a b:List α),ap a b=a++b) ∧
 (∀a,slen a=(a.length:Int))∧(∀a b,plus a b=a+b)∧(∀a b,sapp a b=a++b) :=
 ⟨c_eql,c_neq,c_lss,c_leq,c_gtr,c_geq,s_eql,s_neq,fun a b=>cond_tb a b,tb_not,fun y f=>rfl,fun l=>ln_eq l,fun a b=>ap_eq a b,slen_eq,plus_eq,sapp_eq⟩
/-! ### Numbers -/
theorem w64{a:Int}(h : -9223372036854775808≤a∧a≤9223372036854775807):IntKind.i64.wrap a=a:=wrap_i64 (by omega) (by omega)
theorem iadd{a b:Int}(h : -9223372036854775808≤a+b∧a+b≤9223372036854775807):iop .add .i64 a b=a+b:=by rw [iop_add,w64 h]
theorem isub{a b:Int}(h : -9223372036854775808≤a-b∧a-b≤9223372036854775807):iop .sub .i64 a b=a-b:=by rw [iop_sub,w64 h]
theorem imul{a b:Int}(h : -9223372036854775808≤a*b∧a*b≤9223372036854775807):iop .mul .i64 a b=a*b:=by rw [iop_mul,w64 h]
theorem iquo{a b:Int}(ha:0≤a)(ha2:a≤9223372036854775807)(hb:0<b):iop .quo .i64 a b=a / b:=by
 rw [iop_eq]
 show IntKind.i64.wrap (a.tdiv b)=_
 have h1:0≤a / b:=Int.ediv_nonneg ha (by omega)
 have h2:a / b≤a:=Int.ediv_le_self b ha
 rw [Int.tdiv_eq_ediv_of_nonneg ha,w64 (by omega)]
theorem irem{a b:Int}(ha:0≤a):iop .rem .i64 a b=a % b:=by
 rw [iop_eq]
 show a.tmod b=_
 exact Int.tmod_eq_emod_of_nonneg ha
theorem ishr{a:Int}(k:Nat)(hk:k≤64)(ha:0≤a):iop .shr .i64 a (k:Int)=a / 2 ^ k:=by
 rw [iop_eq]
 show a.fdiv (2 ^ (min (k:Int).toNat 64))=_
 rw [show min (k:Int).toNat 64=k by omega]
 exact Int.fdiv_eq_ediv_of_nonneg _ (Int.le_of_lt (Int.pow_pos (by decide)))
theorem ir_add1{i:Nat}(h:i<4611686018427387904):iop .add .i64 (i:Int) 1=((i+1:Nat):Int):=by rw [iadd (by omega)];omega
theorem room{n b:Int}(h:0≤n)(h2:n≤4000000000000)(hb:b≤32:=by decide)(h0:0≤b:=by decide):Room n b:=by
 rw [Room_eq]
 have:n*b≤4000000000000*32:=Int.mul_le_mul h2 hb h0 (by decide)
 omega
theorem ins{lo hi n:Int}(h:0≤lo∧lo≤hi∧hi≤n):InS lo hi n:=by rw [InS_eq];exact h
/-! ### Loops -/
section
variable {α β σ ρ:Type}
/-- The first place at which a property fails. -/
theorem first_no(P:Nat→Prop):∀n,(∀i,i<n→P i)∨∃k,k<n∧¬P k∧∀i,i<k→P i
 | 0=>.inl fun _ h=>by omega
 | n+1=>by
  rcases first_no P n with h | ⟨k,h1,h2,h3⟩
  ·by_cases hn:P n
   ·exact .inl fun i hi=>by
     by_cases e:i=n
     ·exact e▸hn
     ·exact h i (by omega)
   ·exact .inr ⟨n,by omega,hn,h⟩
  ·exact .inr ⟨k,by omega,h2,h3⟩
def foldI(g:Nat→β→α→β):Nat→List α→β→β
 | _,[],b=>b
 | i,x::t,b=>foldI g (i+1) t (g i b x)
theorem foldI_snoc(g:Nat→β→α→β):∀ (l:List α) (i:Nat) (x:α) (b:β),foldI g i (l++[x]) b=g (i+l.length) (foldI g i l b) x
 | [],i,x,b=>rfl
 | y::l,i,x,b=>by
  simp only [List.cons_append,foldI,foldI_snoc g l (i+1) x,List.length_cons]
  congr 1;omega
theorem foldI_foldl(g:β→α→β):∀ (l:List α) (i:Nat) (b:β),foldI (fun _=>g) i l b=l.foldl g b
 | [],_,_=>rfl
 | x::l,i,b=>foldI_foldl g l (i+1) (g b x)
theorem take_snoc'{l:List α}{i:Nat}{x:α}(h:l[i]?=some x):l.take (i+1)=l.take i++[x]:=by
 rw [List.take_add_one,h];rfl
/-- A loop over a list that gathers. -/
theorem lp_fold{f:σ→Option (σ ⊕ ρ)}(mk:Nat→β→σ)(g:Nat→β→α→β)(l:List α)(b0:β){r:ρ}
  (hs:∀i x,l[i]?=some x→f (mk i (foldI g 0 (l.take i) b0))=some (.inl (mk (i+1) (g i (foldI g 0 (l.take i) b0) x))))
  (he:f (mk l.length (foldI g 0 l b0))=some (.inr r)):lp f (mk 0 b0)=some r:=by
 refine lp_up (fun i=>mk i (foldI g 0 (l.take i) b0)) l.length (fun i hi=>?_) (by rw [List.take_length];exact he)
 have hx:=List.getElem?_eq_getElem hi
 rw [hs i _ hx,take_snoc' hx,foldI_snoc,List.length_take,Nat.zero_add,Nat.min_eq_left (by omega)]
/-- A loop that appends something for each element. -/
theorem lp_flat{f:σ→Option (σ ⊕ ρ)}(mk:Nat→List β→σ)(g:α→List β)(l:List α)(b0:List β){r:ρ}
  (hs:∀i x,l[i]?=some x→f (mk i (b0++(l.take i).flatMap g))=some (.inl (mk (i+1) (b0++(l.take i).flatMap g++g x))))
  (he:f (mk l.length (b0++l.flatMap g))=some (.inr r)):lp f (mk 0 b0)=some r:=by
 have h0:=lp_up (f:=f) (r:=r) (fun i=>mk i (b0++(l.take i).flatMap g)) l.length (fun i hi=>?_) (by rw [List.take_length];exact he)
 ·simpa using h0
 have hx:=List.getElem?_eq_getElem hi
 rw [hs i _ hx,take_snoc' hx,List.flatMap_append,List.flatMap_singleton,List.append_assoc]
theorem len_lt{l:List α}{i:Nat}{x:α}(h:l[i]?=some x):i<l.length:=(List.getElem?_eq_some_iff.1 h).1
theorem get_some{l:List α}{i:Nat}(h:i<l.length):∃x,l[i]?=some x:=⟨_,List.getElem?_eq_getElem h⟩
theorem gtI{l:List α}{i:Int}{y:α}(h0:0≤i)(h:l[i.toNat]?=some y):gt l i=some y:=by unfold gt;rw [if_pos h0];exact h
theorem lp_first{f:σ→Option (σ ⊕ ρ)}{s0:σ}(mk:Nat→σ)(P:Nat→Prop)(n:Nat)(r0:Nat→ρ)(r1:ρ)(h0:mk 0=s0)
  (h1:∀i,i<n→(∀j,j<i→P j)→P i→f (mk i)=some (.inl (mk (i+1)))) (h2:∀i,i<n→(∀j,j<i→P j)→¬P i→f (mk i)=some (.inr (r0 i)))
  (he:(∀j,j<n→P j)→f (mk n)=some (.inr r1)):((∀i,i<n→P i)∧lp f s0=some r1)∨∃k,k<n∧¬P k∧(∀i,i<k→P i)∧lp f s0=some (r0 k):=by
 subst h0
 rcases first_no P n with h | ⟨k,k1,k2,k3⟩
 ·exact .inl ⟨h,lp_up mk n (fun i hi=>h1 i hi (fun j hj=>h j (by omega)) (h i hi)) (he h)⟩
 ·exact .inr ⟨k,k1,k2,k3,lp_up mk k (fun i hi=>h1 i (by omega) (fun j hj=>k3 j (by omega)) (k3 i hi)) (h2 k k1 k3 k2)⟩
/-- A loop over a list that stops at the first element that fails. -/
theorem lp_allL{f:σ→Option (σ ⊕ ρ)}{s0:σ}(mk:Nat→σ)(l:List α)(p:Nat→α→Prop)(r0 r1:ρ)(h0:mk 0=s0)
  (h1:∀i x,l[i]?=some x→(∀j y,j<i→l[j]?=some y→p j y)→p i x→f (mk i)=some (.inl (mk (i+1))))
  (h2:∀i x,l[i]?=some x→(∀j y,j<i→l[j]?=some y→p j y)→¬p i x→f (mk i)=some (.inr r0))
  (he:(∀j y,l[j]?=some y→p j y)→f (mk l.length)=some (.inr r1)):lp f s0=some (@ite _ (∀j y,l[j]?=some y→p j y) (Classical.propDecidable _) r1 r0):=by
 rcases lp_first (f:=f) mk (fun i=>∀x,l[i]?=some x→p i x) l.length (fun _=>r0) r1 h0 (fun i hi hj hp=>by
   obtain⟨x,hx⟩:=get_some hi
   exact h1 i x hx (fun j y hj' hy=>hj j hj' y hy) (hp x hx)) (fun i hi hj hp=>by
   obtain⟨x,hx⟩:=get_some hi
   exact h2 i x hx (fun j y hj' hy=>hj j hj' y hy) (fun h=>hp fun x' hx'=>by rw [hx] at hx';cases hx';exact h)) (fun h=>he fun j y hy=>h j (len_lt hy) y hy) with ⟨h,e⟩ | ⟨k,k1,k2,k3,e⟩
 ·rw [e,if_pos fun j y hy=>h j (len_lt hy) y hy]
 ·rw [e,if_neg fun h=>k2 fun x hx=>h k x hx]
theorem bnd_lp{γ:Type}{x:Option γ}{K:γ→Option β}{r:γ}{z:Option β}(h:x=some r)(hk:K r=z):bnd x K=z:=by rw [h];exact hk
/-- A loop over a list that stops at the first element that fails; what follows is told in both cases. -/
theorem bnd_first{γ:Type}{f:σ→Option (σ ⊕ ρ)}{s0:σ}{K:ρ→Option γ}{z:Option γ}(mk:Nat→σ)(l:List α)(p:Nat→α→Prop)(r0:Nat→α→ρ)(r1:ρ)(h0:mk 0=s0)
  (h1:∀i x,l[i]?=some x→(∀j y,j<i→l[j]?=some y→p j y)→p i x→f (mk i)=some (.inl (mk (i+1))))
  (h2:∀i x,l[i]?=some x→(∀j y,j<i→l[j]?=some y→p j y)→¬p i x→f (mk i)=some (.inr (r0 i x)))
  (he:(∀j y,l[j]?=some y→p j y)→f (mk l.length)=some (.inr r1))
  (hz:(∀j y,l[j]?=some y→p j y)→K r1=z) (hk:∀k x,l[k]?=some x→¬p k x→(∀j y,j<k→l[j]?=some y→p j y)→K (r0 k x)=z):bnd (lp f s0) K=z:=by
 subst h0
 rcases first_no (fun i=>∀x,l[i]?=some x→p i x) l.length with h | ⟨k,k1,k2,k3⟩
 ·have ha:∀j y,l[j]?=some y→p j y:=fun j y hy=>h j (len_lt hy) y hy
  refine bnd_lp (lp_up mk l.length (fun i hi=>?_) (he ha)) (hz ha)
  obtain⟨x,hx⟩:=get_some hi
  exact h1 i x hx (fun j y _ hy=>ha j y hy) (ha i x hx)
 ·obtain⟨x,hx⟩:=get_some k1
  have hn:¬p k x:=fun h=>k2 fun x' hx'=>by rw [hx] at hx';cases hx';exact h
  have hj:∀j y,j<k→l[j]?=some y→p j y:=fun j y hj hy=>k3 j hj y hy
  refine bnd_lp (lp_up mk k (fun i hi=>?_) (h2 k x hx hj hn)) (hk k x hx hn hj)
  obtain⟨y,hy⟩:=get_some (show i<l.length by omega)
  exact h1 i y hy (fun j y' hj' hy'=>hj j y' (by omega) hy') (hj i y hi hy)
theorem bnd_assoc{γ δ:Type}(x:Option γ)(f:γ→Option β)(g:β→Option δ):bnd (bnd x f) g=bnd x (fun y=>bnd (f y) g):=by cases x <;> rfl
theorem if_tb{P Q:Prop}{d:Decidable P}{x:Option Bool}(h:P→x=some (tb Q))(hn:¬P→¬Q):@ite _ P d x (some false)=some (tb Q):=by
 split
 ·exact h (by assumption)
 ·rw [tb_neg (hn (by assumption))]
theorem if_tbn{P Q:Prop}{d:Decidable P}{x:Option Bool}(hn:P→¬Q)(h:¬P→x=some (tb Q)):@ite _ P d (some false) x=some (tb Q):=by
 split
 ·rw [tb_neg (hn (by assumption))]
 ·exact h (by assumption)
theorem if_2{γ:Type}{P:Prop}{d:Decidable P}{x y z:γ}(h1:P→x=z)(h2:¬P→y=z):@ite _ P d x y=z:=by
 split
 ·exact h1 (by assumption)
 ·exact h2 (by assumption)
theorem bnd_inv{γ:Type}{f:σ→Option (σ ⊕ ρ)}{s0:σ}{K:ρ→Option γ}{z:Option γ}(m:σ→Nat)(I:σ→Prop)(O:ρ→Prop)
  (h:∀s,I s→(∃s',f s=some (.inl s')∧I s'∧m s' < m s)∨∃r,f s=some (.inr r)∧O r) (h0:I s0) (hk:∀r,O r→K r=z):bnd (lp f s0) K=z:=by
 have key:∀n s,m s<n→I s→∃r,lp f s=some r∧O r:=by
  intro n
  induction n with
  | zero=>intro s h1;omega
  | succ n ih =>
   intro s h1 h2
   rcases h s h2 with ⟨s',k1,k2,k3⟩ | ⟨r,k1,k2⟩
   ·rw [lp_step k1];exact ih s' (by omega) k2
   ·exact ⟨r,lp_end k1,k2⟩
 obtain⟨r,h1,h2⟩:=key (m s0+1) s0 (by omega) h0
 exact bnd_lp h1 (hk r h2)
/-- A loop that appends something for each element. -/
theorem bnd_flat{γ:Type}{f:σ→Option (σ ⊕ ρ)}{s0:σ}{K:ρ→Option γ}{z:Option γ}(mk:Nat→List β→σ)(g:α→List β)(l:List α)(b0:List β)(r:ρ)(h0:mk 0 b0=s0)
  (hs:∀i x,l[i]?=some x→f (mk i (b0++(l.take i).flatMap g))=some (.inl (mk (i+1) (b0++(l.take i).flatMap g++g x))))
  (he:f (mk l.length (b0++l.flatMap g))=some (.inr r)) (hk:K r=z):bnd (lp f s0) K=z:=by
 subst h0;exact bnd_lp (lp_flat mk g l b0 hs he) hk
theorem flatMap_len(g:α→List β)(n:Nat)(l:List α)(h:∀x∈l,(g x).length≤n):(l.flatMap g).length≤n*l.length:=by
 induction l with
 | nil=>simp
 | cons x l ih =>
  have h1:=h x (by simp)
  have h2:=ih fun y hy=>h y (by simp [hy])
  simp only [List.flatMap_cons,List.length_append,List.length_cons,Nat.mul_add]
  omega
/-! ### What holds of a result -/
def Wp{α:Type}(P:α→Prop)(x:Option α):Prop := ∃r,x=some r∧P r
theorem wp_some{P:α→Prop}{r:α}(h:P r):Wp P (some r):=⟨r,rfl,h⟩
theorem wp_bnd{P:β→Prop}{x:Option α}{f:α→Option β}(Q:α→Prop)(h:Wp Q x)(k:∀y,Q y→Wp P (f y)):Wp P (bnd x f):=by
 obtain⟨y,rfl,hy⟩:=h
 exact k y hy
theorem wp_call{P:β→Prop}{x:Option α}{f:α→Option β}{y:α}(h:x=some y)(k:Wp P (f y)):Wp P (bnd x f):=by rw [h];exact k
theorem wp_if{P:α→Prop}{c:Prop}{d:Decidable c}{a b:Option α}(h1:c→Wp P a)(h2:¬c→Wp P b):Wp P (@ite _ c d a b):=by
 split
 ·exact h1 (by assumption)
 ·exact h2 (by assumption)
theorem wp_ck{P:α→Prop}{c:Prop}{x:Option α}(h:c)(k:Wp P x):Wp P (ck c x):=by rw [ck_in h];exact k
theorem wp_eq{x:Option α}{r:α}(h:Wp (fun y=>y=r) x):x=some r:=by
 obtain⟨y,h1,h2⟩:=h
 rw [h1,h2]
theorem wp_mono{P Q:α→Prop}{x:Option α}(h:Wp P x)(k:∀y,P y→Q y):Wp Q x:=by
 obtain⟨y,h1,h2⟩:=h
 exact ⟨y,h1,k y h2⟩
def LpO(m:σ→Nat)(I:σ→Prop)(Q:ρ→Prop)(s:σ):σ ⊕ ρ→Prop
 | .inl s'=>I s'∧m s' < m s
 | .inr r=>Q r
theorem wp_back{m:σ→Nat}{I:σ→Prop}{Q:ρ→Prop}{s s':σ}(h:I s')(h2:m s' < m s):Wp (LpO m I Q s) (some (.inl s')):=⟨_,rfl,h,h2⟩
theorem wp_out{m:σ→Nat}{I:σ→Prop}{Q:ρ→Prop}{s:σ}{r:ρ}(h:Q r):Wp (LpO m I Q s) (some (.inr r)):=⟨_,rfl,h⟩
theorem wp_lp{f:σ→Option (σ ⊕ ρ)}{s0:σ}{Q:ρ→Prop}(m:σ→Nat)(I:σ→Prop)(h0:I s0)(h:∀s,I s→Wp (LpO m I Q s) (f s)):Wp Q (lp f s0):=by
 have key:∀n s,m s<n→I s→∃r,lp f s=some r∧Q r:=by
  intro n
  induction n with
  | zero=>intro s h1;omega
  | succ n ih =>
   intro s h1 h2
   obtain⟨x,k1,k2⟩:=h s h2
   cases x with
   | inl s'=>rw [lp_step k1];exact ih s' (by have:=k2.2;omega) k2.1
   | inr r=>exact ⟨r,lp_end k1,k2⟩
 exact key (m s0+1) s0 (by omega) h0
theorem wp_loop{γ:Type}{f:σ→Option (σ ⊕ ρ)}{s0:σ}{P:γ→Prop}{K:ρ→Option γ}(m:σ→Nat)(I:σ→Prop)(Q:ρ→Prop)(h0:I s0)(h:∀s,I s→Wp (LpO m I Q s) (f s))(k:∀r,Q r→Wp P (K r)):Wp P (bnd (lp f s0) K) :=
 wp_bnd Q (wp_lp m I h0 h) k
theorem gt0{l:List α}{y:α}(h:l[0]?=some y):gt l 0=some y:=gt_ok (i:=0) h
theorem some_tb{b:Bool}{P:Prop}(h:b=true↔P):some b=some (tb P):=by
 cases b with
 | true=>rw [tb_pos (h.1 rfl)]
 | false=>rw [tb_neg fun hp=>by cases h.2 hp]
theorem tb_some{P Q:Prop}(h:P↔Q):some (tb P)=some (tb Q):=by rw [tb_congr h]
theorem sb_to(l:List α)(i:Nat):sb l 0 (i:Int)=l.take i:=by rw [sb_eq];simp
end
end Go.Ar
