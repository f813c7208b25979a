import Derived.Test.YthhcbcokjlpahaaGreatArKD
import Derived.Test.YthhcbcokjlpahaaGreatArPk
section
namespace Go.Ar
open Go.Proofs
set_option linter.unusedVariables false
set_option linter.unusedSimpArgs false
set_option maxRecDepth 20000
/-! ### Nodes -/
theorem i_within(n lo hi:Int):iwithin n lo hi=some (tb (lo≤n∧n≤hi)):=by
 unfold iwithin;simp only [PN]
 by_cases h:lo≤n
 ·rw [if_pos h];exact tb_some ⟨fun h2=>⟨h,h2⟩,fun h2=>h2.2⟩
 ·rw [if_neg h];exact some_tb (iff_of_false (by simp) (fun h2=>h h2.1))
theorem s_l1In(n lo hi:Int):sl1In n lo hi=some (tb (lo≤n∧n≤hi)):=i_within n lo hi
def blocksFor(n:Int):Int:=if n≤0 then 0 else if 80<n then 5 else (n+15) / 16
theorem blocksFor_le(n:Int):0≤blocksFor n∧blocksFor n≤5:=by unfold blocksFor;split <;> (try split) <;> omega
theorem quo_16{n:Int}(h:0<n)(h1:n≤1000):iop .quo .i64 (iop .sub .i64 (iop .add .i64 n 16) 1) 16=(n+15) / 16:=by
 rw [iadd (by omega),isub (by omega),iquo (by omega) (by omega) (by omega)]
 rw [show n+16-1=n+15 by omega]
theorem i_BlocksFor(n:Int):iBlocksFor n=some (blocksFor n):=by
 unfold iBlocksFor blocksFor;simp only [PN]
 by_cases h:n≤0
 ·rw [if_pos h,if_pos h]
 ·rw [if_neg h,if_neg h]
  by_cases h2:80<n
  ·rw [if_pos h2,if_pos h2]
  ·rw [if_neg h2,if_neg h2,quo_16 (by omega) (by omega)]
theorem s_BlocksFor(n:Int):sBlocksFor n=some (blocksFor n):=by
 unfold sBlocksFor blocksFor;simp only [PN]
 by_cases h:n≤0
 ·rw [if_pos h,if_pos h]
 ·rw [if_neg h,if_neg h]
  by_cases h2:80≤n
  ·rw [if_pos h2]
   split
   ·rfl
   ·obtain rfl:n=80:=by omega
    rfl
  ·rw [if_neg h2,if_neg (by omega),quo_16 (by omega) (by omega)]
theorem g_Contains{l:List Int}(hl:l.length<4611686018427387904)(x:Int):gslices_Contains_int l x=some (tb (x∈l)):=by
 unfold gslices_Contains_int gslices_Index_int bnt lpt;simp only [PN]
 rw [bnd_assoc]
 refine bnd_first (fun i:Nat=>(i:Int)) l (fun i y=>¬x=y) (fun i _=>.inr (i:Int)) (.inl ()) rfl (fun i y hy _ h=>?_) (fun i y hy _ h=>?_) (fun h=>?_) (fun h=>?_) (fun k y hy hn hj=>?_)
 ·have:=len_lt hy
  rw [if_pos (by omega),gt_ok hy,bsome,if_neg h,ir_add1 (by omega)]
 ·have:=len_lt hy
  rw [if_pos (by omega),gt_ok hy,bsome,if_pos (Classical.not_not.1 h)]
 ·rw [if_neg (by omega)]
 ·exact tb_some (iff_of_false (by omega) fun h2=>by
   obtain⟨i,hi⟩:=List.mem_iff_getElem?.1 h2
   exact h i x hi rfl)
 ·obtain rfl:=Classical.not_not.1 hn
  exact tb_some (iff_of_true (by omega) (List.mem_of_getElem? hy))
theorem s_l1Has{l:List Int}(hl:l.length<4611686018427387904)(x:Int):sl1Has l x=some (tb (x∈l)):=by
 unfold sl1Has bnt lpt;simp only [PN]
 refine bnd_first (fun i:Nat=>(i:Int)) l (fun i y=>¬y=x) (fun _ _=>.inr true) (.inl ()) rfl (fun i y hy _ h=>?_) (fun i y hy _ h=>?_) (fun h=>?_) (fun h=>?_) (fun k y hy hn hj=>?_)
 ·have:=len_lt hy
  rw [if_pos (by omega),gt_ok hy,bsome,if_neg h,ir_add1 (by omega)]
 ·have:=len_lt hy
  rw [if_pos (by omega),gt_ok hy,bsome,if_pos (Classical.not_not.1 h)]
 ·rw [if_neg (by omega)]
 ·refine some_tb (iff_of_false (by simp) fun h2=>?_)
  obtain⟨i,hi⟩:=List.mem_iff_getElem?.1 h2
  exact h i x hi rfl
 ·obtain rfl:=Classical.not_not.1 hn
  exact some_tb (iff_of_true rfl (List.mem_of_getElem? hy))
def BlocksOk(l:List Int):Prop := ∀i b,l[i]?=some b→(0≤b∧b≤35)∧¬b∈l.take i
def NodeOk(n:NodeD):Prop :=
 (n.kind=0∧n.gen=0∧n.time=0∧n.size=0∧(n.blocks.length:Int)=0) ∨
 (¬n.kind=0∧(1≤n.kind∧n.kind≤3)∧(0≤n.gen∧n.gen≤1000000)∧(0≤n.time∧n.time≤100000)∧(0≤n.size∧n.size≤80) ∧
  (n.kind=2→n.gen=0∧n.time=0)∧(n.blocks.length:Int)=blocksFor n.size∧BlocksOk n.blocks)
theorem NodeOk.len{n:NodeD}(h:NodeOk n):n.blocks.length≤5:=by
 have:=blocksFor_le n.size
 rcases h with h | h
 ·omega
 ·omega
theorem NodeOk.blk{n:NodeD}(h:NodeOk n):BlocksOk n.blocks:=by
 rcases h with h | h
 ·intro i b hb;have:=len_lt hb;omega
 ·exact h.2.2.2.2.2.2.2
theorem i_blocks{l:List Int}(hl:l.length≤5){α:Type}{K:Unit ⊕ Bool→Option α}:bnd (lp (σ:=Int) (ρ:=(Unit) ⊕ (Bool)) (fun s48 =>
 cond (icmp .lss s48 (ln l)) (
 bnd (gt l s48) fun y49 =>
 bnd (iwithin y49 0 35) fun r50 =>
 cond r50 (
 ck (InS 0 s48 (ln l)) <|
 bnd (gslices_Contains_int (sb l 0 s48) y49) fun r51 =>
 cond r51 (
 some (.inr (.inr (false)))) (
 some (.inl (iop .add .i64 s48 1)))) (
 some (.inr (.inr (false))))) (
 some (.inr (.inl ())))) 0) K=@ite _ (BlocksOk l) (Classical.propDecidable _) (K (.inl ())) (K (.inr false)):=by
 refine bnd_lp (lp_allL (fun i:Nat=>(i:Int)) l (fun i b=>(0≤b∧b≤35)∧¬b∈l.take i) (.inr false) (.inl ()) rfl (fun i y hy _ h=>?_) (fun i y hy _ h=>?_) (fun h=>?_)) ?_
 ·have:=len_lt hy
  simp only [PN,gt_ok hy,i_within]
  rw [if_pos (by omega),if_pos h.1,ck_in (ins (by omega)),sb_to,g_Contains (by simp;omega)]
  simp only [PN]
  rw [if_neg h.2,ir_add1 (by omega)]
 ·have:=len_lt hy
  simp only [PN,gt_ok hy,i_within]
  rw [if_pos (by omega)]
  by_cases h1:0≤y∧y≤35
  ·rw [if_pos h1,ck_in (ins (by omega)),sb_to,g_Contains (by simp;omega)]
   simp only [PN]
   rw [if_pos (Classical.not_not.1 fun hn=>h ⟨h1,hn⟩)]
  ·rw [if_neg h1]
 ·simp only [PN]
  rw [if_neg (by omega)]
 ·unfold BlocksOk;split <;> rfl
theorem i_NodeOk(n:NodeD):iNodeOk n=some (tb (NodeOk n)):=by
 unfold iNodeOk bnt lpt
 have hb:=blocksFor_le n.size
 by_cases hl:(n.blocks.length:Int)=blocksFor n.size
 ·rw [i_blocks (by omega)]
  simp only [PN,i_within,i_BlocksFor,bite,Sum.elim_inl,Sum.elim_inr]
  unfold NodeOk
  refine if_2 (fun h0=>?_) (fun h0=>?_)
  ·refine if_tb (fun h1=>if_tb (fun h2=>if_tb (fun h3=>tb_some ?_) ?_) ?_) ?_ <;> omega
  ·refine if_tb (fun h1=>if_tb (fun h2=>if_tb (fun h3=>if_tb (fun h4=>?_) ?_) ?_) ?_) ?_
   ·refine if_2 (fun h5=>if_tbn (fun h6=>?_) (fun h6=>if_tbn (fun h7=>?_) (fun h7=>if_tbn (fun h8=>?_) (fun h8=>if_2 (fun h9=>?_) (fun h9=>?_))))) (fun h5=>if_tbn (fun h8=>?_) (fun h8=>if_2 (fun h9=>?_) (fun h9=>?_)))
    ·rintro(h | h) <;> omega
    ·rintro(h | h) <;> omega
    ·rintro(h | h) <;> omega
    ·exact some_tb (iff_of_true rfl (.inr ⟨h0,h1,h2,h3,h4,by omega,hl,h9⟩))
    ·exact some_tb (iff_of_false (by simp) (fun h=>h.elim (fun h=>h0 h.1) (fun h=>h9 h.2.2.2.2.2.2.2)))
    ·rintro(h | h) <;> omega
    ·exact some_tb (iff_of_true rfl (.inr ⟨h0,h1,h2,h3,h4,by omega,hl,h9⟩))
    ·exact some_tb (iff_of_false (by simp) (fun h=>h.elim (fun h=>h0 h.1) (fun h=>h9 h.2.2.2.2.2.2.2)))
   all_goals (intro hn;rintro(h | h) <;> omega)
 ·simp only [PN,i_within,i_BlocksFor,bite,Sum.elim_inl,Sum.elim_inr]
  unfold NodeOk
  refine if_2 (fun h0=>?_) (fun h0=>?_)
  ·refine if_tb (fun h1=>if_tb (fun h2=>if_tb (fun h3=>tb_some ?_) ?_) ?_) ?_ <;> omega
  ·refine if_tb (fun h1=>if_tb (fun h2=>if_tb (fun h3=>if_tb (fun h4=>?_) ?_) ?_) ?_) ?_
   ·refine if_2 (fun h5=>if_tbn (fun h6=>?_) (fun h6=>if_tbn (fun h7=>?_) (fun h7=>if_tbn (fun h8=>?_) (fun h8=>absurd hl h8)))) (fun h5=>if_tbn (fun h8=>?_) (fun h8=>absurd hl h8)) <;> (rintro(h | h) <;> omega)
   all_goals (intro hn;rintro(h | h) <;> omega)
theorem s_blocks{l:List Int}(hl:l.length≤5){α:Type}{K:Unit ⊕ Bool→Option α}:bnd (lp (σ:=Int) (ρ:=(Unit) ⊕ (Bool)) (fun s45 =>
 cond (icmp .lss s45 (ln l)) (
 bnd (gt l s45) fun y46 =>
 bnd (sl1In y46 0 35) fun r47 =>
 cond r47 (
 ck (InS 0 s45 (ln l)) <|
 bnd (sl1Has (sb l 0 s45) y46) fun r48 =>
 cond r48 (
 some (.inr (.inr (false)))) (
 some (.inl (iop .add .i64 s45 1)))) (
 some (.inr (.inr (false))))) (
 some (.inr (.inl ())))) 0) K=@ite _ (BlocksOk l) (Classical.propDecidable _) (K (.inl ())) (K (.inr false)):=by
 refine bnd_lp (lp_allL (fun i:Nat=>(i:Int)) l (fun i b=>(0≤b∧b≤35)∧¬b∈l.take i) (.inr false) (.inl ()) rfl (fun i y hy _ h=>?_) (fun i y hy _ h=>?_) (fun h=>?_)) ?_
 ·have:=len_lt hy
  simp only [PN,gt_ok hy,s_l1In]
  rw [if_pos (by omega),if_pos h.1,ck_in (ins (by omega)),sb_to,s_l1Has (by simp;omega)]
  simp only [PN]
  rw [if_neg h.2,ir_add1 (by omega)]
 ·have:=len_lt hy
  simp only [PN,gt_ok hy,s_l1In]
  rw [if_pos (by omega)]
  by_cases h1:0≤y∧y≤35
  ·rw [if_pos h1,ck_in (ins (by omega)),sb_to,s_l1Has (by simp;omega)]
   simp only [PN]
   rw [if_pos (Classical.not_not.1 fun hn=>h ⟨h1,hn⟩)]
  ·rw [if_neg h1]
 ·simp only [PN]
  rw [if_neg (by omega)]
 ·unfold BlocksOk;split <;> rfl
theorem s_NodeOk(n:NodeD):sNodeOk n=some (tb (NodeOk n)):=by
 unfold sNodeOk bnt lpt
 have hb:=blocksFor_le n.size
 by_cases hl:(n.blocks.length:Int)=blocksFor n.size
 ·rw [s_blocks (by omega)]
  simp only [PN,s_l1In,s_BlocksFor,bite,Sum.elim_inl,Sum.elim_inr]
  unfold NodeOk
  refine if_2 (fun h0=>?_) (fun h0=>?_)
  ·refine if_tb (fun h1=>if_tb (fun h2=>if_tb (fun h3=>tb_some ?_) ?_) ?_) ?_ <;> omega
  ·refine if_tb (fun h1=>if_tb (fun h2=>if_tb (fun h3=>if_tb (fun h4=>if_tbn (fun h8=>absurd hl h8) (fun h8=>?_)) ?_) ?_) ?_) ?_
   ·refine if_2 (fun h5=>if_tbn (fun h6=>?_) (fun h6=>if_tbn (fun h7=>?_) (fun h7=>if_2 (fun h9=>?_) (fun h9=>?_)))) (fun h5=>if_2 (fun h9=>?_) (fun h9=>?_))
    ·rintro(h | h) <;> omega
    ·rintro(h | h) <;> omega
    ·exact some_tb (iff_of_true rfl (.inr ⟨h0,h1,h2,h3,h4,by omega,hl,h9⟩))
    ·exact some_tb (iff_of_false (by simp) (fun h=>h.elim (fun h=>h0 h.1) (fun h=>h9 h.2.2.2.2.2.2.2)))
    ·exact some_tb (iff_of_true rfl (.inr ⟨h0,h1,h2,h3,h4,by omega,hl,h9⟩))
    ·exact some_tb (iff_of_false (by simp) (fun h=>h.elim (fun h=>h0 h.1) (fun h=>h9 h.2.2.2.2.2.2.2)))
   all_goals (intro hn;rintro(h | h) <;> omega)
 ·simp only [PN,s_l1In,s_BlocksFor,bite,Sum.elim_inl,Sum.elim_inr]
  unfold NodeOk
  refine if_2 (fun h0=>?_) (fun h0=>?_)
  ·refine if_tb (fun h1=>if_tb (fun h2=>if_tb (fun h3=>tb_some ?_) ?_) ?_) ?_ <;> omega
  ·refine if_tb (fun h1=>if_tb (fun h2=>if_tb (fun h3=>if_tb (fun h4=>if_tbn (fun h8=>?_) (fun h8=>absurd hl h8)) ?_) ?_) ?_) ?_
   all_goals (intro hn;first | (rcases hn with h | h <;> omega) | (rintro(h | h) <;> omega))
/-! ### Encoded numbers -/
def putNat(n:Nat):List UInt8:=if n<128 then [UInt8.ofNat n] else UInt8.ofNat (n % 128+128)::putNat (n / 128)
theorem putNat_lt{n:Nat}(h:n<128):putNat n=[UInt8.ofNat n]:=by rw [putNat,if_pos h]
theorem putNat_ge{n:Nat}(h:128≤n):putNat n=UInt8.ofNat (n % 128+128)::putNat (n / 128):=by rw [putNat,if_neg (by omega)]
theorem putNat_len{n:Nat}(h:n≤2147483647):(putNat n).length≤5:=by
 have h1:∀m,m<128→(putNat m).length≤1:=fun m hm=>by rw [putNat_lt hm];simp
 have h2:∀k m,(∀x,x<k→(putNat x).length≤m)→∀x,x<k*128→(putNat x).length≤m+1:=by
  intro k m hk x hx
  by_cases hx2:x<128
  ·have:=h1 x hx2;omega
  ·rw [putNat_ge (by omega)]
   have:=hk (x / 128) (by omega)
   simp;omega
 exact h2 _ 4 (h2 _ 3 (h2 _ 2 (h2 _ 1 h1))) n (by omega)
noncomputable def putNum(n:Int):List UInt8:=if 0≤n∧n≤2147483647 then putNat n.toNat else []
theorem putNum_len(n:Int):(putNum n).length≤5:=by
 unfold putNum;split
 ·exact putNat_len (by omega)
 ·simp
theorem n_rem128{m:Nat}(h:m≤2147483647):i2b (wrp .u8 (iop .add .i64 (iop .rem .i64 (m:Int) 128) 128))=UInt8.ofNat (m % 128+128):=by
 rw [irem (by omega),iadd (by omega),wrp_eq,i2b_eq]
 congr 1
 simp only [IntKind.wrap,IntKind.bits,IntKind.signed]
 simp;omega
theorem n_quo128{m:Nat}(h:m≤2147483647):iop .quo .i64 (m:Int) 128=((m / 128:Nat):Int):=by
 rw [iquo (by omega) (by omega) (by omega)];omega
theorem n_wrp8{m:Nat}(h:m<128):i2b (wrp .u8 (m:Int))=UInt8.ofNat m:=by
 rw [wrp_eq,i2b_eq]
 congr 1
 simp only [IntKind.wrap,IntKind.bits,IntKind.signed]
 simp;omega
theorem n_and127{m:Nat}(h:m≤2147483647):iop .and .i64 (m:Int) 127=((m % 128:Nat):Int):=by
 rw [iop_eq]
 show IntKind.i64.wrap ((BitVec.ofInt 64 (m:Int) &&& BitVec.ofInt 64 127).toNat:Int)=_
 have e:(BitVec.ofInt 64 (m:Int) &&& BitVec.ofInt 64 127).toNat=m % 128:=by
  rw [BitVec.toNat_and]
  have e1:(BitVec.ofInt 64 (m:Int)).toNat=m:=by simp [BitVec.toNat_ofInt];omega
  have e2:(BitVec.ofInt 64 127).toNat=2 ^ 7-1:=by decide
  rw [e1,e2,Nat.and_two_pow_sub_one_eq_mod]
 rw [e,w64 (by omega)]
theorem n_or128{m:Nat}(h:m<128):iop .or .i64 (m:Int) 128=((m+128:Nat):Int):=by
 rw [iop_eq]
 show IntKind.i64.wrap ((BitVec.ofInt 64 (m:Int) ||| BitVec.ofInt 64 128).toNat:Int)=_
 have e:(BitVec.ofInt 64 (m:Int) ||| BitVec.ofInt 64 128).toNat=m+128:=by
  rw [BitVec.toNat_or]
  have e1:(BitVec.ofInt 64 (m:Int)).toNat=m:=by simp [BitVec.toNat_ofInt];omega
  have e2:(BitVec.ofInt 64 128).toNat=2 ^ 7:=by decide
  rw [e1,e2,Nat.or_comm]
  have:=Nat.two_pow_add_eq_or_of_lt (i:=7) (b:=m) (by omega) 1
  rw [Nat.mul_one] at this
  omega
 rw [e,w64 (by omega)]
theorem n_low128{m:Nat}(h:m≤2147483647):i2b (wrp .u8 (iop .or .i64 (iop .and .i64 (m:Int) 127) 128))=UInt8.ofNat (m % 128+128):=by
 rw [n_and127 h,n_or128 (by omega),wrp_eq,i2b_eq]
 congr 1
 simp only [IntKind.wrap,IntKind.bits,IntKind.signed]
 simp;omega
theorem n_shr128{m:Nat}(h:m≤2147483647):iop .shr .i64 (m:Int) 7=((m / 128:Nat):Int):=by
 rw [show (7:Int)=((7:Nat):Int) from rfl,ishr 7 (by omega) (by omega)];omega
theorem i_PutNum(n:Int):iPutNum n=some (putNum n):=by
 unfold iPutNum putNum bnu lpt
 simp only [i_within,PN]
 refine if_2 (fun h=>?_) (fun h=>by rw [if_neg h])
 rw [if_pos h]
 refine bnd_inv (fun s=>s.1.toNat) (fun s=>∃m:Nat,s.1=(m:Int)∧m≤2147483647∧s.2++putNat m=putNat n.toNat) (fun r=>∃m:Nat,r.1=(m:Int)∧m<128∧r.2++[UInt8.ofNat m]=putNat n.toNat) ?_ ⟨n.toNat,by simp;omega,by omega,rfl⟩ ?_
 ·rintro⟨a,p⟩ ⟨m,h1,h2,h3⟩
  dsimp only at h1 h2 h3 ⊢
  subst h1
  have hl:=congrArg List.length h3
  have hl2:=putNat_len (show n.toNat≤2147483647 by omega)
  rw [List.length_append] at hl
  by_cases hm:128≤m
  ·refine .inl ⟨((m / 128:Nat),p++[UInt8.ofNat (m % 128+128)]),?_,⟨m / 128,rfl,by omega,?_⟩,by dsimp only;omega⟩
   ·rw [if_pos (by omega),ck_in (room (by omega) (by omega)),n_low128 h2,n_shr128 h2]
   ·rw [←h3,putNat_ge hm];simp
  ·refine .inr ⟨((m:Int),p),by rw [if_neg (by omega)],m,rfl,by omega,?_⟩
   rw [←h3,putNat_lt (by omega)]
 ·rintro⟨a,p⟩ ⟨m,h1,h2,h3⟩
  dsimp only at h1 h2 h3 ⊢
  subst h1
  have hl:=congrArg List.length h3
  have hl2:=putNat_len (show n.toNat≤2147483647 by omega)
  rw [List.length_append] at hl
  rw [ck_in (room (by omega) (by omega)),n_wrp8 h2,h3]
theorem s_PutNum(n:Int):sPutNum n=some (putNum n):=by
 unfold sPutNum putNum bnu lpt
 simp only [s_l1In,PN]
 refine if_2 (fun h=>?_) (fun h=>by rw [if_neg h])
 rw [if_pos h]
 refine bnd_inv (fun s=>s.1.toNat) (fun s=>∃m:Nat,s.1=(m:Int)∧m≤2147483647∧s.2++putNat m=putNat n.toNat) (fun r=>∃m:Nat,r.1=(m:Int)∧m<128∧r.2++[UInt8.ofNat m]=putNat n.toNat) ?_ ⟨n.toNat,by simp;omega,by omega,rfl⟩ ?_
 ·rintro⟨a,p⟩ ⟨m,h1,h2,h3⟩
  dsimp only at h1 h2 h3 ⊢
  subst h1
  have hl:=congrArg List.length h3
  have hl2:=putNat_len (show n.toNat≤2147483647 by omega)
  rw [List.length_append] at hl
  by_cases hm:128≤m
  ·refine .inl ⟨((m / 128:Nat),p++[UInt8.ofNat (m % 128+128)]),?_,⟨m / 128,rfl,by omega,?_⟩,by dsimp only;omega⟩
   ·rw [if_pos (by omega),ck_in (room (by omega) (by omega)),n_rem128 h2,n_quo128 h2]
   ·rw [←h3,putNat_ge hm];simp
  ·refine .inr ⟨((m:Int),p),by rw [if_neg (by omega)],m,rfl,by omega,?_⟩
   rw [←h3,putNat_lt (by omega)]
 ·rintro⟨a,p⟩ ⟨m,h1,h2,h3⟩
  dsimp only at h1 h2 h3 ⊢
  subst h1
  have hl:=congrArg List.length h3
  have hl2:=putNat_len (show n.toNat≤2147483647 by omega)
  rw [List.length_append] at hl
  rw [ck_in (room (by omega) (by omega)),n_wrp8 h2,h3]
/-! ### slices.Repeat of one number -/
theorem g_Mul(n:Nat)(h:n≤36):gmath_bits_Mul (wrp .u64 1) (wrp .u64 (n:Int))=some (0,(n:Int)):=by
 unfold gmath_bits_Mul gmath_bits_Mul64
 simp only [bsome,wrp_eq,iop_eq]
 obtain⟨k,rfl⟩:∃k:Fin 37,n=k.val:=⟨⟨n,by omega⟩,rfl⟩
 revert k
 decide +kernel
theorem cpl_rep(n k:Nat)(hk:k≤n):cpl (some ((k:Int),(n:Int))) (List.replicate k (-1:Int)++List.replicate (n-k) 0) (List.replicate k (-1:Int))=List.replicate (k+min k (n-k)) (-1:Int)++List.replicate (n-(k+min k (n-k))) 0:=by
 have hl:(List.replicate k (-1:Int)++List.replicate (n-k) 0).length=n:=by simp;omega
 have ej:((List.replicate k (-1:Int)).take (min n n-k))=List.replicate (min k (n-k)) (-1):=by
  rw [List.take_replicate,Nat.min_self,Nat.min_comm]
 rw [cpl_eq]
 simp only [vlo,vln,Int.toNat_natCast,hl,ej,List.length_replicate]
 rw [List.take_append_of_le_length (by simp),List.take_of_length_le (by simp),List.replicate_append_replicate,List.drop_append,List.length_replicate,List.drop_replicate,List.drop_replicate]
 rw [show k-(k+min k (n-k))=0 by omega,show n-k-(k+min k (n-k)-k)=n-(k+min k (n-k)) by omega]
 rfl
theorem g_Repeat(n:Nat)(hn:n≤36):gslices_Repeat_int [-1] (n:Int)=some (List.replicate n (-1)):=by
 unfold gslices_Repeat_int bnu lpt
 have e1:ln [(-1:Int)]=1:=by rw [ln_eq];rfl
 rw [e1,g_Mul n hn]
 simp only [PN]
 have ew:wrp .i64 (n:Int)=n:=by rw [wrp_eq,w64 (by omega)]
 rw [if_neg (by omega),if_neg (by omega),if_neg (by omega),ew,ck_in (ins (by omega)),ck_in (room (by omega) (by omega))]
 refine bnd_inv (fun s=>n-s.2.toNat) (fun s=>∃k:Nat,s=(List.replicate k (-1)++List.replicate (n-k) 0,(k:Int))∧k≤n∧(0<n→1≤k)) (fun r=>r=List.replicate n (-1)) ?_ ?_ (fun r hr=>by rw [hr])
 ·rintro⟨a,i⟩ ⟨k,h1,h2,h3⟩
  injection h1 with h1 h1'
  subst h1 h1'
  have hlen:(List.replicate k (-1:Int)++List.replicate (n-k) 0).length=n:=by simp;omega
  dsimp only
  rw [hlen]
  by_cases hk:k<n
  ·have es:sb (List.replicate k (-1:Int)++List.replicate (n-k) 0) 0 (k:Int)=List.replicate k (-1):=by rw [sb_to,List.take_append_of_le_length (by simp),List.take_of_length_le (by simp)]
   have ec:cpc (some ((k:Int),(n:Int))) (List.replicate k (-1:Int)++List.replicate (n-k) 0) (List.replicate k (-1:Int))=((min k (n-k):Nat):Int):=by
    rw [cpc_eq];simp only [vln,Int.toNat_natCast,hlen,List.length_replicate,Nat.min_self]
   refine .inl ⟨(List.replicate (k+min k (n-k)) (-1)++List.replicate (n-(k+min k (n-k))) 0,((k+min k (n-k):Nat):Int)),?_,⟨k+min k (n-k),rfl,by omega,by omega⟩,by dsimp only;omega⟩
   rw [if_pos (by omega),ck_in (ins (by omega)),ck_in (ins (by omega)),es,ec,cpl_rep n k h2,iadd (by omega)]
   congr 3
  ·refine .inr ⟨_,by rw [if_neg (by omega)],?_⟩
   obtain rfl:k=n:=by omega
   simp
 ·refine ⟨min 1 n,?_,by omega,by omega⟩
  have e2:rp (n:Int) (0:Int)=List.replicate n 0:=by rw [rp_eq];simp
  rw [e2,cpl_eq,cpc_eq]
  simp only [vlo,vln,List.length_replicate,List.take_zero,List.nil_append,List.length_singleton,Nat.zero_add]
  cases n with
  | zero=>rfl
  | succ m=>rw [show min 1 (m+1)=1 by omega];simp [List.replicate_succ]
/-! ### Whose a block is -/
def blks(l:List NodeD):List Int:=l.flatMap fun n=>n.blocks
structure OwnI (d:Nat) (out:List Int) (P:List Int):Prop where
 len:out.length=d
 rng:∀b∈P,0≤b∧b<(d:Int)
 nd:P.Nodup
 at_:∀ (k:Nat) x,out[k]?=some x→(0≤x↔(k:Int)∈P)
def GoodB(d:Nat)(P:List Int):Prop:=(∀b∈P,0≤b∧b<(d:Int))∧P.Nodup
theorem GoodB.pre{d:Nat}{P Q:List Int}(h:GoodB d (P++Q)):GoodB d P:=⟨fun b hb=>h.1 b (List.mem_append_left _ hb),(List.nodup_append.1 h.2).1⟩
theorem OwnI.good{d:Nat}{out P:List Int}(h:OwnI d out P):GoodB d P:=⟨h.rng,h.nd⟩
theorem OwnI.step{d:Nat}{out P:List Int}{b:Int}{x i:Int}(h:OwnI d out P)(h0:0≤b)(hb:b<(d:Int))(hx:out[b.toNat]?=some x)(hn:¬0≤x)(hi:0≤i):OwnI d (out.set b.toNat i) (P++[b]):=by
 have hnb:¬b∈P:=fun hh=>hn ((h.at_ b.toNat x hx).2 (by rwa [Int.toNat_of_nonneg h0]))
 refine ⟨by simpa using h.len,fun c hc=>?_,?_,fun k y hy=>?_⟩
 ·rcases List.mem_append.1 hc with hc | hc
  ·exact h.rng c hc
  ·obtain rfl:=List.mem_singleton.1 hc
   exact ⟨h0,hb⟩
 ·exact List.nodup_append.2 ⟨h.nd,by simp,fun a ha c hc=>by
   obtain rfl:=List.mem_singleton.1 hc
   exact fun e=>hnb (e▸ha)⟩
 ·rw [List.getElem?_set] at hy
  split at hy
  ·rename_i e
   split at hy
   ·cases hy
    exact iff_of_true hi (List.mem_append_right _ (by simp;omega))
   ·cases hy
  ·rename_i e
   rw [h.at_ k y hy,List.mem_append,List.mem_singleton]
   constructor
   ·exact .inl
   ·rintro(hh | hh)
    ·exact hh
    ·omega
theorem rep_own(d:Nat):OwnI d (List.replicate d (-1)) []:=by
 refine ⟨by simp,(fun b hb=>by cases hb),List.nodup_nil,fun k x hx=>?_⟩
 rw [List.getElem?_replicate] at hx
 split at hx
 ·cases hx;simp
 ·cases hx
theorem blks_take{l:List NodeD}{i:Nat}{n:NodeD}(h:l[i]?=some n):blks (l.take (i+1))=blks (l.take i)++n.blocks:=by
 unfold blks;rw [take_snoc' h,List.flatMap_append,List.flatMap_singleton]
theorem blks_split{l:List NodeD}{i:Nat}{n:NodeD}(h:l[i]?=some n):∃Q,blks l=blks (l.take i)++(n.blocks++Q):=by
 refine ⟨blks (l.drop (i+1)),?_⟩
 rw [←List.append_assoc,←blks_take h]
 unfold blks
 rw [←List.flatMap_append,List.take_append_drop]
theorem OwnI.bad1{d:Nat}{out P Q:List Int}{b:Int}(h:(d:Int)≤b):¬GoodB d (P++(b::Q)):=fun hg=>by
 have:=(hg.1 b (by simp)).2
 omega
theorem OwnI.bad2{d:Nat}{out P Q:List Int}{b x:Int}(h:OwnI d out P)(h0:0≤b)(hx:out[b.toNat]?=some x)(hn:0≤x):¬GoodB d (P++(b::Q)):=fun hg=>by
 have h1:b∈P:=by
  have:=(h.at_ b.toNat x hx).1 hn
  rwa [Int.toNat_of_nonneg h0] at this
 exact (List.nodup_append.1 hg.2).2.2 b h1 b (by simp) rfl
theorem i_owners(f:FsD)(hd:f.data.length≤36)(hn:f.nodes.length≤10)(hk:∀ (i:Nat) (n:NodeD),f.nodes[i]?=some n→n.blocks.length≤5∧∀b∈n.blocks,0≤b) :
  Wp (fun r:List Int × Bool=>(r.2=true∧OwnI f.data.length r.1 (blks f.nodes))∨(r=([],false)∧¬GoodB f.data.length (blks f.nodes))) (iowners f):=by
 unfold iowners bnt lpt
 rw [ln_eq,g_Repeat _ hd,bsome]
 simp only [PN]
 refine wp_loop (fun s=>f.nodes.length-s.2.toNat) (fun s=>∃i:Nat,s.2=(i:Int)∧i≤f.nodes.length∧OwnI f.data.length s.1 (blks (f.nodes.take i)))
  (fun r=>(∃out,r=.inl out∧OwnI f.data.length out (blks f.nodes))∨(r=.inr ([],false)∧¬GoodB f.data.length (blks f.nodes))) ⟨0,rfl,by omega,rep_own _⟩ ?_ ?_
 ·rintro⟨out,j⟩ ⟨i,h1,h2,h3⟩
  dsimp only at h1 h3 ⊢
  subst h1
  refine wp_if (fun hi=>?_) (fun hi=>?_)
  ·obtain⟨n,hnn⟩:=get_some (show i<f.nodes.length by omega)
   obtain⟨hl,hb0⟩:=hk i n hnn
   obtain⟨Q,hQ⟩:=blks_split hnn
   rw [gt_ok hnn,bsome]
   refine wp_loop (fun s=>n.blocks.length-s.2.toNat) (fun s=>∃q:Nat,s.2=(q:Int)∧q≤n.blocks.length∧OwnI f.data.length s.1 (blks (f.nodes.take i)++n.blocks.take q))
    (fun r=>(∃o,r=.inl o∧OwnI f.data.length o (blks (f.nodes.take (i+1))))∨(r=.inr (.inr (.inr ([],false)))∧¬GoodB f.data.length (blks f.nodes))) ⟨0,rfl,by omega,by simpa using h3⟩ ?_ ?_
   ·rintro⟨o,j⟩ ⟨q,g1,g2,g3⟩
    dsimp only at g1 g3 ⊢
    subst g1
    refine wp_if (fun hq=>?_) (fun hq=>?_)
    ·obtain⟨b,hb⟩:=get_some (show q<n.blocks.length by omega)
     have hbb:blks f.nodes=(blks (f.nodes.take i)++n.blocks.take q)++(b::(n.blocks.drop (q+1)++Q)):=by
      rw [hQ,List.append_assoc,←List.cons_append,←List.append_assoc (n.blocks.take q)]
      congr 2
      rw [←drop_at hb,List.take_append_drop]
     have hb1:=hb0 b (List.mem_of_getElem? hb)
     rw [gt_ok hb,bsome]
     refine wp_if (fun hge=>wp_out (.inr ⟨rfl,hbb▸OwnI.bad1 (out:=o) hge⟩)) (fun hlt=>?_)
     obtain⟨x,hx⟩:=get_some (l:=o) (i:=b.toNat) (by rw [g3.len];omega)
     rw [gtI hb1 hx,bsome]
     refine wp_if (fun hge=>wp_out (.inr ⟨rfl,hbb▸g3.bad2 hb1 hx hge⟩)) (fun hneg=>?_)
     refine wp_back ⟨q+1,?_,by omega,?_⟩ ?_
     ·exact ir_add1 (by omega)
     ·dsimp only
      rw [sl_eq,take_snoc' hb,←List.append_assoc]
      exact g3.step hb1 (by omega) hx hneg (by omega)
     ·dsimp only
      rw [ir_add1 (by omega)];omega
    ·refine wp_out (.inl ⟨o,rfl,?_⟩)
     rw [blks_take hnn]
     rwa [List.take_of_length_le (l:=n.blocks) (by omega)] at g3
   ·rintro r (⟨o,rfl,ho⟩ | ⟨rfl,hg⟩)
    ·refine wp_back ⟨i+1,ir_add1 (by omega),by omega,ho⟩ ?_
     dsimp only
     rw [ir_add1 (by omega)];omega
    ·exact wp_out (.inr ⟨rfl,hg⟩)
  ·refine wp_out (.inl ⟨out,rfl,?_⟩)
   rwa [List.take_of_length_le (by omega)] at h3
 ·rintro r (⟨o,rfl,ho⟩ | ⟨rfl,hg⟩)
  ·exact wp_some (.inl ⟨rfl,ho⟩)
  ·exact wp_some (.inr ⟨rfl,hg⟩)
/-! ### How often a block is used -/
noncomputable def cnt(p:Int→Prop)(P:List Int):Nat:=open Classical in P.countP fun b=>decide (p b)
theorem cnt_nil(p:Int→Prop):cnt p []=0:=rfl
theorem cnt_snoc(p:Int→Prop)(P:List Int)(b:Int):cnt p (P++[b])=cnt p P+(@ite _ (p b) (Classical.propDecidable _) 1 0):=by
 unfold cnt
 rw [List.countP_append,List.countP_singleton]
 congr 1
 by_cases h:p b <;> simp [h]
theorem cnt_le(p:Int→Prop)(P:List Int):cnt p P≤P.length:=List.countP_le_length
theorem cnt_pos(p:Int→Prop)(P:List Int):0<cnt p P↔∃a∈P,p a:=by unfold cnt;rw [List.countP_pos_iff];simp
theorem cnt_cons(p:Int→Prop)(P:List Int)(b:Int):cnt p (b::P)=cnt p P+(@ite _ (p b) (Classical.propDecidable _) 1 0):=by
 unfold cnt
 rw [List.countP_cons]
 congr 1
 by_cases h:p b <;> simp [h]
theorem nodup_cnt:∀P:List Int,P.Nodup↔∀k,cnt (fun b=>b=k) P≤1
 | []=>by simp [cnt_nil]
 | a::P=>by
  rw [List.nodup_cons,nodup_cnt P]
  constructor
  ·rintro⟨h1,h2⟩ k
   rw [cnt_cons]
   split
   ·rename_i e
    subst e
    have:¬0<cnt (fun b=>b=a) P:=fun hh=>by
     obtain⟨c,hc,e⟩:=(cnt_pos _ _).1 hh
     exact h1 (e▸hc)
    omega
   ·exact h2 k
  ·intro h
   refine ⟨fun hm=>?_,fun k=>?_⟩
   ·have:=h a
    rw [cnt_cons,if_pos rfl] at this
    have:=(cnt_pos (fun b=>b=a) P).2 ⟨a,hm,rfl⟩
    omega
   ·have:=h k
    rw [cnt_cons] at this
    omega
def Out(d:Nat)(b:Int):Prop:=¬ (0≤b∧b≤(d:Int)-1)
structure UsedI (d:Nat) (u:List Int) (P:List Int):Prop where
 len:u.length=d+1
 at_:∀k:Nat,k<d→u[k]?=some ((cnt (fun b=>b=(k:Int)) P:Nat):Int)
 end_:u[d]?=some ((cnt (Out d) P:Nat):Int)
theorem UsedI.inn{d:Nat}{u P:List Int}{b:Int}(h:UsedI d u P)(hb:0≤b∧b≤(d:Int)-1):∃y:Nat,u[b.toNat]?=some (y:Int)∧y≤P.length∧UsedI d (u.set b.toNat ((y:Int)+1)) (P++[b]):=by
 refine ⟨_,h.at_ b.toNat (by omega),cnt_le _ _,⟨by simpa using h.len,fun k hk=>?_,?_⟩⟩
 ·rw [List.getElem?_set,cnt_snoc]
  split
  ·rename_i e
   subst e
   rw [if_pos (by rw [h.len];omega),if_pos (by omega)]
   rfl
  ·rename_i e
   rw [if_neg (by omega),Nat.add_zero]
   exact h.at_ k hk
 ·rw [List.getElem?_set,if_neg (by omega),cnt_snoc,if_neg (fun hh=>hh hb),Nat.add_zero]
  exact h.end_
theorem UsedI.out{d:Nat}{u P:List Int}{b:Int}(h:UsedI d u P)(hb:¬ (0≤b∧b≤(d:Int)-1)):∃y:Nat,u[d]?=some (y:Int)∧y≤P.length∧UsedI d (u.set d ((y:Int)+1)) (P++[b]):=by
 refine ⟨_,h.end_,cnt_le _ _,⟨by simpa using h.len,fun k hk=>?_,?_⟩⟩
 ·rw [List.getElem?_set,if_neg (by omega),cnt_snoc,if_neg (by omega),Nat.add_zero]
  exact h.at_ k hk
 ·rw [List.getElem?_set,if_pos rfl,if_pos (by rw [h.len];omega),cnt_snoc,if_pos (show Out d b from hb)]
  rfl
theorem rp_used(d:Nat):UsedI d (rp ((d:Int)+1) (0:Int)) []:=by
 rw [rp_eq,show ((d:Int)+1).toNat=d+1 by omega]
 refine ⟨by simp,fun k hk=>?_,?_⟩
 ·rw [List.getElem?_replicate,if_pos (by omega),cnt_nil];rfl
 ·rw [List.getElem?_replicate,if_pos (by omega),cnt_nil];rfl
theorem s_l6Used(f:FsD)(hd:f.data.length≤36)(hn:f.nodes.length≤10)(hk:∀ (i:Nat) (n:NodeD),f.nodes[i]?=some n→n.blocks.length≤5) :
  Wp (fun u=>UsedI f.data.length u (blks f.nodes)) (sl6Used f):=by
 have hbl:(blks f.nodes).length≤5*f.nodes.length:=flatMap_len _ 5 _ fun x hx=>by
  obtain⟨i,hi⟩:=List.mem_iff_getElem?.1 hx
  exact hk i x hi
 unfold sl6Used bnu lpt
 simp only [PN,s_l1In]
 rw [iadd (by omega),isub (by omega)]
 refine wp_ck (ins (by omega)) (wp_ck (room (by omega) (by omega)) ?_)
 refine wp_loop (fun s=>f.nodes.length-s.2.toNat) (fun s=>∃i:Nat,s.2=(i:Int)∧i≤f.nodes.length∧UsedI f.data.length s.1 (blks (f.nodes.take i)))
  (fun r=>UsedI f.data.length r (blks f.nodes)) ⟨0,rfl,by omega,rp_used _⟩ ?_ (fun r hr=>wp_some hr)
 rintro⟨u,j⟩ ⟨i,h1,h2,h3⟩
 dsimp only at h1 h3 ⊢
 subst h1
 refine wp_if (fun hi=>?_) (fun hi=>?_)
 ·obtain⟨n,hnn⟩:=get_some (show i<f.nodes.length by omega)
  have hl:=hk i n hnn
  obtain⟨Q,hQ⟩:=blks_split hnn
  refine wp_loop (fun s=>n.blocks.length-s.2.toNat) (fun s=>∃q:Nat,s.2=(q:Int)∧q≤n.blocks.length∧UsedI f.data.length s.1 (blks (f.nodes.take i)++n.blocks.take q))
   (fun r=>UsedI f.data.length r (blks (f.nodes.take (i+1)))) ⟨0,rfl,by omega,by simpa using h3⟩ ?_ (fun r hr=>?_)
  ·rintro⟨o,j⟩ ⟨q,g1,g2,g3⟩
   dsimp only at g1 g3 ⊢
   subst g1
   rw [gt_ok hnn,bsome]
   refine wp_if (fun hq=>?_) (fun hq=>?_)
   ·obtain⟨b,hb⟩:=get_some (show q<n.blocks.length by omega)
    have hP:(blks (f.nodes.take i)++n.blocks.take q).length≤50:=by
     have:=congrArg List.length hQ
     simp only [List.length_append,List.length_take] at this ⊢
     omega
    rw [gt_ok hb,bsome]
    refine wp_if (fun hin=>?_) (fun hin=>?_)
    ·obtain⟨y,e1,e2,e3⟩:=g3.inn hin
     rw [gtI hin.1 e1,bsome,sl_eq,iadd (by omega)]
     refine wp_back ⟨q+1,ir_add1 (by omega),by omega,?_⟩ ?_
     ·dsimp only
      rwa [take_snoc' hb,←List.append_assoc]
     ·dsimp only
      rw [ir_add1 (by omega)];omega
    ·obtain⟨y,e1,e2,e3⟩:=g3.out hin
     rw [gt_ok e1,bsome,sl_eq,iadd (by omega),Int.toNat_natCast]
     refine wp_back ⟨q+1,ir_add1 (by omega),by omega,?_⟩ ?_
     ·dsimp only
      rwa [take_snoc' hb,←List.append_assoc]
     ·dsimp only
      rw [ir_add1 (by omega)];omega
   ·refine wp_out ?_
    rw [blks_take hnn]
    rwa [List.take_of_length_le (l:=n.blocks) (by omega)] at g3
  ·refine wp_back ⟨i+1,ir_add1 (by omega),by omega,hr⟩ ?_
   dsimp only
   rw [ir_add1 (by omega)];omega
 ·refine wp_out ?_
  rwa [List.take_of_length_le (by omega)] at h3
theorem wp_no{Q:Prop}(h:¬Q):Wp (fun r=>r=tb Q) (some false):=wp_some (tb_neg h).symm
theorem wp_yes{Q:Prop}(h:Q):Wp (fun r=>r=tb Q) (some true):=wp_some (tb_pos h).symm
/-! ### ShapeOk -/
def SizesOk(f:FsD):Prop := ∀ (i:Nat) (n:NodeD),f.nodes[i]?=some n→∀ (k:Nat) (b:Int),n.blocks[k]?=some b→∀s,f.data[b.toNat]?=some s→(s.length:Int)=min (n.size-16*(k:Int)) 16
def DataOk(f:FsD):Prop := ∀ (k:Nat) s,f.data[k]?=some s→s.length≤16∧(¬ (k:Int)∈blks f.nodes→s=[])
def NodesOk(l:List NodeD):Prop := ∀ (i:Nat) (n:NodeD),l[i]?=some n→NodeOk n
structure ShapeOk (f:FsD):Prop where
 n1:2≤f.nodes.length∧f.nodes.length≤10
 d1:1≤f.data.length∧f.data.length≤36
 root:∀n,f.nodes[0]?=some n→n.kind=2
 nodes:NodesOk f.nodes
 good:GoodB f.data.length (blks f.nodes)
 data:DataOk f
 sizes:SizesOk f
theorem g_BadNode{l:List NodeD}(hl:l.length≤10):gslices_ContainsFunc_Node_iShapeOk_1 l=some (tb (¬NodesOk l)):=by
 unfold gslices_ContainsFunc_Node_iShapeOk_1 gslices_IndexFunc_Node_iShapeOk_1 iShapeOk_1 bnt lpt
 simp only [PN,i_NodeOk]
 rw [bnd_assoc]
 refine bnd_first (fun i:Nat=>(i:Int)) l (fun i y=>NodeOk y) (fun i _=>.inr (i:Int)) (.inl ()) rfl (fun i y hy _ h=>?_) (fun i y hy _ h=>?_) (fun h=>?_) (fun h=>?_) (fun k y hy hn hj=>?_)
 ·have:=len_lt hy
  rw [if_pos (by omega),gt_ok hy,bsome,if_neg (fun hh=>hh h),ir_add1 (by omega)]
 ·have:=len_lt hy
  rw [if_pos (by omega),gt_ok hy,bsome,if_pos h]
 ·rw [if_neg (by omega)]
 ·exact tb_some (iff_of_false (by omega) fun h2=>h2 h)
 ·exact tb_some (iff_of_true (by omega) (fun hh=>hn (hh k y hy)))
theorem NodesOk.h{l:List NodeD}(h:NodesOk l):∀ (i:Nat) (n:NodeD),l[i]?=some n→n.blocks.length≤5∧∀b∈n.blocks,0≤b:=fun i n hn =>
 ⟨(h i n hn).len,fun b hb=>by
  obtain⟨k,hk⟩:=List.mem_iff_getElem?.1 hb
  exact ((h i n hn).blk k b hk).1.1⟩
theorem NodeOk.size{n:NodeD}(h:NodeOk n):0≤n.size∧n.size≤80:=by
 rcases h with h | h
 ·omega
 ·exact h.2.2.2.2.1
theorem blk_mem{l:List NodeD}{i k:Nat}{n:NodeD}{b:Int}(h:l[i]?=some n)(hb:n.blocks[k]?=some b):b∈blks l:=by
 unfold blks
 exact List.mem_flatMap.2 ⟨n,List.mem_of_getElem? h,List.mem_of_getElem? hb⟩
theorem i_ShapeOk(f:FsD):iShapeOk f=some (tb (ShapeOk f)):=by
 refine wp_eq ?_
 unfold iShapeOk bnt lpt
 simp only [PN,i_within]
 refine wp_if (fun hn=>?_) (fun hn=>wp_no fun h=>hn (by have:=h.n1;omega))
 refine wp_if (fun hd=>?_) (fun hd=>wp_no fun h=>hd (by have:=h.d1;omega))
 obtain⟨n0,hn0⟩:=get_some (l:=f.nodes) (i:=0) (by omega)
 rw [gt0 hn0,bsome]
 refine wp_if (fun hk=>wp_no fun h=>hk (h.root n0 hn0)) (fun hk=>?_)
 rw [g_BadNode (by omega)]
 simp only [PN]
 refine wp_if (fun hb=>wp_no fun h=>hb h.nodes) (fun hb=>?_)
 have hnd:NodesOk f.nodes:=Classical.not_not.1 hb
 refine wp_bnd _ (i_owners f (by omega) (by omega) hnd.h) ?_
 rintro⟨out,ok⟩ (⟨rfl,ho⟩ | ⟨e,hg⟩)
 ·simp only [cond_true]
  refine wp_loop (fun s=>f.data.length-s.toNat) (fun s=>∃i:Nat,s=(i:Int)∧i≤f.data.length∧∀ (k:Nat) s,k<i→f.data[k]?=some s→s.length≤16∧(¬ (k:Int)∈blks f.nodes→s=[]))
   (fun r=>(r=.inl ()∧DataOk f)∨(r=.inr false∧¬DataOk f)) ⟨0,rfl,by omega,fun k s hk=>by omega⟩ ?_ ?_
  ·rintro j ⟨i,rfl,h2,h3⟩
   refine wp_if (fun hi=>?_) (fun hi=>wp_out (.inl ⟨rfl,fun k s hs=>h3 k s (by have:=len_lt hs;omega) hs⟩))
   obtain⟨s,hs⟩:=get_some (l:=f.data) (i:=i) (by omega)
   rw [gt_ok hs,bsome]
   refine wp_if (fun hl=>wp_out (.inr ⟨rfl,fun h=>by have:=(h i s hs).1;omega⟩)) (fun hl=>?_)
   obtain⟨x,hx⟩:=get_some (l:=out) (i:=i) (by rw [ho.len];omega)
   rw [gt_ok hx,bsome]
   have hxx:=ho.at_ i x hx
   have hstep:(¬ (i:Int)∈blks f.nodes→s=[])→Wp (LpO (fun s=>f.data.length-s.toNat) (fun s=>∃i:Nat,s=(i:Int)∧i≤f.data.length∧∀ (k:Nat) s,k<i→f.data[k]?=some s→s.length≤16∧(¬ (k:Int)∈blks f.nodes→s=[]))
     (fun r=>(r=(Sum.inl ():Unit ⊕ Bool)∧DataOk f)∨(r=.inr false∧¬DataOk f)) (i:Int)) (some (.inl (iop .add .i64 (i:Int) 1))):=fun he=>by
    refine wp_back ⟨i+1,ir_add1 (by omega),by omega,fun k s' hk hs'=>?_⟩ (by rw [ir_add1 (by omega)];omega)
    by_cases e:k=i
    ·subst e
     rw [hs] at hs'
     cases hs'
     exact ⟨by omega,he⟩
    ·exact h3 k s' (by omega) hs'
   refine wp_if (fun hneg=>wp_if (fun hne=>wp_out (.inr ⟨rfl,fun h=>hne ((h i s hs).2 (fun hm=>by have:=hxx.2 hm;omega))⟩)) (fun hne=>hstep fun _=>Classical.not_not.1 hne)) (fun hpos=>hstep fun hm=>absurd (hxx.1 (by omega)) hm)
  ·rintro r (⟨rfl,hdo⟩ | ⟨rfl,hdo⟩)
   ·rw [Sum.elim_inl]
    refine wp_loop (fun s=>f.nodes.length-s.toNat) (fun s=>∃i:Nat,s=(i:Int)∧i≤f.nodes.length∧∀ (j:Nat) (n:NodeD),j<i→f.nodes[j]?=some n→∀ (k:Nat) (b:Int),n.blocks[k]?=some b→∀s,f.data[b.toNat]?=some s→(s.length:Int)=min (n.size-16*(k:Int)) 16)
     (fun r=>(r=.inl ()∧SizesOk f)∨(r=.inr false∧¬SizesOk f)) ⟨0,rfl,by omega,fun k s hk=>by omega⟩ ?_ ?_
    ·rintro j ⟨i,rfl,h2,h3⟩
     refine wp_if (fun hi=>?_) (fun hi=>wp_out (.inl ⟨rfl,fun k s hs=>h3 k s (by have:=len_lt hs;omega) hs⟩))
     obtain⟨n,hnn⟩:=get_some (l:=f.nodes) (i:=i) (by omega)
     rw [gt_ok hnn,bsome]
     have hno:=hnd i n hnn
     have hsz:=hno.size
     have hbl:=hno.len
     refine wp_loop (fun s=>n.blocks.length-s.2.toNat) (fun s=>∃q:Nat,s=(n.size-16*(q:Int),(q:Int))∧q≤n.blocks.length∧∀ (k:Nat) (b:Int),k<q→n.blocks[k]?=some b→∀s,f.data[b.toNat]?=some s→(s.length:Int)=min (n.size-16*(k:Int)) 16)
      (fun r=>(r=.inl ()∧∀ (k:Nat) (b:Int),n.blocks[k]?=some b→∀s,f.data[b.toNat]?=some s→(s.length:Int)=min (n.size-16*(k:Int)) 16)∨(r=.inr (.inr (.inr false))∧¬SizesOk f)) ⟨0,by simp,by omega,fun k s hk=>by omega⟩ ?_ ?_
     ·rintro⟨a,j⟩ ⟨q,e,g2,g3⟩
      injection e with e1 e2
      subst e1 e2
      dsimp only
      refine wp_if (fun hq=>?_) (fun hq=>wp_out (.inl ⟨rfl,fun k b hb=>g3 k b (by have:=len_lt hb;omega) hb⟩))
      obtain⟨b,hb⟩:=get_some (l:=n.blocks) (i:=q) (by omega)
      have hbr:=ho.rng b (blk_mem hnn hb)
      obtain⟨s,hs⟩:=get_some (l:=f.data) (i:=b.toNat) (by omega)
      rw [gt_ok hb,bsome,gtI hbr.1 hs,bsome,imin_eq]
      refine wp_if (fun hne=>wp_out (.inr ⟨rfl,fun h=>hne (h i n hnn q b hb s hs)⟩)) (fun he=>?_)
      rw [isub (by omega)]
      refine wp_back ⟨q+1,?_,by omega,fun k b' hk hb' s' hs'=>?_⟩ (by dsimp only;rw [ir_add1 (by omega)];omega)
      ·rw [ir_add1 (by omega)];congr 1;omega
      ·by_cases e:k=q
       ·subst e
        rw [hb] at hb';cases hb'
        rw [hs] at hs';cases hs'
        exact Classical.not_not.1 he
       ·exact g3 k b' (by omega) hb' s' hs'
     ·rintro r (⟨rfl,ha⟩ | ⟨rfl,hx⟩)
      ·refine wp_back ⟨i+1,ir_add1 (by omega),by omega,fun j n' hj hn'=>?_⟩ (by rw [ir_add1 (by omega)];omega)
       by_cases e:j=i
       ·subst e
        rw [hnn] at hn';cases hn'
        exact ha
       ·exact h3 j n' (by omega) hn'
      ·exact wp_out (.inr ⟨rfl,hx⟩)
    ·rintro r (⟨rfl,hs⟩ | ⟨rfl,hs⟩)
     ·exact wp_yes ⟨by omega,by omega,fun n hn'=>by rw [hn0] at hn';cases hn';exact Classical.not_not.1 hk,hnd,ho.good,hdo,hs⟩
     ·exact wp_no fun h=>hs h.sizes
   ·exact wp_no fun h=>hdo h.data
 ·injection e with e1 e2
  subst e2
  simp only [cond_false]
  exact wp_no fun h=>hg h.good
/-! ### spec.ShapeOk -/
theorem good_cnt{d:Nat}{P:List Int}:GoodB d P↔cnt (Out d) P=0∧∀k:Nat,k<d→cnt (fun b=>b=(k:Int)) P≤1:=by
 constructor
 ·rintro⟨h1,h2⟩
  refine ⟨?_,fun k _=>(nodup_cnt P).1 h2 k⟩
  have:¬0<cnt (Out d) P:=fun hh=>by
   obtain⟨a,ha,hn⟩:=(cnt_pos _ _).1 hh
   have:=h1 a ha
   exact hn (by omega)
  omega
 ·rintro⟨h1,h2⟩
  have hr:∀b∈P,0≤b∧b<(d:Int):=fun b hb=>Classical.byContradiction fun hn=>by
   have:=(cnt_pos (Out d) P).2 ⟨b,hb,fun hh=>hn (by omega)⟩
   omega
  refine ⟨hr,(nodup_cnt P).2 fun k=>?_⟩
  by_cases hk:0≤k∧k<(d:Int)
  ·have:=h2 k.toNat (by omega)
   rwa [Int.toNat_of_nonneg hk.1] at this
  ·have:¬0<cnt (fun b=>b=k) P:=fun hh=>by
    obtain⟨a,ha,e⟩:=(cnt_pos _ _).1 hh
    have:=hr a ha
    omega
   omega
theorem s_l1Min(a b:Int):sl1Min a b=some (min a b):=by
 unfold sl1Min;simp only [PN]
 by_cases h:a<b
 ·rw [if_pos h];congr 1;omega
 ·rw [if_neg h];congr 1;omega
theorem s_l6Long{a:Int}{k:Nat}(ha:0≤a∧a≤80)(hk:k≤80):sl6Long a (k:Int)=some (min (a-16*(k:Int)) 16):=by
 unfold sl6Long
 rw [imul (by omega),isub (by omega),s_l1Min,bsome]
 congr 1;omega
theorem s_ShapeOk(f:FsD):sShapeOk f=some (tb (ShapeOk f)):=by
 refine wp_eq ?_
 unfold sShapeOk bnt lpt
 simp only [PN,s_l1In,s_NodeOk]
 refine wp_if (fun hn=>?_) (fun hn=>wp_no fun h=>hn (by have:=h.n1;omega))
 refine wp_if (fun hd=>?_) (fun hd=>wp_no fun h=>hd (by have:=h.d1;omega))
 obtain⟨n0,hn0⟩:=get_some (l:=f.nodes) (i:=0) (by omega)
 rw [gt0 hn0,bsome]
 refine wp_if (fun hk=>wp_no fun h=>hk (h.root n0 hn0)) (fun hk=>?_)
 refine wp_loop (fun s=>f.nodes.length-s.toNat) (fun s=>∃i:Nat,s=(i:Int)∧i≤f.nodes.length∧∀ (j:Nat) (n:NodeD),j<i→f.nodes[j]?=some n→NodeOk n)
   (fun r=>(r=.inl ()∧NodesOk f.nodes)∨(r=.inr false∧¬NodesOk f.nodes)) ⟨0,rfl,by omega,fun k s hk=>by omega⟩ ?_ ?_
 ·rintro j ⟨i,rfl,h2,h3⟩
  refine wp_if (fun hi=>?_) (fun hi=>wp_out (.inl ⟨rfl,fun k s hs=>h3 k s (by have:=len_lt hs;omega) hs⟩))
  obtain⟨n,hnn⟩:=get_some (l:=f.nodes) (i:=i) (by omega)
  rw [gt_ok hnn,bsome]
  refine wp_if (fun ho=>?_) (fun ho=>wp_out (.inr ⟨rfl,fun h=>ho (h i n hnn)⟩))
  refine wp_back ⟨i+1,ir_add1 (by omega),by omega,fun j n' hj hn'=>?_⟩ (by rw [ir_add1 (by omega)];omega)
  by_cases e:j=i
  ·subst e
   rw [hnn] at hn';cases hn'
   exact ho
  ·exact h3 j n' (by omega) hn'
 rintro r (⟨rfl,hnd⟩ | ⟨rfl,hnd⟩)
 case inr=>exact wp_no fun h=>hnd h.nodes
 rw [Sum.elim_inl]
 refine wp_bnd _ (s_l6Used f (by omega) (by omega) (fun i n hn=>(hnd.h i n hn).1)) (fun u hu=>?_)
 rw [gt_ok hu.end_,bsome]
 refine wp_if (fun hx=>wp_no fun h=>by have:=(good_cnt.1 h.good).1;omega) (fun hx=>?_)
 refine wp_loop (fun s=>f.data.length-s.toNat) (fun s=>∃i:Nat,s=(i:Int)∧i≤f.data.length∧∀ (k:Nat) s,k<i→f.data[k]?=some s→cnt (fun b=>b=(k:Int)) (blks f.nodes)≤1∧s.length≤16∧(¬ (k:Int)∈blks f.nodes→s=[]))
   (fun r=>(r=.inl ()∧DataOk f∧GoodB f.data.length (blks f.nodes))∨(r=.inr false∧¬ShapeOk f)) ⟨0,rfl,by omega,fun k s hk=>by omega⟩ ?_ ?_
 ·rintro j ⟨i,rfl,h2,h3⟩
  refine wp_if (fun hi=>?_) (fun hi=>wp_out (.inl ⟨rfl,fun k s hs=>(h3 k s (by have:=len_lt hs;omega) hs).2,good_cnt.2 ⟨by omega,fun k hk=>?_⟩⟩))
  ·obtain⟨s,hs⟩:=get_some (l:=f.data) (i:=i) (by omega)
   have hum:=hu.at_ i (by omega)
   rw [gt_ok hum,bsome]
   have hcm:=cnt_pos (fun b=>b=(i:Int)) (blks f.nodes)
   refine wp_if (fun hc=>wp_out (.inr ⟨rfl,fun h=>by have:=(good_cnt.1 h.good).2 i (by omega);omega⟩)) (fun hc=>?_)
   have hstep:s.length≤16→(¬ (i:Int)∈blks f.nodes→s=[])→Wp (LpO (fun s=>f.data.length-s.toNat) (fun s=>∃i:Nat,s=(i:Int)∧i≤f.data.length∧∀ (k:Nat) s,k<i→f.data[k]?=some s→cnt (fun b=>b=(k:Int)) (blks f.nodes)≤1∧s.length≤16∧(¬ (k:Int)∈blks f.nodes→s=[]))
     (fun r=>(r=(Sum.inl ():Unit ⊕ Bool)∧DataOk f∧GoodB f.data.length (blks f.nodes))∨(r=.inr false∧¬ShapeOk f)) (i:Int)) (some (.inl (iop .add .i64 (i:Int) 1))):=fun hl he=>by
    refine wp_back ⟨i+1,ir_add1 (by omega),by omega,fun k s' hk hs'=>?_⟩ (by rw [ir_add1 (by omega)];omega)
    by_cases e:k=i
    ·subst e
     rw [hs] at hs'
     cases hs'
     exact ⟨by omega,hl,he⟩
    ·exact h3 k s' (by omega) hs'
   rw [gt_ok hs,bsome,bsome]
   refine wp_if (fun h0=>?_) (fun h0=>?_)
   ·have hnm:¬ (i:Int)∈blks f.nodes:=fun hm=>by have:=hcm.2 ⟨_,hm,rfl⟩;omega
    refine wp_if (fun hne=>wp_out (.inr ⟨rfl,fun h=>hne ((h.data i s hs).2 hnm)⟩)) (fun hne=>?_)
    exact wp_if (fun hl=>wp_out (.inr ⟨rfl,fun h=>by have:=(h.data i s hs).1;omega⟩)) (fun hl=>hstep (by omega) fun _=>Classical.not_not.1 hne)
   ·have hm:(i:Int)∈blks f.nodes:=by
     obtain⟨a,ha,e⟩:=hcm.1 (by omega)
     exact e▸ha
    exact wp_if (fun hl=>wp_out (.inr ⟨rfl,fun h=>by have:=(h.data i s hs).1;omega⟩)) (fun hl=>hstep (by omega) fun hn=>absurd hm hn)
  ·obtain⟨s,hs⟩:=get_some hk
   exact (h3 k s (by omega) hs).1
 rintro r (⟨rfl,hdo,hg⟩ | ⟨rfl,hdo⟩)
 case inr=>exact wp_no hdo
 rw [Sum.elim_inl]
 refine wp_loop (fun s=>f.nodes.length-s.toNat) (fun s=>∃i:Nat,s=(i:Int)∧i≤f.nodes.length∧∀ (j:Nat) (n:NodeD),j<i→f.nodes[j]?=some n→∀ (k:Nat) (b:Int),n.blocks[k]?=some b→∀s,f.data[b.toNat]?=some s→(s.length:Int)=min (n.size-16*(k:Int)) 16)
  (fun r=>(r=.inl ()∧SizesOk f)∨(r=.inr false∧¬SizesOk f)) ⟨0,rfl,by omega,fun k s hk=>by omega⟩ ?_ ?_
 ·rintro j ⟨i,rfl,h2,h3⟩
  refine wp_if (fun hi=>?_) (fun hi=>wp_out (.inl ⟨rfl,fun k s hs=>h3 k s (by have:=len_lt hs;omega) hs⟩))
  obtain⟨n,hnn⟩:=get_some (l:=f.nodes) (i:=i) (by omega)
  rw [gt_ok hnn,bsome]
  have hno:=hnd i n hnn
  have hsz:=hno.size
  have hbl:=hno.len
  refine wp_loop (fun s=>n.blocks.length-s.toNat) (fun s=>∃q:Nat,s=(q:Int)∧q≤n.blocks.length∧∀ (k:Nat) (b:Int),k<q→n.blocks[k]?=some b→∀s,f.data[b.toNat]?=some s→(s.length:Int)=min (n.size-16*(k:Int)) 16)
   (fun r=>(r=.inl ()∧∀ (k:Nat) (b:Int),n.blocks[k]?=some b→∀s,f.data[b.toNat]?=some s→(s.length:Int)=min (n.size-16*(k:Int)) 16)∨(r=.inr (.inr (.inr false))∧¬SizesOk f)) ⟨0,rfl,by omega,fun k s hk=>by omega⟩ ?_ ?_
  ·rintro j ⟨q,rfl,g2,g3⟩
   refine wp_if (fun hq=>?_) (fun hq=>wp_out (.inl ⟨rfl,fun k b hb=>g3 k b (by have:=len_lt hb;omega) hb⟩))
   obtain⟨b,hb⟩:=get_some (l:=n.blocks) (i:=q) (by omega)
   have hbr:=hg.1 b (blk_mem hnn hb)
   obtain⟨s,hs⟩:=get_some (l:=f.data) (i:=b.toNat) (by omega)
   rw [gt_ok hb,bsome,gtI hbr.1 hs,bsome,s_l6Long hsz (by omega),bsome]
   refine wp_if (fun hne=>wp_out (.inr ⟨rfl,fun h=>hne (h i n hnn q b hb s hs)⟩)) (fun he=>?_)
   refine wp_back ⟨q+1,ir_add1 (by omega),by omega,fun k b' hk hb' s' hs'=>?_⟩ (by rw [ir_add1 (by omega)];omega)
   by_cases e:k=q
   ·subst e
    rw [hb] at hb';cases hb'
    rw [hs] at hs';cases hs'
    exact Classical.not_not.1 he
   ·exact g3 k b' (by omega) hb' s' hs'
  ·rintro r (⟨rfl,ha⟩ | ⟨rfl,hx⟩)
   ·refine wp_back ⟨i+1,ir_add1 (by omega),by omega,fun j n' hj hn'=>?_⟩ (by rw [ir_add1 (by omega)];omega)
    by_cases e:j=i
    ·subst e
     rw [hnn] at hn';cases hn'
     exact ha
    ·exact h3 j n' (by omega) hn'
   ·exact wp_out (.inr ⟨rfl,hx⟩)
 ·rintro r (⟨rfl,hs⟩ | ⟨rfl,hs⟩)
  ·exact wp_yes ⟨by omega,by omega,fun n hn'=>by rw [hn0] at hn';cases hn';exact Classical.not_not.1 hk,hnd,hg,hdo,hs⟩
  ·exact wp_no fun h=>hs h.sizes
end Go.Ar
end
section
namespace Go.Ar
open Go.Proofs
set_option linter.unusedVariables false
set_option linter.unusedSimpArgs false
set_option maxRecDepth 20000
/-! ### Transactions -/
structure TxOk (n:Int) (l:List PutD):Prop where
 n1:1≤n∧n≤48
 ne:¬ (l.length:Int)=0
 rng:∀ (i:Nat) (w:PutD),l[i]?=some w→(0≤w.pos∧w.pos≤n-1)∧w.data.length≤90
 inc:∀ (i:Nat) (w v:PutD),l[i]?=some w→l[i+1]?=some v→w.pos<v.pos
/-! ### Checksums -/
noncomputable def putText(s:List UInt8):List UInt8:=putNum (s.length:Int)++s
theorem putText_len(s:List UInt8):(putText s).length≤5+s.length:=by
 have:=putNum_len (s.length:Int)
 unfold putText;rw [List.length_append];omega
theorem i_PutText(s:List UInt8)(h:s.length≤2000000):iPutText s=some (putText s):=by
 have:=putNum_len (s.length:Int)
 unfold iPutText
 simp only [i_PutNum,PN]
 rw [ck_in (room (by omega) (by omega))];rfl
theorem s_PutText(s:List UInt8)(h:s.length≤2000000):sPutText s=some (putText s):=by
 have:=putNum_len (s.length:Int)
 unfold sPutText
 simp only [s_PutNum,PN]
 rw [ck_in (room (by omega) (by omega)),ck_in (room (by omega) (by omega))];rfl
theorem n_byte(y:UInt8):wrp .i64 (b2i y)=((y.toNat:Nat):Int):=by rw [wrp_eq,b2i_eq,w64 (by have:=y.toNat_lt;omega)]
/-- Not too many texts, none too long. -/
def Small(l:List (List UInt8)):Prop:=l.length≤200∧∀s∈l,s.length≤1000
theorem Small.flat{l:List (List UInt8)}(h:Small l)(i:Nat):((l.take i).flatMap putText).length≤201000:=by
 have h1:=flatMap_len putText 1005 (l.take i) fun x hx=>by
  have:=putText_len x
  have:=h.2 x (List.mem_of_mem_take hx)
  omega
 have:(l.take i).length≤l.length:=by simp;omega
 have:=h.1
 omega
end Go.Ar
end
section
namespace Go.Ar
open Go.Proofs
set_option linter.unusedVariables false
set_option linter.unusedSimpArgs false
set_option maxRecDepth 20000
/-! ### Numbers read -/
def getN:Nat→Nat→Nat→List UInt8→Option (Nat × Nat)
 | 0,_,_,_=>none
 | _+1,_,_,[]=>none
 | f+1,k,n,x::t=>if 128≤x.toNat then getN f (k+1) (n+x.toNat % 128*128 ^ k) t else if (0<k∧x.toNat=0)∨2147483647<n+x.toNat % 128*128 ^ k then none else some (n+x.toNat % 128*128 ^ k,k+1)
def getNum(b:List UInt8)(at_:Int):Int × Int × Bool :=
 if 0≤at_ then (match getN 5 0 0 (b.drop at_.toNat) with | some (m,c)=>((m:Int),at_+(c:Int),true) | none=>(0,0,false)) else (0,0,false)
theorem pow128(k:Nat):2 ^ (7*k)=128 ^ k:=by rw [Nat.pow_mul]
theorem p128{k:Nat}(h:k<5):1≤128 ^ k∧128 ^ k≤268435456:=by
 have:128 ^ k≤128 ^ 4:=Nat.pow_le_pow_right (by decide) (by omega)
 exact ⟨Nat.pos_of_ne_zero (by simp),by omega⟩
theorem n_shl7{m k:Nat}(hm:m<128)(hk:k<5):iop .shl .i64 (m:Int) (iop .mul .i64 7 (k:Int))=((m*128 ^ k:Nat):Int):=by
 obtain⟨h1,h2⟩:=p128 hk
 rw [imul (by omega),iop_eq]
 show IntKind.i64.wrap ((m:Int)*2 ^ (min (7*(k:Int)).toNat 64))=_
 rw [show min (7*(k:Int)).toNat 64=7*k by omega]
 have e:((m:Int)*2 ^ (7*k))=((m*128 ^ k:Nat):Int):=by
  rw [←pow128];simp
 have h3:m*128 ^ k≤127*268435456:=Nat.mul_le_mul (by omega) h2
 rw [e,w64 (by omega)]
theorem n_orS{n m k:Nat}(hn:n<128 ^ k)(hm:m<128)(hk:k<5):iop .or .i64 (n:Int) ((m*128 ^ k:Nat):Int)=((n+m*128 ^ k:Nat):Int):=by
 obtain⟨h1,h2⟩:=p128 hk
 have h3:m*128 ^ k≤127*268435456:=Nat.mul_le_mul (by omega) h2
 rw [iop_eq]
 show IntKind.i64.wrap ((BitVec.ofInt 64 (n:Int) ||| BitVec.ofInt 64 ((m*128 ^ k:Nat):Int)).toNat:Int)=_
 have e:(BitVec.ofInt 64 (n:Int) ||| BitVec.ofInt 64 ((m*128 ^ k:Nat):Int)).toNat=n+m*128 ^ k:=by
  rw [BitVec.toNat_or]
  have e1:(BitVec.ofInt 64 (n:Int)).toNat=n:=by simp [BitVec.toNat_ofInt];omega
  have e2:(BitVec.ofInt 64 ((m*128 ^ k:Nat):Int)).toNat=m*128 ^ k:=by
   rw [BitVec.toNat_ofInt];omega
  have:=Nat.two_pow_add_eq_or_of_lt (i:=7*k) (b:=n) (by rw [pow128];exact hn) m
  rw [e1,e2,Nat.or_comm,←pow128,Nat.mul_comm m,←this,Nat.add_comm]
 rw [e,w64 (by omega)]
theorem n_rem128'(y:UInt8):iop .rem .i64 ((y.toNat:Nat):Int) 128=((y.toNat % 128:Nat):Int):=by rw [irem (by omega)];omega
theorem lt_step{n m k:Nat}(hn:n<128 ^ k)(hm:m<128):n+m*128 ^ k<128 ^ (k+1):=by
 rw [Nat.pow_succ,Nat.mul_comm (128 ^ k)]
 have:m*128 ^ k≤127*128 ^ k:=Nat.mul_le_mul_right _ (by omega)
 omega
theorem drop_ge{α:Type}{l:List α}{i:Nat}(h:l.length≤i):l.drop i=[]:=List.drop_eq_nil_of_le h
theorem i_GetNum(b:List UInt8)(a:Int)(hb:b.length≤1000000):iGetNum b a=some (getNum b a):=by
 refine wp_eq ?_
 unfold iGetNum getNum bnt lpt
 simp only [i_within,PN,n_byte]
 refine wp_if (fun ha=>?_) (fun ha=>wp_some ?_)
 ·rw [if_pos ha.1]
  obtain⟨p,rfl⟩:∃p:Nat,a=(p:Int):=⟨a.toNat,by omega⟩
  rw [Int.toNat_natCast]
  refine wp_loop (fun s=>5-s.2.toNat) (fun s=>∃k n:Nat,s=((n:Int),(k:Int))∧k≤5∧n<128 ^ k∧getN 5 0 0 (b.drop p)=getN (5-k) k n (b.drop (p+k)))
   (fun r=>(r=.inl ()∧getN 5 0 0 (b.drop p)=none)∨∃q,r=.inr q∧q=(match getN 5 0 0 (b.drop p) with | some (m,c)=>((m:Int),(p:Int)+(c:Int),true) | none=>(0,0,false))) ⟨0,0,rfl,by omega,by decide,rfl⟩ ?_ ?_
  ·rintro⟨x,y⟩ ⟨k,n,e,hk,hn,hg⟩
   injection e with e1 e2
   subst e1 e2
   dsimp only
   refine wp_if (fun h5=>?_) (fun h5=>wp_out (.inl ⟨rfl,by rw [hg,show 5-k=0 by omega];rfl⟩))
   rw [iadd (a:=(p:Int)) (by omega)]
   refine wp_if (fun hl=>?_) (fun hl=>wp_out (.inl ⟨rfl,by rw [hg,drop_ge (by omega),show 5-k=(4-k)+1 by omega];rfl⟩))
   obtain⟨y,hy⟩:=get_some (l:=b) (i:=p+k) (by omega)
   have hd:=drop_at hy
   rw [hd,show 5-k=(4-k)+1 by omega,getN] at hg
   have hy2:=y.toNat_lt
   have hm:y.toNat % 128<128:=Nat.mod_lt _ (by decide)
   rw [show (p:Int)+(k:Int)=((p+k:Nat):Int) by omega,gt_ok hy,bsome]
   refine wp_ck (tb_pos (by rw [imul (by omega)];omega)) ?_
   rw [n_and127 (by omega),n_shl7 hm (by omega),n_orS hn hm (by omega)]
   refine wp_if (fun h128=>?_) (fun h128=>?_)
   ·rw [if_pos (by omega)] at hg
    rw [ir_add1 (by omega)]
    exact wp_back ⟨k+1,_,rfl,by omega,lt_step hn hm,by rw [hg,show 5-(k+1)=4-k by omega];rfl⟩ (by dsimp only;omega)
   ·rw [if_neg (by omega)] at hg
    simp only [bite,bsome,Sum.elim_inl,Sum.elim_inr]
    have hbad:((0<k∧y.toNat=0)∨2147483647<n+y.toNat % 128*128 ^ k)→Wp (LpO (fun s:Int × Int=>5-s.2.toNat) (fun s=>∃k n:Nat,s=((n:Int),(k:Int))∧k≤5∧n<128 ^ k∧getN 5 0 0 (b.drop p)=getN (5-k) k n (b.drop (p+k)))
      (fun r:Unit ⊕ (Int × Int × Bool)=>(r=.inl ()∧getN 5 0 0 (b.drop p)=none)∨∃q,r=.inr q∧q=(match getN 5 0 0 (b.drop p) with | some (m,c)=>((m:Int),(p:Int)+(c:Int),true) | none=>(0,0,false))) ((n:Int),(k:Int))) (some (.inr (.inr (0,0,false)))):=fun h=>by
     rw [if_pos h] at hg
     exact wp_out (.inr ⟨_,rfl,by rw [hg]⟩)
    have hgood:¬ ((0<k∧y.toNat=0)∨2147483647<n+y.toNat % 128*128 ^ k)→Wp (LpO (fun s:Int × Int=>5-s.2.toNat) (fun s=>∃k n:Nat,s=((n:Int),(k:Int))∧k≤5∧n<128 ^ k∧getN 5 0 0 (b.drop p)=getN (5-k) k n (b.drop (p+k)))
      (fun r:Unit ⊕ (Int × Int × Bool)=>(r=.inl ()∧getN 5 0 0 (b.drop p)=none)∨∃q,r=.inr q∧q=(match getN 5 0 0 (b.drop p) with | some (m,c)=>((m:Int),(p:Int)+(c:Int),true) | none=>(0,0,false))) ((n:Int),(k:Int))) (some (.inr (.inr (((n+y.toNat % 128*128 ^ k:Nat):Int),iop .add .i64 ((p+k:Nat):Int) 1,true)))):=fun h=>by
     rw [if_neg h] at hg
     refine wp_out (.inr ⟨_,rfl,?_⟩)
     rw [hg,ir_add1 (by omega)]
     dsimp only
     rw [show ((p+k+1:Nat):Int)=(p:Int)+((k+1:Nat):Int) by omega]
    refine wp_if (fun h0=>wp_if (fun hk0=>hbad (.inl ⟨by omega,by omega⟩)) (fun hk0=>wp_if (fun hm=>hbad (.inr (by omega))) (fun hm=>hgood (by omega)))) (fun h0=>wp_if (fun hm=>hbad (.inr (by omega))) (fun hm=>hgood (by omega)))
  ·rintro r (⟨rfl,h⟩ | ⟨q,rfl,h⟩)
   ·exact wp_some (by rw [h])
   ·exact wp_some h
 ·by_cases h0:0≤a
  ·rw [if_pos h0,drop_ge (by omega)];rfl
  ·rw [if_neg h0]
theorem s_GetNum(b:List UInt8)(a:Int)(hb:b.length≤1000000):sGetNum b a=some (getNum b a):=by
 refine wp_eq ?_
 unfold sGetNum getNum bnt lpt
 simp only [PN,n_byte]
 by_cases ha:0≤a
 ·rw [if_pos ha]
  refine wp_loop (fun s=>5-s.2.toNat) (fun s=>∃k n:Nat,s=((n:Int),(k:Int))∧k≤5∧n<128 ^ k∧getN 5 0 0 (b.drop a.toNat)=getN (5-k) k n (b.drop (a.toNat+k)))
   (fun r=>(r=.inl ()∧getN 5 0 0 (b.drop a.toNat)=none)∨∃q,r=.inr q∧q=(match getN 5 0 0 (b.drop a.toNat) with | some (m,c)=>((m:Int),a+(c:Int),true) | none=>(0,0,false))) ⟨0,0,rfl,by omega,by decide,rfl⟩ ?_ ?_
  ·rintro⟨x,y⟩ ⟨k,n,e,hk,hn,hg⟩
   injection e with e1 e2
   subst e1 e2
   dsimp only
   refine wp_if (fun h5=>?_) (fun h5=>wp_out (.inl ⟨rfl,by rw [hg,show 5-k=0 by omega];rfl⟩))
   refine wp_if (fun hl=>absurd ha (by omega)) (fun _=>?_)
   rw [isub (by omega)]
   refine wp_if (fun hl=>wp_out (.inr ⟨_,rfl,by rw [hg,drop_ge (by omega),show 5-k=(4-k)+1 by omega];rfl⟩)) (fun hl=>?_)
   obtain⟨y,hy⟩:=get_some (l:=b) (i:=a.toNat+k) (by omega)
   have hd:=drop_at hy
   rw [hd,show 5-k=(4-k)+1 by omega,getN] at hg
   have hy2:=y.toNat_lt
   have hm:y.toNat % 128<128:=Nat.mod_lt _ (by decide)
   rw [iadd (a:=a) (by omega),show a+(k:Int)=((a.toNat+k:Nat):Int) by omega,gt_ok hy,bsome]
   refine wp_ck (tb_pos (by rw [imul (by omega)];omega)) ?_
   rw [n_rem128',n_shl7 hm (by omega),n_orS hn hm (by omega)]
   refine wp_if (fun h128=>?_) (fun h128=>?_)
   ·rw [if_neg (by omega)] at hg
    simp only [bite,bsome,Sum.elim_inl,Sum.elim_inr]
    have hbad:((0<k∧y.toNat=0)∨2147483647<n+y.toNat % 128*128 ^ k)→Wp (LpO (fun s:Int × Int=>5-s.2.toNat) (fun s=>∃k n:Nat,s=((n:Int),(k:Int))∧k≤5∧n<128 ^ k∧getN 5 0 0 (b.drop a.toNat)=getN (5-k) k n (b.drop (a.toNat+k)))
      (fun r:Unit ⊕ (Int × Int × Bool)=>(r=.inl ()∧getN 5 0 0 (b.drop a.toNat)=none)∨∃q,r=.inr q∧q=(match getN 5 0 0 (b.drop a.toNat) with | some (m,c)=>((m:Int),a+(c:Int),true) | none=>(0,0,false))) ((n:Int),(k:Int))) (some (.inr (.inr (0,0,false)))):=fun h=>by
     rw [if_pos h] at hg
     exact wp_out (.inr ⟨_,rfl,by rw [hg]⟩)
    have hgood:¬ ((0<k∧y.toNat=0)∨2147483647<n+y.toNat % 128*128 ^ k)→Wp (LpO (fun s:Int × Int=>5-s.2.toNat) (fun s=>∃k n:Nat,s=((n:Int),(k:Int))∧k≤5∧n<128 ^ k∧getN 5 0 0 (b.drop a.toNat)=getN (5-k) k n (b.drop (a.toNat+k)))
      (fun r:Unit ⊕ (Int × Int × Bool)=>(r=.inl ()∧getN 5 0 0 (b.drop a.toNat)=none)∨∃q,r=.inr q∧q=(match getN 5 0 0 (b.drop a.toNat) with | some (m,c)=>((m:Int),a+(c:Int),true) | none=>(0,0,false))) ((n:Int),(k:Int))) (some (.inr (.inr (((n+y.toNat % 128*128 ^ k:Nat):Int),iop .add .i64 ((a.toNat+k:Nat):Int) 1,true)))):=fun h=>by
     rw [if_neg h] at hg
     refine wp_out (.inr ⟨_,rfl,?_⟩)
     rw [hg,ir_add1 (by omega)]
     dsimp only
     rw [show ((a.toNat+k+1:Nat):Int)=a+((k+1:Nat):Int) by omega]
    refine wp_if (fun hk0=>wp_if (fun h0=>hbad (.inl ⟨by omega,by omega⟩)) (fun h0=>wp_if (fun hm=>hbad (.inr (by omega))) (fun hm=>hgood (by omega)))) (fun hk0=>wp_if (fun hm=>hbad (.inr (by omega))) (fun hm=>hgood (by omega)))
   ·rw [if_pos (by omega)] at hg
    rw [ir_add1 (by omega)]
    exact wp_back ⟨k+1,_,rfl,by omega,lt_step hn hm,by rw [hg,show 5-(k+1)=4-k by omega];rfl⟩ (by dsimp only;omega)
  ·rintro r (⟨rfl,h⟩ | ⟨q,rfl,h⟩)
   ·exact wp_some (by rw [h])
   ·exact wp_some h
 ·rw [if_neg ha]
  refine wp_loop (fun s=>5-s.2.toNat) (fun s=>s=(0,0)) (fun r=>r=.inr (0,0,false)) rfl ?_ ?_
  ·rintro _ rfl
   dsimp only
   exact wp_if (fun _=>wp_if (fun _=>wp_out rfl) (fun h=>absurd h (by omega))) (fun h=>absurd h (by omega))
  ·rintro r rfl
   exact wp_some rfl
/-! What is read is what would be written. -/
theorem getN_put:∀ (f k n:Nat) (l:List UInt8) (m c:Nat),getN f k n l=some (m,c)→∃v,m=n+v*128 ^ k∧l.take (c-k)=putNat v∧(0<k→0<v)∧m≤2147483647∧k<c∧c-k≤l.length
 | 0,_,_,_,_,_,h=>by cases h
 | _+1,_,_,[],_,_,h=>by cases h
 | f+1,k,n,x::t,m,c,h=>by
  have hx:=x.toNat_lt
  rw [getN] at h
  split at h
  ·obtain⟨v,h1,h2,h3,h4,h5,h6⟩:=getN_put f (k+1) _ t m c h
   have hv:=h3 (by omega)
   refine ⟨x.toNat % 128+v*128,?_,?_,fun _=>by omega,h4,by omega,by simp only [List.length_cons];omega⟩
   ·rw [h1,Nat.add_mul,Nat.pow_succ,Nat.mul_assoc v 128,Nat.mul_comm 128];omega
   ·rw [putNat_ge (by omega),show c-k=(c-(k+1))+1 by omega,List.take_succ_cons,h2]
    congr 1
    ·apply UInt8.toNat_inj.1
     simp;omega
    ·congr 1;omega
  ·split at h
   ·cases h
   ·rename_i h1 h2
    injection h with h
    injection h with h3 h4
    subst h3 h4
    refine ⟨x.toNat,by rw [Nat.mod_eq_of_lt (by omega)],?_,fun hk=>by omega,by omega,by omega,by simp only [List.length_cons];omega⟩
    rw [show k+1-k=1 by omega,putNat_lt (by omega)]
    simp
end Go.Ar
end
section
namespace Go.Ar
open Go.Proofs
set_option linter.unusedVariables false
set_option linter.unusedSimpArgs false
set_option maxRecDepth 20000
def SecOk(l:List (List UInt8)):Prop := ∀ (i:Nat) (s:List UInt8),l[i]?=some s→s.length≤90
def PendOk(n:Nat)(l:List PutD):Prop := ∀ (i:Nat) (w:PutD),l[i]?=some w→(0≤w.pos∧w.pos≤(n:Int)-1)∧w.data.length≤90
structure DiskOk (d:DiskD):Prop where
 n1:d.sectors.length≤120
 p1:d.pend.length≤400
 sec:SecOk d.sectors
 pnd:PendOk d.sectors.length d.pend
theorem s_l1Copy{l:List (List UInt8)}(h:l.length≤4000000):sl1Copy l=some l:=by
 unfold sl1Copy
 rw [ck_in (room (by simp only [PN];omega) (by simp only [PN];omega))]
end Go.Ar
end
section
namespace Go.Ar
open Go.Proofs
set_option linter.unusedVariables false
set_option linter.unusedSimpArgs false
set_option maxRecDepth 20000
/-! ### Nodes read -/
theorem getNum_of{b:List UInt8}{p m c:Nat}(h:getN 5 0 0 (b.drop p)=some (m,c)):getNum b (p:Int)=((m:Int),((p+c:Nat):Int),true):=by
 unfold getNum
 rw [if_pos (by omega),Int.toNat_natCast,h]
 dsimp only
 congr 2
theorem getNum_no{b:List UInt8}{p:Nat}(h:getN 5 0 0 (b.drop p)=none):getNum b (p:Int)=(0,0,false):=by
 unfold getNum
 rw [if_pos (by omega),Int.toNat_natCast,h]
theorem putNat_pos(n:Nat):0<(putNat n).length:=by
 rw [putNat];split <;> simp
theorem putNum_in{x:Int}(h:0≤x∧x≤2147483647):putNum x=putNat x.toNat:=by unfold putNum;rw [if_pos h]
theorem getN_some{l:List UInt8}{m c:Nat}(h:getN 5 0 0 l=some (m,c)):l=putNum (m:Int)++l.drop c∧0<c∧c≤l.length∧m≤2147483647:=by
 obtain⟨v,h1,h2,_,h4,h5,h6⟩:=getN_put 5 0 0 l m c h
 have e:v=m:=by simp at h1;omega
 subst e
 refine ⟨?_,h5,by simpa using h6,h4⟩
 rw [putNum_in (by omega),Int.toNat_natCast,←h2,Nat.sub_zero,List.take_append_drop]
theorem NodeOk.kind{n:NodeD}(h:NodeOk n):0≤n.kind∧n.kind≤3:=by
 rcases h with h | h
 ·omega
 ·omega
def nodeZ:NodeD:=⟨0,0,0,0,[]⟩
theorem NodeOk.free{n:NodeD}(h:NodeOk n)(hk:n.kind=0):n=nodeZ:=by
 rcases h with h | h
 ·obtain⟨kind,gen,time,size,blocks⟩:=n
  obtain⟨h1,h2,h3,h4,h5⟩:=h
  dsimp only at *
  have:blocks=[]:=List.eq_nil_of_length_eq_zero (by omega)
  subst h1 h2 h3 h4 this
  rfl
 ·exact absurd hk h.1
end Go.Ar
end
section
namespace Go.Ar
open Go.Proofs
set_option linter.unusedVariables false
set_option linter.unusedSimpArgs false
set_option maxRecDepth 20000
/-! ### Names and directories -/
theorem inr{i n:Int}(h:0≤i∧i<n):InR i n:=by rw [InR_eq];exact h
theorem sget_at{s:List UInt8}{i:Nat}{x:UInt8}(h:s[i]?=some x):sget s (i:Int)=((x.toNat:Nat):Int):=by
 rw [sget_eq,Int.toNat_natCast,List.getD_eq_getElem?_getD,h];rfl
def ChOk(x:UInt8):Prop:=(97≤x.toNat∧x.toNat≤122)∨(48≤x.toNat∧x.toNat≤57)
def NameOk(s:List UInt8):Prop:=(1≤s.length∧s.length≤6)∧∀ (i:Nat) (x:UInt8),s[i]?=some x→ChOk x
theorem i_NameOk(s:List UInt8):iNameOk s=some (tb (NameOk s)):=by
 unfold iNameOk bnt lpt
 simp only [i_within,PN]
 refine if_tb (fun hl=>?_) (fun hl h=>hl (by have:=h.1;omega))
 refine bnd_first (fun i:Nat=>(i:Int)) s (fun i x=>ChOk x) (fun _ _=>.inr false) (.inl ()) rfl (fun i x hx _ h=>?_) (fun i x hx _ h=>?_) (fun h=>?_) (fun h=>?_) (fun k x hx hn hj=>?_)
 ·have:=len_lt hx
  have hI:InR (i:Int) (s.length:Int):=inr (by omega)
  simp only [ck_in hI,sget_at hx,ir_add1 (show i<4611686018427387904 by omega)]
  unfold ChOk at h
  (repeat' split) <;> first | rfl | (exfalso;omega)
 ·have:=len_lt hx
  have hI:InR (i:Int) (s.length:Int):=inr (by omega)
  simp only [ck_in hI,sget_at hx]
  unfold ChOk at h
  (repeat' split) <;> first | rfl | (exfalso;omega)
 ·rw [if_neg (by omega)]
 ·exact some_tb (iff_of_true rfl ⟨by omega,h⟩)
 ·exact some_tb (iff_of_false (by simp) fun h=>hn (h.2 k x hx))
theorem s_NameOk(s:List UInt8):sNameOk s=some (tb (NameOk s)):=by
 unfold sNameOk bnt lpt
 simp only [s_l1In,PN]
 refine if_tb (fun hl=>?_) (fun hl h=>hl (by have:=h.1;omega))
 refine bnd_first (fun i:Nat=>(i:Int)) s (fun i x=>ChOk x) (fun _ _=>.inr false) (.inl ()) rfl (fun i x hx _ h=>?_) (fun i x hx _ h=>?_) (fun h=>?_) (fun h=>?_) (fun k x hx hn hj=>?_)
 ·have:=len_lt hx
  have hI:InR (i:Int) (s.length:Int):=inr (by omega)
  simp only [ck_in hI,sget_at hx,ir_add1 (show i<4611686018427387904 by omega)]
  unfold ChOk at h
  (repeat' split) <;> first | rfl | (exfalso;omega)
 ·have:=len_lt hx
  have hI:InR (i:Int) (s.length:Int):=inr (by omega)
  simp only [ck_in hI,sget_at hx]
  unfold ChOk at h
  (repeat' split) <;> first | rfl | (exfalso;omega)
 ·rw [if_neg (by omega)]
 ·exact some_tb (iff_of_true rfl ⟨by omega,h⟩)
 ·exact some_tb (iff_of_false (by simp) fun h=>hn (h.2 k x hx))
/-- What a number that was read came from. -/
theorem getNum_yes{b:List UInt8}{p:Nat}{n q:Int}(h:getNum b (p:Int)=(n,q,true)):∃m c:Nat,n=(m:Int)∧q=((p+c:Nat):Int)∧0<c∧p+c≤b.length∧m≤2147483647:=by
 cases hg:getN 5 0 0 (b.drop p) with
 | none =>
  rw [getNum_no hg] at h
  injection h with _ h
  injection h with _ h
  cases h
 | some mc =>
  obtain⟨m,c⟩:=mc
  rw [getNum_of hg] at h
  injection h with h1 h
  injection h with h2 h3
  obtain⟨_,k2,k3,k4⟩:=getN_some hg
  rw [List.length_drop] at k3
  exact ⟨m,c,h1.symm,h2.symm,k2,by omega,k4⟩
noncomputable def getText(b:List UInt8)(a:Int):List UInt8 × Int × Bool :=
 if (getNum b a).2.2=true then (if (b.length:Int)-(getNum b a).2.1<(getNum b a).1 then ([],0,false) else (sb b (getNum b a).2.1 ((getNum b a).2.1+(getNum b a).1),(getNum b a).2.1+(getNum b a).1,true)) else ([],0,false)
theorem i_GetText(b:List UInt8)(p:Nat)(hb:b.length≤1000000):iGetText b (p:Int)=some (getText b (p:Int)):=by
 unfold iGetText getText
 simp only [i_GetNum b _ hb,PN]
 rcases h:getNum b (p:Int) with ⟨n,q,ok⟩
 dsimp only
 cases ok with
 | false=>simp only [cond_false];rfl
 | true =>
  obtain⟨m,c,rfl,rfl,h1,h2,h3⟩:=getNum_yes h
  simp only [cond_true,if_pos]
  rw [isub (by omega)]
  by_cases hm:(b.length:Int)-((p+c:Nat):Int)<(m:Int)
  ·rw [if_pos hm,if_pos hm]
  ·rw [if_neg hm,if_neg hm,iadd (by omega),ck_in (ins (by omega))]
theorem s_GetText(b:List UInt8)(p:Nat)(hb:b.length≤1000000):sGetText b (p:Int)=some (getText b (p:Int)):=by
 unfold sGetText getText
 simp only [s_GetNum b _ hb,PN]
 rcases h:getNum b (p:Int) with ⟨n,q,ok⟩
 dsimp only
 cases ok with
 | false=>simp only [cond_false];rfl
 | true =>
  obtain⟨m,c,rfl,rfl,h1,h2,h3⟩:=getNum_yes h
  simp only [cond_true,if_pos]
  rw [isub (by omega)]
  by_cases hm:(b.length:Int)-((p+c:Nat):Int)<(m:Int)
  ·rw [if_pos hm,if_pos hm]
  ·rw [if_neg hm,if_neg hm,iadd (by omega),ck_in (ins (by omega))]
theorem getText_yes{b:List UInt8}{p:Nat}{t:List UInt8}{q:Int}(h:getText b (p:Int)=(t,q,true)):∃k:Nat,q=(k:Int)∧p<k∧k≤b.length∧t.length≤b.length:=by
 unfold getText at h
 rcases hg:getNum b (p:Int) with ⟨n,q',ok⟩
 rw [hg] at h
 dsimp only at h
 cases ok with
 | false=>simp at h
 | true =>
  obtain⟨m,c,rfl,rfl,h1,h2,h3⟩:=getNum_yes hg
  rw [if_pos rfl] at h
  split at h
  ·injection h with _ h;injection h with _ h;cases h
  ·injection h with e1 h
   injection h with e2 _
   refine ⟨p+c+m,by omega,by omega,by omega,?_⟩
   rw [←e1,sb_eq]
   simp;omega
noncomputable def entText(e:EntryD):List UInt8:=putText e.name++putNum e.node
noncomputable def dirText(l:List EntryD):List UInt8:=l.flatMap entText
def SmallE(l:List EntryD):Prop:=l.length≤1000∧∀e∈l,e.name.length≤1000
theorem SmallE.flat{l:List EntryD}(h:SmallE l)(i:Nat):((l.take i).flatMap entText).length≤1010000:=by
 have h1:=flatMap_len entText 1010 (l.take i) fun x hx=>by
  have:=putText_len x.name
  have:=putNum_len x.node
  have:=h.2 x (List.mem_of_mem_take hx)
  unfold entText;rw [List.length_append];omega
 have:(l.take i).length≤l.length:=by simp;omega
 have:=h.1
 omega
theorem i_DirText{l:List EntryD}(h:SmallE l):iDirText l=some (dirText l):=by
 unfold iDirText bnu lpt
 simp only [i_PutNum,PN]
 have hl:=h.1
 refine bnd_flat (fun i b=>(b,(i:Int))) entText l [] (dirText l) rfl (fun i x hx=>?_) ?_ rfl
 ·have h1:=len_lt hx
  have h2:=h.flat i
  have h3:=putText_len x.name
  have h4:=h.2 x (List.mem_of_getElem? hx)
  have h5:=putNum_len x.node
  dsimp only
  rw [if_pos (by omega),gt_ok hx,bsome,i_PutText _ (by omega),bsome,ck_in (room (by omega) (by simp only [List.nil_append];omega)),ck_in (room (by omega) (by simp only [List.nil_append,List.length_append];omega)),ir_add1 (by omega)]
  unfold entText
  rw [List.append_assoc]
 ·dsimp only
  rw [if_neg (by omega),List.nil_append];rfl
theorem s_DirText{l:List EntryD}(h:SmallE l):sDirText l=some (dirText l):=by
 unfold sDirText bnu lpt
 simp only [s_PutNum,PN]
 have hl:=h.1
 refine bnd_flat (fun i b=>(b,(i:Int))) entText l [] (dirText l) rfl (fun i x hx=>?_) ?_ rfl
 ·have h1:=len_lt hx
  have h2:=h.flat i
  have h3:=putText_len x.name
  have h4:=h.2 x (List.mem_of_getElem? hx)
  have h5:=putNum_len x.node
  dsimp only
  rw [if_pos (by omega),gt_ok hx,bsome,s_PutText _ (by omega),bsome,ck_in (room (by omega) (by simp only [List.nil_append];omega)),ck_in (room (by omega) (by simp only [List.nil_append,List.length_append];omega)),ir_add1 (by omega)]
  unfold entText
  rw [List.append_assoc]
 ·dsimp only
  rw [if_neg (by omega),List.nil_append];rfl
/-! The order of texts. -/
def Lt(a b:List UInt8):Prop:=Op.bytesLess a b=true
theorem less_total:∀a b:List UInt8,(Op.bytesLess a b=false)↔(Op.bytesLess b a=true∨a=b)
 | [],[]=>by simp [Op.bytesLess]
 | [],_::_=>by simp [Op.bytesLess]
 | _::_,[]=>by simp [Op.bytesLess]
 | x::a,y::b=>by
  have ih:=less_total a b
  by_cases h:x=y
  ·subst h
   unfold Op.bytesLess
   simpa using ih
  ·have h':¬y=x:=fun e=>h e.symm
   have hn:x.toNat≠y.toNat:=fun e=>h (UInt8.toNat_inj.1 e)
   have e1:Op.bytesLess (x::a) (y::b)=decide (x<y):=by unfold Op.bytesLess;simp [h]
   have e2:Op.bytesLess (y::b) (x::a)=decide (y<x):=by unfold Op.bytesLess;simp [h']
   rw [e1,e2,decide_eq_false_iff_not,decide_eq_true_eq,UInt8.lt_iff_toNat_lt,UInt8.lt_iff_toNat_lt]
   constructor
   ·intro h1;left;omega
   ·rintro(h1 | h1)
    ·omega
    ·injection h1 with h1 _;exact absurd h1 h
theorem c_geqS(a b:List UInt8):scmp .geq a b=tb (¬Lt a b):=by
 rw [scmp_eq]
 unfold Lt
 show (!Op.bytesLess a b)=_
 cases h:Op.bytesLess a b with
 | true=>rw [tb_neg (by simp)];rfl
 | false=>rw [tb_pos (by simp)];rfl
theorem c_leqS(a b:List UInt8):scmp .leq a b=tb (¬Lt b a):=by
 rw [scmp_eq]
 unfold Lt
 show (Op.bytesLess a b || a == b)=_
 have:=less_total b a
 cases h:Op.bytesLess b a with
 | true =>
  rw [tb_neg (by simp)]
  cases h2:(Op.bytesLess a b || a == b) with
  | false=>rfl
  | true =>
   rw [Bool.or_eq_true,beq_iff_eq] at h2
   have:=this.2 (h2.imp id Eq.symm)
   rw [h] at this;cases this
 | false =>
  rw [tb_pos (by simp),Bool.or_eq_true,beq_iff_eq]
  exact (this.1 h).imp id Eq.symm
end Go.Ar
end
section
namespace Go.Ar
open Go.Proofs
set_option linter.unusedVariables false
set_option linter.unusedSimpArgs false
set_option maxRecDepth 20000
/-! ### Entries of directories -/
def EntA(l:List EntryD)(i:Nat)(e:EntryD):Prop:=(NameOk e.name∨e.name=[126])∧(1≤e.node∧e.node≤9)∧(∀p:EntryD,0<i→l[i-1]?=some p→Lt p.name e.name)
def EntP(l:List EntryD)(i:Nat)(e:EntryD):Prop:=EntA l i e∧∀ (j:Nat) (x:EntryD),j<i→l[j]?=some x→¬x.node=e.node
structure EntriesOk (l:List EntryD):Prop where
 all:∀ (i:Nat) (e:EntryD),l[i]?=some e→EntP l i e
 len:(dirText l).length≤80
theorem g_HasNode{l:List EntryD}(hl:l.length≤1000000)(nm:List UInt8)(node:Int):gslices_ContainsFunc_Entry_iEntriesOk_1 l nm node=some (tb (¬ ∀ (j:Nat) (x:EntryD),l[j]?=some x→¬x.node=node)):=by
 unfold gslices_ContainsFunc_Entry_iEntriesOk_1 gslices_IndexFunc_Entry_iEntriesOk_1 iEntriesOk_1 bnt lpt
 simp only [PN]
 rw [bnd_assoc]
 refine bnd_first (fun i:Nat=>(i:Int)) l (fun i y=>¬y.node=node) (fun i _=>.inr (i:Int)) (.inl ()) rfl (fun i y hy _ h=>?_) (fun i y hy _ h=>?_) (fun h=>?_) (fun h=>?_) (fun k y hy hn hj=>?_)
 ·have:=len_lt hy
  rw [if_pos (by omega),gt_ok hy,bsome,if_neg h,ir_add1 (by omega)]
 ·have:=len_lt hy
  rw [if_pos (by omega),gt_ok hy,bsome,if_pos (Classical.not_not.1 h)]
 ·rw [if_neg (by omega)]
 ·exact tb_some (iff_of_false (by omega) fun h2=>h2 h)
 ·exact tb_some (iff_of_true (by omega) (fun hh=>hn (hh k y hy)))
theorem take_get{α:Type}{l:List α}{i j:Nat}{x:α}:(l.take i)[j]?=some x↔j<i∧l[j]?=some x:=by
 rw [List.getElem?_take]
 split
 ·simp [*]
 ·simp [*]
theorem i_EntriesOk{l:List EntryD}(h:SmallE l):iEntriesOk l=some (tb (EntriesOk l)):=by
 refine wp_eq ?_
 have hl:=h.1
 unfold iEntriesOk bnt lpt
 simp only [i_NameOk,i_within,PN,c_geqS]
 refine wp_loop (fun s=>l.length-s.toNat) (fun s=>∃i:Nat,s=(i:Int)∧i≤l.length∧∀ (j:Nat) (e:EntryD),j<i→l[j]?=some e→EntP l j e)
  (fun r=>(r=.inl ()∧∀ (j:Nat) (e:EntryD),l[j]?=some e→EntP l j e)∨(r=.inr false∧¬EntriesOk l)) ⟨0,rfl,by omega,fun k s hk=>by omega⟩ ?_ ?_
 ·rintro j ⟨i,rfl,h2,h3⟩
  refine wp_if (fun hi=>?_) (fun hi=>wp_out (.inl ⟨rfl,fun k s hs=>h3 k s (by have:=len_lt hs;omega) hs⟩))
  obtain⟨e,he⟩:=get_some (l:=l) (i:=i) (by omega)
  rw [gt_ok he,bsome]
  refine wp_bnd (fun r=>(∃z,r=.inl z∧EntA l i e)∨(r=.inr (.inr (.inr false))∧¬EntriesOk l)) ?_ ?_
  ·have hbad:∀ {P:Prop},¬P→(EntA l i e→P)→¬EntriesOk l:=fun hn hp ho=>hn (hp (ho.all i e he).1)
   have tail:(NameOk e.name∨e.name=[126])→(1≤e.node∧e.node≤9)→Wp (fun r:(Bool × Bool) ⊕ (Int ⊕ (Unit ⊕ Bool))=>(∃z,r=.inl z∧EntA l i e)∨(r=.inr (.inr (.inr false))∧¬EntriesOk l))
     (@ite _ (0<(i:Int)) (Classical.propDecidable _) (bnd (gt l (iop .sub .i64 (i:Int) 1)) fun y=>@ite _ (¬Lt y.name e.name) (Classical.propDecidable _) (some (.inr (.inr (.inr false)))) (some (.inl (true,true)))) (some (.inl (false,false)))):=fun hn hk=>by
    refine wp_if (fun h0=>?_) (fun h0=>wp_some (.inl ⟨_,rfl,hn,hk,fun p hp=>by omega⟩))
    obtain⟨p,hp⟩:=get_some (l:=l) (i:=i-1) (by have:=len_lt he;omega)
    rw [isub (by omega),show (i:Int)-1=((i-1:Nat):Int) by omega,gt_ok hp,bsome]
    refine wp_if (fun hlt=>wp_some (.inr ⟨rfl,hbad hlt fun ha=>ha.2.2 p (by omega) hp⟩)) (fun hlt=>wp_some (.inl ⟨_,rfl,hn,hk,fun q _ hq=>?_⟩))
    rw [hp] at hq;cases hq
    exact Classical.not_not.1 hlt
   refine wp_if (fun hn=>wp_if (fun hk=>tail (.inl hn) hk) (fun hk=>wp_some (.inr ⟨rfl,hbad hk fun ha=>ha.2.1⟩))) (fun hn=>?_)
   refine wp_if (fun h126=>wp_some (.inr ⟨rfl,hbad (P:=NameOk e.name∨e.name=[126]) (fun hh=>hh.elim hn h126) fun ha=>ha.1⟩)) (fun h126=>?_)
   exact wp_if (fun hk=>tail (.inr (Classical.not_not.1 h126)) hk) (fun hk=>wp_some (.inr ⟨rfl,hbad hk fun ha=>ha.2.1⟩))
  ·rintro r (⟨z,rfl,ha⟩ | ⟨rfl,hno⟩)
   ·rw [Sum.elim_inl,ck_in (ins (by omega)),sb_to,g_HasNode (by simp;omega),bsome,cond_tb]
    refine wp_if (fun hh=>wp_out (.inr ⟨rfl,fun ho=>hh fun j x hx=>?_⟩)) (fun hh=>?_)
    ·obtain⟨h1,h2⟩:=take_get.1 hx
     exact (ho.all i e he).2 j x h1 h2
    ·have hh:=Classical.not_not.1 hh
     refine wp_back ⟨i+1,ir_add1 (by omega),by omega,fun j x hj hx=>?_⟩ (by rw [ir_add1 (by omega)];omega)
     by_cases e0:j=i
     ·subst e0
      rw [he] at hx;cases hx
      exact ⟨ha,fun k y hk hy=>hh k y (take_get.2 ⟨hk,hy⟩)⟩
     ·exact h3 j x (by omega) hx
   ·exact wp_out (.inr ⟨rfl,hno⟩)
 ·rintro r (⟨rfl,ha⟩ | ⟨rfl,hno⟩)
  ·rw [Sum.elim_inl,i_DirText h,bsome]
   exact wp_some (tb_congr ⟨fun hh=>⟨ha,by omega⟩,fun ho=>by have:=ho.len;omega⟩)
  ·exact wp_no hno
theorem s_l8Name(s:List UInt8):sl8Name s=some (tb (NameOk s∨s=[126])):=by
 unfold sl8Name
 simp only [s_NameOk,PN]
 by_cases h:s=[126]
 ·rw [if_pos h,tb_pos (.inr h)]
 ·rw [if_neg h]
  exact tb_some ⟨.inl,fun hh=>hh.resolve_right h⟩
theorem s_EntriesOk{l:List EntryD}(h:SmallE l):sEntriesOk l=some (tb (EntriesOk l)):=by
 refine wp_eq ?_
 have hl:=h.1
 unfold sEntriesOk bnt lpt
 simp only [s_l8Name,s_l1In,PN,c_leqS]
 refine wp_loop (fun s=>l.length-s.toNat) (fun s=>∃i:Nat,s=(i:Int)∧i≤l.length∧∀ (j:Nat) (e:EntryD),j<i→l[j]?=some e→EntP l j e)
  (fun r=>(r=.inl ()∧∀ (j:Nat) (e:EntryD),l[j]?=some e→EntP l j e)∨(r=.inr false∧¬EntriesOk l)) ⟨0,rfl,by omega,fun k s hk=>by omega⟩ ?_ ?_
 ·rintro j ⟨i,rfl,h2,h3⟩
  refine wp_if (fun hi=>?_) (fun hi=>wp_out (.inl ⟨rfl,fun k s hs=>h3 k s (by have:=len_lt hs;omega) hs⟩))
  obtain⟨e,he⟩:=get_some (l:=l) (i:=i) (by omega)
  rw [gt_ok he,bsome]
  have hbad:∀ {P:Prop},¬P→(EntA l i e→P)→¬EntriesOk l:=fun hn hp ho=>hn (hp (ho.all i e he).1)
  refine wp_bnd (fun r=>(∃z,r=.inl z∧EntP l i e)∨(r=.inr (.inr (.inr false))∧¬EntriesOk l)) ?_ ?_
  ·refine wp_bnd (fun r=>(∃z,r=.inl z∧EntA l i e)∨(r=.inr (.inr (.inr (.inr false)))∧¬EntriesOk l)) ?_ ?_
   ·refine wp_if (fun hn=>wp_if (fun hk=>?_) (fun hk=>wp_some (.inr ⟨rfl,hbad hk fun ha=>ha.2.1⟩))) (fun hn=>wp_some (.inr ⟨rfl,hbad hn fun ha=>ha.1⟩))
    refine wp_if (fun h0=>?_) (fun h0=>wp_some (.inl ⟨_,rfl,hn,hk,fun p hp=>by omega⟩))
    obtain⟨p,hp⟩:=get_some (l:=l) (i:=i-1) (by have:=len_lt he;omega)
    rw [isub (by omega),show (i:Int)-1=((i-1:Nat):Int) by omega,gt_ok hp,bsome]
    refine wp_if (fun hlt=>wp_some (.inr ⟨rfl,hbad hlt fun ha=>ha.2.2 p (by omega) hp⟩)) (fun hlt=>wp_some (.inl ⟨_,rfl,hn,hk,fun q _ hq=>?_⟩))
    rw [hp] at hq;cases hq
    exact Classical.not_not.1 hlt
   ·rintro r (⟨z,rfl,ha⟩ | ⟨rfl,hno⟩)
    ·rw [Sum.elim_inl]
     refine wp_lp (fun s=>i-s.toNat) (fun s=>∃k:Nat,s=(k:Int)∧k≤i∧∀ (j:Nat) (x:EntryD),j<k→l[j]?=some x→¬x.node=e.node) ⟨0,rfl,by omega,fun j x hj=>by omega⟩ ?_
     rintro q ⟨k,rfl,hk,hk2⟩
     refine wp_if (fun hlt=>?_) (fun hlt=>wp_out (.inl ⟨_,rfl,ha,fun j x hj hx=>hk2 j x (by omega) hx⟩))
     obtain⟨x,hx⟩:=get_some (l:=l) (i:=k) (by have:=len_lt he;omega)
     rw [gt_ok hx,bsome,bsome]
     refine wp_if (fun heq=>wp_out (.inr ⟨rfl,fun ho=>(ho.all i e he).2 k x (by omega) hx heq⟩)) (fun hne=>?_)
     refine wp_back ⟨k+1,ir_add1 (by omega),by omega,fun j y hj hy=>?_⟩ (by rw [ir_add1 (by omega)];omega)
     by_cases e0:j=k
     ·subst e0
      rw [hx] at hy;cases hy
      exact hne
     ·exact hk2 j y (by omega) hy
    ·exact wp_some (.inr ⟨rfl,hno⟩)
  ·rintro r (⟨z,rfl,ha⟩ | ⟨rfl,hno⟩)
   ·rw [Sum.elim_inl]
    refine wp_back ⟨i+1,ir_add1 (by omega),by omega,fun j x hj hx=>?_⟩ (by rw [ir_add1 (by omega)];omega)
    by_cases e0:j=i
    ·subst e0
     rw [he] at hx;cases hx
     exact ha
    ·exact h3 j x (by omega) hx
   ·exact wp_out (.inr ⟨rfl,hno⟩)
 ·rintro r (⟨rfl,ha⟩ | ⟨rfl,hno⟩)
  ·rw [Sum.elim_inl,s_DirText h,bsome]
   exact wp_some (tb_congr ⟨fun hh=>⟨ha,by omega⟩,fun ho=>by have:=ho.len;omega⟩)
  ·exact wp_no hno
/-! ### Directories read -/
noncomputable def dp(b:List UInt8):Nat→Nat→List EntryD→Option (List EntryD)
 | 0,_,_=>none
 | f+1,p,acc=>if p<b.length then
   (if (getText b (p:Int)).2.2=true then (if (getNum b (getText b (p:Int)).2.1).2.2=true then dp b f (getNum b (getText b (p:Int)).2.1).2.1.toNat (acc++[⟨(getText b (p:Int)).1,(getNum b (getText b (p:Int)).2.1).1⟩]) else none) else none) else some acc
theorem dp_succ (b : List UInt8) (f p : Nat) (acc : List EntryD) : dp b (f + 1) p acc = if p < b.length then
   (if (getText b (p:Int)).2.2=true then (if (getNum b (getText b (p:Int)).2.1).2.2=true then dp b f (getNum b (getText b (p:Int)).2.1).2.1.toNat (acc++[⟨(getText b (p:Int)).1,(getNum b (getText b (p:Int)).2.1).1⟩]) else none) else none) else some acc:=rfl
open Classical in
noncomputable def dirOf(b:List UInt8):List EntryD × Bool:=match dp b (b.length+1) 0 [] with
 | some l=>if EntriesOk l then (l,true) else ([],false)
 | none=>([],false)
theorem i_DirOf(b:List UInt8)(hb:b.length≤900):iDirOf b=some (dirOf b):=by
 refine wp_eq ?_
 unfold iDirOf bnt lpt
 simp only [i_GetNum b _ (show b.length≤1000000 by omega),PN]
 refine wp_ck (room (by omega) (by omega)) ?_
 refine wp_loop (fun s=>b.length-s.2.toNat) (fun s=>∃ (p f:Nat),s.2=(p:Int)∧p≤b.length∧s.1.length≤p∧(∀e∈s.1,e.name.length≤b.length)∧b.length-p<f∧dp b (b.length+1) 0 []=dp b f p s.1)
  (fun r=>(∃l,r=.inl l∧l.length≤b.length∧(∀e∈l,e.name.length≤b.length)∧dp b (b.length+1) 0 []=some l)∨(r=.inr ([],false)∧dp b (b.length+1) 0 []=none)) ⟨0,b.length+1,rfl,by omega,by simp,(fun e he=>by cases he),by omega,rfl⟩ ?_ ?_
 ·rintro⟨acc,q⟩ ⟨p,f,h1,h2,h3,h4,h5,h6⟩
  dsimp only at h1 h3 h4 h6 ⊢
  subst h1
  obtain⟨f,rfl⟩:∃g,f=g+1:=⟨f-1,by omega⟩
  rw [dp_succ b f p acc] at h6
  refine wp_if (fun hp=>?_) (fun hp=>wp_out (.inl ⟨_,rfl,by omega,h4,by rw [h6,if_neg (by omega)]⟩))
  rw [if_pos (by omega)] at h6
  rw [i_GetText b p (by omega),bsome]
  rcases ht:getText b (p:Int) with ⟨t,k,ok⟩
  rw [ht] at h6
  dsimp only at h6 ⊢
  cases ok with
  | false=>simp only [cond_false];exact wp_out (.inr ⟨rfl,by rw [h6,if_neg (by simp)]⟩)
  | true =>
   obtain⟨k,rfl,k1,k2,k3⟩:=getText_yes ht
   rw [if_pos rfl] at h6
   rcases hg:getNum b (k:Int) with ⟨n,r,ok⟩
   rw [hg] at h6
   dsimp only at h6 ⊢
   simp only [cond_true]
   cases ok with
   | false=>simp only [cond_false];exact wp_out (.inr ⟨rfl,by rw [h6,if_neg (by simp)]⟩)
   | true =>
    obtain⟨m,c,rfl,rfl,q1,q2,q3⟩:=getNum_yes hg
    rw [if_pos rfl,Int.toNat_natCast] at h6
    simp only [cond_true]
    refine wp_ck (room (by omega) (by omega)) (wp_back ⟨k+c,f,rfl,q2,by simp;omega,fun e he=>?_,by omega,h6⟩ (by dsimp only;omega))
    rcases List.mem_append.1 he with he | he
    ·exact h4 e he
    ·obtain rfl:=List.mem_singleton.1 he
     exact k3
 ·rintro r (⟨l,rfl,k1,k2,k3⟩ | ⟨rfl,hno⟩)
  ·rw [Sum.elim_inl,i_EntriesOk ⟨by omega,fun e he=>by have:=k2 e he;omega⟩,bsome,cond_tb]
   exact wp_if (fun ho=>wp_some (by unfold dirOf;rw [k3];dsimp only;rw [if_pos ho])) (fun ho=>wp_some (by unfold dirOf;rw [k3];dsimp only;rw [if_neg ho]))
  ·exact wp_some (by unfold dirOf;rw [hno])
theorem s_DirOf(b:List UInt8)(hb:b.length≤900):sDirOf b=some (dirOf b):=by
 refine wp_eq ?_
 unfold sDirOf bnt lpt
 simp only [s_GetNum b _ (show b.length≤1000000 by omega),PN]
 refine wp_ck (room (by omega) (by omega)) ?_
 refine wp_loop (fun s=>b.length-s.2.toNat) (fun s=>∃ (p f:Nat),s.2=(p:Int)∧p≤b.length∧s.1.length≤p∧(∀e∈s.1,e.name.length≤b.length)∧b.length-p<f∧dp b (b.length+1) 0 []=dp b f p s.1)
  (fun r=>(∃l,r=.inl l∧l.length≤b.length∧(∀e∈l,e.name.length≤b.length)∧dp b (b.length+1) 0 []=some l)∨(r=.inr ([],false)∧dp b (b.length+1) 0 []=none)) ⟨0,b.length+1,rfl,by omega,by simp,(fun e he=>by cases he),by omega,rfl⟩ ?_ ?_
 ·rintro⟨acc,q⟩ ⟨p,f,h1,h2,h3,h4,h5,h6⟩
  dsimp only at h1 h3 h4 h6 ⊢
  subst h1
  obtain⟨f,rfl⟩:∃g,f=g+1:=⟨f-1,by omega⟩
  rw [dp_succ b f p acc] at h6
  refine wp_if (fun hp=>?_) (fun hp=>wp_out (.inl ⟨_,rfl,by omega,h4,by rw [h6,if_neg (by omega)]⟩))
  rw [if_pos (by omega)] at h6
  rw [s_GetText b p (by omega),bsome]
  rcases ht:getText b (p:Int) with ⟨t,k,ok⟩
  rw [ht] at h6
  dsimp only at h6 ⊢
  cases ok with
  | false=>simp only [cond_false];exact wp_out (.inr ⟨rfl,by rw [h6,if_neg (by simp)]⟩)
  | true =>
   obtain⟨k,rfl,k1,k2,k3⟩:=getText_yes ht
   rw [if_pos rfl] at h6
   rcases hg:getNum b (k:Int) with ⟨n,r,ok⟩
   rw [hg] at h6
   dsimp only at h6 ⊢
   simp only [cond_true]
   cases ok with
   | false=>simp only [cond_false];exact wp_out (.inr ⟨rfl,by rw [h6,if_neg (by simp)]⟩)
   | true =>
    obtain⟨m,c,rfl,rfl,q1,q2,q3⟩:=getNum_yes hg
    rw [if_pos rfl,Int.toNat_natCast] at h6
    simp only [cond_true]
    refine wp_ck (room (by omega) (by omega)) (wp_back ⟨k+c,f,rfl,q2,by simp;omega,fun e he=>?_,by omega,h6⟩ (by dsimp only;omega))
    rcases List.mem_append.1 he with he | he
    ·exact h4 e he
    ·obtain rfl:=List.mem_singleton.1 he
     exact k3
 ·rintro r (⟨l,rfl,k1,k2,k3⟩ | ⟨rfl,hno⟩)
  ·rw [Sum.elim_inl,s_EntriesOk ⟨by omega,fun e he=>by have:=k2 e he;omega⟩,bsome,cond_tb]
   exact wp_if (fun ho=>wp_some (by unfold dirOf;rw [k3];dsimp only;rw [if_pos ho])) (fun ho=>wp_some (by unfold dirOf;rw [k3];dsimp only;rw [if_neg ho]))
  ·exact wp_some (by unfold dirOf;rw [hno])
end Go.Ar
end
section
namespace Go.Ar
open Go.Proofs
set_option linter.unusedVariables false
set_option linter.unusedSimpArgs false
set_option maxRecDepth 20000
/-! ### What a node holds -/
def content(f:FsD)(n:NodeD):List UInt8:=n.blocks.flatMap fun b=>f.data.getD b.toNat []
theorem ShapeOk.blk{f:FsD}(hs:ShapeOk f){i:Nat}{n:NodeD}(hn:f.nodes[i]?=some n){k:Nat}{b:Int}(hb:n.blocks[k]?=some b):0≤b∧∃s,f.data[b.toNat]?=some s∧s.length≤16:=by
 have h1:=hs.good.1 b (blk_mem hn hb)
 obtain⟨s,h2⟩:=get_some (l:=f.data) (i:=b.toNat) (by omega)
 exact ⟨h1.1,s,h2,(hs.data _ _ h2).1⟩
theorem content_le{f:FsD}(hs:ShapeOk f){i:Nat}{n:NodeD}(hn:f.nodes[i]?=some n)(q:Nat):((n.blocks.take q).flatMap fun b=>f.data.getD b.toNat []).length≤80:=by
 have h1:=flatMap_len (fun b:Int=>f.data.getD b.toNat []) 16 (n.blocks.take q) fun b hb=>by
  obtain⟨k,hk⟩:=List.mem_iff_getElem?.1 (List.mem_of_mem_take hb)
  obtain⟨_,s,h2,h3⟩:=hs.blk hn hk
  rw [List.getD_eq_getElem?_getD,h2];exact h3
 have h2:=(hs.nodes i n hn).len
 have:(n.blocks.take q).length≤n.blocks.length:=by simp;omega
 omega
theorem i_content{f:FsD}(hs:ShapeOk f){i:Nat}{n:NodeD}(hn:f.nodes[i]?=some n):icontent f (i:Int)=some (content f n):=by
 unfold icontent bnu lpt
 simp only [PN]
 rw [gt_ok hn,bsome]
 refine bnd_flat (fun i b=>(b,(i:Int))) (fun b=>f.data.getD b.toNat []) n.blocks [] (content f n) rfl (fun q b hb=>?_) ?_ rfl
 ·have h1:=len_lt hb
  have h2:=(hs.nodes i n hn).len
  obtain⟨h3,s,h4,h5⟩:=hs.blk hn hb
  have h6:=content_le hs hn q
  dsimp only
  rw [if_pos (by omega),gt_ok hb,bsome,gtI h3 h4,bsome,ck_in (room (by omega) (by simp only [List.nil_append];omega)),ir_add1 (by omega),List.getD_eq_getElem?_getD,h4]
  rfl
 ·dsimp only
  rw [if_neg (by omega),List.nil_append];rfl
theorem s_content{f:FsD}(hs:ShapeOk f){i:Nat}{n:NodeD}(hn:f.nodes[i]?=some n):sl7Read f (i:Int)=some (content f n):=by
 unfold sl7Read bnu lpt
 simp only [PN]
 refine bnd_flat (fun i b=>(b,(i:Int))) (fun b=>f.data.getD b.toNat []) n.blocks [] (content f n) rfl (fun q b hb=>?_) ?_ rfl
 ·have h1:=len_lt hb
  have h2:=(hs.nodes i n hn).len
  obtain⟨h3,s,h4,h5⟩:=hs.blk hn hb
  have h6:=content_le hs hn q
  dsimp only
  rw [gt_ok hn,bsome,if_pos (by omega),gt_ok hb,bsome,gtI h3 h4,bsome,ck_in (room (by omega) (by simp only [List.nil_append];omega)),ir_add1 (by omega),List.getD_eq_getElem?_getD,h4]
  rfl
 ·dsimp only
  rw [gt_ok hn,bsome,if_neg (by omega),List.nil_append];rfl
noncomputable def dirAt(f:FsD)(n:NodeD):List EntryD × Bool:=dirOf (content f n)
theorem content_len{f:FsD}(hs:ShapeOk f){i:Nat}{n:NodeD}(hn:f.nodes[i]?=some n):(content f n).length≤80:=by
 have:=content_le hs hn n.blocks.length
 rwa [List.take_length] at this
theorem i_entries{f:FsD}(hs:ShapeOk f){i:Nat}{n:NodeD}(hn:f.nodes[i]?=some n):ientries f (i:Int)=some (dirAt f n):=by
 unfold ientries dirAt
 rw [i_content hs hn,bsome,i_DirOf _ (by have:=content_len hs hn;omega),bsome]
theorem s_l9Dir{f:FsD}(hs:ShapeOk f){i:Nat}{n:NodeD}(hn:f.nodes[i]?=some n)(hk:n.kind=2):sl9Dir f (i:Int)=some (dirAt f n):=by
 unfold sl9Dir dirAt
 simp only [PN]
 rw [gt_ok hn,bsome,if_neg (fun h=>h hk),s_content hs hn,bsome,s_DirOf _ (by have:=content_len hs hn;omega),bsome]
theorem dirOf_ok{b:List UInt8}{l:List EntryD}(h:dirOf b=(l,true)):EntriesOk l:=by
 unfold dirOf at h
 cases hd:dp b (b.length+1) 0 [] with
 | none=>rw [hd] at h;injection h with _ h;cases h
 | some l0 =>
  rw [hd] at h
  dsimp only at h
  by_cases ho:EntriesOk l0
  ·rw [if_pos ho] at h
   injection h with h _
   exact h▸ho
  ·rw [if_neg ho] at h
   injection h with _ h;cases h
theorem len_flat{α β:Type}(g:α→List β)(l:List α)(h:∀x∈l,1≤(g x).length):l.length≤(l.flatMap g).length:=by
 induction l with
 | nil=>simp
 | cons x l ih =>
  have h1:=h x (by simp)
  have h2:=ih fun y hy=>h y (by simp [hy])
  simp only [List.flatMap_cons,List.length_append,List.length_cons]
  omega
theorem EntriesOk.n80{l:List EntryD}(h:EntriesOk l):l.length≤80:=by
 refine Nat.le_trans (len_flat entText l fun e he=>?_) h.len
 obtain⟨k,hk⟩:=List.mem_iff_getElem?.1 he
 have h1:=(h.all k e hk).1.2.1
 have h2:=putNat_pos e.node.toNat
 rw [←putNum_in (x:=e.node) (by omega)] at h2
 unfold entText
 rw [List.length_append];omega
theorem if_skip{γ:Type}{c1 c2:Prop}{d1:Decidable c1}{d2:Decidable c2}{x y:γ}(h:¬ (c1∧c2)):@ite _ c1 d1 (@ite _ c2 d2 x y) y=y:=by
 split
 ·split
  ·exact absurd ⟨by assumption,by assumption⟩ h
  ·rfl
 ·rfl
theorem if_skip2{γ:Type}{c1 c2 c3:Prop}{d1:Decidable c1}{d2:Decidable c2}{d3:Decidable c3}{x z y:γ}(h:¬ (c1∧(c2∨c3))):@ite _ c1 d1 (@ite _ c2 d2 x (@ite _ c3 d3 z y)) y=y:=by
 split
 ·split
  ·exact absurd ⟨by assumption,.inl (by assumption)⟩ h
  ·split
   ·exact absurd ⟨by assumption,.inr (by assumption)⟩ h
   ·rfl
 ·rfl
/-! ### The nodes below a directory -/
def At(s:List Int)(k:Int):Int:=s.getD k.toNat 0
noncomputable def visE(rec:Int→Nat→List Int→Option (List Int))(f:FsD)(i:Int)(d:Nat)(s:List Int)(e:EntryD):Option (List Int):=open Classical in
 if (f.nodes.length:Int)≤e.node∨(f.nodes.getD e.node.toNat nodeZ).kind=0∨0<At s e.node then none
 else if e.name=[126]∧(¬i=0∨¬ (f.nodes.getD e.node.toNat nodeZ).kind=1) then none
 else if (f.nodes.getD e.node.toNat nodeZ).kind=2 then rec e.node (d+1) (s.set e.node.toNat 1) else some (s.set e.node.toNat 1)
noncomputable def foldE(g:List Int→EntryD→Option (List Int)):List EntryD→List Int→Option (List Int)
 | [],s=>some s
 | e::l,s=>(g s e).bind fun t=>foldE g l t
noncomputable def vis(f:FsD):Nat→Int→Nat→List Int→Option (List Int)
 | 0,_,_,_=>none
 | k+1,i,d,s=>@ite _ ((dirAt f (f.nodes.getD i.toNat nodeZ)).2=false∨(d=4∧¬ (dirAt f (f.nodes.getD i.toNat nodeZ)).1=[])) (Classical.propDecidable _) none
  (foldE (visE (vis f k) f i d) (dirAt f (f.nodes.getD i.toNat nodeZ)).1 s)
structure SeenOk (f:FsD) (s:List Int):Prop where
 len:s.length=f.nodes.length
 bit:∀ (k:Nat) (x:Int),s[k]?=some x→x=0∨x=1
 free:∀ (k:Nat) (n:NodeD),f.nodes[k]?=some n→n.kind=0→s[k]?=some 0
theorem SeenOk.set{f:FsD}{s:List Int}(h:SeenOk f s){k:Nat}{n:NodeD}(hn:f.nodes[k]?=some n)(hk:¬n.kind=0):SeenOk f (s.set k 1):=by
 refine ⟨by simpa using h.len,fun j x hx=>?_,fun j m hm hz=>?_⟩
 ·rw [List.getElem?_set] at hx
  split at hx
  ·split at hx
   ·cases hx;exact .inr rfl
   ·cases hx
  ·exact h.bit j x hx
 ·rw [List.getElem?_set_ne]
  ·exact h.free j m hm hz
  ·intro e
   subst e
   rw [hn] at hm;cases hm
   exact hk hz
theorem at_get{s:List Int}{k:Int}{x:Int}(h:s[k.toNat]?=some x):At s k=x:=by unfold At;rw [List.getD_eq_getElem?_getD,h];rfl
theorem getD_get{l:List NodeD}{k:Nat}{n:NodeD}(h:l[k]?=some n):l.getD k nodeZ=n:=by rw [List.getD_eq_getElem?_getD,h];rfl
theorem foldE_step{g:List Int→EntryD→Option (List Int)}{l:List EntryD}{j:Nat}{e:EntryD}(he:l[j]?=some e)(s:List Int):foldE g (l.drop j) s=(g s e).bind fun t=>foldE g (l.drop (j+1)) t:=by
 rw [drop_at he];rfl
theorem vis_succ(f:FsD)(k:Nat)(i:Int)(d:Nat)(s:List Int):vis f (k+1) i d s=@ite _ ((dirAt f (f.nodes.getD i.toNat nodeZ)).2=false∨(d=4∧¬ (dirAt f (f.nodes.getD i.toNat nodeZ)).1=[])) (Classical.propDecidable _) none
  (foldE (visE (vis f k) f i d) (dirAt f (f.nodes.getD i.toNat nodeZ)).1 s):=rfl
theorem i_visit{f:FsD}(hs:ShapeOk f):∀ (k:Nat) (i d:Nat) (n:NodeD) (s:List Int),d≤4→6≤k+d→f.nodes[i]?=some n→SeenOk f s →
  Wp (fun r:Bool × List Int=>(∃t,vis f k (i:Int) d s=some t∧r=(true,t)∧SeenOk f t)∨(vis f k (i:Int) d s=none∧r.1=false)) (ivisitN k f (i:Int) (d:Int) s):=by
 intro k
 induction k with
 | zero=>intro i d n s h1 h2;omega
 | succ k ih =>
  intro i d n s hd hk hn hS
  have hv:=vis_succ f k (i:Int) d s
  rw [Int.toNat_natCast,getD_get hn] at hv
  rw [ivisitN,i_entries hs hn,bsome];unfold bgt lpg
  rcases hD:dirAt f n with ⟨l,ok⟩
  rw [hD] at hv
  dsimp only at hv ⊢
  simp only [PN]
  cases ok with
  | false =>
   rw [if_pos (.inl rfl)] at hv
   simp only [cond_false,bsome,Sum.elim_inr]
   exact wp_some (.inr ⟨hv,rfl⟩)
  | true =>
   have hE:=dirOf_ok hD
   have hl9:=hE.n80
   simp only [cond_true,bite,bsome,Sum.elim_inl,Sum.elim_inr]
   by_cases hc:d=4∧¬l=[]
   ·rw [if_pos (.inr hc)] at hv
    have hl0:0<l.length:=by
     cases l with
     | nil=>exact absurd rfl hc.2
     | cons _ _=>simp
    rw [if_pos (show (d:Int)=4 by omega),if_pos (by omega)]
    exact wp_some (.inr ⟨hv,rfl⟩)
   ·rw [if_neg (by simpa using hc)] at hv
    rw [if_skip (fun hh=>hc ⟨by omega,fun hl=>by rw [hl] at hh;simp at hh⟩)]
    generalize hV:vis f (k+1) (i:Int) d s=V at *
    refine wp_loop (fun x=>l.length-x.1.toNat) (fun x=>∃j:Nat,x.1=(j:Int)∧j≤l.length∧SeenOk f x.2∧V=foldE (visE (vis f k) f (i:Int) d) (l.drop j) x.2)
     (fun r=>(∃t,r=.inl t∧V=some t∧SeenOk f t)∨∃q:Bool × List Int,r=.inr q∧V=none∧q.1=false)
     ⟨0,rfl,by omega,hS,by rw [hv,List.drop_zero]⟩ ?_ ?_
    ·rintro⟨a,t⟩ ⟨j,e1,h6,h7,h8⟩
     dsimp only at e1 h7 h8 ⊢
     subst e1
     refine wp_if (fun hj=>?_) (fun hj=>wp_out (.inl ⟨t,rfl,by rw [h8,List.drop_eq_nil_of_le (by omega)];rfl,h7⟩))
     obtain⟨e,he⟩:=get_some (l:=l) (i:=j) (by omega)
     have hen:=(hE.all j e he).1.2.1
     rw [foldE_step he] at h8
     have hno:visE (vis f k) f (i:Int) d t e=none→V=none:=fun h=>by rw [h8,h];rfl
     rw [gt_ok he,bsome]
     refine wp_if (fun hge=>wp_out (.inr ⟨_,rfl,hno (by unfold visE;rw [if_pos (.inl hge)]),rfl⟩)) (fun hlt=>?_)
     obtain⟨m,hm⟩:=get_some (l:=f.nodes) (i:=e.node.toNat) (by omega)
     rw [gtI (by omega) hm,bsome]
     refine wp_if (fun hz=>wp_out (.inr ⟨_,rfl,hno (by unfold visE;rw [if_pos (.inr (.inl (by rw [getD_get hm];exact hz)))]),rfl⟩)) (fun hz=>?_)
     obtain⟨x,hx⟩:=get_some (l:=t) (i:=e.node.toNat) (by rw [h7.len];omega)
     rw [gtI (by omega) hx,bsome]
     refine wp_if (fun hp=>wp_out (.inr ⟨_,rfl,hno (by unfold visE;rw [if_pos (.inr (.inr (by rw [at_get hx];exact hp)))]),rfl⟩)) (fun hp=>?_)
     have hx0:x=0:=(h7.bit _ _ hx).resolve_right (by omega)
     subst hx0
     have hset:sl t e.node (iop .add .i64 0 1)=t.set e.node.toNat 1:=by rw [sl_eq,iadd (by omega)];rfl
     have hS':=h7.set hm hz
     have hbase:¬ ((f.nodes.length:Int)≤e.node∨(f.nodes.getD e.node.toNat nodeZ).kind=0∨0<At t e.node):=by
      rw [getD_get hm,at_get hx]
      rintro(h | h | h)
      ·exact hlt h
      ·exact hz h
      ·omega
     rw [hset]
     by_cases hh:e.name=[126]∧(¬ (i:Int)=0∨¬m.kind=1)
     ·have bad:V=none:=hno (by unfold visE;rw [if_neg hbase,getD_get hm,if_pos hh])
      exact wp_if (fun h126=>wp_if (fun _=>wp_out (.inr ⟨_,rfl,bad,rfl⟩)) (fun hi0=>wp_if (fun _=>wp_out (.inr ⟨_,rfl,bad,rfl⟩)) (fun hk1=>(hh.2.elim (absurd · hi0) (absurd · hk1))))) (fun h126=>absurd hh.1 h126)
     ·rw [if_skip2 hh]
      refine wp_if (fun h2=>?_) (fun h2=>?_)
      ·have hd3:d≤3:=by
        have:¬d=4:=fun h4=>hc ⟨h4,fun hl=>by rw [hl] at he;simp at he⟩
        omega
       have hrec:=ih e.node.toNat (d+1) m (t.set e.node.toNat 1) (by omega) (by omega) hm hS'
       rw [Int.toNat_of_nonneg (by omega)] at hrec
       have hve:visE (vis f k) f (i:Int) d t e=vis f k e.node (d+1) (t.set e.node.toNat 1):=by
        unfold visE
        rw [if_neg hbase,getD_get hm,if_neg hh,if_pos h2]
       rw [ir_add1 (show d<4611686018427387904 by omega)]
       refine wp_bnd _ hrec ?_
       rintro⟨b,u⟩ (⟨t',q1,q2,q3⟩ | ⟨q1,q2⟩)
       ·injection q2 with q2 q4
        subst q2 q4
        simp only [cond_true]
        refine wp_back ⟨j+1,ir_add1 (by omega),by omega,q3,?_⟩ (by dsimp only;rw [ir_add1 (by omega)];omega)
        rw [h8,hve,q1];rfl
       ·dsimp only at q2
        subst q2
        simp only [cond_false]
        exact wp_out (.inr ⟨_,rfl,hno (by rw [hve];exact q1),rfl⟩)
      ·have hve:visE (vis f k) f (i:Int) d t e=some (t.set e.node.toNat 1):=by
        unfold visE
        rw [if_neg hbase,getD_get hm,if_neg hh,if_neg h2]
       refine wp_back ⟨j+1,ir_add1 (by omega),by omega,hS',?_⟩ (by dsimp only;rw [ir_add1 (by omega)];omega)
       rw [h8,hve];rfl
    ·rintro r (⟨t,rfl,q1,q2⟩ | ⟨q,rfl,q1,q2⟩)
     ·exact wp_some (.inl ⟨t,q1,rfl,q2⟩)
     ·exact wp_some (.inr ⟨q1,q2⟩)
end Go.Ar
end
section
namespace Go.Ar
open Go.Proofs
set_option linter.unusedVariables false
set_option linter.unusedSimpArgs false
set_option maxRecDepth 20000
/-! ### More fuel changes nothing -/
def LeO{α:Type}(x y:Option α):Prop := ∀r,x=some r→y=some r
theorem LeO.rfl{α:Type}(x:Option α):LeO x x:=fun _ h=>h
theorem bnd_le{α β:Type}{x x':Option α}{f f':α→Option β}(h:LeO x x')(k:∀y,LeO (f y) (f' y)):LeO (bnd x f) (bnd x' f'):=fun r hr=>by
 obtain⟨y,h1,h2⟩:=bnd_out hr
 rw [bnd_in (h y h1)]
 exact k y r h2
theorem cond_le{α:Type}{b:Bool}{x y x' y':Option α}(h1:LeO x x')(h2:LeO y y'):LeO (cond b x y) (cond b x' y'):=by
 cases b with
 | true=>exact h1
 | false=>exact h2
theorem ck_le{α:Type}{P:Prop}{x x':Option α}(h:LeO x x'):LeO (ck P x) (ck P x'):=fun r hr=>by
 obtain⟨h1,h2⟩:=ck_out hr
 rw [ck_in h1];exact h r h2
theorem elim_le{α β γ:Type}{f f':α→Option γ}{g g':β→Option γ}(h1:∀a,LeO (f a) (f' a))(h2:∀b,LeO (g b) (g' b))(y:α ⊕ β):LeO (Sum.elim f g y) (Sum.elim f' g' y):=by
 cases y with
 | inl a=>exact h1 a
 | inr b=>exact h2 b
theorem lp_le{σ ρ:Type}{f f':σ→Option (σ ⊕ ρ)}(h:∀s,LeO (f s) (f' s))(s0:σ):LeO (lp f s0) (lp f' s0):=fun r hr=>by
 obtain⟨n,hn⟩:=lp_run hr
 refine lp_of (n:=n) ?_
 have key:∀n s,runN f n s=some r→runN f' n s=some r:=by
  intro n
  induction n with
  | zero=>intro s h;cases h
  | succ n ih =>
   intro s hs
   obtain⟨m,e,x,h1,h2⟩:=runN_out hs
   injection e with e
   subst e
   unfold runN
   rw [h s x h1]
   rcases h2 with ⟨s',rfl,h2⟩ | rfl
   ·exact ih s' h2
   ·rfl
 exact key n s0 hn
theorem ivisit_up:∀ (n:Nat) (a0:FsD) (a1 a2:Int) (a3:List Int),LeO (ivisitN n a0 a1 a2 a3) (ivisitN (n+1) a0 a1 a2 a3):=by
 intro n
 induction n with
 | zero=>intro a0 a1 a2 a3 r h;cases h
 | succ n ih =>
  intro a0 a1 a2 a3
  refine bnd_le (LeO.rfl (ientries a0 a1)) fun r2=>?_
  refine bnd_le (LeO.rfl _) fun r=>elim_le (fun _=>?_) (fun _=>LeO.rfl _) r
  refine bnd_le (lp_le (fun s=>?_) _) fun r=>elim_le (fun _=>LeO.rfl _) (fun _=>LeO.rfl _) r
  refine cond_le (bnd_le (LeO.rfl _) fun y=>cond_le (LeO.rfl _) (bnd_le (LeO.rfl _) fun y2=>cond_le (LeO.rfl _) (bnd_le (LeO.rfl _) fun y3=>cond_le (LeO.rfl _) ?_))) (LeO.rfl _)
  refine bnd_le (LeO.rfl _) fun r=>elim_le (fun _=>?_) (fun _=>LeO.rfl _) r
  exact cond_le (bnd_le (ih _ _ _ _) fun _=>LeO.rfl _) (LeO.rfl _)
theorem sl9Seen_up:∀ (n:Nat) (a0:FsD) (a1 a2:Int) (a3:List Int),LeO (sl9SeenN n a0 a1 a2 a3) (sl9SeenN (n+1) a0 a1 a2 a3):=by
 intro n
 induction n with
 | zero=>intro a0 a1 a2 a3 r h;cases h
 | succ n ih =>
  intro a0 a1 a2 a3
  refine ck_le (P:=Room (plus 0 (ln a3)) 8) (bnd_le (LeO.rfl (gt a3 a1)) fun y2=>cond_le (LeO.rfl _) (cond_le (LeO.rfl _) (bnd_le (LeO.rfl _) fun y5=>cond_le (LeO.rfl _) (bnd_le (LeO.rfl _) fun r7=>cond_le ?_ (LeO.rfl _)))))
  refine bnd_le (lp_le (fun s=>?_) _) fun r=>elim_le (fun _=>LeO.rfl _) (fun _=>LeO.rfl _) r
  refine cond_le (bnd_le (LeO.rfl _) fun y=>cond_le (LeO.rfl _) (bnd_le (LeO.rfl _) fun y2=>cond_le (LeO.rfl _) ?_)) (LeO.rfl _)
  refine bnd_le (LeO.rfl _) fun r=>elim_le (fun _=>?_) (fun _=>LeO.rfl _) r
  exact bnd_le (ih _ _ _ _) fun _=>LeO.rfl _
/-! ### spec.l9Seen -/
theorem s_seen{f:FsD}(hs:ShapeOk f):∀ (k:Nat) (i d:Nat) (n:NodeD) (u w:List Int) (y:Int),d≤5→6≤k+d→f.nodes[i]?=some n→¬n.kind=0→u.length≤10→u[i]?=some y→(y=0∨y=1)→(y=0→SeenOk f w∧u.set i 1=w.set 0 1) →
  Wp (fun r:List Int × Bool=>(∃t,(if y=1∨4<d then none else if n.kind=2 then vis f k (i:Int) d w else some w)=some t∧r=(t.set 0 1,true)∧SeenOk f t)∨((if y=1∨4<d then none else if n.kind=2 then vis f k (i:Int) d w else some w)=none∧r.2=false)) (sl9SeenN k f (i:Int) (d:Int) u):=by
 intro k
 induction k with
 | zero=>intro i d n u w y h1 h2;omega
 | succ k ih =>
  intro i d n u w y hd hk hn hnk hul hy hy01 hw
  rw [sl9SeenN];unfold bnt lpt
  simp only [PN]
  refine wp_ck (room (by omega) (by omega)) ?_
  rw [gt_ok hy,bsome,iadd (a:=y) (by omega)]
  refine wp_if (fun h1=>wp_some (.inr ⟨by rw [if_pos (.inl (by omega))],rfl⟩)) (fun h1=>?_)
  have hy0:y=0:=by omega
  subst hy0
  obtain⟨hW,hset⟩:=hw rfl
  have hsl:sl u (i:Int) (0+1)=w.set 0 1:=by rw [sl_eq,Int.toNat_natCast];exact hset
  rw [hsl]
  refine wp_if (fun h4=>wp_some (.inr ⟨by rw [if_pos (.inr (by omega))],rfl⟩)) (fun h4=>?_)
  rw [if_neg (by omega),gt_ok hn,bsome]
  refine wp_if (fun h2=>wp_some (.inl ⟨w,by rw [if_neg h2],rfl,hW⟩)) (fun h2=>?_)
  have h2:=Classical.not_not.1 h2
  rw [if_pos h2,s_l9Dir hs hn h2,bsome]
  have hv:=vis_succ f k (i:Int) d w
  rw [Int.toNat_natCast,getD_get hn] at hv
  rcases hD:dirAt f n with ⟨l,ok⟩
  rw [hD] at hv
  dsimp only at hv ⊢
  cases ok with
  | false =>
   rw [if_pos (.inl rfl)] at hv
   simp only [cond_false]
   exact wp_some (.inr ⟨hv,rfl⟩)
  | true =>
   have hE:=dirOf_ok hD
   have hl9:=hE.n80
   have hn10:=hs.n1
   simp only [cond_true,bite,bsome,Sum.elim_inl,Sum.elim_inr]
   generalize hV:vis f (k+1) (i:Int) d w=V at *
   have start:∀ (t:List Int) (e:EntryD) (j:Nat),SeenOk f t→l[j]?=some e→∀m:NodeD,f.nodes[e.node.toNat]?=some m→¬m.kind=0 →
     ∃x,t[e.node.toNat]?=some x∧Wp (fun r:List Int × Bool=>(∃t',(if x=1∨4<d+1 then none else if m.kind=2 then vis f k e.node (d+1) (t.set e.node.toNat 1) else some (t.set e.node.toNat 1))=some t'∧r=(t'.set 0 1,true)∧SeenOk f t') ∨
      ((if x=1∨4<d+1 then none else if m.kind=2 then vis f k e.node (d+1) (t.set e.node.toNat 1) else some (t.set e.node.toNat 1))=none∧r.2=false)) (sl9SeenN k f e.node (iop .add .i64 (d:Int) 1) (t.set 0 1)):=by
    intro t e j hT he m hm hz
    have hen:=(hE.all j e he).1.2.1
    have hlt:=len_lt hm
    obtain⟨x,hx⟩:=get_some (l:=t) (i:=e.node.toNat) (by rw [hT.len];exact hlt)
    refine ⟨x,hx,?_⟩
    have hrec:=ih e.node.toNat (d+1) m (t.set 0 1) (t.set e.node.toNat 1) x (by omega) (by omega) hm hz (by simp;rw [hT.len];omega) (by rw [List.getElem?_set_ne (by omega)];exact hx) (hT.bit _ _ hx)
     (fun _=>⟨hT.set hm hz,List.set_comm _ _ (by omega)⟩)
    rw [Int.toNat_of_nonneg (by omega)] at hrec
    rw [ir_add1 (show d<4611686018427387904 by omega)]
    exact hrec
   by_cases hc:d=4∧¬l=[]
   ·rw [if_pos (.inr hc)] at hv
    refine wp_loop (fun x=>0) (fun x=>x=(w.set 0 1,0)) (fun r=>∃q:List Int × Bool,r=.inr q∧q.2=false) rfl ?_ ?_
    ·rintro _ rfl
     dsimp only
     have hl0:0<l.length:=by
      cases l with
      | nil=>exact absurd rfl hc.2
      | cons _ _=>simp
     refine wp_if (fun _=>?_) (fun hj=>absurd hj (by omega))
     obtain⟨e,he⟩:=get_some hl0
     have hen:=(hE.all 0 e he).1.2.1
     rw [gt0 he,bsome]
     refine wp_if (fun hge=>wp_out ⟨_,rfl,rfl⟩) (fun hlt=>?_)
     obtain⟨m,hm⟩:=get_some (l:=f.nodes) (i:=e.node.toNat) (by omega)
     rw [gtI (by omega) hm,bsome]
     refine wp_if (fun hz=>wp_out ⟨_,rfl,rfl⟩) (fun hz=>?_)
     obtain⟨x,hx,hrec⟩:=start w e 0 hW he m hm hz
     rw [if_pos (.inr (by omega))] at hrec
     have fin:Wp (LpO (fun x:List Int × Int=>0) (fun x=>x=(w.set 0 1,0)) (fun r:(List Int) ⊕ (List Int × Bool)=>∃q:List Int × Bool,r=.inr q∧q.2=false) (w.set 0 1,0))
       (bnd (sl9SeenN k f e.node (iop .add .i64 (d:Int) 1) (w.set 0 1)) fun r50=>cond r50.2 (some (.inl (r50.1,iop .add .i64 0 1))) (some (.inr (.inr (w.set 0 1,false))))):=by
      refine wp_bnd _ hrec ?_
      rintro⟨t',b⟩ (⟨_,q1,_⟩ | ⟨_,q2⟩)
      ·cases q1
      ·dsimp only at q2
       subst q2
       exact wp_out ⟨_,rfl,rfl⟩
     exact wp_if (fun _=>wp_if (fun _=>wp_out ⟨_,rfl,rfl⟩) (fun _=>wp_if (fun _=>wp_out ⟨_,rfl,rfl⟩) (fun _=>fin))) (fun _=>fin)
    ·rintro r ⟨q,rfl,q2⟩
     exact wp_some (.inr ⟨hv,q2⟩)
   ·rw [if_neg (by simpa using hc)] at hv
    refine wp_loop (fun x=>l.length-x.2.toNat) (fun x=>∃ (j:Nat) (t:List Int),x=(t.set 0 1,(j:Int))∧j≤l.length∧SeenOk f t∧V=foldE (visE (vis f k) f (i:Int) d) (l.drop j) t)
     (fun r=>(∃t,r=.inl (t.set 0 1)∧V=some t∧SeenOk f t)∨∃q:List Int × Bool,r=.inr q∧V=none∧q.2=false)
     ⟨0,w,rfl,by omega,hW,by rw [hv,List.drop_zero]⟩ ?_ ?_
    ·rintro _ ⟨j,t,rfl,h6,h7,h8⟩
     dsimp only
     refine wp_if (fun hj=>?_) (fun hj=>wp_out (.inl ⟨t,rfl,by rw [h8,List.drop_eq_nil_of_le (by omega)];rfl,h7⟩))
     obtain⟨e,he⟩:=get_some (l:=l) (i:=j) (by omega)
     have hen:=(hE.all j e he).1.2.1
     have hd3:d≤3:=by
      have:¬d=4:=fun h4=>hc ⟨h4,fun hl=>by rw [hl] at he;simp at he⟩
      omega
     rw [foldE_step he] at h8
     have hno:visE (vis f k) f (i:Int) d t e=none→V=none:=fun h=>by rw [h8,h];rfl
     rw [gt_ok he,bsome]
     refine wp_if (fun hge=>wp_out (.inr ⟨_,rfl,hno (by unfold visE;rw [if_pos (.inl hge)]),rfl⟩)) (fun hlt=>?_)
     obtain⟨m,hm⟩:=get_some (l:=f.nodes) (i:=e.node.toNat) (by omega)
     rw [gtI (by omega) hm,bsome]
     refine wp_if (fun hz=>wp_out (.inr ⟨_,rfl,hno (by unfold visE;rw [if_pos (.inr (.inl (by rw [getD_get hm];exact hz)))]),rfl⟩)) (fun hz=>?_)
     obtain⟨x,hx,hrec⟩:=start t e j h7 he m hm hz
     have hx01:=h7.bit _ _ hx
     have hve1:0<x→visE (vis f k) f (i:Int) d t e=none:=fun hp=>by unfold visE;rw [if_pos (.inr (.inr (by rw [at_get hx];exact hp)))]
     by_cases hh:e.name=[126]∧(¬ (i:Int)=0∨¬m.kind=1)
     ·have bad:V=none:=by
       by_cases hp:0<x
       ·exact hno (hve1 hp)
       ·refine hno ?_
        unfold visE
        rw [if_neg,getD_get hm,if_pos hh]
        rw [getD_get hm,at_get hx]
        rintro(h | h | h)
        ·exact hlt h
        ·exact hz h
        ·exact hp h
      exact wp_if (fun h126=>wp_if (fun _=>wp_out (.inr ⟨_,rfl,bad,rfl⟩)) (fun hi0=>wp_if (fun _=>wp_out (.inr ⟨_,rfl,bad,rfl⟩)) (fun hk1=>(hh.2.elim (absurd · hi0) (absurd · hk1))))) (fun h126=>absurd hh.1 h126)
     ·rw [if_skip2 hh]
      have hve:visE (vis f k) f (i:Int) d t e=(if x=1∨4<d+1 then none else if m.kind=2 then vis f k e.node (d+1) (t.set e.node.toNat 1) else some (t.set e.node.toNat 1)):=by
       by_cases hp:0<x
       ·rw [hve1 hp,if_pos (.inl (by omega))]
       ·rw [if_neg (by omega)]
        unfold visE
        rw [if_neg,getD_get hm,if_neg hh]
        rw [getD_get hm,at_get hx]
        rintro(h | h | h)
        ·exact hlt h
        ·exact hz h
        ·exact hp h
      rw [←hve] at hrec
      refine wp_bnd _ hrec ?_
      rintro⟨t',b⟩ (⟨t2,q1,q2,q3⟩ | ⟨q1,q2⟩)
      ·injection q2 with q2 q4
       subst q2 q4
       simp only [cond_true]
       exact wp_back ⟨j+1,t2,by rw [ir_add1 (by omega)],by omega,q3,by rw [h8,q1];rfl⟩ (by dsimp only;rw [ir_add1 (by omega)];omega)
      ·dsimp only at q2
       subst q2
       simp only [cond_false]
       exact wp_out (.inr ⟨_,rfl,hno q1,rfl⟩)
    ·rintro r (⟨t,rfl,q1,q2⟩ | ⟨q,rfl,q1,q2⟩)
     ·exact wp_some (.inl ⟨t,q1,rfl,q2⟩)
     ·exact wp_some (.inr ⟨q1,q2⟩)
end Go.Ar
end
section
namespace Go.Ar
open Go.Proofs
set_option linter.unusedVariables false
set_option linter.unusedSimpArgs false
set_option maxRecDepth 20000
/-! ### File systems that are well formed -/
theorem wp_rc{α:Type}{g:Nat→Option α}{P:α→Prop}(hm:∀n,LeO (g n) (g (n+1))){n:Nat}(h:Wp P (g n)):Wp P (rc g):=by
 obtain⟨r,h1,h2⟩:=h
 exact ⟨r,rc_in (fun n r h=>hm n r h) h1,h2⟩
def zer(n:Nat):List Int:=List.replicate n 0
theorem seen_zer(f:FsD):SeenOk f (zer f.nodes.length):=by
 refine ⟨by simp [zer],fun k x h=>?_,fun k n h _=>?_⟩
 ·unfold zer at h
  rw [List.getElem?_replicate] at h
  split at h
  ·injection h with h;exact .inl h.symm
  ·cases h
 ·unfold zer
  rw [List.getElem?_replicate,if_pos (len_lt h)]
def AllSeen(f:FsD)(t:List Int):Prop := ∀ (i:Nat) (n:NodeD),f.nodes[i]?=some n→0<i→¬n.kind=0→t[i]?=some 1
def FsOk(f:FsD):Prop:=ShapeOk f∧∃t,vis f 6 0 0 (zer f.nodes.length)=some t∧AllSeen f t
theorem rp_zer(n:Nat):rp (n:Int) (0:Int)=zer n:=by rw [rp_eq,Int.toNat_natCast];rfl
theorem i_FsOk(f:FsD):iFsOk f=some (tb (FsOk f)):=by
 refine wp_eq ?_
 unfold iFsOk bnt lpt
 simp only [i_ShapeOk,PN,rp_zer]
 refine wp_if (fun hs=>?_) (fun hs=>wp_no fun h=>hs h.1)
 have hn:=hs.n1
 refine wp_ck (ins (by omega)) (wp_ck (room (by omega) (by omega)) ?_)
 obtain⟨n0,hn0⟩:=get_some (l:=f.nodes) (i:=0) (by omega)
 refine wp_bnd _ (wp_rc (fun n=>ivisit_up n f 0 0 _) (i_visit hs 6 0 0 n0 _ (by omega) (by omega) hn0 (seen_zer f))) ?_
 rintro r (⟨t,h1,rfl,h2⟩ | ⟨h1,h2⟩)
 ·simp only [cond_true]
  have ok:∀Q:Prop,(Q↔AllSeen f t)→Wp (fun r=>r=tb (FsOk f)) (some (tb Q)):=fun Q hQ =>
   wp_some (tb_congr ⟨fun q=>⟨hs,t,h1,hQ.1 q⟩,fun h=>by
    obtain⟨_,t',e,h'⟩:=h
    have h1:vis f 6 0 0 (zer f.nodes.length)=some t:=h1
    rw [h1] at e;cases e
    exact hQ.2 h'⟩)
  refine wp_loop (fun s=>f.nodes.length-s.toNat) (fun s=>∃i:Nat,s=(i:Int)∧i≤f.nodes.length∧∀ (j:Nat) (n:NodeD),j<i→f.nodes[j]?=some n→0<j→¬n.kind=0→t[j]?=some 1)
   (fun r=>(r=.inl ()∧AllSeen f t)∨(r=.inr false∧¬AllSeen f t)) ⟨0,rfl,by omega,fun j n hj=>by omega⟩ ?_ ?_
  ·rintro _ ⟨i,rfl,h3,h4⟩
   refine wp_if (fun hi=>?_) (fun hi=>wp_out (.inl ⟨rfl,fun j n hj=>h4 j n (by have:=len_lt hj;omega) hj⟩))
   obtain⟨n,hni⟩:=get_some (l:=f.nodes) (i:=i) (by omega)
   rw [gt_ok hni,bsome]
   have next:(0<i→¬n.kind=0→t[i]?=some 1)→Wp (LpO (fun s:Int=>f.nodes.length-s.toNat) (fun s=>∃i:Nat,s=(i:Int)∧i≤f.nodes.length∧∀ (j:Nat) (n:NodeD),j<i→f.nodes[j]?=some n→0<j→¬n.kind=0→t[j]?=some 1)
     (fun r:Unit ⊕ Bool=>(r=.inl ()∧AllSeen f t)∨(r=.inr false∧¬AllSeen f t)) (i:Int)) (some (.inl (iop .add .i64 (i:Int) 1))):=fun h=>by
    refine wp_back ⟨i+1,ir_add1 (by omega),by omega,fun j m hj hm=>?_⟩ (by rw [ir_add1 (by omega)];omega)
    by_cases e:j=i
    ·subst e
     rw [hni] at hm;cases hm
     exact h
    ·exact h4 j m (by omega) hm
   refine wp_if (fun h0=>wp_if (fun hk=>?_) (fun hk=>next fun _ h=>absurd h hk)) (fun h0=>next fun h _=>absurd h (by omega))
   obtain⟨x,hx⟩:=get_some (l:=t) (i:=i) (by rw [h2.len];omega)
   rw [gt_ok hx,bsome]
   exact wp_if (fun hx1=>wp_out (.inr ⟨rfl,fun h=>hx1 (by have:=h i n hni (by omega) hk;rw [hx] at this;cases this;rfl)⟩)) (fun hx1=>next fun _ _=>by rw [hx,Classical.not_not.1 hx1])
  ·rintro r (⟨rfl,h⟩ | ⟨rfl,h⟩)
   ·have:=ok True (iff_of_true trivial h)
    rwa [tb_true] at this
   ·have:=ok False (iff_of_false id h)
    rwa [tb_false] at this
 ·skip
  rw [h2]
  simp only [cond_false]
  refine wp_no fun h=>?_
  obtain⟨_,t,e,_⟩:=h
  have h1:vis f 6 0 0 (zer f.nodes.length)=none:=h1
  rw [h1] at e;cases e
theorem s_FsOk(f:FsD):sFsOk f=some (tb (FsOk f)):=by
 refine wp_eq ?_
 unfold sFsOk bnt lpt
 simp only [s_ShapeOk,PN,rp_zer]
 refine wp_if (fun hs=>?_) (fun hs=>wp_no fun h=>hs h.1)
 have hn:=hs.n1
 refine wp_ck (ins (by omega)) (wp_ck (room (by omega) (by omega)) ?_)
 obtain⟨n0,hn0⟩:=get_some (l:=f.nodes) (i:=0) (by omega)
 have hk0:=hs.root n0 hn0
 have hz0:(zer f.nodes.length)[0]?=some 0:=by
  unfold zer
  rw [List.getElem?_replicate,if_pos (len_lt hn0)]
 refine wp_bnd _ (wp_rc (fun n=>sl9Seen_up n f 0 0 _) (s_seen hs 6 0 0 n0 _ (zer f.nodes.length) 0 (by omega) (by omega) hn0 (by omega) (by simp [zer];omega) hz0 (.inl rfl) (fun _=>⟨seen_zer f,rfl⟩))) ?_
 rw [if_neg (by omega),if_pos hk0]
 rintro r (⟨t,h1,rfl,h2⟩ | ⟨h1,h2⟩)
 ·simp only [cond_true]
  have ok:∀Q:Prop,(Q↔AllSeen f t)→Wp (fun r=>r=tb (FsOk f)) (some (tb Q)):=fun Q hQ =>
   wp_some (tb_congr ⟨fun q=>⟨hs,t,h1,hQ.1 q⟩,fun h=>by
    obtain⟨_,t',e,h'⟩:=h
    have h1:vis f 6 0 0 (zer f.nodes.length)=some t:=h1
    rw [h1] at e;cases e
    exact hQ.2 h'⟩)
  refine wp_loop (fun s=>f.nodes.length-s.toNat) (fun s=>∃i:Nat,s=(i:Int)∧i≤f.nodes.length∧∀ (j:Nat) (n:NodeD),j<i→f.nodes[j]?=some n→0<j→¬n.kind=0→t[j]?=some 1)
   (fun r=>(r=.inl ()∧AllSeen f t)∨(r=.inr false∧¬AllSeen f t)) ⟨0,rfl,by omega,fun j n hj=>by omega⟩ ?_ ?_
  ·rintro _ ⟨i,rfl,h3,h4⟩
   refine wp_if (fun hi=>?_) (fun hi=>wp_out (.inl ⟨rfl,fun j n hj=>h4 j n (by have:=len_lt hj;omega) hj⟩))
   obtain⟨n,hni⟩:=get_some (l:=f.nodes) (i:=i) (by omega)
   obtain⟨x,hx⟩:=get_some (l:=t) (i:=i) (by rw [h2.len];omega)
   have hx01:=h2.bit i x hx
   have hfree:=h2.free i n hni
   rw [hx] at hfree
   have hg:gt (t.set 0 1) (i:Int)=some (if i=0 then 1 else x):=by
    refine gt_ok ?_
    by_cases e:i=0
    ·subst e
     rw [List.getElem?_set_self (by have:=h2.len;omega)];rfl
    ·rw [List.getElem?_set_ne (by omega),hx,if_neg e]
   rw [hg,gt_ok hni,bsome,bsome]
   have next:(0<i→¬n.kind=0→t[i]?=some 1)→Wp (LpO (fun s:Int=>f.nodes.length-s.toNat) (fun s=>∃i:Nat,s=(i:Int)∧i≤f.nodes.length∧∀ (j:Nat) (n:NodeD),j<i→f.nodes[j]?=some n→0<j→¬n.kind=0→t[j]?=some 1)
     (fun r:Unit ⊕ Bool=>(r=.inl ()∧AllSeen f t)∨(r=.inr false∧¬AllSeen f t)) (i:Int)) (some (.inl (iop .add .i64 (i:Int) 1))):=fun h=>by
    refine wp_back ⟨i+1,ir_add1 (by omega),by omega,fun j m hj hm=>?_⟩ (by rw [ir_add1 (by omega)];omega)
    by_cases e:j=i
    ·subst e
     rw [hni] at hm;cases hm
     exact h
    ·exact h4 j m (by omega) hm
   by_cases e:i=0
   ·subst e
    rw [if_pos rfl]
    rw [hn0] at hni;cases hni
    exact wp_if (fun _=>wp_if (fun _=>next fun h=>absurd h (by omega)) (fun h=>absurd hk0 (by omega))) (fun h=>absurd rfl h)
   ·rw [if_neg e]
    refine wp_if (fun h1=>wp_if (fun _=>next fun _ _=>by rw [hx,h1]) (fun h=>?_)) (fun h1=>wp_if (fun h=>wp_out (.inr ⟨rfl,fun ha=>h1 (by have:=ha i n hni (by omega) h;rw [hx] at this;cases this;rfl)⟩)) (fun h=>next fun _ hk=>absurd hk h))
    have:=hfree (Classical.not_not.1 h)
    injection this with this
    omega
  ·rintro r (⟨rfl,h⟩ | ⟨rfl,h⟩)
   ·have:=ok True (iff_of_true trivial h)
    rwa [tb_true] at this
   ·have:=ok False (iff_of_false id h)
    rwa [tb_false] at this
 ·skip
  rw [h2]
  simp only [cond_false]
  refine wp_no fun h=>?_
  obtain⟨_,t,e,_⟩:=h
  have h1:vis f 6 0 0 (zer f.nodes.length)=none:=h1
  rw [h1] at e;cases e
end Go.Ar
end
section
namespace Go.Ar
open Go.Proofs
set_option linter.unusedVariables false
set_option linter.unusedSimpArgs false
set_option maxRecDepth 20000
/-! ### Texts cut at a sign -/
def parts(c:UInt8):List UInt8→List (List UInt8)
 | []=>[[]]
 | x::t=>if x=c then []::parts c t else match parts c t with
  | h::r=>(x::h)::r
  | []=>[[x]]
theorem parts_pos(c:UInt8):∀s,1≤(parts c s).length
 | []=>by simp [parts]
 | x::t=>by
  unfold parts
  split
  ·simp
  ·split <;> simp
theorem parts_cut(c:UInt8):∀ (a b:List UInt8),(∀x∈a,¬x=c)→parts c (a++c::b)=a::parts c b
 | [],b,_=>by rw [List.nil_append,parts,if_pos rfl]
 | x::a,b,h=>by
  rw [List.cons_append,parts,if_neg (h x (by simp)),parts_cut c a b fun y hy=>h y (by simp [hy])]
theorem parts_end(c:UInt8):∀ (a:List UInt8),(∀x∈a,¬x=c)→parts c a=[a]
 | [],_=>rfl
 | x::a,h=>by rw [parts,if_neg (h x (by simp)),parts_end c a fun y hy=>h y (by simp [hy])]
theorem parts_app(c:UInt8):∀ (a b:List UInt8),parts c (a++c::b)=parts c a++parts c b
 | [],b=>by simp [parts]
 | x::a,b=>by
  rw [List.cons_append,parts,parts,parts_app c a b]
  by_cases hx:x=c
  ·rw [if_pos hx,if_pos hx];rfl
  ·rw [if_neg hx,if_neg hx]
   cases hp:parts c a with
   | nil=>have:=parts_pos c a;rw [hp] at this;simp at this
   | cons h r=>rfl
theorem parts_len(c:UInt8):∀ (s:List UInt8),(parts c s).length≤s.length+1
 | []=>by simp [parts]
 | x::t=>by
  have:=parts_len c t
  rw [parts]
  split
  ·simp;omega
  ·split
   ·rename_i e;rw [e] at this;simpa using Nat.le_succ_of_le this
   ·simp
/-- What the loops hold: the parts up to 'q', and none of the sign between 'q' and 'i'. -/
structure PartI (c:UInt8) (s:List UInt8) (acc:List (List UInt8)) (q i:Nat):Prop where
 qi:q≤i
 le:i≤s.length+1
 al:acc.length≤q
 eq:q≤s.length→parts c s=acc++parts c (s.drop q)
 en:q=s.length+1→parts c s=acc
 no:∀ (j:Nat) (x:UInt8),q≤j→j<i→s[j]?=some x→¬x=c
theorem PartI.start(c:UInt8)(s:List UInt8):PartI c s [] 0 0:=⟨by omega,by omega,by simp,fun _=>rfl,fun h=>by omega,fun j x _ h=>by omega⟩
theorem PartI.next{c:UInt8}{s:List UInt8}{acc:List (List UInt8)}{q i:Nat}(h:PartI c s acc q i){x:UInt8}(hx:s[i]?=some x)(hn:¬x=c):PartI c s acc q (i+1):=by
 refine ⟨by have:=h.qi;omega,by have:=len_lt hx;omega,h.al,h.eq,h.en,fun j y h1 h2 h3=>?_⟩
 by_cases e:j=i
 ·subst e;rw [hx] at h3;cases h3;exact hn
 ·exact h.no j y h1 (by omega) h3
theorem PartI.mid{c:UInt8}{s:List UInt8}{acc:List (List UInt8)}{q i:Nat}(h:PartI c s acc q i):∀x∈(s.drop q).take (i-q),¬x=c:=fun x hx=>by
 obtain⟨j,hj⟩:=List.mem_iff_getElem?.1 hx
 rw [List.getElem?_take] at hj
 split at hj
 ·rw [List.getElem?_drop] at hj
  exact h.no (q+j) x (by omega) (by omega) hj
 ·cases hj
theorem PartI.cut{c:UInt8}{s:List UInt8}{acc:List (List UInt8)}{q i:Nat}(h:PartI c s acc q i)(hx:s[i]?=some c):PartI c s (acc++[(s.drop q).take (i-q)]) (i+1) (i+1):=by
 have hl:=len_lt hx
 have hq:=h.qi
 refine ⟨by omega,by omega,by have:=h.al;simp;omega,fun h1=>?_,fun h1=>by omega,fun j x h1 h2=>by omega⟩
 rw [h.eq (by omega)]
 have e:s.drop q=(s.drop q).take (i-q)++c::s.drop (i+1):=by
  rw [←drop_at hx,show s.drop i=(s.drop q).drop (i-q) by rw [List.drop_drop];congr 1;omega,List.take_append_drop]
 rw [e,parts_cut c _ _ h.mid,List.append_assoc]
 rw [←e];rfl
theorem PartI.last{c:UInt8}{s:List UInt8}{acc:List (List UInt8)}{q:Nat}(h:PartI c s acc q s.length):parts c s=acc++[(s.drop q).take (s.length-q)]:=by
 rw [h.eq h.qi,parts_end c (s.drop q) (by have:=h.mid;rwa [List.take_of_length_le (by simp)] at this),List.take_of_length_le (by simp)]
theorem u8_eq{x c:UInt8}:((x.toNat:Nat):Int)=((c.toNat:Nat):Int)↔x=c:=⟨fun h=>UInt8.toNat_inj.1 (by omega),fun h=>by rw [h]⟩
theorem i_Parts(s:List UInt8)(c:UInt8)(hs:s.length≤4000000000):iParts s ((c.toNat:Nat):Int)=some (parts c s):=by
 refine wp_eq ?_
 unfold iParts bnu lpt
 simp only [PN]
 refine wp_loop (fun x=>s.length+1-x.2.2.toNat) (fun x=>∃q i:Nat,x.2.1=(q:Int)∧x.2.2=(i:Int)∧i≤s.length∧PartI c s x.1 q i) (fun r=>∃q:Nat,r.2=(q:Int)∧PartI c s r.1 q s.length) ⟨0,0,rfl,rfl,by omega,PartI.start c s⟩ ?_ ?_
 ·rintro⟨acc,_,_⟩ ⟨q,i,e1,e2,hi,h⟩
  dsimp only at e1 e2 h ⊢
  subst e1 e2
  have hq:=h.qi
  have ha:=h.al
  refine wp_if (fun hl=>?_) (fun hl=>wp_out ⟨q,rfl,by rwa [show i=s.length by omega] at h⟩)
  obtain⟨x,hx⟩:=get_some (l:=s) (i:=i) (by omega)
  rw [ck_in (inr (by omega)),sget_at hx,ir_add1 (by omega)]
  refine wp_if (fun hc=>?_) (fun hc=>wp_back ⟨q,i+1,rfl,rfl,by omega,h.next hx fun e=>hc (u8_eq.2 e)⟩ (by dsimp only;omega))
  obtain rfl:=u8_eq.1 hc
  rw [ck_in (ins (by omega)),ck_in (room (by omega) (by omega)),ssub_eq]
  exact wp_back ⟨i+1,i+1,rfl,rfl,by omega,h.cut hx⟩ (by dsimp only;omega)
 ·rintro⟨acc,_⟩ ⟨q,e1,h⟩
  dsimp only at e1 h ⊢
  subst e1
  have hq:=h.qi
  have ha:=h.al
  rw [ck_in (ins (by omega)),ck_in (room (by omega) (by omega)),ssub_eq]
  exact wp_some (by rw [h.last];rfl)
theorem s_Parts(s:List UInt8)(c:UInt8)(hs:s.length≤4000000000):sParts s ((c.toNat:Nat):Int)=some (parts c s):=by
 refine wp_eq ?_
 unfold sParts bnu lpt
 simp only [PN,bite,bsome]
 refine wp_loop (fun x=>s.length+2-x.2.2.toNat) (fun x=>∃q i:Nat,x.2.1=(q:Int)∧x.2.2=(i:Int)∧PartI c s x.1 q i∧(i=s.length+1→q=s.length+1)) (fun r=>r=parts c s) ⟨0,0,rfl,rfl,PartI.start c s,by omega⟩ ?_ (fun r hr=>wp_some hr)
 rintro⟨acc,_,_⟩ ⟨q,i,e1,e2,h,he⟩
 dsimp only at e1 e2 h ⊢
 subst e1 e2
 have hq:=h.qi
 have hle:=h.le
 have ha:=h.al
 refine wp_if (fun hl=>?_) (fun hl=>wp_out (h.en (he (by omega))).symm)
 refine wp_if (fun hl2=>?_) (fun hl2=>?_)
 ·simp only [cond_true]
  obtain rfl:i=s.length:=by omega
  rw [ck_in (ins (by omega)),ck_in (room (by omega) (by omega)),ssub_eq,ir_add1 (by omega)]
  refine wp_back ⟨s.length+1,s.length+1,rfl,rfl,⟨by omega,by omega,by simp;omega,fun h=>by omega,fun _=>h.last,fun j x h1 h2=>by omega⟩,fun _=>rfl⟩ (by dsimp only;omega)
 ·obtain⟨x,hx⟩:=get_some (l:=s) (i:=i) (by omega)
  rw [ck_in (inr (by omega)),sget_at hx,bsome,ir_add1 (by omega)]
  simp only [PN]
  refine wp_if (fun hc=>?_) (fun hc=>wp_back ⟨q,i+1,rfl,rfl,h.next hx fun e=>hc (u8_eq.2 e),by omega⟩ (by dsimp only;omega))
  obtain rfl:=u8_eq.1 hc
  rw [ck_in (ins (by omega)),ck_in (room (by omega) (by omega)),ssub_eq]
  exact wp_back ⟨i+1,i+1,rfl,rfl,h.cut hx,by omega⟩ (by dsimp only;omega)
/-! ### Paths -/
def PathOk(s:List UInt8):Prop:=s=[47]∨(2≤(parts 47 s).length∧(parts 47 s).length≤5∧(parts 47 s)[0]?=some []∧∀ (i:Nat) (x:List UInt8),(parts 47 s)[i+1]?=some x→NameOk x)
noncomputable def namesOf(s:List UInt8):List (List UInt8):=open Classical in if s=[47] then [] else if PathOk s then (parts 47 s).drop 1 else []
theorem g_BadName(l:List (List UInt8))(hl:l.length≤4000000001):gslices_ContainsFunc_string_ireadPath_1 l=some (tb (¬ ∀ (i:Nat) (x:List UInt8),l[i]?=some x→NameOk x)):=by
 unfold gslices_ContainsFunc_string_ireadPath_1 gslices_IndexFunc_string_ireadPath_1 bnt lpt
 simp only [ireadPath_1,i_NameOk,PN,bnd_assoc]
 refine bnd_first (fun i:Nat=>(i:Int)) l (fun i x=>NameOk x) (fun i _=>.inr (i:Int)) (.inl ()) rfl (fun i x hx _ h=>?_) (fun i x hx _ h=>?_) (fun h=>?_) (fun h=>?_) (fun k x hx hn hj=>?_)
 ·have:=len_lt hx
  rw [if_pos (by omega),gt_ok hx,bsome,if_neg (by simpa using h),ir_add1 (by omega)]
 ·have:=len_lt hx
  rw [if_pos (by omega),gt_ok hx,bsome,if_pos h]
 ·rw [if_neg (by omega)]
 ·show some (tb (0≤(-1:Int)))=_
  exact tb_some (iff_of_false (by omega) fun hh=>hh h)
 ·show some (tb (0≤(k:Int)))=_
  exact tb_some (iff_of_true (by omega) fun hh=>hn (hh k x hx))
theorem i_readPath(s:List UInt8)(hs:s.length≤4000000000):ireadPath s=some (namesOf s,tb (PathOk s)):=by
 unfold ireadPath
 have hp:=i_Parts s 47 hs
 rw [show (((47:UInt8).toNat:Nat):Int)=47 from rfl] at hp
 simp only [PN,hp,i_within]
 by_cases h0:s=[47]
 ·rw [if_pos h0,namesOf,if_pos h0,tb_pos (.inl h0)]
 ·rw [if_neg h0]
  have h1:=parts_pos 47 s
  have h2:=parts_len 47 s
  obtain⟨y,hy⟩:=get_some (l:=parts 47 s) (i:=0) (by omega)
  have bad:¬PathOk s→some (([]:List (List UInt8)),false)=some (namesOf s,tb (PathOk s)):=fun h=>by rw [namesOf,if_neg h0,if_neg h,tb_neg h]
  rw [gt0 hy,bsome]
  refine if_2 (fun hne=>bad fun h=>?_) (fun hne=>?_)
  ·rcases h with h | ⟨_,_,h,_⟩
   ·exact h0 h
   ·rw [hy] at h;cases h;exact hne rfl
  obtain rfl:=Classical.not_not.1 hne
  refine if_2 (fun hw=>?_) (fun hw=>bad fun h=>?_)
  ·rw [ck_in (ins (by omega)),show sb (parts 47 s) 1 ((parts 47 s).length:Int)=(parts 47 s).drop 1 by rw [sb_eq,Int.toNat_natCast];exact List.take_of_length_le (by simp)]
   rw [g_BadName _ (by simp;omega),bsome,cond_tb]
   have hi:(∀ (i:Nat) (x:List UInt8),((parts 47 s).drop 1)[i]?=some x→NameOk x)↔PathOk s:=by
    refine ⟨fun h=>.inr ⟨by omega,by omega,hy,fun i x hx=>h i x (by rw [List.getElem?_drop,Nat.add_comm];exact hx)⟩,fun h i x hx=>?_⟩
    rcases h with h | ⟨_,_,_,h⟩
    ·exact absurd h h0
    ·rw [List.getElem?_drop,Nat.add_comm] at hx;exact h i x hx
   refine if_2 (fun h=>bad fun hh=>h (hi.2 hh)) (fun h=>?_)
   have ok:=hi.1 (Classical.not_not.1 h)
   rw [ck_in (ins (by omega)),namesOf,if_neg h0,if_pos ok,tb_pos ok]
  ·rcases h with h | ⟨_,_,_,_⟩
   ·exact h0 h
   ·exact hw (by omega)
theorem i_PathOk(s:List UInt8)(hs:s.length≤4000000000):iPathOk s=some (tb (PathOk s)):=by
 unfold iPathOk
 rw [i_readPath s hs];rfl
theorem s_PathOk(s:List UInt8)(hs:s.length≤4000000000):sPathOk s=some (tb (PathOk s)):=by
 unfold sPathOk bnt lpt
 have hp:=s_Parts s 47 hs
 rw [show (((47:UInt8).toNat:Nat):Int)=47 from rfl] at hp
 simp only [PN,hp,s_l1In,s_NameOk]
 refine if_2 (fun h0=>by rw [tb_pos (.inl h0)]) (fun h0=>?_)
 have h1:=parts_pos 47 s
 have h2:=parts_len 47 s
 obtain⟨y,hy⟩:=get_some (l:=parts 47 s) (i:=0) (by omega)
 have bad:(¬ (2≤(parts 47 s).length∧(parts 47 s).length≤5∧(parts 47 s)[0]?=some []∧∀ (i:Nat) (x:List UInt8),(parts 47 s)[i+1]?=some x→NameOk x))→¬PathOk s:=fun h hh=>hh.elim h0 h
 refine if_tb (fun hw=>?_) (fun hw=>bad fun h=>hw (by omega))
 rw [gt0 hy,bsome]
 refine if_tbn (fun hne=>bad fun h=>?_) (fun hne=>?_)
 ·have h:=h.2.2.1
  rw [hy] at h;cases h;exact hne rfl
 obtain rfl:=Classical.not_not.1 hne
 refine bnd_first (fun i:Nat=>((i+1:Nat):Int)) ((parts 47 s).drop 1) (fun i x=>NameOk x) (fun _ _=>.inr false) (.inl ()) rfl (fun i x hx _ h=>?_) (fun i x hx _ h=>?_) (fun h=>?_) (fun h=>?_) (fun k x hx hn hj=>?_)
 ·rw [List.getElem?_drop,Nat.add_comm] at hx
  have:=len_lt hx
  rw [if_pos (by omega),gt_ok hx,bsome,if_pos h,ir_add1 (by omega)]
 ·rw [List.getElem?_drop,Nat.add_comm] at hx
  have:=len_lt hx
  rw [if_pos (by omega),gt_ok hx,bsome,if_neg h]
 ·rw [if_neg (by simp;omega)]
 ·refine some_tb (iff_of_true rfl (.inr ⟨by omega,by omega,hy,fun i x hx=>h i x (by rw [List.getElem?_drop,Nat.add_comm];exact hx)⟩))
 ·rw [List.getElem?_drop,Nat.add_comm] at hx
  exact some_tb (iff_of_false (by simp) (bad fun h=>hn (h.2.2.2 k x hx)))
end Go.Ar
end
section
namespace Go.Ar
open Go.Proofs
set_option linter.unusedVariables false
set_option linter.unusedSimpArgs false
set_option maxRecDepth 20000
/-! ### Paths out of names -/
def pathOf(l:List (List UInt8)):List UInt8:=if l=[] then [47] else l.flatMap fun x=>47::x
def NamesOk(l:List (List UInt8)):Prop:=l.length≤4∧∀x∈l,NameOk x
theorem join_path(l:List (List UInt8)):[47]++Lib.join l [47]=pathOf l:=by
 cases l with
 | nil=>rfl
 | cons x r =>
  rw [Lib.join_cons,Lib.joinTail,pathOf,if_neg (by simp),List.flatMap_cons,List.flatMap_def]
  rfl
theorem pathOf_len{l:List (List UInt8)}(hl:l.length≤1000)(hx:∀x∈l,x.length≤1000):(pathOf l).length≤1001001:=by
 unfold pathOf
 split
 ·simp
 ·have:=flatMap_len (fun x:List UInt8=>47::x) 1001 l fun x h=>by have:=hx x h;simp;omega
  omega
theorem name_slash{x:List UInt8}(h:NameOk x):∀y∈x,¬y=47:=by
 intro y hy e
 subst e
 obtain⟨i,hi⟩:=List.mem_iff_getElem?.1 hy
 rcases h.2 i _ hi with h | h
 ·have:(47:UInt8).toNat=47:=rfl
  omega
 ·have:(47:UInt8).toNat=47:=rfl
  omega
theorem parts_flat:∀ (l:List (List UInt8)) (x:List UInt8),parts 47 (x++l.flatMap fun x=>47::x)=parts 47 x++l.flatMap (parts 47)
 | [],x=>by simp
 | y::l,x=>by
  rw [List.flatMap_cons,List.cons_append,parts_app,parts_flat l y,List.flatMap_cons]
theorem parts_path{l:List (List UInt8)}(h:¬l=[]):parts 47 (pathOf l)=[]::l.flatMap (parts 47):=by
 rw [pathOf,if_neg h]
 exact parts_flat l []
theorem parts_names:∀ {l:List (List UInt8)},(∀x∈l,NameOk x)→l.flatMap (parts 47)=l
 | [],_=>rfl
 | x::l,h=>by
  rw [List.flatMap_cons,parts_end 47 x (name_slash (h x (by simp))),parts_names fun y hy=>h y (by simp [hy])];rfl
theorem parts_one(c:UInt8):∀ {s:List UInt8},(parts c s).length=1→parts c s=[s]
 | [],_=>rfl
 | x::t,h=>by
  have hp:=parts_pos c t
  rw [parts] at h ⊢
  split at h
  ·rw [List.length_cons] at h;omega
  ·rename_i hx
   rw [if_neg hx]
   cases e:parts c t with
   | nil=>rw [e] at hp;simp at hp
   | cons a r =>
    rw [e] at h
    simp at h
    subst h
    have:=parts_one c (s:=t) (by rw [e];rfl)
    rw [e] at this
    injection this with h1 h2
    rw [h1]
theorem parts_ge:∀ (l:List (List UInt8)),l.length≤(l.flatMap (parts 47)).length
 | []=>by simp
 | x::l=>by
  have h1:=parts_ge l
  have h2:=parts_pos 47 x
  simp only [List.flatMap_cons,List.length_append,List.length_cons];omega
theorem parts_same:∀ {l:List (List UInt8)},(l.flatMap (parts 47)).length=l.length→l.flatMap (parts 47)=l
 | [],_=>rfl
 | x::l,h=>by
  have h1:=parts_ge l
  have h2:=parts_pos 47 x
  simp only [List.flatMap_cons,List.length_append,List.length_cons] at h
  rw [List.flatMap_cons,parts_one 47 (s:=x) (by omega),parts_same (l:=l) (by omega)];rfl
theorem names_path{l:List (List UInt8)}(h:NamesOk l):PathOk (pathOf l)∧namesOf (pathOf l)=l:=by
 cases l with
 | nil=>exact ⟨.inl rfl,if_pos rfl⟩
 | cons x r =>
  have hp:=parts_path (l:=x::r) (by simp)
  rw [parts_names h.2] at hp
  have hl:=h.1
  have ok:PathOk (pathOf (x::r)):=.inr ⟨by rw [hp];simp,by rw [hp];simpa using hl,by rw [hp];rfl,fun i y hy=>by
   rw [hp,List.getElem?_cons_succ] at hy
   exact h.2 y (List.mem_of_getElem? hy)⟩
  refine ⟨ok,?_⟩
  have hn:¬pathOf (x::r)=[47]:=by
   have:=(h.2 x (by simp)).1.1
   unfold pathOf
   rw [if_neg (by simp),List.flatMap_cons]
   intro e
   have:=congrArg List.length e
   simp only [List.length_append,List.length_cons,List.length_nil] at this
   omega
  unfold namesOf
  rw [if_neg hn,if_pos ok,hp];rfl
theorem path_names{l:List (List UInt8)}(h:PathOk (pathOf l))(hl:(namesOf (pathOf l)).length=l.length):NamesOk l:=by
 by_cases h0:l=[]
 ·subst h0;exact ⟨by simp,by simp⟩
 have hp:=parts_path h0
 by_cases h1:pathOf l=[47]
 ·unfold namesOf at hl
  rw [if_pos h1] at hl
  exact absurd (List.eq_nil_of_length_eq_zero hl.symm) h0
 rcases h with h | ⟨_,h5,_,h7⟩
 ·exact absurd h h1
 have ok:PathOk (pathOf l):=.inr ⟨by assumption,h5,by assumption,h7⟩
 unfold namesOf at hl
 rw [if_neg h1,if_pos ok,hp] at hl
 have hs:=parts_same (l:=l) hl
 rw [hs] at hp
 rw [hp] at h5 h7
 refine ⟨by simpa using h5,fun x hx=>?_⟩
 obtain⟨i,hi⟩:=List.mem_iff_getElem?.1 hx
 exact h7 i x (by rw [List.getElem?_cons_succ];exact hi)
theorem g_BadName2(l:List (List UInt8))(hl:l.length≤4000000001):gslices_ContainsFunc_string_iPathOf_1 l=some (tb (¬ ∀x∈l,NameOk x)):=by
 unfold gslices_ContainsFunc_string_iPathOf_1 gslices_IndexFunc_string_iPathOf_1 bnt lpt
 simp only [iPathOf_1,i_NameOk,PN,bnd_assoc]
 refine bnd_first (fun i:Nat=>(i:Int)) l (fun i x=>NameOk x) (fun i _=>.inr (i:Int)) (.inl ()) rfl (fun i x hx _ h=>?_) (fun i x hx _ h=>?_) (fun h=>?_) (fun h=>?_) (fun k x hx hn hj=>?_)
 ·have:=len_lt hx
  rw [if_pos (by omega),gt_ok hx,bsome,if_neg (by simpa using h),ir_add1 (by omega)]
 ·have:=len_lt hx
  rw [if_pos (by omega),gt_ok hx,bsome,if_pos h]
 ·rw [if_neg (by omega)]
 ·show some (tb (0≤(-1:Int)))=_
  refine tb_some (iff_of_false (by omega) fun hh=>hh fun x hx=>?_)
  obtain⟨i,hi⟩:=List.mem_iff_getElem?.1 hx
  exact h i x hi
 ·show some (tb (0≤(k:Int)))=_
  exact tb_some (iff_of_true (by omega) fun hh=>hn (hh x (List.mem_of_getElem? hx)))
noncomputable def pathF(l:List (List UInt8)):List UInt8:=@ite _ (NamesOk l) (Classical.propDecidable _) (pathOf l) []
theorem i_PathOf{l:List (List UInt8)}(hl:l.length≤1000)(hx:∀x∈l,x.length≤1000):iPathOf l=some (pathF l):=by
 have h1:=pathOf_len hl hx
 rw [←join_path] at h1
 simp only [List.length_append,List.length_cons,List.length_nil] at h1
 unfold iPathOf gstrings_Join pathF
 rw [if_pos ⟨by omega,by omega⟩,bsome]
 simp only [PN,g_BadName2 l (by omega),join_path]
 rw [ck_in (room (by simp;omega) (by simp;omega))]
 refine if_2 (fun h=>by rw [if_neg fun hh=>by have:=hh.1;omega]) (fun h=>if_2 (fun h2=>by rw [if_neg fun hh=>h2 hh.2]) (fun h2=>by rw [if_pos ⟨by omega,Classical.not_not.1 h2⟩]))
theorem s_Names(s:List UInt8)(hs:s.length≤4000000000):sNames s=some (namesOf s):=by
 unfold sNames
 have hp:=s_Parts s 47 hs
 rw [show (((47:UInt8).toNat:Nat):Int)=47 from rfl] at hp
 have h1:=parts_pos 47 s
 have h2:=parts_len 47 s
 simp only [s_PathOk s hs,PN,hp]
 unfold namesOf
 refine if_2 (fun h=>if_2 (fun h0=>by rw [if_pos h0]) (fun h0=>?_)) (fun h=>?_)
 ·rw [ck_in (ins (by omega)),show sb (parts 47 s) 1 ((parts 47 s).length:Int)=(parts 47 s).drop 1 by rw [sb_eq,Int.toNat_natCast];exact List.take_of_length_le (by simp)]
  unfold sl1Copy
  simp only [PN]
  rw [ck_in (room (by omega) (by simp;omega)),bsome,if_neg h0,if_pos h]
 ·rw [if_neg fun h0=>h (.inl h0),if_neg h]
theorem s_PathOf{l:List (List UInt8)}(hl:l.length≤1000)(hx:∀x∈l,x.length≤1000):sPathOf l=some (pathF l):=by
 have hlen:=pathOf_len hl hx
 unfold sPathOf bnu lpt
 simp only [PN,bite,bsome]
 refine bnd_flat (fun i b=>(b,(i:Int))) (fun x:List UInt8=>47::x) l [] (l.flatMap fun x=>47::x) rfl (fun i x h=>?_) ?_ ?_
 ·have h1:=len_lt h
  have h2:=flatMap_len (fun x:List UInt8=>47::x) 1001 (l.take i) fun x h=>by have:=hx x (List.mem_of_mem_take h);simp;omega
  have h3:(l.take i).length≤l.length:=by simp;omega
  have h4:=hx x (List.mem_of_getElem? h)
  dsimp only
  rw [if_pos (by omega),ck_in (room (by omega) (by simp only [List.nil_append,List.length_cons,List.length_nil];omega)),gt_ok h,bsome,ck_in (room (by omega) (by simp only [List.nil_append,List.length_append,List.length_cons,List.length_nil];omega)),ir_add1 (by omega)]
  simp
 ·dsimp only
  rw [if_neg (by omega),List.nil_append]
 ·have key:bnd (sPathOk (pathOf l)) (fun r14=>cond r14 (bnd (sNames (pathOf l)) fun r15=>@ite _ (¬ (r15.length:Int)=(l.length:Int)) (Classical.propDecidable _) (some []) (some (pathOf l))) (some []))=some (pathF l):=by
   rw [s_PathOk _ (by omega),s_Names _ (by omega)]
   simp only [PN]
   unfold pathF
   refine if_2 (fun h=>if_2 (fun h2=>?_) (fun h2=>?_)) (fun h=>?_)
   ·rw [if_neg fun hh=>h2 (by rw [(names_path hh).2])]
   ·rw [if_pos (path_names h (by omega))]
   ·rw [if_neg fun hh=>h (names_path hh).1]
  by_cases h0:l=[]
  ·subst h0
   rw [if_pos (by simp)]
   exact key
  ·rw [if_neg (by cases l with | nil=>exact absurd rfl h0 | cons _ _=>simp;omega)]
   rw [show (l.flatMap fun x=>47::x)=pathOf l by rw [pathOf,if_neg h0]]
   exact key
theorem NamesOk.len{l:List (List UInt8)}(h:NamesOk l):l.length≤1000∧∀x∈l,x.length≤1000:=⟨by have:=h.1;omega,fun x hx=>by have:=(h.2 x hx).1.2;omega⟩
theorem NamesOk.path{l:List (List UInt8)}(h:NamesOk l):(pathOf l).length≤1001001:=pathOf_len h.len.1 h.len.2
theorem pathF_ok{l:List (List UInt8)}(h:NamesOk l):pathF l=pathOf l:=by unfold pathF;rw [if_pos h]
theorem i_PathJoin{l:List (List UInt8)}{x:List UInt8}(h:NamesOk l)(h2:NamesOk (l++[x])):iPathJoin (pathOf l) x=some (pathOf (l++[x])):=by
 unfold iPathJoin
 have hp:=h.path
 have hl:=h.1
 rw [i_readPath _ (by omega),bsome,(names_path h).2,tb_pos (names_path h).1]
 simp only [PN,cond_true]
 rw [ck_in (room (by omega) (by omega)),i_PathOf h2.len.1 h2.len.2,bsome,pathF_ok h2]
theorem pathOf_inj{a b:List (List UInt8)}(ha:NamesOk a)(hb:NamesOk b)(h:pathOf a=pathOf b):a=b:=by
 rw [←(names_path ha).2,←(names_path hb).2,h]
theorem pathOf_root{l:List (List UInt8)}(h:NamesOk l)(h0:¬l=[]):¬pathOf l=[47]:=fun e=>h0 (pathOf_inj h ⟨by simp,by simp⟩ (e.trans rfl))
end Go.Ar
end
section
namespace Go.Ar
open Go.Proofs
set_option linter.unusedVariables false
set_option linter.unusedSimpArgs false
set_option maxRecDepth 20000
/-! ### What lies below a directory -/
noncomputable def ents(f:FsD)(i:Nat):List EntryD:=(dirAt f (f.nodes.getD i nodeZ)).1
/-- Node i is a directory at depth d, and all below it is well formed. -/
def WfD(f:FsD):Nat→Nat→Nat→Prop
 | 0,_,_=>False
 | k+1,d,i=>∃n,f.nodes[i]?=some n∧n.kind=2∧(dirAt f n).2=true∧(d=4→(dirAt f n).1=[]) ∧
   ∀e∈(dirAt f n).1,∃m,f.nodes[e.node.toNat]?=some m∧¬m.kind=0∧(e.name=[126]→i=0∧m.kind=1)∧(m.kind=2→WfD f k (d+1) e.node.toNat)
theorem foldE_all{g:List Int→EntryD→Option (List Int)}:∀ (l:List EntryD) (s t:List Int),foldE g l s=some t→∀e∈l,∃s' t',g s' e=some t'
 | [],_,_,_,e,he=>by cases he
 | x::l,s,t,h,e,he=>by
  unfold foldE at h
  cases hg:g s x with
  | none=>rw [hg] at h;cases h
  | some u =>
   rw [hg] at h
   rcases List.mem_cons.1 he with rfl | he
   ·exact ⟨s,u,hg⟩
   ·exact foldE_all l u t h e he
theorem dirAt_ok{f:FsD}{n:NodeD}(h:(dirAt f n).2=true):EntriesOk (dirAt f n).1:=dirOf_ok (b:=content f n) (Prod.ext rfl h)
theorem ent_at{l:List EntryD}(h:EntriesOk l){e:EntryD}(he:e∈l):(NameOk e.name∨e.name=[126])∧1≤e.node∧e.node≤9:=by
 obtain⟨i,hi⟩:=List.mem_iff_getElem?.1 he
 have:=(h.all i e hi).1
 exact ⟨this.1,this.2.1⟩
theorem wf_vis(f:FsD):∀ (k d i:Nat) (s t:List Int) (n:NodeD),vis f k (i:Int) d s=some t→f.nodes[i]?=some n→n.kind=2→WfD f k d i:=by
 intro k
 induction k with
 | zero=>intro d i s t n h;cases h
 | succ k ih =>
  intro d i s t n h hn hk
  rw [vis_succ,Int.toNat_natCast,getD_get hn] at h
  split at h
  ·cases h
  rename_i hc
  have hc1:(dirAt f n).2=true:=by
   cases hb:(dirAt f n).2 with
   | true=>rfl
   | false=>exact absurd (.inl hb) hc
  refine ⟨n,hn,hk,hc1,fun h4=>Classical.byContradiction fun hl=>hc (.inr ⟨h4,hl⟩),fun e he=>?_⟩
  obtain⟨s',t',hv⟩:=foldE_all _ _ _ h e he
  have hen:=(ent_at (dirAt_ok hc1) he).2
  unfold visE at hv
  split at hv
  ·cases hv
  rename_i h1
  have hlt:¬ (f.nodes.length:Int)≤e.node:=fun hh=>h1 (.inl hh)
  obtain⟨m,hm⟩:=get_some (l:=f.nodes) (i:=e.node.toNat) (by omega)
  rw [getD_get hm] at h1 hv
  split at hv
  ·cases hv
  rename_i h2
  refine ⟨m,hm,fun hz=>h1 (.inr (.inl hz)),fun hh=>?_,fun hk2=>?_⟩
  ·refine ⟨?_,?_⟩
   ·have:(i:Int)=0:=Classical.byContradiction fun h0=>h2 ⟨hh,.inl h0⟩
    omega
   ·exact Classical.byContradiction fun h0=>h2 ⟨hh,.inr h0⟩
  ·rw [if_pos hk2] at hv
   have e1:e.node=((e.node.toNat:Nat):Int):=(Int.toNat_of_nonneg (by omega)).symm
   rw [e1] at hv
   exact ih (d+1) e.node.toNat _ t' m (by simpa using hv) hm hk2
theorem FsOk.wf{f:FsD}(h:FsOk f):WfD f 6 0 0:=by
 obtain⟨hs,t,hv,_⟩:=h
 have hn:=hs.n1
 obtain⟨n,hn0⟩:=get_some (l:=f.nodes) (i:=0) (by omega)
 exact wf_vis f 6 0 0 _ t n hv hn0 (hs.root n hn0)
noncomputable def gathE(rec:Nat→List (List UInt8)→List ItemD)(f:FsD)(ns:List (List UInt8))(e:EntryD):List ItemD :=
 if e.name=[126] then [] else
 if (f.nodes.getD e.node.toNat nodeZ).kind=2 then ⟨pathOf (ns++[e.name]),(f.nodes.getD e.node.toNat nodeZ).kind,[],0⟩::rec e.node.toNat (ns++[e.name])
 else [⟨pathOf (ns++[e.name]),(f.nodes.getD e.node.toNat nodeZ).kind,content f (f.nodes.getD e.node.toNat nodeZ),(f.nodes.getD e.node.toNat nodeZ).time⟩]
noncomputable def gath(f:FsD):Nat→Nat→List (List UInt8)→List ItemD
 | 0,_,_=>[]
 | k+1,i,ns=>(ents f i).flatMap (gathE (gath f k) f ns)
theorem gath_succ(f:FsD)(k i:Nat)(ns:List (List UInt8)){n:NodeD}(hn:f.nodes[i]?=some n):gath f (k+1) i ns=(dirAt f n).1.flatMap (gathE (gath f k) f ns):=by
 rw [gath,ents,getD_get hn]
def cap:Nat→Nat
 | 0=>1600000000
 | 1=>8000000
 | 2=>40000
 | 3=>200
 | _=>1
theorem cap_step{d:Nat}(h:d≤3):200*cap (d+1)≤cap d∧1≤cap (d+1):=by
 match d,h with
 | 0,_=>decide
 | 1,_=>decide
 | 2,_=>decide
 | 3,_=>decide
theorem cap_le:∀d,cap d≤1600000000
 | 0=>by decide
 | 1=>by decide
 | 2=>by decide
 | 3=>by decide
 | n+4=>by show 1≤_;decide
theorem gathE_len{f:FsD}{k d i:Nat}{ns:List (List UInt8)}{l:List EntryD}(ih:∀ (i:Nat) (ns:List (List UInt8)),WfD f k (d+1) i→(gath f k i ns).length≤cap (d+1))
  (hw:∀e∈l,∃m,f.nodes[e.node.toNat]?=some m∧¬m.kind=0∧(e.name=[126]→i=0∧m.kind=1)∧(m.kind=2→WfD f k (d+1) e.node.toNat)) :
  ∀e∈l,(gathE (gath f k) f ns e).length≤1+cap (d+1):=by
 intro e he
 obtain⟨m,hm,_,_,h2⟩:=hw e he
 unfold gathE
 rw [getD_get hm]
 split
 ·simp
 ·split
  ·rename_i hk
   have:=ih e.node.toNat (ns++[e.name]) (h2 hk)
   simp;omega
  ·simp
theorem gath_len{f:FsD}:∀ (k d i:Nat) (ns:List (List UInt8)),d≤4→WfD f k d i→(gath f k i ns).length≤cap d:=by
 intro k
 induction k with
 | zero=>intro d i ns _ h;exact h.elim
 | succ k ih =>
  rintro d i ns hd ⟨n,hn,hk,h1,h2,h3⟩
  rw [gath_succ f k i ns hn]
  by_cases h4:d=4
  ·rw [h2 h4];simp
  ·have h80:=(dirAt_ok h1).n80
   have hc:=cap_step (d:=d) (by omega)
   have:=flatMap_len (gathE (gath f k) f ns) (1+cap (d+1)) (dirAt f n).1 (gathE_len (i:=i) (fun j ns' hj=>ih (d+1) j ns' (by omega) hj) h3)
   have h5:(1+cap (d+1))*(dirAt f n).1.length≤(1+cap (d+1))*80:=Nat.mul_le_mul_left _ h80
   omega
theorem room48{n:Int}(h:0≤n)(h2:n≤2000000000000):Room n 48:=by
 rw [Room_eq];omega
theorem ent_name{f:FsD}{k d i:Nat}{n:NodeD}{l:List EntryD}(hE:EntriesOk l)(h2:d=4→l=[]){ns:List (List UInt8)}(hns:NamesOk ns)(hl:ns.length=d){e:EntryD}(he:e∈l)(hn:¬e.name=[126]):d≤3∧NamesOk (ns++[e.name]):=by
 have h4:¬d=4:=fun h=>by rw [h2 h] at he;cases he
 have hle:=hns.1
 refine ⟨by omega,by simp;omega,fun x hx=>?_⟩
 rcases List.mem_append.1 hx with hx | hx
 ·exact hns.2 x hx
 ·rw [List.mem_singleton.1 hx];exact (ent_at hE he).1.resolve_right hn
theorem i_gather{f:FsD}(hs:ShapeOk f):∀ (k d i:Nat) (ns:List (List UInt8)) (acc:List ItemD),d≤4→WfD f k d i→NamesOk ns→ns.length=d→acc.length+2*cap d≤1000000000000 →
  igatherN k f (i:Int) (pathOf ns) acc=some (acc++gath f k i ns):=by
 intro k
 induction k with
 | zero=>intro d i ns acc _ h;exact h.elim
 | succ k ih =>
  intro d i ns acc hd hw hns hnl hacc
  have hlen:=gath_len (k+1) d i ns hd hw
  obtain⟨n,hn,hk,h1,h2,h3⟩:=hw
  have hE:=dirAt_ok h1
  have h80:=hE.n80
  rw [gath_succ f k i ns hn] at hlen ⊢
  rw [igatherN,i_entries hs hn,bsome];unfold bnu lpt
  simp only [PN]
  refine bnd_flat (fun j b=>(b,(j:Int))) (gathE (gath f k) f ns) (dirAt f n).1 acc (acc++(dirAt f n).1.flatMap (gathE (gath f k) f ns)) rfl (fun j e he=>?_) ?_ rfl
  ·have hj:=len_lt he
   have hme:=List.mem_of_getElem? he
   obtain⟨m,hm,hm0,hhid,hrec⟩:=h3 e hme
   have hen:=(ent_at hE hme).2
   have e1:((e.node.toNat:Nat):Int)=e.node:=Int.toNat_of_nonneg (by omega)
   have hpart:(((dirAt f n).1.take j).flatMap (gathE (gath f k) f ns)).length≤cap d:=by
    refine Nat.le_trans ?_ hlen
    conv=>rhs;rw [←List.take_append_drop j (dirAt f n).1,List.flatMap_append,List.length_append]
    omega
   have hcap:=cap_le d
   have hg:gathE (gath f k) f ns e=if e.name=[126] then [] else if m.kind=2 then ⟨pathOf (ns++[e.name]),m.kind,[],0⟩::gath f k e.node.toNat (ns++[e.name]) else [⟨pathOf (ns++[e.name]),m.kind,content f m,m.time⟩]:=by
    unfold gathE;rw [getD_get hm]
   rw [hg,ir_add1 (by omega)]
   generalize ((dirAt f n).1.take j).flatMap (gathE (gath f k) f ns)=B at hpart ⊢
   dsimp only
   rw [if_pos (by omega),gt_ok he,bsome]
   by_cases h126:e.name=[126]
   ·rw [if_pos h126,if_pos h126,List.append_nil]
   ·obtain⟨hd3,hnm⟩:=ent_name (f:=f) (k:=k) (i:=i) (n:=n) hE h2 hns hnl hme h126
    have hcs:=cap_step hd3
    rw [if_neg h126,if_neg h126,gtI (by omega) hm,bsome,i_PathJoin hns hnm,bsome]
    by_cases hk2:m.kind=2
    ·rw [if_pos hk2,if_pos hk2,ck_in (room48 (by omega) (by simp only [List.length_append];omega))]
     have:=ih (d+1) e.node.toNat (ns++[e.name]) ((acc++B)++[⟨pathOf (ns++[e.name]),m.kind,[],0⟩]) (by omega) (hrec hk2) hnm (by simp;omega) (by simp only [List.length_append,List.length_cons,List.length_nil];omega)
     rw [e1] at this
     rw [this,bsome,List.append_assoc (acc++B)];rfl
    ·have hc:=i_content hs hm
     rw [e1] at hc
     rw [if_neg hk2,if_neg hk2,hc,bsome,ck_in (room48 (by omega) (by simp only [List.length_append];omega))]
  ·dsimp only
   rw [if_neg (by omega)]
/-! ### Items put into their places -/
noncomputable def putL(x:ItemD):List ItemD→Bool→List ItemD
 | [],b=>if b=true then [] else [x]
 | y::t,b=>if b=true then (if x.path=y.path then [] else [y])++putL x t true else
   if Op.bytesLess x.path y.path=true then x::((if x.path=y.path then [] else [y])++putL x t true) else (if x.path=y.path then [] else [y])++putL x t false
theorem putL_len(x:ItemD):∀ (l:List ItemD) (b:Bool),(putL x l b).length≤l.length+1
 | [],b=>by unfold putL;split <;> simp
 | y::t,b=>by
  have h1:=putL_len x t true
  have h2:=putL_len x t false
  have h3:(putL x t true).length≤t.length:=by
   clear h1 h2
   induction t with
   | nil=>simp [putL]
   | cons z t ih =>
    unfold putL
    rw [if_pos rfl]
    split <;> simp <;> omega
  unfold putL
  split
  ·split <;> simp <;> omega
  ·split <;> split <;> simp <;> omega
theorem putL_t(x y:ItemD)(t:List ItemD):putL x (y::t) true=(if x.path=y.path then [] else [y])++putL x t true:=by
 conv=>lhs;unfold putL
 exact if_pos rfl
theorem putL_f(x y:ItemD)(t:List ItemD):putL x (y::t) false=if Op.bytesLess x.path y.path=true then x::((if x.path=y.path then [] else [y])++putL x t true) else (if x.path=y.path then [] else [y])++putL x t false:=by
 conv=>lhs;unfold putL
 exact if_neg (by simp)
theorem s_lss(a b:List UInt8):scmp .lss a b=tb (Op.bytesLess a b=true):=by rw [scmp_eq,←eq_tb];rfl
theorem s_Put(l:List ItemD)(x:ItemD)(hl:l.length≤1000000000000):sl10Put l x=some (putL x l false):=by
 refine wp_eq ?_
 unfold sl10Put bnu lpt
 simp only [PN,s_lss,bite,bsome]
 refine wp_loop (fun s=>l.length-s.2.2.toNat) (fun s=>∃i:Nat,s.2.2=(i:Int)∧i≤l.length∧s.1.length≤i+(if s.2.1=true then 1 else 0)∧putL x l false=s.1++putL x (l.drop i) s.2.1)
  (fun r=>putL x l false=r.1++putL x [] r.2∧r.1.length≤l.length+(if r.2=true then 1 else 0)) ⟨0,rfl,by omega,by simp,rfl⟩ ?_ ?_
 ·rintro⟨acc,b,_⟩ ⟨i,e1,hi,ha,h⟩
  dsimp only at e1 ha h ⊢
  subst e1
  refine wp_if (fun hlt=>?_) (fun hlt=>wp_out ⟨by rw [h,List.drop_eq_nil_of_le (by omega)],by dsimp only;split at ha <;> (rename_i hb;simp only [hb];simp;omega)⟩)
  obtain⟨y,hy⟩:=get_some (l:=l) (i:=i) (by omega)
  rw [drop_at hy] at h
  rw [gt_ok hy]
  simp only [bsome]
  have hb2:acc.length≤i+1:=by split at ha <;> omega
  have key:∀ (acc':List ItemD) (b':Bool) (dd:Decidable (¬y.path=x.path)),acc'.length≤i+(if b'=true then 1 else 0)→putL x l false=acc' ++ ((if x.path=y.path then [] else [y])++putL x (l.drop (i+1)) b') →
    Wp (LpO (fun s:List ItemD × Bool × Int=>l.length-s.2.2.toNat) (fun s=>∃i:Nat,s.2.2=(i:Int)∧i≤l.length∧s.1.length≤i+(if s.2.1=true then 1 else 0)∧putL x l false=s.1++putL x (l.drop i) s.2.1)
     (fun r:List ItemD × Bool=>putL x l false=r.1++putL x [] r.2∧r.1.length≤l.length+(if r.2=true then 1 else 0)) (acc,b,(i:Int)))
     (@ite _ (¬y.path=x.path) dd (ck (Room ((acc'.length:Int)+1) 48) (some (.inl (acc' ++ [y],b',iop .add .i64 (i:Int) 1)))) (some (.inl (acc',b',iop .add .i64 (i:Int) 1)))):=by
   intro acc' b' dd hl' h'
   have hl2:acc'.length≤i+1:=by split at hl' <;> omega
   rw [ir_add1 (by omega)]
   refine wp_if (fun hne=>?_) (fun heq=>?_)
   ·rw [ck_in (room48 (by omega) (by omega))]
    rw [if_neg fun e=>hne e.symm] at h'
    exact wp_back ⟨i+1,rfl,by omega,by dsimp only;split at hl' <;> (rename_i hb;simp only [hb];simp;omega),by rw [h',List.append_assoc]⟩ (by dsimp only;omega)
   ·rw [if_pos (Classical.not_not.1 heq).symm] at h'
    exact wp_back ⟨i+1,rfl,by omega,by dsimp only;split at hl' <;> (rename_i hb;simp only [hb];simp;omega),by rw [h'];rfl⟩ (by dsimp only;omega)
  cases b with
  | true =>
   simp only [cond_true]
   rw [putL_t] at h
   exact key acc true _ (by simpa using ha) h
  | false =>
   simp only [cond_false,bite,bsome]
   rw [putL_f x y] at h
   refine wp_if (fun hx=>?_) (fun hx=>?_)
   ·rw [if_pos hx] at h
    rw [ck_in (room48 (by omega) (by omega))]
    simp only [bsome]
    exact key (acc++[x]) true _ (by simpa using ha) (by rw [h,List.append_assoc];rfl)
   ·rw [if_neg hx] at h
    exact key acc false _ (by simpa using ha) h
 ·rintro⟨acc,b⟩ ⟨h,hl'⟩
  dsimp only at h hl' ⊢
  cases b with
  | true =>
   simp only [cond_true]
   exact wp_some (by rw [h];simp [putL])
  | false =>
   simp only [cond_false]
   rw [ck_in (room48 (by omega) (by simp at hl';omega))]
   exact wp_some (by rw [h];simp [putL])
noncomputable def putI(l:List ItemD)(x:ItemD):List ItemD:=putL x l false
theorem puts_len:∀ (xs acc:List ItemD),(xs.foldl putI acc).length≤acc.length+xs.length
 | [],acc=>by simp
 | x::xs,acc=>by
  have h1:=puts_len xs (putI acc x)
  have h2:(putI acc x).length≤acc.length+1:=putL_len x acc false
  simp only [List.foldl_cons,List.length_cons];omega
theorem foldl_flat{α β γ:Type}(p:γ→β→γ)(g:α→List β):∀ (l:List α) (b:γ),(l.flatMap g).foldl p b=l.foldl (fun b x=>(g x).foldl p b) b
 | [],_=>rfl
 | x::l,b=>by rw [List.flatMap_cons,List.foldl_append,List.foldl_cons,foldl_flat p g l]
theorem s_gather{f:FsD}(hs:ShapeOk f):∀ (k d i:Nat) (ns:List (List UInt8)) (acc:List ItemD),d≤4→WfD f k d i→NamesOk ns→ns.length=d→acc.length+2*cap d≤1000000000000 →
  sl10BelowN k f (i:Int) ns acc=some ((gath f k i ns).foldl putI acc):=by
 intro k
 induction k with
 | zero=>intro d i ns acc _ h;exact h.elim
 | succ k ih =>
  intro d i ns acc hd hw hns hnl hacc
  have hlen:=gath_len (k+1) d i ns hd hw
  obtain⟨n,hn,hk,h1,h2,h3⟩:=hw
  have hE:=dirAt_ok h1
  have h80:=hE.n80
  rw [gath_succ f k i ns hn] at hlen ⊢
  rw [sl10BelowN,s_l9Dir hs hn hk,bsome];unfold bnu lpt
  simp only [PN]
  rw [foldl_flat,←foldI_foldl (fun b e=>(gathE (gath f k) f ns e).foldl putI b) _ 0]
  refine bnd_lp (lp_fold (fun j b=>(b,(j:Int))) (fun _ b e=>(gathE (gath f k) f ns e).foldl putI b) (dirAt f n).1 acc (fun j e he=>?_) ?_) rfl
  ·have hj:=len_lt he
   have hme:=List.mem_of_getElem? he
   obtain⟨m,hm,hm0,hhid,hrec⟩:=h3 e hme
   have hen:=(ent_at hE hme).2
   have e1:((e.node.toNat:Nat):Int)=e.node:=Int.toNat_of_nonneg (by omega)
   rw [foldI_foldl,←foldl_flat]
   have hb:=puts_len (((dirAt f n).1.take j).flatMap (gathE (gath f k) f ns)) acc
   have hpart:(((dirAt f n).1.take j).flatMap (gathE (gath f k) f ns)).length≤cap d:=by
    refine Nat.le_trans ?_ hlen
    conv=>rhs;rw [←List.take_append_drop j (dirAt f n).1,List.flatMap_append,List.length_append]
    omega
   generalize (((dirAt f n).1.take j).flatMap (gathE (gath f k) f ns)).foldl putI acc=B at hb ⊢
   have hcap:=cap_le d
   dsimp only
   rw [if_pos (by omega),gt_ok he,bsome]
   have hg:gathE (gath f k) f ns e=if e.name=[126] then [] else if m.kind=2 then ⟨pathOf (ns++[e.name]),m.kind,[],0⟩::gath f k e.node.toNat (ns++[e.name]) else [⟨pathOf (ns++[e.name]),m.kind,content f m,m.time⟩]:=by
    unfold gathE;rw [getD_get hm]
   rw [hg,ir_add1 (by omega)]
   by_cases h126:e.name=[126]
   ·rw [if_pos h126,if_pos h126];rfl
   ·obtain⟨hd3,hnm⟩:=ent_name (f:=f) (k:=k) (i:=i) (n:=n) hE h2 hns hnl hme h126
    have hcs:=cap_step hd3
    have hn4:=hns.1
    rw [if_neg h126,if_neg h126,gtI (by omega) hm,bsome,s_l1Copy (by omega),bsome,ck_in (room (by omega) (by omega)),s_PathOf hnm.len.1 hnm.len.2,bsome,pathF_ok hnm]
    by_cases hk2:m.kind=2
    ·rw [if_pos hk2,if_pos hk2,s_Put _ _ (by omega),bsome]
     have hp:=putL_len ⟨pathOf (ns++[e.name]),m.kind,[],0⟩ B false
     have:=ih (d+1) e.node.toNat (ns++[e.name]) (putL ⟨pathOf (ns++[e.name]),m.kind,[],0⟩ B false) (by omega) (hrec hk2) hnm (by simp;omega) (by omega)
     rw [e1] at this
     rw [this,bsome];rfl
    ·have hc:=s_content hs hm
     rw [e1] at hc
     rw [if_neg hk2,if_neg hk2,hc,bsome,s_Put _ _ (by omega),bsome];rfl
  ·dsimp only
   rw [if_neg (by omega)]
end Go.Ar
end
section
namespace Go.Ar
open Go.Proofs
set_option linter.unusedVariables false
set_option linter.unusedSimpArgs false
set_option maxRecDepth 20000
/-! ### Sorted items -/
def LtP(x y:ItemD):Prop:=Op.bytesLess x.path y.path=true
def NeP(x y:ItemD):Prop:=¬x.path=y.path
theorem LtP.trans{x y z:ItemD}(h1:LtP x y)(h2:LtP y z):LtP x z:=bl_trans _ _ _ h1 h2
theorem LtP.irr{x:ItemD}(h:LtP x x):False:=by unfold LtP at h;rw [bl_irrefl] at h;cases h
theorem LtP.tot{x y:ItemD}(h:¬LtP x y)(hn:NeP x y):LtP y x:=by
 unfold LtP at *
 cases h2:Op.bytesLess y.path x.path with
 | true=>rfl
 | false=>exact absurd (bl_tot _ _ (by simpa using h) h2) hn
theorem putL_done(x:ItemD):∀t:List ItemD,(∀y∈t,NeP x y)→putL x t true=t
 | [],_=>by simp [putL]
 | y::t,h=>by rw [putL_t,if_neg (h y (by simp)),putL_done x t fun z hz=>h z (by simp [hz])];rfl
theorem putL_perm(x:ItemD):∀l:List ItemD,(∀y∈l,NeP x y)→(putL x l false).Perm (x::l)
 | [],_=>by simp [putL]
 | y::t,h=>by
  have ht:∀z∈t,NeP x z:=fun z hz=>h z (by simp [hz])
  rw [putL_f,if_neg (h y (by simp)),putL_done x t ht]
  split
  ·exact List.Perm.refl _
  ·exact ((putL_perm x t ht).cons y).trans (List.Perm.swap x y t)
theorem putL_sorted(x:ItemD):∀l:List ItemD,l.Pairwise LtP→(∀y∈l,NeP x y)→(putL x l false).Pairwise LtP
 | [],_,_=>by simp [putL]
 | y::t,hp,h=>by
  have ht:∀z∈t,NeP x z:=fun z hz=>h z (by simp [hz])
  rw [List.pairwise_cons] at hp
  rw [putL_f,if_neg (h y (by simp)),putL_done x t ht]
  split
  ·rename_i hlt
   have hlt:LtP x y:=hlt
   refine List.pairwise_cons.2 ⟨fun z hz=>?_,List.pairwise_cons.2 hp⟩
   rcases List.mem_cons.1 hz with rfl | hz
   ·exact hlt
   ·exact hlt.trans (hp.1 z hz)
  ·rename_i hlt
   refine List.pairwise_cons.2 ⟨fun z hz=>?_,putL_sorted x t hp.2 ht⟩
   rcases List.mem_cons.1 ((putL_perm x t ht).mem_iff.1 hz) with rfl | hz
   ·exact LtP.tot hlt (h y (by simp))
   ·exact hp.1 z hz
theorem NeP.symm{x y:ItemD}(h:NeP x y):NeP y x:=fun e=>h e.symm
theorem puts_sorted:∀ (l acc:List ItemD),acc.Pairwise LtP→(acc++l).Pairwise NeP→(l.foldl putI acc).Pairwise LtP∧(l.foldl putI acc).Perm (acc++l)
 | [],acc,h,_=>⟨h,by simp⟩
 | x::l,acc,h,hn=>by
  have hx:∀y∈acc,NeP x y:=fun y hy=>((List.pairwise_append.1 hn).2.2 y hy x (by simp)).symm
  have h1:(putI acc x).Pairwise LtP:=putL_sorted x acc h hx
  have h2:(putI acc x).Perm (x::acc):=putL_perm x acc hx
  have h3:(putI acc x++l).Perm (acc++x::l):=(h2.append_right l).trans List.perm_middle.symm
  obtain⟨k1,k2⟩:=puts_sorted l (putI acc x) h1 ((h3.pairwise_iff fun h=>h.symm).2 hn)
  exact ⟨k1,k2.trans h3⟩
theorem sort_puts{l:List ItemD}(h:l.Pairwise NeP):sortI l=l.foldl putI []:=by
 obtain⟨h1,h2⟩:=sortI_eq l
 obtain⟨k1,k2⟩:=puts_sorted l [] List.Pairwise.nil h
 have h3:(sortI l).Pairwise NeP:=(h1.pairwise_iff fun h=>h.symm).1 h
 have h4:(sortI l).Pairwise LtP:=(h2.and h3).imp fun⟨a,b⟩=>LtP.tot (fun hh=>by rw [ltI_no] at a;unfold LtP at hh;rw [a] at hh;cases hh) b.symm
 exact List.Perm.eq_of_pairwise (le:=LtP) (fun a b _ _ q1 q2=>absurd (q1.trans q2) LtP.irr) h4 k1 (h1.symm.trans k2.symm)
/-! ### The paths below a directory differ -/
theorem gathE_path{f:FsD}{k d i:Nat}{n:NodeD}{ns:List (List UInt8)}(hE:EntriesOk (dirAt f n).1)(h2:d=4→(dirAt f n).1=[])(hns:NamesOk ns)(hnl:ns.length=d)
  (h3:∀e∈(dirAt f n).1,∃m,f.nodes[e.node.toNat]?=some m∧¬m.kind=0∧(e.name=[126]→i=0∧m.kind=1)∧(m.kind=2→WfD f k (d+1) e.node.toNat))
  (ih:∀ (i:Nat) (ns:List (List UInt8)),WfD f k (d+1) i→NamesOk ns→ns.length=d+1→∀x∈gath f k i ns,∃a rest,x.path=pathOf (ns++a::rest)∧NamesOk (ns++a::rest))
  {e:EntryD} (he:e∈(dirAt f n).1) {x:ItemD} (hx:x∈gathE (gath f k) f ns e):¬e.name=[126]∧∃rest,x.path=pathOf (ns++e.name::rest)∧NamesOk (ns++e.name::rest):=by
 obtain⟨m,hm,hm0,hhid,hrec⟩:=h3 e he
 unfold gathE at hx
 rw [getD_get hm] at hx
 split at hx
 ·cases hx
 rename_i h126
 obtain⟨hd3,hnm⟩:=ent_name (f:=f) (k:=k) (i:=i) (n:=n) hE h2 hns hnl he h126
 refine ⟨h126,?_⟩
 split at hx
 ·rename_i hk2
  rcases List.mem_cons.1 hx with rfl | hx
  ·exact ⟨[],rfl,hnm⟩
  ·obtain⟨a,rest,k1,k2⟩:=ih e.node.toNat (ns++[e.name]) (hrec hk2) hnm (by simp;omega) x hx
   rw [List.append_assoc] at k1 k2
   exact ⟨a::rest,k1,k2⟩
 ·rw [List.mem_singleton.1 hx]
  exact ⟨[],rfl,hnm⟩
theorem gath_path{f:FsD}:∀ (k d i:Nat) (ns:List (List UInt8)),WfD f k d i→NamesOk ns→ns.length=d→∀x∈gath f k i ns,∃a rest,x.path=pathOf (ns++a::rest)∧NamesOk (ns++a::rest):=by
 intro k
 induction k with
 | zero=>intro d i ns h;exact h.elim
 | succ k ih =>
  rintro d i ns ⟨n,hn,hk,h1,h2,h3⟩ hns hnl x hx
  rw [gath_succ f k i ns hn] at hx
  obtain⟨e,he,hx⟩:=List.mem_flatMap.1 hx
  obtain⟨_,rest,k1,k2⟩:=gathE_path (i:=i) (dirAt_ok h1) h2 hns hnl h3 (fun j ns' hw hn' hl'=>ih (d+1) j ns' hw hn' hl') he hx
  exact ⟨_,rest,k1,k2⟩
theorem names_lt{l:List EntryD}(h:EntriesOk l):l.Pairwise fun a b=>Lt a.name b.name:=by
 rw [List.pairwise_iff_getElem]
 have key:∀ (j i:Nat) (a b:EntryD),i<j→l[i]?=some a→l[j]?=some b→Lt a.name b.name:=by
  intro j
  induction j with
  | zero=>intro i a b hi;omega
  | succ j ih =>
   intro i a b hi ha hb
   obtain⟨p,hp⟩:=get_some (l:=l) (i:=j) (by have:=len_lt hb;omega)
   have h1:=(h.all (j+1) b hb).1.2.2 p (by omega) hp
   by_cases e:i=j
   ·subst e;rw [hp] at ha;cases ha;exact h1
   ·exact bl_trans _ _ _ (ih i a p (by omega) ha hp) h1
 intro i j hi hj hij
 exact key j i _ _ hij (List.getElem?_eq_getElem hi) (List.getElem?_eq_getElem hj)
theorem gath_ne{f:FsD}:∀ (k d i:Nat) (ns:List (List UInt8)),WfD f k d i→NamesOk ns→ns.length=d→(gath f k i ns).Pairwise NeP:=by
 intro k
 induction k with
 | zero=>intro d i ns h;exact h.elim
 | succ k ih =>
  rintro d i ns ⟨n,hn,hk,h1,h2,h3⟩ hns hnl
  have hE:=dirAt_ok h1
  have hp:∀ (e:EntryD),e∈(dirAt f n).1→∀x∈gathE (gath f k) f ns e,¬e.name=[126]∧∃rest,x.path=pathOf (ns++e.name::rest)∧NamesOk (ns++e.name::rest):=fun e he x hx =>
   gathE_path (i:=i) hE h2 hns hnl h3 (fun j ns' hw hn' hl'=>gath_path k (d+1) j ns' hw hn' hl') he hx
  rw [gath_succ f k i ns hn,List.pairwise_flatMap]
  refine ⟨fun e he=>?_,?_⟩
  ·obtain⟨m,hm,hm0,hhid,hrec⟩:=h3 e he
   unfold gathE
   rw [getD_get hm]
   split
   ·exact List.Pairwise.nil
   rename_i h126
   obtain⟨hd3,hnm⟩:=ent_name (f:=f) (k:=k) (i:=i) (n:=n) hE h2 hns hnl he h126
   split
   ·rename_i hk2
    refine List.pairwise_cons.2 ⟨fun y hy=>?_,ih (d+1) e.node.toNat (ns++[e.name]) (hrec hk2) hnm (by simp;omega)⟩
    obtain⟨a,rest,q1,q2⟩:=gath_path k (d+1) e.node.toNat (ns++[e.name]) (hrec hk2) hnm (by simp;omega) y hy
    intro e1
    have e1:pathOf (ns++[e.name])=y.path:=e1
    rw [q1] at e1
    have:=congrArg List.length (pathOf_inj hnm q2 e1)
    simp at this
   ·exact List.pairwise_singleton _ _
  ·refine List.Pairwise.imp_of_mem (fun {a b} ha hb hlt x hx y hy e1=>?_) (names_lt hE)
   obtain⟨_,r1,p1,p2⟩:=hp a ha x hx
   obtain⟨_,r2,q1,q2⟩:=hp b hb y hy
   rw [p1,q1] at e1
   have e2:=List.append_cancel_left (pathOf_inj p2 q2 e1)
   injection e2 with e2 _
   unfold Lt at hlt
   rw [e2,bl_irrefl] at hlt;cases hlt
/-! ### The tree of a file system -/
theorem igather_up:∀ (n:Nat) (a0:FsD) (a1:Int) (a2:List UInt8) (a3:List ItemD),LeO (igatherN n a0 a1 a2 a3) (igatherN (n+1) a0 a1 a2 a3):=by
 intro n
 induction n with
 | zero=>intro a0 a1 a2 a3 r h;cases h
 | succ n ih =>
  intro a0 a1 a2 a3
  refine bnd_le (LeO.rfl (ientries a0 a1)) fun r2=>?_
  refine bnd_le (lp_le (fun s=>?_) _) fun r=>LeO.rfl _
  refine cond_le (bnd_le (LeO.rfl _) fun y=>cond_le (LeO.rfl _) (bnd_le (LeO.rfl _) fun y2=>bnd_le (LeO.rfl _) fun y3=>cond_le ?_ (LeO.rfl _))) (LeO.rfl _)
  exact ck_le (bnd_le (ih _ _ _ _) fun _=>LeO.rfl _)
theorem sl10Below_up:∀ (n:Nat) (a0:FsD) (a1:Int) (a2:List (List UInt8)) (a3:List ItemD),LeO (sl10BelowN n a0 a1 a2 a3) (sl10BelowN (n+1) a0 a1 a2 a3):=by
 intro n
 induction n with
 | zero=>intro a0 a1 a2 a3 r h;cases h
 | succ n ih =>
  intro a0 a1 a2 a3
  refine bnd_le (LeO.rfl (sl9Dir a0 a1)) fun r2=>?_
  refine bnd_le (lp_le (fun s=>?_) _) fun r=>LeO.rfl _
  refine cond_le (bnd_le (LeO.rfl _) fun y=>cond_le (LeO.rfl _) (bnd_le (LeO.rfl _) fun y2=>bnd_le (LeO.rfl _) fun y3=>ck_le (bnd_le (LeO.rfl _) fun y4=>cond_le ?_ (LeO.rfl _)))) (LeO.rfl _)
  exact bnd_le (LeO.rfl _) fun _=>bnd_le (ih _ _ _ _) fun _=>LeO.rfl _
noncomputable def treeF(f:FsD):List ItemD:=@ite _ (FsOk f) (Classical.propDecidable _) ((gath f 6 0 []).foldl putI []) []
theorem treeF_len(f:FsD):(treeF f).length≤1600000000:=by
 unfold treeF
 split
 ·rename_i h
  have h1:=puts_len (gath f 6 0 []) []
  have h2:=gath_len 6 0 0 [] (by omega) h.wf
  have h3:cap 0=1600000000:=rfl
  simp at h1;omega
 ·simp
theorem names0:NamesOk []:=⟨by simp,by simp⟩
theorem i_TreeOf(f:FsD):iTreeOf f=some ⟨treeF f⟩:=by
 unfold iTreeOf treeF
 rw [i_FsOk,bsome]
 simp only [PN]
 refine if_2 (fun h=>?_) (fun h=>by rw [if_neg h])
 have hg:=i_gather h.1 6 0 0 [] [] (by omega) h.wf names0 rfl (by decide)
 rw [show pathOf []=[47] from rfl,List.nil_append] at hg
 have hl:=gath_len 6 0 0 [] (by omega) h.wf
 have h3:cap 0=1600000000:=rfl
 unfold igather
 rw [rc_in (fun n r hr=>igather_up n f 0 [47] [] r hr) (n:=6) hg,bsome,if_pos h]
 unfold gslices_SortFunc_Item_ibyPath
 rw [if_pos (by omega),bsome,sort_puts (gath_ne 6 0 0 [] h.wf names0 rfl)]
theorem s_TreeOf(f:FsD):sTreeOf f=some ⟨treeF f⟩:=by
 unfold sTreeOf treeF
 rw [s_FsOk,bsome]
 simp only [PN]
 refine if_2 (fun h=>?_) (fun h=>by rw [if_neg h])
 have hg:=s_gather h.1 6 0 0 [] [] (by omega) h.wf names0 rfl (by decide)
 unfold sl10Below
 rw [rc_in (fun n r hr=>sl10Below_up n f 0 [] [] r hr) (n:=6) hg,bsome,if_pos h]
/-- What is known of a tree's items. -/
theorem tree_items{f:FsD}{x:ItemD}(hx:x∈treeF f):∃l,x.path=pathOf l∧NamesOk l∧¬l=[]:=by
 unfold treeF at hx
 split at hx
 ·rename_i h
  obtain⟨k1,k2⟩:=puts_sorted (gath f 6 0 []) [] List.Pairwise.nil (gath_ne 6 0 0 [] h.wf names0 rfl)
  obtain⟨a,rest,q1,q2⟩:=gath_path 6 0 0 [] h.wf names0 rfl x (by simpa using k2.mem_iff.1 hx)
  exact ⟨a::rest,q1,q2,by simp⟩
 ·cases hx
theorem tree_sorted(f:FsD):(treeF f).Pairwise LtP:=by
 unfold treeF
 split
 ·rename_i h
  exact (puts_sorted (gath f 6 0 []) [] List.Pairwise.nil (gath_ne 6 0 0 [] h.wf names0 rfl)).1
 ·exact List.Pairwise.nil
end Go.Ar
end
section
namespace Go.Ar
open Go.Proofs
set_option linter.unusedVariables false
set_option linter.unusedSimpArgs false
set_option maxRecDepth 20000
/-! ### An entry by its name; the hidden file -/
noncomputable def dirFind(l:List EntryD)(nm:List UInt8):Int:=match l.find? (fun e=>tb (e.name=nm)) with | some e=>e.node | none => -1
theorem find_none{α:Type}{l:List α}{p:α→Prop}(h:∀ (j:Nat) (y:α),l[j]?=some y→¬p y):l.find? (fun e=>tb (p e))=none:=by
 rw [List.find?_eq_none]
 intro x hx
 obtain⟨i,hi⟩:=List.mem_iff_getElem?.1 hx
 rw [tb_neg (h i x hi)];simp
theorem find_at{α:Type}{p:α→Prop}:∀ {l:List α} {k:Nat} {x:α},l[k]?=some x→p x→(∀ (j:Nat) (y:α),j<k→l[j]?=some y→¬p y)→l.find? (fun e=>tb (p e))=some x
 | y::l,0,x,h,hp,_=>by
  obtain rfl:y=x:=by simpa using h
  rw [List.find?_cons,tb_pos hp]
 | y::l,k+1,x,h,hp,hj=>by
  rw [List.find?_cons,tb_neg (hj 0 y (by omega) rfl)]
  exact find_at (by simpa using h) hp fun j z hjk hz=>hj (j+1) z (by omega) (by simpa using hz)
theorem find_yes{α:Type}{l:List α}{p:α→Prop}{x:α}(h:l.find? (fun e=>tb (p e))=some x):p x:=by
 have:=List.find?_some (p:=fun e=>tb (p e)) h
 exact tb_iff.1 this
theorem i_DirFind(l:List EntryD)(nm:List UInt8)(hl:l.length≤1000000):iDirFind l nm=some (dirFind l nm):=by
 unfold iDirFind iplaceOf gslices_IndexFunc_Entry_iplaceOf_1 bnt lpt
 simp only [iplaceOf_1,PN,bnd_assoc]
 refine bnd_first (fun i:Nat=>(i:Int)) l (fun i e=>¬e.name=nm) (fun i _=>.inr (i:Int)) (.inl ()) rfl (fun i x hx _ h=>?_) (fun i x hx _ h=>?_) (fun h=>?_) (fun h=>?_) (fun k x hx hn hj=>?_)
 ·have:=len_lt hx
  rw [if_pos (by omega),gt_ok hx,bsome,if_neg h,ir_add1 (by omega)]
 ·have:=len_lt hx
  rw [if_pos (by omega),gt_ok hx,bsome,if_pos (Classical.not_not.1 h)]
 ·rw [if_neg (by omega)]
 ·unfold dirFind
  rw [find_none h]
  simp only [Sum.elim_inl,bsome]
  rw [if_pos (by omega)]
 ·unfold dirFind
  rw [find_at hx (Classical.not_not.1 hn) hj]
  simp only [Sum.elim_inr,bsome]
  rw [if_neg (by omega),gt_ok hx,bsome]
theorem s_DirFind(l:List EntryD)(nm:List UInt8)(hl:l.length≤1000000):sDirFind l nm=some (dirFind l nm):=by
 unfold sDirFind bnt lpt
 simp only [PN]
 refine bnd_first (fun i:Nat=>(i:Int)) l (fun i e=>¬e.name=nm) (fun i e=>.inr e.node) (.inl ()) rfl (fun i x hx _ h=>?_) (fun i x hx _ h=>?_) (fun h=>?_) (fun h=>?_) (fun k x hx hn hj=>?_)
 ·have:=len_lt hx
  rw [if_pos (by omega),gt_ok hx,bsome,if_neg h,ir_add1 (by omega)]
 ·have:=len_lt hx
  rw [if_pos (by omega),gt_ok hx,bsome,if_pos (Classical.not_not.1 h)]
 ·rw [if_neg (by omega)]
 ·unfold dirFind
  rw [find_none h];rfl
 ·unfold dirFind
  rw [find_at hx (Classical.not_not.1 hn) hj];rfl
theorem find_mem{l:List EntryD}{nm:List UInt8}(h:¬dirFind l nm<0):∃e∈l,dirFind l nm=e.node∧e.name=nm:=by
 unfold dirFind at h ⊢
 cases hf:l.find? (fun e=>tb (e.name=nm)) with
 | none=>rw [hf] at h;exact absurd (by decide) h
 | some e=>exact ⟨e,List.mem_of_find?_eq_some hf,rfl,find_yes (p:=fun e:EntryD=>e.name=nm) hf⟩
/-! ### Items by their paths -/
def itemZ:ItemD:=⟨[],0,[],0⟩
noncomputable def treeGet(l:List ItemD)(p:List UInt8):ItemD × Bool:=open Classical in
 if p=[47] then (⟨[47],2,[],0⟩,true) else match l.find? (fun y=>tb (y.path=p)) with | some y=>(y,true) | none=>(itemZ,false)
theorem i_TreeGet(l:List ItemD)(p:List UInt8)(hl:l.length≤1000000000000):iTreeGet ⟨l⟩ p=some (treeGet l p):=by
 unfold iTreeGet iitemAt gslices_IndexFunc_Item_iitemAt_1 treeGet bnt lpt
 simp only [iitemAt_1,PN,bnd_assoc]
 refine if_2 (fun h=>by rw [if_pos h]) (fun h=>?_)
 rw [if_neg h]
 refine bnd_first (fun i:Nat=>(i:Int)) l (fun i e=>¬e.path=p) (fun i _=>.inr (i:Int)) (.inl ()) rfl (fun i x hx _ h=>?_) (fun i x hx _ h=>?_) (fun h=>?_) (fun h=>?_) (fun k x hx hn hj=>?_)
 ·have:=len_lt hx
  rw [if_pos (by omega),gt_ok hx,bsome,if_neg h,ir_add1 (by omega)]
 ·have:=len_lt hx
  rw [if_pos (by omega),gt_ok hx,bsome,if_pos (Classical.not_not.1 h)]
 ·rw [if_neg (by omega)]
 ·rw [find_none h]
  simp only [Sum.elim_inl,bsome]
  rw [if_pos (by omega)];rfl
 ·rw [find_at hx (Classical.not_not.1 hn) hj]
  simp only [Sum.elim_inr,bsome]
  rw [if_neg (by omega),gt_ok hx,bsome]
theorem s_TreeGet(l:List ItemD)(p:List UInt8)(hl:l.length≤1000000000000):sTreeGet ⟨l⟩ p=some (treeGet l p):=by
 unfold sTreeGet treeGet bnt lpt
 simp only [PN]
 refine if_2 (fun h=>by rw [if_pos h]) (fun h=>?_)
 rw [if_neg h]
 refine bnd_first (fun i:Nat=>(i:Int)) l (fun i e=>¬e.path=p) (fun i e=>.inr (e,true)) (.inl ()) rfl (fun i x hx _ h=>?_) (fun i x hx _ h=>?_) (fun h=>?_) (fun h=>?_) (fun k x hx hn hj=>?_)
 ·have:=len_lt hx
  rw [if_pos (by omega),gt_ok hx,bsome,if_neg h,ir_add1 (by omega)]
 ·have:=len_lt hx
  rw [if_pos (by omega),gt_ok hx,bsome,if_pos (Classical.not_not.1 h)]
 ·rw [if_neg (by omega)]
 ·rw [find_none h];rfl
 ·rw [find_at hx (Classical.not_not.1 hn) hj];rfl
theorem tree_path{f:FsD}{x:ItemD}(hx:x∈treeF f):¬x.path=[47]:=by
 obtain⟨l,h1,h2,h3⟩:=tree_items hx
 rw [h1];exact pathOf_root h2 h3
/-- Where the path is no root's, the kinds are alike if an item of this path is found. -/
def KindOk(l:List ItemD)(x:ItemD):Prop := ∀y,l.find? (fun y=>tb (y.path=x.path))=some y→y.kind=x.kind
theorem treeGet_no{l:List ItemD}{p:List UInt8}(h:¬p=[47])(hf:l.find? (fun y=>tb (y.path=p))=none):treeGet l p=(itemZ,false):=by unfold treeGet;rw [if_neg h,hf]
theorem treeGet_yes{l:List ItemD}{p:List UInt8}{y:ItemD}(h:¬p=[47])(hf:l.find? (fun y=>tb (y.path=p))=some y):treeGet l p=(y,true):=by unfold treeGet;rw [if_neg h,hf]
/-- Items of one path are of one kind. -/
def Cons(l:List ItemD):Prop := ∀x∈l,∀y∈l,x.path=y.path→x.kind=y.kind
theorem Cons.snoc{l:List ItemD}{x:ItemD}(h:Cons l)(hk:KindOk l x):Cons (l++[x]):=by
 have key:∀y∈l,y.path=x.path→y.kind=x.kind:=by
  intro y hy hp
  cases hf:l.find? (fun y=>tb (y.path=x.path)) with
  | none =>
   rw [List.find?_eq_none] at hf
   exact absurd (tb_pos hp) (hf y hy)
  | some z =>
   have hz:=find_yes (p:=fun y:ItemD=>y.path=x.path) hf
   rw [h y hy z (List.mem_of_find?_eq_some hf) (hp.trans hz.symm)]
   exact hk z hf
 intro a ha b hb hp
 rcases List.mem_append.1 ha with ha | ha <;> rcases List.mem_append.1 hb with hb | hb
 ·exact h a ha b hb hp
 ·rw [List.mem_singleton.1 hb] at hp ⊢;exact key a ha hp
 ·rw [List.mem_singleton.1 ha] at hp ⊢;exact (key b hb hp.symm).symm
 ·rw [List.mem_singleton.1 ha,List.mem_singleton.1 hb]
theorem Cons.sub{l m:List ItemD}(h:Cons l)(hs:∀x∈m,x∈l):Cons m:=fun x hx y hy=>h x (hs x hx) y (hs y hy)
/-! ### Pools -/
structure MoveOk (m:MoveD) (n:Nat):Prop where
 no:m.on=false→m=⟨false,false,0,0,[],0,0⟩
 yes:m.on=true→(0≤m.src∧m.src≤(n:Int)-1)∧(0≤m.dst∧m.dst≤(n:Int)-1)∧¬m.src=m.dst∧PathOk m.path∧¬m.path=[47]∧(0≤m.gen∧m.gen≤1000000)∧(0≤m.dn∧m.dn≤80)
theorem rq_eq{α:Type}(a b:α):rq a b=tb (a=b):=by rw [eq_tb (rq a b)];exact tb_congr (rq_t a b)
theorem s_MoveOk(m:MoveD)(n:Nat)(hn:n≤4000000000)(hp:m.path.length≤4000000000):sl12MoveOk m (n:Int)=some (tb (MoveOk m n)):=by
 unfold sl12MoveOk
 cases ho:m.on with
 | false =>
  simp only [cond_false,rq_eq]
  have e:(⟨false,m.cln,m.src,m.dst,m.path,m.gen,m.dn⟩:MoveD)=m:=by cases m;simp at ho;rw [ho]
  rw [e]
  exact tb_some (Iff.intro (fun h=>MoveOk.mk (fun _=>h) (fun hh=>absurd (ho.symm.trans hh) (by decide))) (fun h=>h.no ho))
 | true =>
  simp only [cond_true,s_l1In,PN,s_PathOk m.path hp]
  rw [isub (by omega)]
  have bad:∀Q:Prop,(MoveOk m n→Q)→¬Q→¬MoveOk m n:=fun Q h hq hm=>hq (h hm)
  refine if_tb (fun h1=>?_) (fun h1=>bad _ (fun h=>(h.yes ho).1) h1)
  refine if_tb (fun h2=>?_) (fun h2=>bad _ (fun h=>(h.yes ho).2.1) h2)
  refine if_tb (fun h3=>?_) (fun h3=>bad _ (fun h=>(h.yes ho).2.2.1) h3)
  refine if_tb (fun h4=>?_) (fun h4=>bad _ (fun h=>(h.yes ho).2.2.2.1) h4)
  refine if_tb (fun h5=>?_) (fun h5=>bad _ (fun h=>(h.yes ho).2.2.2.2.1) h5)
  refine if_tb (fun h6=>?_) (fun h6=>bad _ (fun h=>(h.yes ho).2.2.2.2.2.1) h6)
  exact tb_some (Iff.intro (fun h7=>MoveOk.mk (fun hh=>absurd (ho.symm.trans hh) (by decide)) (fun _=>⟨h1,h2,h3,h4,h5,h6,h7⟩)) (fun h=>(h.yes ho).2.2.2.2.2.2))
theorem i_moveOk(P:PoolD)(hn:P.branches.length≤4000000000)(hp:P.move.path.length≤4000000000):imoveOk P=some (tb (MoveOk P.move P.branches.length)):=by
 have hs:=s_MoveOk P.move P.branches.length hn hp
 rw [←hs]
 unfold imoveOk sl12MoveOk
 simp only [ln_eq,i_within,s_l1In,i_PathOk _ hp,s_PathOk _ hp]
def BrOk(b:BranchD):Prop:=(0≤b.mode∧b.mode≤2)∧FsOk b.fs
noncomputable def poolItems(l:List BranchD):List ItemD:=l.flatMap fun b=>treeF b.fs
structure PoolOk (P:PoolD):Prop where
 pol:0≤P.policy∧P.policy≤5
 free:0≤P.minFree∧P.minFree≤36
 num:1≤P.branches.length∧P.branches.length≤4
 move:MoveOk P.move P.branches.length
 brs:∀b∈P.branches,BrOk b
 cons:Cons (poolItems P.branches)
theorem poolItems_len(l:List BranchD):(poolItems l).length≤1600000000*l.length:=flatMap_len _ _ l fun b _=>treeF_len b.fs
theorem i_PoolOk(P:PoolD)(hn:P.branches.length≤4000000000)(hp:P.move.path.length≤4000000000):iPoolOk P=some (tb (PoolOk P)):=by
 refine wp_eq ?_
 unfold iPoolOk bnt lpt
 simp only [i_within,PN,i_moveOk P hn hp]
 have no:∀Q:Prop,(PoolOk P→Q)→¬Q→Wp (fun r=>r=tb (PoolOk P)) (some false):=fun Q h hq=>wp_some (tb_neg fun hh=>hq (h hh)).symm
 refine wp_if (fun h1=>?_) (fun h1=>no _ (fun h=>h.pol) h1)
 refine wp_if (fun h2=>?_) (fun h2=>no _ (fun h=>h.free) h2)
 refine wp_if (fun h3=>?_) (fun h3=>no (1≤(P.branches.length:Int)∧(P.branches.length:Int)≤4) (fun h=>by have:=h.num;omega) h3)
 refine wp_if (fun h4=>?_) (fun h4=>no _ (fun h=>h.move) h4)
 refine wp_loop (fun s=>P.branches.length-s.1.toNat) (fun s=>∃i:Nat,s.1=(i:Int)∧i≤P.branches.length∧s.2=poolItems (P.branches.take i)∧(∀b∈P.branches.take i,BrOk b)∧Cons s.2)
  (fun r=>(r=.inl ()∧PoolOk P)∨(r=.inr false∧¬PoolOk P)) ⟨0,rfl,by omega,rfl,by simp,fun x hx=>by cases hx⟩ ?_ ?_
 ·rintro⟨_,all⟩ ⟨i,e1,hi,e2,h6,h7⟩
  dsimp only at e1 e2 h7 ⊢
  subst e1
  refine wp_if (fun hlt=>?_) (fun hlt=>?_)
  ·obtain⟨b,hb⟩:=get_some (l:=P.branches) (i:=i) (by omega)
   have hmb:=List.mem_of_getElem? hb
   have ht:=take_snoc' hb
   rw [gt_ok hb]
   simp only [bsome,iisMode,i_within,i_FsOk,i_TreeOf,PN]
   have bad:¬PoolOk P→Wp (LpO (fun s:Int × List ItemD=>P.branches.length-s.1.toNat) (fun s=>∃i:Nat,s.1=(i:Int)∧i≤P.branches.length∧s.2=poolItems (P.branches.take i)∧(∀b∈P.branches.take i,BrOk b)∧Cons s.2)
    (fun r:Unit ⊕ Bool=>(r=.inl ()∧PoolOk P)∨(r=.inr false∧¬PoolOk P)) ((i:Int),all)) (some (.inr (.inr false))):=fun h=>wp_out (.inr ⟨rfl,h⟩)
   have hlen:all.length≤6400000000:=by
    have:=poolItems_len (P.branches.take i)
    have h8:(P.branches.take i).length≤4:=by simp;omega
    have h9:1600000000*(P.branches.take i).length≤1600000000*4:=Nat.mul_le_mul_left _ h8
    rw [e2];omega
   have htl:=treeF_len b.fs
   simp only [bite,bsome,Sum.elim_inr]
   refine wp_if (fun hm=>?_) (fun hm=>bad fun h=>hm (h.brs b hmb).1)
   refine wp_if (fun hf=>?_) (fun hf=>bad fun h=>hf (h.brs b hmb).2)
   refine wp_loop (fun s=>(treeF b.fs).length-s.1.toNat) (fun s=>∃j:Nat,s.1=(j:Int)∧j≤(treeF b.fs).length∧s.2=all++(treeF b.fs).take j∧Cons s.2)
    (fun r=>(∃a q m c,r=.inl (a,q,all++treeF b.fs,m,c)∧Cons (all++treeF b.fs))∨(r=.inr (.inr (.inr false))∧¬PoolOk P)) ⟨0,rfl,by omega,by simp,h7⟩ ?_ ?_
   ·rintro⟨_,all2⟩ ⟨j,e3,hj,e4,h8⟩
    dsimp only at e3 e4 h8 ⊢
    subst e3
    refine wp_if (fun hlt2=>?_) (fun hlt2=>wp_out (.inl ⟨_,_,_,_,by rw [e4,List.take_of_length_le (by omega)],by rw [e4,List.take_of_length_le (by omega)] at h8;exact h8⟩))
    obtain⟨x,hx⟩:=get_some (l:=treeF b.fs) (i:=j) (by omega)
    have hmx:=List.mem_of_getElem? hx
    have hx47:=tree_path hmx
    have hl2:all2.length≤8000000000:=by
     rw [e4,List.length_append]
     have:((treeF b.fs).take j).length≤(treeF b.fs).length:=by simp;omega
     omega
    rw [gt_ok hx]
    simp only [bsome,i_TreeGet all2 x.path (by omega)]
    have next:KindOk all2 x→Wp (LpO (fun s:Int × List ItemD=>(treeF b.fs).length-s.1.toNat) (fun s=>∃j:Nat,s.1=(j:Int)∧j≤(treeF b.fs).length∧s.2=all++(treeF b.fs).take j∧Cons s.2)
      (fun r:(List NodeD × List (List UInt8) × List ItemD × Int × List NodeD × List (List UInt8)) ⊕ ((Int × List ItemD) ⊕ (Unit ⊕ Bool))=>(∃a q m c,r=.inl (a,q,all++treeF b.fs,m,c)∧Cons (all++treeF b.fs))∨(r=.inr (.inr (.inr false))∧¬PoolOk P)) ((j:Int),all2))
      (ck (Room ((all2.length:Int)+1) 48) (some (.inl (iop .add .i64 (j:Int) 1,all2++[x])))):=fun hk=>by
     rw [ck_in (room48 (by omega) (by omega)),ir_add1 (by omega)]
     exact wp_back ⟨j+1,rfl,by omega,by rw [e4,take_snoc' hx,List.append_assoc],h8.snoc hk⟩ (by dsimp only;omega)
    cases hf2:all2.find? (fun y=>tb (y.path=x.path)) with
    | none =>
     rw [treeGet_no hx47 hf2]
     simp only [cond_false,bsome,Sum.elim_inl]
     exact next fun y hy=>by rw [hf2] at hy;cases hy
    | some y =>
     rw [treeGet_yes hx47 hf2]
     simp only [cond_true,bite,bsome,Sum.elim_inl,Sum.elim_inr]
     refine wp_if (fun hne=>wp_out (.inr ⟨rfl,fun h=>?_⟩)) (fun heq=>next fun z hz=>by rw [hf2] at hz;cases hz;exact Classical.not_not.1 heq)
     have hyp:=find_yes (p:=fun y:ItemD=>y.path=x.path) hf2
     have hmy:=List.mem_of_find?_eq_some hf2
     refine hne (h.cons y ?_ x (List.mem_flatMap.2 ⟨b,hmb,hmx⟩) hyp)
     rw [e4] at hmy
     rcases List.mem_append.1 hmy with hmy | hmy
     ·rw [e2] at hmy
      obtain⟨b2,hb2,hy2⟩:=List.mem_flatMap.1 hmy
      exact List.mem_flatMap.2 ⟨b2,List.mem_of_mem_take hb2,hy2⟩
     ·exact List.mem_flatMap.2 ⟨b,hmb,List.mem_of_mem_take hmy⟩
   ·rintro r (⟨a,q,m,c,rfl,h8⟩ | ⟨rfl,h8⟩)
    ·simp only [Sum.elim_inl]
     rw [ir_add1 (by omega)]
     refine wp_back ⟨i+1,rfl,by omega,?_,?_,h8⟩ (by dsimp only;omega)
     ·dsimp only
      rw [ht,e2];unfold poolItems;rw [List.flatMap_append,List.flatMap_singleton]
     ·rw [ht]
      intro b2 hb2
      rcases List.mem_append.1 hb2 with hb2 | hb2
      ·exact h6 b2 hb2
      ·rw [List.mem_singleton.1 hb2];exact ⟨hm,hf⟩
    ·simp only [Sum.elim_inr]
     exact bad h8
  ·rw [List.take_of_length_le (by omega)] at e2 h6
   exact wp_out (.inl ⟨rfl,⟨h1,h2,by omega,h4,h6,e2▸h7⟩⟩)
 ·rintro r (⟨rfl,h⟩ | ⟨rfl,h⟩)
  ·exact wp_some (tb_pos h).symm
  ·exact wp_some (tb_neg h).symm
end Go.Ar
end
section
namespace Go.Ar
open Go.Proofs
set_option linter.unusedVariables false
set_option linter.unusedSimpArgs false
set_option maxRecDepth 20000
theorem pw_uniq:∀ {l:List ItemD},l.Pairwise LtP→∀x∈l,∀y∈l,x.path=y.path→x=y
 | [],_,x,hx,_,_,_=>by cases hx
 | z::t,h,x,hx,y,hy,e=>by
  rw [List.pairwise_cons] at h
  have no:∀w∈t,¬z.path=w.path:=fun w hw e=>by
   have:=h.1 w hw
   unfold LtP at this
   rw [e,bl_irrefl] at this;cases this
  rcases List.mem_cons.1 hx with h1 | h1 <;> rcases List.mem_cons.1 hy with h2 | h2
  ·rw [h1,h2]
  ·subst h1;exact absurd e (no y h2)
  ·subst h2;exact absurd e.symm (no x h1)
  ·exact pw_uniq h.2 x h1 y h2 e
theorem tree_uniq{f:FsD}{x y:ItemD}(hx:x∈treeF f)(hy:y∈treeF f)(h:x.path=y.path):x=y:=pw_uniq (tree_sorted f) x hx y hy h
def AgreeL(a c:List ItemD):Prop := ∀ (i:Nat) (x:ItemD),a[i]?=some x→KindOk c x
theorem s_Agree(f g:FsD):sl12Agree ⟨treeF f⟩ ⟨treeF g⟩=some (tb (AgreeL (treeF f) (treeF g))):=by
 have hf:=treeF_len f
 have hg:=treeF_len g
 unfold sl12Agree bnt lpt
 simp only [PN,s_TreeGet (treeF g) _ (by omega)]
 have key:∀ (i:Nat) (x:ItemD),(treeF f)[i]?=some x→∀ (a b c:Option (Int ⊕ (Unit ⊕ Bool))),a=b→(KindOk (treeF g) x→cond (treeGet (treeF g) x.path).2 (@ite _ (¬ (treeGet (treeF g) x.path).1.kind=x.kind) (Classical.propDecidable _) c a) a=b) ∧
   (¬KindOk (treeF g) x→cond (treeGet (treeF g) x.path).2 (@ite _ (¬ (treeGet (treeF g) x.path).1.kind=x.kind) (Classical.propDecidable _) c a) a=c):=by
  intro i x hx a b c hab
  have h47:=tree_path (List.mem_of_getElem? hx)
  cases hfd:(treeF g).find? (fun y=>tb (y.path=x.path)) with
  | none =>
   rw [treeGet_no h47 hfd]
   exact ⟨fun _=>hab,fun h=>absurd (fun y hy=>by rw [hfd] at hy;cases hy) h⟩
  | some y =>
   rw [treeGet_yes h47 hfd]
   simp only [cond_true]
   refine ⟨fun h=>?_,fun h=>?_⟩
   ·rw [if_neg (fun hh=>hh (h y hfd))];exact hab
   ·rw [if_pos fun e=>h fun z hz=>by rw [hfd] at hz;cases hz;exact e]
 refine bnd_first (fun i:Nat=>(i:Int)) (treeF f) (fun i x=>KindOk (treeF g) x) (fun _ _=>.inr false) (.inl ()) rfl (fun i x hx _ h=>?_) (fun i x hx _ h=>?_) (fun h=>?_) (fun h=>?_) (fun k x hx hn hj=>?_)
 ·have:=len_lt hx
  rw [if_pos (by omega),gt_ok hx,bsome,ir_add1 (by omega)]
  exact (key i x hx _ _ _ rfl).1 h
 ·have:=len_lt hx
  rw [if_pos (by omega),gt_ok hx,bsome,ir_add1 (by omega)]
  exact (key i x hx _ _ _ rfl).2 h
 ·rw [if_neg (by omega)]
 ·exact some_tb (iff_of_true rfl h)
 ·exact some_tb (iff_of_false (by simp) fun h=>hn (h k x hx))
def PairOk(l:List BranchD)(n:Nat):Prop := ∀ (i k:Nat) (b c:BranchD),i<n→k<i→l[i]?=some b→l[k]?=some c→AgreeL (treeF b.fs) (treeF c.fs)
theorem cons_pair(l:List BranchD):Cons (poolItems l)↔PairOk l l.length:=by
 constructor
 ·intro h i k b c _ _ hb hc j x hx y hy
  have hm:=List.mem_of_find?_eq_some hy
  have hp:=find_yes (p:=fun y:ItemD=>y.path=x.path) hy
  exact h y (List.mem_flatMap.2 ⟨c,List.mem_of_getElem? hc,hm⟩) x (List.mem_flatMap.2 ⟨b,List.mem_of_getElem? hb,List.mem_of_getElem? hx⟩) hp
 ·intro h x hx y hy e
  obtain⟨b,hb,hx⟩:=List.mem_flatMap.1 hx
  obtain⟨c,hc,hy⟩:=List.mem_flatMap.1 hy
  obtain⟨i,hi⟩:=List.mem_iff_getElem?.1 hb
  obtain⟨k,hk⟩:=List.mem_iff_getElem?.1 hc
  have key:∀ (i k:Nat) (b c:BranchD) (x y:ItemD),k<i→l[i]?=some b→l[k]?=some c→x∈treeF b.fs→y∈treeF c.fs→x.path=y.path→y.kind=x.kind:=by
   intro i k b c x y hki hi hk hx hy e
   obtain⟨j,hj⟩:=List.mem_iff_getElem?.1 hx
   have hA:=h i k b c (len_lt hi) hki hi hk j x hj
   cases hf:(treeF c.fs).find? (fun z=>tb (z.path=x.path)) with
   | none =>
    rw [List.find?_eq_none] at hf
    exact absurd (tb_pos e.symm) (hf y hy)
   | some z =>
    have hz:=find_yes (p:=fun z:ItemD=>z.path=x.path) hf
    rw [tree_uniq hy (List.mem_of_find?_eq_some hf) (e.symm.trans hz.symm)]
    exact hA z hf
  rcases Nat.lt_trichotomy i k with hik | rfl | hki
  ·exact key k i c b y x hik hk hi hy hx e.symm
  ·rw [hi] at hk;cases hk
   rw [tree_uniq hx hy e]
  ·exact (key i k b c x y hki hi hk hx hy e).symm
theorem s_PoolOk(P:PoolD)(hn:P.branches.length≤4000000000)(hp:P.move.path.length≤4000000000):sPoolOk P=some (tb (PoolOk P)):=by
 refine wp_eq ?_
 unfold sPoolOk bnt lpt
 simp only [s_l1In,PN,s_MoveOk P.move _ hn hp]
 have no:∀Q:Prop,(PoolOk P→Q)→¬Q→Wp (fun r=>r=tb (PoolOk P)) (some false):=fun Q h hq=>wp_some (tb_neg fun hh=>hq (h hh)).symm
 refine wp_if (fun h1=>?_) (fun h1=>no _ (fun h=>h.pol) h1)
 refine wp_if (fun h2=>?_) (fun h2=>no _ (fun h=>h.free) h2)
 refine wp_if (fun h3=>?_) (fun h3=>no (1≤(P.branches.length:Int)∧(P.branches.length:Int)≤4) (fun h=>by have:=h.num;omega) h3)
 refine wp_if (fun h4=>?_) (fun h4=>no _ (fun h=>h.move) h4)
 refine wp_loop (fun s=>P.branches.length-s.toNat) (fun s=>∃i:Nat,s=(i:Int)∧i≤P.branches.length∧∀ (j:Nat) (b:BranchD),j<i→P.branches[j]?=some b→BrOk b)
  (fun r=>(r=.inl ()∧∀b∈P.branches,BrOk b)∨(r=.inr false∧¬PoolOk P)) ⟨0,rfl,by omega,fun j b hj=>by omega⟩ ?_ ?_
 ·rintro _ ⟨i,rfl,hi,h5⟩
  refine wp_if (fun hlt=>?_) (fun hlt=>wp_out (.inl ⟨rfl,fun b hb=>by
   obtain⟨j,hj⟩:=List.mem_iff_getElem?.1 hb
   exact h5 j b (by have:=len_lt hj;omega) hj⟩))
  obtain⟨b,hb⟩:=get_some (l:=P.branches) (i:=i) (by omega)
  have hmb:=List.mem_of_getElem? hb
  rw [gt_ok hb]
  simp only [bsome,s_FsOk,PN]
  refine wp_if (fun hm=>?_) (fun hm=>wp_out (.inr ⟨rfl,fun h=>hm (h.brs b hmb).1⟩))
  refine wp_if (fun hf=>?_) (fun hf=>wp_out (.inr ⟨rfl,fun h=>hf (h.brs b hmb).2⟩))
  rw [ir_add1 (by omega)]
  refine wp_back ⟨i+1,rfl,by omega,fun j b2 hj hb2=>?_⟩ (by omega)
  by_cases e:j=i
  ·subst e;rw [hb] at hb2;cases hb2;exact ⟨hm,hf⟩
  ·exact h5 j b2 (by omega) hb2
 ·rintro r (⟨rfl,h5⟩ | ⟨rfl,h5⟩)
  ·simp only [Sum.elim_inl]
   refine wp_loop (fun s=>P.branches.length-s.toNat) (fun s=>∃i:Nat,s=(i:Int)∧i≤P.branches.length∧PairOk P.branches i) (fun r=>(r=.inl ()∧PoolOk P)∨(r=.inr false∧¬PoolOk P)) ⟨1,rfl,by omega,fun i k b c hi hk=>by omega⟩ ?_ ?_
   ·rintro _ ⟨i,rfl,hi,h6⟩
    refine wp_if (fun hlt=>?_) (fun hlt=>wp_out (.inl ⟨rfl,⟨h1,h2,by omega,h4,h5,(cons_pair _).2 (by rwa [show P.branches.length=i by omega])⟩⟩))
    obtain⟨b,hb⟩:=get_some (l:=P.branches) (i:=i) (by omega)
    refine wp_loop (fun s=>i-s.toNat) (fun s=>∃k:Nat,s=(k:Int)∧k≤i∧∀ (j:Nat) (c:BranchD),j<k→P.branches[j]?=some c→AgreeL (treeF b.fs) (treeF c.fs))
     (fun r=>(r=.inl ()∧PairOk P.branches (i+1))∨(r=.inr (.inr (.inr false))∧¬PoolOk P)) ⟨0,rfl,by omega,fun j c hj=>by omega⟩ ?_ ?_
    ·rintro _ ⟨k,rfl,hk,h7⟩
     refine wp_if (fun hlt2=>?_) (fun hlt2=>wp_out (.inl ⟨rfl,fun i2 k2 b2 c2 hi2 hk2 hb2 hc2=>?_⟩))
     ·obtain⟨c,hc⟩:=get_some (l:=P.branches) (i:=k) (by omega)
      rw [gt_ok hb]
      simp only [bsome,s_TreeOf]
      rw [gt_ok hc]
      simp only [bsome,s_TreeOf,s_Agree,PN]
      refine wp_if (fun hA=>?_) (fun hA=>wp_out (.inr ⟨rfl,fun h=>hA ((cons_pair _).1 h.cons i k b c (len_lt hb) (by omega) hb hc)⟩))
      rw [ir_add1 (by omega)]
      refine wp_back ⟨k+1,rfl,by omega,fun j c2 hj hc2=>?_⟩ (by omega)
      by_cases e:j=k
      ·subst e;rw [hc] at hc2;cases hc2;exact hA
      ·exact h7 j c2 (by omega) hc2
     ·by_cases e:i2=i
      ·subst e;rw [hb] at hb2;cases hb2;exact h7 k2 c2 (by omega) hc2
      ·exact h6 i2 k2 b2 c2 (by omega) hk2 hb2 hc2
    ·rintro r (⟨rfl,h7⟩ | ⟨rfl,h7⟩)
     ·simp only [Sum.elim_inl]
      rw [ir_add1 (by omega)]
      exact wp_back ⟨i+1,rfl,by omega,h7⟩ (by omega)
     ·simp only [Sum.elim_inr]
      exact wp_out (.inr ⟨rfl,h7⟩)
   ·rintro r (⟨rfl,h⟩ | ⟨rfl,h⟩)
    ·exact wp_some (tb_pos h).symm
    ·exact wp_some (tb_neg h).symm
  ·exact wp_some (tb_neg h5).symm
end Go.Ar
end
