import Derived.Test.YthhcbcokjlpahaaGreatArDcC
import Derived.Lib.Join
import Derived.Lib.Bytealg
import Derived.Lib.BitFns
import Derived.Lib.Repeat
import Derived.Sort.AssemblyPlain
namespace Go.Ar
open Go.Proofs
set_option linter.unusedVariables false
set_option linter.unusedSimpArgs false
noncomputable def gstrings_Join(a0:List (List UInt8))(a1:List UInt8):Option (List UInt8):=if a0.length≤140737488355328∧(Lib.join a0 a1).length≤140737488355328 then some (Lib.join a0 a1) else none
noncomputable def gstrings_Repeat(a0:List UInt8)(a1:Int):Option (List UInt8):=if 0≤a1∧a1≤9223372036854775807∧a0.length*a1.toNat≤140737488355328 then some (Lib.repeatL a0 a1.toNat) else none
noncomputable def gslices_Delete_Item(a0:List ItemD)(a1 a2:Int):Option (List ItemD):=if 0≤a1∧a1<a2∧a2≤(a0.length:Int) then some (a0.take a1.toNat++a0.drop a2.toNat) else none
instance:Inhabited ItemD:=⟨⟨[],0,[],0⟩⟩
def cfI(x y:ItemD):Int:=Lib.compareBytes x.path y.path
def ltI(x y:ItemD):Bool:=decide (cfI x y<0)
/-- The items sorted, as the library sorts them. -/
def sortI(l:List ItemD):List ItemD:=(Sort.pdq ltI l.toArray 0 l.length (Lib.bitLen l.length) true true).toList
noncomputable def gslices_SortFunc_Item_ibyPath(a0:List ItemD):Option (List ItemD):=if a0.length<4611686018427387904 then some (sortI a0) else none
theorem bl_cons(x y:UInt8)(a b:List UInt8):Op.bytesLess (x::a) (y::b)=true↔x.toNat<y.toNat∨(x=y∧Op.bytesLess a b=true):=by
 simp [Op.bytesLess,UInt8.lt_iff_toNat_lt]
theorem cmpB_lt:∀a b:List UInt8,Lib.compareBytes a b<0↔Op.bytesLess a b=true
 | [],[]=>by simp [Lib.compareBytes,Op.bytesLess]
 | [],_::_=>by simp [Lib.compareBytes,Op.bytesLess]
 | _::_,[]=>by simp [Lib.compareBytes,Op.bytesLess]
 | x::a,y::b=>by
  have ih:=cmpB_lt a b
  rw [bl_cons]
  unfold Lib.compareBytes
  simp only [UInt8.lt_iff_toNat_lt]
  by_cases h1:x.toNat<y.toNat
  ·rw [if_pos h1];exact iff_of_true (by decide) (.inl h1)
  ·rw [if_neg h1]
   by_cases h2:y.toNat<x.toNat
   ·rw [if_pos h2]
    exact iff_of_false (by decide) fun h=>h.elim h1 fun h=>by rw [h.1] at h2;omega
   ·rw [if_neg h2,ih]
    exact ⟨fun h=>.inr ⟨UInt8.toNat_inj.1 (by omega),h⟩,fun h=>h.elim (absurd · h1) (·.2)⟩
theorem ltI_iff(x y:ItemD):ltI x y=true↔Op.bytesLess x.path y.path=true:=by
 unfold ltI cfI
 rw [decide_eq_true_iff,cmpB_lt]
theorem bl_irrefl:∀a:List UInt8,Op.bytesLess a a=false
 | []=>rfl
 | x::a=>by
  have ih:=bl_irrefl a
  rw [Bool.eq_false_iff]
  intro h
  rcases(bl_cons x x a a).1 h with h | h
  ·omega
  ·rw [ih] at h;cases h.2
theorem bl_trans:∀a b c:List UInt8,Op.bytesLess a b=true→Op.bytesLess b c=true→Op.bytesLess a c=true
 | [],[],_,h,_=>by simp [Op.bytesLess] at h
 | [],_::_,[],_,h=>by simp [Op.bytesLess] at h
 | [],_::_,_::_,_,_=>by simp [Op.bytesLess]
 | _::_,[],_,h,_=>by simp [Op.bytesLess] at h
 | _::_,_::_,[],_,h=>by simp [Op.bytesLess] at h
 | x::a,y::b,z::c,h1,h2=>by
  have ih:=bl_trans a b c
  rw [bl_cons] at h1 h2 ⊢
  rcases h1 with h1 | ⟨rfl,h1⟩
  ·rcases h2 with h2 | ⟨rfl,h2⟩
   ·exact .inl (by omega)
   ·exact .inl h1
  ·rcases h2 with h2 | ⟨rfl,h2⟩
   ·exact .inl h2
   ·exact .inr ⟨rfl,ih h1 h2⟩
theorem bl_tot:∀a b:List UInt8,Op.bytesLess a b=false→Op.bytesLess b a=false→a=b
 | [],[],_,_=>rfl
 | [],_::_,h,_=>by simp [Op.bytesLess] at h
 | _::_,[],_,h=>by simp [Op.bytesLess] at h
 | x::a,y::b,h1,h2=>by
  have ih:=bl_tot a b
  rw [Bool.eq_false_iff,Ne,bl_cons] at h1 h2
  have e:x=y:=UInt8.toNat_inj.1 (by
   have:¬x.toNat<y.toNat:=fun h=>h1 (.inl h)
   have:¬y.toNat<x.toNat:=fun h=>h2 (.inl h)
   omega)
  subst e
  rw [ih (by rw [Bool.eq_false_iff];exact fun h=>h1 (.inr ⟨rfl,h⟩)) (by rw [Bool.eq_false_iff];exact fun h=>h2 (.inr ⟨rfl,h⟩))]
theorem ltI_no{x y:ItemD}:ltI x y=false↔Op.bytesLess x.path y.path=false:=by
 have:=ltI_iff x y
 cases h1:ltI x y <;> cases h2:Op.bytesLess x.path y.path <;> simp_all
theorem ltI_swo:Sort.SWO ltI where
 irrefl x:=ltI_no.2 (bl_irrefl _)
 trans x y z h1 h2:=(ltI_iff _ _).2 (bl_trans _ _ _ ((ltI_iff _ _).1 h1) ((ltI_iff _ _).1 h2))
 ntrans x y z h1 h2:=by
  have h1:=ltI_no.1 h1
  have h2:=ltI_no.1 h2
  refine ltI_no.2 ?_
  cases h:Op.bytesLess x.path z.path with
  | false=>rfl
  | true =>
   by_cases e:Op.bytesLess y.path x.path=true
   ·rw [bl_trans _ _ _ e h] at h2;cases h2
   ·rw [bl_tot _ _ h1 (by simpa using e)] at h
    rw [h] at h2;cases h2
theorem sortI_eq(l:List ItemD):l.Perm (sortI l)∧(sortI l).Pairwise fun x y=>ltI y x=false:=by
 have h:=Sort.pdq_sorts ltI ltI_swo l.toArray 0 l.length (Lib.bitLen l.length) true true (Nat.zero_le _) (by simp) (Or.inl rfl)
 obtain⟨⟨h1,_,h2⟩,h3⟩:=h
 have hs:(sortI l).length=l.length:=by unfold sortI;rw [Array.length_toList,h1];simp
 refine ⟨?_,?_⟩
 ·rw [Array.toList_extract,Array.toList_extract] at h2
  have e:∀k:List ItemD,k.length=l.length→k.extract 0 l.length=k:=fun k hk=>by rw [List.extract_eq_take_drop,List.drop_zero,Nat.sub_zero,←hk,List.take_length]
  rw [show (Sort.pdq ltI l.toArray 0 l.length (Lib.bitLen l.length) true true).toList=sortI l from rfl,e _ hs,e _ (by simp)] at h2
  exact h2.symm
 ·rw [List.pairwise_iff_getElem]
  intro i j hi hj hij
  have:=h3 i j (Nat.zero_le _) hij (by omega)
  rw [getElem!_pos _ i (by rw [h1];simp;omega),getElem!_pos _ j (by rw [h1];simp;omega)] at this
  exact this
end Go.Ar
