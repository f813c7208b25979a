import Derived.Test.YthbgpgfloghnoaaGreatArKD
import Derived.Test.YthbgpgfloghnoaaGreatArDcN
import Derived.Test.YthbgpgfloghnoaaGreatArDcO
import Derived.Test.YthbgpgfloghnoaaGreatArSf
import Derived.Test.YthbgpgfloghnoaaGreatArKa
import Derived.Test.YthbgpgfloghnoaaGreatArKc
import Derived.Test.YthbgpgfloghnoaaGreatArKe
import Derived.Test.YthbgpgfloghnoaaGreatArKf
namespace Go.Ar
open Go.Proofs
set_option linter.unusedVariables false
set_option linter.unusedSimpArgs false
set_option maxRecDepth 20000
set_option maxHeartbeats 40000000
theorem ArKg1:type_of% (And.intro @F (And.intro @F2 (And.intro @N0 (And.intro @N_Int (And.intro @N_Node @N_String))))):=⟨@F,@F2,@N0,@N_Int,@N_Node,@N_String⟩
theorem ArKg2:type_of% (And.intro @F (And.intro @F2 (And.intro @N0 (And.intro @N_Branch (And.intro @N_Node @N_String))))):=⟨@F,@F2,@N0,@N_Branch,@N_Node,@N_String⟩
theorem ArKg3:type_of% (And.intro @F (And.intro @F2 @N0)):=⟨@F,@F2,@N0⟩
theorem ArKg4:type_of% (And.intro @F (And.intro @F2 (And.intro @N0 @N_Branch))):=⟨@F,@F2,@N0,@N_Branch⟩
theorem ArKg5:type_of% (And.intro @F (And.intro @F2 (And.intro @N0 (And.intro @N_Branch (And.intro @N_Int (And.intro @N_Node @N_String)))))):=⟨@F,@F2,@N0,@N_Branch,@N_Int,@N_Node,@N_String⟩
theorem ArKg7:type_of% (And.intro @F (And.intro @F2 (And.intro @N0 (And.intro @N_Entry (And.intro @N_Int (And.intro @N_Node @N_String)))))):=⟨@F,@F2,@N0,@N_Entry,@N_Int,@N_Node,@N_String⟩
theorem ArKg8:type_of% (And.intro @F (And.intro @F2 (And.intro @N0 (And.intro @N_Node @N_String)))):=⟨@F,@F2,@N0,@N_Node,@N_String⟩
theorem ArKg9:type_of% (And.intro @F (And.intro @F2 (And.intro @N0 (And.intro @N_Branch (And.intro @N_Item (And.intro @N_Node @N_String)))))):=⟨@F,@F2,@N0,@N_Branch,@N_Item,@N_Node,@N_String⟩
theorem ArKg10:type_of% (And.intro @F (And.intro @F2 (And.intro @N0 @N_String))):=⟨@F,@F2,@N0,@N_String⟩
theorem r_iFreeOf{a0:FsD}{r:Int}(h:iFreeOf a0=some r):Ret pg 40 true [.ag (fsC a0)] [] (.i .i64 r):=by
  unfold iFreeOf at h
  refine retD 1000 1000 [] (.s .o (.s .o (.s .o (.s .o (.k .o .o))))) Tryz.func40 rfl (by decide +kernel) (by decide +kernel) rfl trivial ?_
  cbv;try simp only[ArKg1]
  obtain⟨r3,hr3,h⟩:=bnd_out h
  refine CallK.introE rfl rfl (r_iShapeOk hr3) ?_
  clear hr3
  cbv;try simp only[ArKg1]
  cases r3
  ·simp only [cond_false] at h
   cbv;try simp only[ArKg1]
   obtain rfl:=SI h
   (try simp only [Z0]);exact LeV.to rfl (LeF.rfl' _)
  ·simp only [cond_true] at h
   cbv;try simp only[ArKg1]
   obtain⟨r5,hr5,h⟩:=bnd_out h
   refine CallK.introE rfl rfl (r_iowners hr5) ?_
   obtain⟨r5_0,r5_1⟩:=r5
   try dsimp only at h
   clear hr5
   cbv;try simp only[ArKg1]
   obtain⟨o12,ho12,h⟩:=bnd_out h
   refine CutK.intro (α:=Int) [5] [] (fun a=>[(5,.i .i64 a)]) (fun a=>[]) (fun a=>a=o12) ?_ ?_
   ·cbv;try simp only[ArKg1]
    refine LoopR (σ:=Int × Int) ho12 [3,5,16,17,18] [] (fun a=>[(5,.i .i64 a.1),(18,.i .i64 a.2)]) (fun a=>[]) (by first|rfl|(simp only[Z0];rfl)) fun _ s16 xs16 hs16 bs16 es16=>?_
    obtain⟨s16_0,s16_1⟩:=s16
    try dsimp only at hs16
    cbv;try simp only[ArKg1]
    split
    ·rename_i q19;simp only [q19,cond_true] at hs16 ⊢
     cbv;try simp only[ArKg1]
     obtain⟨y17,hy17,hs16⟩:=bnd_out hs16
     refine ⟨gt_in hy17,?_⟩
     refine ⟨_,gt_at _ hy17,?_⟩
     cbv;try simp only[ArKg1]
     split
     ·rename_i q18;simp only [q18,cond_true] at hs16 ⊢
      cbv;try simp only[ArKg1]
      obtain rfl:=SI hs16
      refine ⟨_,bs16 _ rfl,?_⟩;first|rfl|(simp only[Z0];rfl)
     ·rename_i q18;simp only [q18,cond_false] at hs16 ⊢
      cbv;try simp only[ArKg1]
      obtain rfl:=SI hs16
      refine ⟨_,bs16 _ rfl,?_⟩;first|rfl|(simp only[Z0];rfl)
    ·rename_i q19;simp only [q19,cond_false] at hs16 ⊢
     cbv;try simp only[ArKg1]
     obtain rfl:=SI hs16
     replace ho12:=congrArg some (es16 _ rfl)
     obtain rfl:=SI ho12
     refine ⟨_,rfl,?_⟩;first|rfl|(simp only[Z0];rfl)
   ·rintro a13 rfl
    clear ho12
    cbv;try simp only[ArKg1]
    obtain rfl:=SI h
    (try simp only [Z0]);exact LeV.to rfl (LeF.rfl' _)
theorem r_sl1Bit{a0:Bool}{r:Int}(h:sl1Bit a0=some r):Ret pg 46 true [.b a0] [] (.i .i64 r):=by
  unfold sl1Bit at h
  refine retD 1000 1000 [] .o Tryz.func46 rfl (by decide +kernel) (by decide +kernel) rfl trivial ?_
  cbv;try simp only[ArKg3]
  cases a0
  ·simp only [cond_false] at h
   cbv;try simp only[ArKg3]
   obtain rfl:=SI h
   (try simp only [Z0]);exact LeV.to rfl (LeF.rfl' _)
  ·simp only [cond_true] at h
   cbv;try simp only[ArKg3]
   obtain rfl:=SI h
   (try simp only [Z0]);exact LeV.to rfl (LeF.rfl' _)
theorem r_sFreeOf{a0:FsD}{r:Int}(h:sFreeOf a0=some r):Ret pg 68 true [.ag (fsC a0)] [] (.i .i64 r):=by
  unfold sFreeOf at h
  refine retD 1000 1000 [] (.s .o (.s .o (.s .o (.s .o (.k .o .o))))) Tryz.func68 rfl (by decide +kernel) (by decide +kernel) rfl trivial ?_
  cbv;try simp only[ArKg1]
  obtain⟨r3,hr3,h⟩:=bnd_out h
  refine CallK.introE rfl rfl (r_sShapeOk hr3) ?_
  clear hr3
  cbv;try simp only[ArKg1]
  cases r3
  ·simp only [cond_false] at h
   cbv;try simp only[ArKg1]
   obtain rfl:=SI h
   (try simp only [Z0]);exact LeV.to rfl (LeF.rfl' _)
  ·simp only [cond_true] at h
   cbv;try simp only[ArKg1]
   obtain⟨r5,hr5,h⟩:=bnd_out h
   refine CallK.introE rfl rfl (r_sl6Used hr5) ?_
   clear hr5
   cbv;try simp only[ArKg1]
   obtain⟨o15,ho15,h⟩:=bnd_out h
   refine CutK.intro (α:=Int) [3] [] (fun a=>[(3,.i .i64 a)]) (fun a=>[]) (fun a=>a=o15) ?_ ?_
   ·cbv;try simp only[ArKg1]
    refine LoopR (σ:=Int × Int) ho15 [1,3,4,5] [1] (fun a=>[(3,.i .i64 a.1),(5,.i .i64 a.2)]) (fun a=>[]) (by first|rfl|(simp only[Z0];rfl)) fun _ s21 xs21 hs21 bs21 es21=>?_
    obtain⟨s21_0,s21_1⟩:=s21
    try dsimp only at hs21
    cbv;try simp only[ArKg1]
    split
    ·rename_i q24;simp only [q24,cond_true] at hs21 ⊢
     cbv;try simp only[ArKg1]
     obtain⟨y22,hy22,hs21⟩:=bnd_out hs21
     refine ⟨gt_in hy22,?_⟩
     refine ⟨_,gt_at _ hy22,?_⟩
     cbv;try simp only[ArKg1]
     obtain⟨r23,hr23,hs21⟩:=bnd_out hs21
     refine CallK.introE rfl rfl (r_sl1Bit hr23) ?_
     clear hr23
     cbv;try simp only[ArKg1]
     obtain rfl:=SI hs21
     refine ⟨_,bs21 _ rfl,?_⟩;first|rfl|(simp only[Z0];rfl)
    ·rename_i q24;simp only [q24,cond_false] at hs21 ⊢
     cbv;try simp only[ArKg1]
     obtain rfl:=SI hs21
     replace ho15:=congrArg some (es21 _ rfl)
     obtain rfl:=SI ho15
     refine ⟨_,rfl,?_⟩;first|rfl|(simp only[Z0];rfl)
   ·rintro a16 rfl
    clear ho15
    cbv;try simp only[ArKg1]
    obtain rfl:=SI h
    (try simp only [Z0]);exact LeV.to rfl (LeF.rfl' _)
theorem r_iEligible{a0:PoolD}{a1:Int}{r:(List Int)}(h:iEligible a0 a1=some r):Ret pg 15 true [.ag (poolC a0),.i .i64 a1] [] (.sl .own 1 (rows intR r)):=by
  unfold iEligible at h
  refine retD 8 3 [(7,[⟨true,[],[20]⟩,⟨true,[],[21]⟩,⟨true,[],[22]⟩,⟨true,[],[22,23]⟩,⟨true,[],[24]⟩,⟨true,[],[25]⟩,⟨true,[],[26]⟩,⟨true,[],[27]⟩,⟨true,[],[27,28]⟩,⟨true,[],[29]⟩,⟨false,[32,33],[30]⟩,⟨false,[32,33],[31]⟩,⟨false,[30,31],[32]⟩,⟨false,[30,31],[33]⟩,⟨true,[],[34]⟩,⟨true,[],[35]⟩])] (.s .o (.s .o (.s .o (.k .o .o)))) Tryz.func15 rfl (by decide +kernel) (by decide +kernel) rfl ⟨rfl,own_intS _⟩ ?_
  cbv;try simp only[ArKg5]
  repeat((first|refine R6 ?_|refine A6 ?_);cbv;try simp only[ArKg5])
  obtain⟨r3,hr3,h⟩:=bnd_out h
  refine CallK.introE rfl rfl (r_iPoolOk hr3) ?_
  clear hr3
  cbv;try simp only[ArKg5]
  repeat((first|refine R6 ?_|refine A6 ?_);cbv;try simp only[ArKg5])
  cases r3
  ·simp only [cond_false] at h
   cbv;try simp only[ArKg5]
   repeat((first|refine R6 ?_|refine A6 ?_);cbv;try simp only[ArKg5])
   obtain rfl:=SI h
   first | exact LeV.to rfl (LeF.nr _ _ _) | (simp only [rows_nil,bys_n];exact LeV.to rfl (LeF.nr _ _ _))
  ·simp only [cond_true] at h
   cbv;try simp only[ArKg5]
   repeat((first|refine R6 ?_|refine A6 ?_);cbv;try simp only[ArKg5])
   obtain⟨o15,ho15,h⟩:=bnd_out h
   refine CutK.intro (α:=(List Int)) [5] [] (fun a=>[(5,.sl .own 1 (rows intR a))]) (fun a=>[]) (fun a=>a=o15) ?_ ?_
   ·cbv;try simp only[ArKg5]
    repeat((first|refine R6 ?_|refine A6 ?_);cbv;try simp only[ArKg5])
    refine LoopR (σ:=(List Int) × Int) ho15 [1,2,5,13,14,15] [2] (fun a=>[(5,.sl .own 1 (rows intR a.1)),(15,.i .i64 a.2)]) (fun a=>[]) (by first|rfl|(simp only[Z0];rfl)) fun _ s21 xs21 hs21 bs21 es21=>?_
    obtain⟨s21_0,s21_1⟩:=s21
    try dsimp only at hs21
    cbv;try simp only[ArKg5]
    repeat((first|refine R6 ?_|refine A6 ?_);cbv;try simp only[ArKg5])
    split
    ·rename_i q28;simp only [q28,cond_true] at hs21 ⊢
     cbv;try simp only[ArKg5]
     repeat((first|refine R6 ?_|refine A6 ?_);cbv;try simp only[ArKg5])
     obtain⟨y22,hy22,hs21⟩:=bnd_out hs21
     refine ⟨gt_in hy22,?_⟩
     repeat((first|refine R6 ?_|refine A6 ?_);cbv;try simp only[ArKg5])
     refine ⟨_,gt_at _ hy22,?_⟩
     cbv;try simp only[ArKg5]
     repeat((first|refine R6 ?_|refine A6 ?_);cbv;try simp only[ArKg5])
     split
     ·rename_i q27;simp only [q27,cond_true] at hs21 ⊢
      cbv;try simp only[ArKg5]
      repeat((first|refine R6 ?_|refine A6 ?_);cbv;try simp only[ArKg5])
      split
      ·rename_i q26;simp only [q26,cond_true] at hs21 ⊢
       cbv;try simp only[ArKg5]
       repeat((first|refine R6 ?_|refine A6 ?_);cbv;try simp only[ArKg5])
       obtain⟨r23,hr23,hs21⟩:=bnd_out hs21
       refine CallK.introE rfl rfl (r_iFreeOf hr23) ?_
       clear hr23
       cbv;try simp only[ArKg5]
       repeat((first|refine R6 ?_|refine A6 ?_);cbv;try simp only[ArKg5])
       split
       ·rename_i q25;simp only [q25,cond_true] at hs21 ⊢
        cbv;try simp only[ArKg5]
        repeat((first|refine R6 ?_|refine A6 ?_);cbv;try simp only[ArKg5])
        obtain⟨c24,hs21⟩:=ck_out hs21
        refine ⟨c24,?_⟩
        repeat((first|refine R6 ?_|refine A6 ?_);cbv;try simp only[ArKg5])
        obtain rfl:=SI hs21
        refine ⟨_,bs21 _ rfl,?_⟩;first|rfl|(simp only[Z0];rfl)
       ·rename_i q25;simp only [q25,cond_false] at hs21 ⊢
        cbv;try simp only[ArKg5]
        repeat((first|refine R6 ?_|refine A6 ?_);cbv;try simp only[ArKg5])
        obtain rfl:=SI hs21
        refine ⟨_,bs21 _ rfl,?_⟩;first|rfl|(simp only[Z0];rfl)
      ·rename_i q26;simp only [q26,cond_false] at hs21 ⊢
       cbv;try simp only[ArKg5]
       repeat((first|refine R6 ?_|refine A6 ?_);cbv;try simp only[ArKg5])
       obtain rfl:=SI hs21
       refine ⟨_,bs21 _ rfl,?_⟩;first|rfl|(simp only[Z0];rfl)
     ·rename_i q27;simp only [q27,cond_false] at hs21 ⊢
      cbv;try simp only[ArKg5]
      repeat((first|refine R6 ?_|refine A6 ?_);cbv;try simp only[ArKg5])
      obtain rfl:=SI hs21
      refine ⟨_,bs21 _ rfl,?_⟩;first|rfl|(simp only[Z0];rfl)
    ·rename_i q28;simp only [q28,cond_false] at hs21 ⊢
     cbv;try simp only[ArKg5]
     repeat((first|refine R6 ?_|refine A6 ?_);cbv;try simp only[ArKg5])
     obtain rfl:=SI hs21
     replace ho15:=congrArg some (es21 _ rfl)
     obtain rfl:=SI ho15
     refine ⟨_,rfl,?_⟩;first|rfl|(simp only[Z0];rfl)
   ·rintro a16 rfl
    clear ho15
    cbv;try simp only[ArKg5]
    repeat((first|refine R6 ?_|refine A6 ?_);cbv;try simp only[ArKg5])
    obtain rfl:=SI h
    (try simp only [Z0]);exact LeV.to rfl (LeF.rfl' _)
theorem r_sl13Eligible{a0:PoolD}{a1:Int}{r:(List Int)}(h:sl13Eligible a0 a1=some r):Ret pg 43 true [.ag (poolC a0),.i .i64 a1] [] (.sl .own 1 (rows intR r)):=by
  unfold sl13Eligible at h
  refine retD 8 3 [(5,[⟨true,[],[15]⟩,⟨false,[17],[16]⟩,⟨false,[16],[17]⟩,⟨true,[],[18]⟩,⟨true,[],[19]⟩,⟨true,[],[20]⟩,⟨true,[],[21]⟩,⟨true,[],[21,22]⟩,⟨true,[],[23]⟩,⟨true,[],[24]⟩,⟨true,[],[25]⟩,⟨true,[],[26]⟩,⟨true,[],[26,27]⟩,⟨true,[],[28]⟩,⟨false,[30,35,36],[29]⟩,⟨false,[29],[30]⟩,⟨false,[35,36],[31]⟩,⟨false,[35,36],[32]⟩,⟨false,[35,36],[33]⟩,⟨false,[35,36],[34]⟩,⟨false,[29,31,32,33,34],[35]⟩,⟨false,[29,31,32,33,34],[36]⟩,⟨true,[],[37]⟩,⟨true,[],[38]⟩])] (.s .o (.s .o (.k .o .o))) Tryz.func43 rfl (by decide +kernel) (by decide +kernel) rfl ⟨rfl,own_intS _⟩ ?_
  cbv;try simp only[ArKg5]
  repeat((first|refine R6 ?_|refine A6 ?_);cbv;try simp only[ArKg5])
  obtain⟨o12,ho12,h⟩:=bnd_out h
  refine CutK.intro (α:=(List Int)) [5] [] (fun a=>[(5,.sl .own 1 (rows intR a))]) (fun a=>[]) (fun a=>a=o12) ?_ ?_
  ·cbv;try simp only[ArKg5]
   repeat((first|refine R6 ?_|refine A6 ?_);cbv;try simp only[ArKg5])
   refine LoopR (σ:=(List Int) × Int) ho12 [1,2,5,6] [2] (fun a=>[(5,.sl .own 1 (rows intR a.1)),(6,.i .i64 a.2)]) (fun a=>[]) (by first|rfl|(simp only[Z0];rfl)) fun _ s18 xs18 hs18 bs18 es18=>?_
   obtain⟨s18_0,s18_1⟩:=s18
   try dsimp only at hs18
   cbv;try simp only[ArKg5]
   repeat((first|refine R6 ?_|refine A6 ?_);cbv;try simp only[ArKg5])
   split
   ·rename_i q25;simp only [q25,cond_true] at hs18 ⊢
    cbv;try simp only[ArKg5]
    repeat((first|refine R6 ?_|refine A6 ?_);cbv;try simp only[ArKg5])
    obtain⟨y19,hy19,hs18⟩:=bnd_out hs18
    refine ⟨gt_in hy19,?_⟩
    repeat((first|refine R6 ?_|refine A6 ?_);cbv;try simp only[ArKg5])
    refine ⟨_,gt_at _ hy19,?_⟩
    cbv;try simp only[ArKg5]
    repeat((first|refine R6 ?_|refine A6 ?_);cbv;try simp only[ArKg5])
    split
    ·rename_i q24;simp only [q24,cond_true] at hs18 ⊢
     cbv;try simp only[ArKg5]
     repeat((first|refine R6 ?_|refine A6 ?_);cbv;try simp only[ArKg5])
     split
     ·rename_i q23;simp only [q23,cond_true] at hs18 ⊢
      cbv;try simp only[ArKg5]
      repeat((first|refine R6 ?_|refine A6 ?_);cbv;try simp only[ArKg5])
      refine ⟨gt_in hy19,?_⟩
      repeat((first|refine R6 ?_|refine A6 ?_);cbv;try simp only[ArKg5])
      refine ⟨_,gt_at _ hy19,?_⟩
      cbv;try simp only[ArKg5]
      repeat((first|refine R6 ?_|refine A6 ?_);cbv;try simp only[ArKg5])
      obtain⟨r20,hr20,hs18⟩:=bnd_out hs18
      refine CallK.introE rfl rfl (r_sFreeOf hr20) ?_
      clear hr20
      cbv;try simp only[ArKg5]
      repeat((first|refine R6 ?_|refine A6 ?_);cbv;try simp only[ArKg5])
      split
      ·rename_i q22;simp only [q22,cond_true] at hs18 ⊢
       cbv;try simp only[ArKg5]
       repeat((first|refine R6 ?_|refine A6 ?_);cbv;try simp only[ArKg5])
       obtain⟨c21,hs18⟩:=ck_out hs18
       refine ⟨c21,?_⟩
       repeat((first|refine R6 ?_|refine A6 ?_);cbv;try simp only[ArKg5])
       obtain rfl:=SI hs18
       refine ⟨_,bs18 _ rfl,?_⟩;first|rfl|(simp only[Z0];rfl)
      ·rename_i q22;simp only [q22,cond_false] at hs18 ⊢
       cbv;try simp only[ArKg5]
       repeat((first|refine R6 ?_|refine A6 ?_);cbv;try simp only[ArKg5])
       obtain rfl:=SI hs18
       refine ⟨_,bs18 _ rfl,?_⟩;first|rfl|(simp only[Z0];rfl)
     ·rename_i q23;simp only [q23,cond_false] at hs18 ⊢
      cbv;try simp only[ArKg5]
      repeat((first|refine R6 ?_|refine A6 ?_);cbv;try simp only[ArKg5])
      obtain rfl:=SI hs18
      refine ⟨_,bs18 _ rfl,?_⟩;first|rfl|(simp only[Z0];rfl)
    ·rename_i q24;simp only [q24,cond_false] at hs18 ⊢
     cbv;try simp only[ArKg5]
     repeat((first|refine R6 ?_|refine A6 ?_);cbv;try simp only[ArKg5])
     obtain rfl:=SI hs18
     refine ⟨_,bs18 _ rfl,?_⟩;first|rfl|(simp only[Z0];rfl)
   ·rename_i q25;simp only [q25,cond_false] at hs18 ⊢
    cbv;try simp only[ArKg5]
    repeat((first|refine R6 ?_|refine A6 ?_);cbv;try simp only[ArKg5])
    obtain rfl:=SI hs18
    replace ho12:=congrArg some (es18 _ rfl)
    obtain rfl:=SI ho12
    refine ⟨_,rfl,?_⟩;first|rfl|(simp only[Z0];rfl)
  ·rintro a13 rfl
   clear ho12
   cbv;try simp only[ArKg5]
   repeat((first|refine R6 ?_|refine A6 ?_);cbv;try simp only[ArKg5])
   obtain rfl:=SI h
   (try simp only [Z0]);exact LeV.to rfl (LeF.rfl' _)
theorem r_ihasBranch{a0:PoolD}{a1:Int}{r:Bool}(h:ihasBranch a0 a1=some r):Ret pg 54 true [.ag (poolC a0),.i .i64 a1] [] (.b r):=by
  unfold ihasBranch at h
  refine retD 1000 1000 [] .o Tryz.func54 rfl (by decide +kernel) (by decide +kernel) rfl trivial ?_
  cbv;try simp only[ArKg4]
  obtain⟨r3,hr3,h⟩:=bnd_out h
  refine CallK.introE rfl rfl (r_iPoolOk hr3) ?_
  clear hr3
  cbv;try simp only[ArKg4]
  cases r3
  ·simp only [cond_false] at h
   cbv;try simp only[ArKg4]
   obtain rfl:=SI h
   (try simp only [Z0]);exact LeV.to rfl (LeF.rfl' _)
  ·simp only [cond_true] at h
   cbv;try simp only[ArKg4]
   obtain⟨r4,hr4,h⟩:=bnd_out h
   refine CallK.introE rfl rfl (r_iwithin hr4) ?_
   clear hr4
   cbv;try simp only[ArKg4]
   obtain rfl:=SI h
   (try simp only [Z0]);exact LeV.to rfl (LeF.rfl' _)
theorem r_ifollow{a0:FsD}{a1:List (List UInt8)}{r:Int}(h:ifollow a0 a1=some r):Ret pg 122 true [.ag (fsC a0),.sl .shr 1 (rows strR a1)] [] (.i .i64 r):=by
  unfold ifollow at h
  refine retD 1000 1000 [] (.s .o (.s .o (.k .o .o))) Tryz.func122 rfl (by decide +kernel) (by decide +kernel) rfl trivial ?_
  cbv;try simp only[ArKg7]
  obtain⟨o23,ho23,h⟩:=bnd_out h
  refine CutK.intro (α:=Int) [5] [] (fun a=>[(5,.i .i64 a)]) (fun a=>[]) (fun a=>(Sum.inl a:_ ⊕ _)=o23) ?_ ?_
  ·cbv;try simp only[ArKg7]
   refine LoopR (σ:=Int × Int) ho23 [2,5,10,11,12] [2] (fun a=>[(5,.i .i64 a.1),(12,.i .i64 a.2)]) (fun a=>[]) (by first|rfl|(simp only[Z0];rfl)) fun _ s33 xs33 hs33 bs33 es33=>?_
   obtain⟨s33_0,s33_1⟩:=s33
   try dsimp only at hs33
   cbv;try simp only[ArKg7]
   split
   ·rename_i q40;simp only [q40,cond_true] at hs33 ⊢
    cbv;try simp only[ArKg7]
    obtain⟨y34,hy34,hs33⟩:=bnd_out hs33
    refine ⟨gt_in hy34,?_⟩
    refine ⟨_,gt_at _ hy34,?_⟩
    cbv;try simp only[ArKg7]
    obtain⟨y35,hy35,hs33⟩:=bnd_out hs33
    refine ⟨gt_in hy35,?_⟩
    refine ⟨_,gt_at _ hy35,?_⟩
    cbv;try simp only[ArKg7]
    split
    ·rename_i q39;simp only [q39,cond_true] at hs33 ⊢
     cbv;try simp only[ArKg7]
     obtain rfl:=SI hs33
     replace ho23:=congrArg some (es33 _ rfl)
     obtain rfl:=SI ho23
     simp only [Sum.elim_inr] at h
     obtain rfl:=SI h
     (try simp only [Z0]);exact LeV.to rfl (LeF.rfl' _)
    ·rename_i q39;simp only [q39,cond_false] at hs33 ⊢
     cbv;try simp only[ArKg7]
     obtain⟨r36,hr36,hs33⟩:=bnd_out hs33
     refine CallK.introE rfl rfl (r_ientries hr36) ?_
     obtain⟨r36_0,r36_1⟩:=r36
     try dsimp only at hs33
     clear hr36
     cbv;try simp only[ArKg7]
     obtain⟨r37,hr37,hs33⟩:=bnd_out hs33
     refine CallK.introE rfl rfl (r_iDirFind hr37) ?_
     clear hr37
     cbv;try simp only[ArKg7]
     split
     ·rename_i q38;simp only [q38,cond_true] at hs33 ⊢
      cbv;try simp only[ArKg7]
      obtain rfl:=SI hs33
      replace ho23:=congrArg some (es33 _ rfl)
      obtain rfl:=SI ho23
      simp only [Sum.elim_inr] at h
      obtain rfl:=SI h
      (try simp only [Z0]);exact LeV.to rfl (LeF.rfl' _)
     ·rename_i q38;simp only [q38,cond_false] at hs33 ⊢
      cbv;try simp only[ArKg7]
      obtain rfl:=SI hs33
      refine ⟨_,bs33 _ rfl,?_⟩;first|rfl|(simp only[Z0];rfl)
   ·rename_i q40;simp only [q40,cond_false] at hs33 ⊢
    cbv;try simp only[ArKg7]
    obtain rfl:=SI hs33
    replace ho23:=congrArg some (es33 _ rfl)
    obtain rfl:=SI ho23
    refine ⟨_,rfl,?_⟩;first|rfl|(simp only[Z0];rfl)
  ·rintro a24 rfl
   clear ho23
   simp only [Sum.elim_inl] at h
   cbv;try simp only[ArKg7]
   obtain rfl:=SI h
   (try simp only [Z0]);exact LeV.to rfl (LeF.rfl' _)
theorem r_iWalk{a0:FsD}{a1:List UInt8}{r:Int}(h:iWalk a0 a1=some r):Ret pg 86 true [.ag (fsC a0),.s a1] [] (.i .i64 r):=by
  unfold iWalk at h
  refine retD 1000 1000 [] .o Tryz.func86 rfl (by decide +kernel) (by decide +kernel) rfl trivial ?_
  cbv;try simp only[ArKg8]
  obtain⟨r2,hr2,h⟩:=bnd_out h
  refine CallK.introE rfl rfl (r_ireadPath hr2) ?_
  obtain⟨r2_0,r2_1⟩:=r2
  try dsimp only at h
  clear hr2
  cbv;try simp only[ArKg8]
  cases r2_1
  ·simp only [cond_false] at h
   cbv;try simp only[ArKg8]
   obtain rfl:=SI h
   (try simp only [Z0]);exact LeV.to rfl (LeF.rfl' _)
  ·simp only [cond_true] at h
   cbv;try simp only[ArKg8]
   obtain⟨r5,hr5,h⟩:=bnd_out h
   refine CallK.introE rfl rfl (r_iFsOk hr5) ?_
   clear hr5
   cbv;try simp only[ArKg8]
   cases r5
   ·simp only [cond_false] at h
    cbv;try simp only[ArKg8]
    obtain rfl:=SI h
    (try simp only [Z0]);exact LeV.to rfl (LeF.rfl' _)
   ·simp only [cond_true] at h
    cbv;try simp only[ArKg8]
    obtain⟨r7,hr7,h⟩:=bnd_out h
    refine CallK.introE rfl rfl (r_ifollow hr7) ?_
    clear hr7
    cbv;try simp only[ArKg8]
    obtain rfl:=SI h
    (try simp only [Z0]);exact LeV.to rfl (LeF.rfl' _)
theorem r_iHolders{a0:PoolD}{a1:List UInt8}{r:(List Int)}(h:iHolders a0 a1=some r):Ret pg 95 true [.ag (poolC a0),.s a1] [] (.sl .own 1 (rows intR r)):=by
  unfold iHolders at h
  refine retD 1000 1000 [] (.s .o (.s .o (.s .o (.k .o .o)))) Tryz.func95 rfl (by decide +kernel) (by decide +kernel) rfl ⟨rfl,own_intS _⟩ ?_
  cbv;try simp only[ArKg5]
  obtain⟨r3,hr3,h⟩:=bnd_out h
  refine CallK.introE rfl rfl (r_iPoolOk hr3) ?_
  clear hr3
  cbv;try simp only[ArKg5]
  cases r3
  ·simp only [cond_false] at h
   cbv;try simp only[ArKg5]
   obtain rfl:=SI h
   first | exact LeV.to rfl (LeF.nr _ _ _) | (simp only [rows_nil,bys_n];exact LeV.to rfl (LeF.nr _ _ _))
  ·simp only [cond_true] at h
   cbv;try simp only[ArKg5]
   obtain⟨o15,ho15,h⟩:=bnd_out h
   refine CutK.intro (α:=(List Int)) [5] [] (fun a=>[(5,.sl .own 1 (rows intR a))]) (fun a=>[]) (fun a=>a=o15) ?_ ?_
   ·cbv;try simp only[ArKg5]
    refine LoopR (σ:=(List Int) × Int) ho15 [1,5,13,14,15] [] (fun a=>[(5,.sl .own 1 (rows intR a.1)),(15,.i .i64 a.2)]) (fun a=>[]) (by first|rfl|(simp only[Z0];rfl)) fun _ s21 xs21 hs21 bs21 es21=>?_
    obtain⟨s21_0,s21_1⟩:=s21
    try dsimp only at hs21
    cbv;try simp only[ArKg5]
    split
    ·rename_i q26;simp only [q26,cond_true] at hs21 ⊢
     cbv;try simp only[ArKg5]
     obtain⟨y22,hy22,hs21⟩:=bnd_out hs21
     refine ⟨gt_in hy22,?_⟩
     refine ⟨_,gt_at _ hy22,?_⟩
     cbv;try simp only[ArKg5]
     obtain⟨r23,hr23,hs21⟩:=bnd_out hs21
     refine CallK.introE rfl rfl (r_iWalk hr23) ?_
     clear hr23
     cbv;try simp only[ArKg5]
     split
     ·rename_i q25;simp only [q25,cond_true] at hs21 ⊢
      cbv;try simp only[ArKg5]
      obtain⟨c24,hs21⟩:=ck_out hs21
      refine ⟨c24,?_⟩
      obtain rfl:=SI hs21
      refine ⟨_,bs21 _ rfl,?_⟩;first|rfl|(simp only[Z0];rfl)
     ·rename_i q25;simp only [q25,cond_false] at hs21 ⊢
      cbv;try simp only[ArKg5]
      obtain rfl:=SI hs21
      refine ⟨_,bs21 _ rfl,?_⟩;first|rfl|(simp only[Z0];rfl)
    ·rename_i q26;simp only [q26,cond_false] at hs21 ⊢
     cbv;try simp only[ArKg5]
     obtain rfl:=SI hs21
     replace ho15:=congrArg some (es21 _ rfl)
     obtain rfl:=SI ho15
     refine ⟨_,rfl,?_⟩;first|rfl|(simp only[Z0];rfl)
   ·rintro a16 rfl
    clear ho15
    cbv;try simp only[ArKg5]
    obtain rfl:=SI h
    (try simp only [Z0]);exact LeV.to rfl (LeF.rfl' _)
theorem r_iGenAt{a0:FsD}{a1:List UInt8}{r:Int}(h:iGenAt a0 a1=some r):Ret pg 96 true [.ag (fsC a0),.s a1] [] (.i .i64 r):=by
  unfold iGenAt at h
  refine retD 1000 1000 [] .o Tryz.func96 rfl (by decide +kernel) (by decide +kernel) rfl trivial ?_
  cbv;try simp only[ArKg1]
  obtain⟨r2,hr2,h⟩:=bnd_out h
  refine CallK.introE rfl rfl (r_iWalk hr2) ?_
  clear hr2
  cbv;try simp only[ArKg1]
  split
  ·rename_i q5;simp only [q5,cond_true] at h ⊢
   cbv;try simp only[ArKg1]
   obtain rfl:=SI h
   (try simp only [Z0]);exact LeV.to rfl (LeF.rfl' _)
  ·rename_i q5;simp only [q5,cond_false] at h ⊢
   cbv;try simp only[ArKg1]
   obtain⟨y4,hy4,h⟩:=bnd_out h
   refine ⟨gt_in hy4,?_⟩
   refine ⟨_,gt_at _ hy4,?_⟩
   cbv;try simp only[ArKg1]
   obtain rfl:=SI h
   (try simp only [Z0]);exact LeV.to rfl (LeF.rfl' _)
theorem r_iWinner{a0:PoolD}{a1:List UInt8}{r:Int}(h:iWinner a0 a1=some r):Ret pg 56 true [.ag (poolC a0),.s a1] [] (.i .i64 r):=by
  unfold iWinner at h
  refine retD 1000 1000 [] (.s .o (.s .o (.k .o .o))) Tryz.func56 rfl (by decide +kernel) (by decide +kernel) rfl trivial ?_
  cbv;try simp only[ArKg5]
  obtain⟨o19,ho19,h⟩:=bnd_out h
  refine CutK.intro (α:=Int) [5] [] (fun a=>[(5,.i .i64 a)]) (fun a=>[]) (fun a=>a=o19) ?_ ?_
  ·cbv;try simp only[ArKg5]
   obtain⟨r21,hr21,ho19⟩:=bnd_out ho19
   refine CallK.introE rfl rfl (r_iHolders hr21) ?_
   clear hr21
   cbv;try simp only[ArKg5]
   refine LoopR (σ:=Int × Int × Int) ho19 [1,2,5,6,12,13,14] [2] (fun a=>[(5,.i .i64 a.1),(6,.i .i64 a.2.1),(14,.i .i64 a.2.2)]) (fun a=>[]) (by first|rfl|(simp only[Z0];rfl)) fun _ s28 xs28 hs28 bs28 es28=>?_
   obtain⟨s28_0,s28_1,s28_2⟩:=s28
   try dsimp only at hs28
   cbv;try simp only[ArKg5]
   split
   ·rename_i q33;simp only [q33,cond_true] at hs28 ⊢
    cbv;try simp only[ArKg5]
    obtain⟨y29,hy29,hs28⟩:=bnd_out hs28
    refine ⟨gt_in hy29,?_⟩
    refine ⟨_,gt_at _ hy29,?_⟩
    cbv;try simp only[ArKg5]
    obtain⟨y30,hy30,hs28⟩:=bnd_out hs28
    refine ⟨gt_in hy30,?_⟩
    refine ⟨_,gt_at _ hy30,?_⟩
    cbv;try simp only[ArKg5]
    obtain⟨r31,hr31,hs28⟩:=bnd_out hs28
    refine CallK.introE rfl rfl (r_iGenAt hr31) ?_
    clear hr31
    cbv;try simp only[ArKg5]
    split
    ·rename_i q32;simp only [q32,cond_true] at hs28 ⊢
     cbv;try simp only[ArKg5]
     obtain rfl:=SI hs28
     refine ⟨_,bs28 _ rfl,?_⟩;first|rfl|(simp only[Z0];rfl)
    ·rename_i q32;simp only [q32,cond_false] at hs28 ⊢
     cbv;try simp only[ArKg5]
     obtain rfl:=SI hs28
     refine ⟨_,bs28 _ rfl,?_⟩;first|rfl|(simp only[Z0];rfl)
   ·rename_i q33;simp only [q33,cond_false] at hs28 ⊢
    cbv;try simp only[ArKg5]
    obtain rfl:=SI hs28
    replace ho19:=congrArg some (es28 _ rfl)
    obtain rfl:=SI ho19
    refine ⟨_,rfl,?_⟩;first|rfl|(simp only[Z0];rfl)
  ·rintro a20 rfl
   clear ho19
   cbv;try simp only[ArKg5]
   obtain rfl:=SI h
   (try simp only [Z0]);exact LeV.to rfl (LeF.rfl' _)
theorem r_iStale{a0:PoolD}{a1:Int}{r:(List (List UInt8))}(h:iStale a0 a1=some r):Ret pg 25 true [.ag (poolC a0),.i .i64 a1] [] (.sl .own 1 (rows strR r)):=by
  unfold iStale at h
  refine retD 1000 1000 [] (.s .o (.s .o (.s .o (.k .o .o)))) Tryz.func25 rfl (by decide +kernel) (by decide +kernel) rfl ⟨rfl,own_stringS _⟩ ?_
  cbv;try simp only[ArKg9]
  obtain⟨r3,hr3,h⟩:=bnd_out h
  refine CallK.introE rfl rfl (r_ihasBranch hr3) ?_
  clear hr3
  cbv;try simp only[ArKg9]
  cases r3
  ·simp only [cond_false] at h
   cbv;try simp only[ArKg9]
   obtain rfl:=SI h
   first | exact LeV.to rfl (LeF.nr _ _ _) | (simp only [rows_nil,bys_n];exact LeV.to rfl (LeF.nr _ _ _))
  ·simp only [cond_true] at h
   cbv;try simp only[ArKg9]
   obtain⟨o19,ho19,h⟩:=bnd_out h
   refine CutK.intro (α:=(List (List UInt8))) [5] [] (fun a=>[(5,.sl .own 1 (rows strR a))]) (fun a=>[]) (fun a=>a=o19) ?_ ?_
   ·cbv;try simp only[ArKg9]
    obtain⟨y21,hy21,ho19⟩:=bnd_out ho19
    refine ⟨gt_in hy21,?_⟩
    refine ⟨_,gt_at _ hy21,?_⟩
    cbv;try simp only[ArKg9]
    obtain⟨r22,hr22,ho19⟩:=bnd_out ho19
    refine CallK.introE rfl rfl (r_iTreeOf hr22) ?_
    clear hr22
    cbv;try simp only[ArKg9]
    refine LoopR (σ:=(List (List UInt8)) × Int) ho19 [1,2,5,20,21,22] [2] (fun a=>[(5,.sl .own 1 (rows strR a.1)),(22,.i .i64 a.2)]) (fun a=>[]) (by first|rfl|(simp only[Z0];rfl)) fun _ s27 xs27 hs27 bs27 es27=>?_
    obtain⟨s27_0,s27_1⟩:=s27
    try dsimp only at hs27
    cbv;try simp only[ArKg9]
    split
    ·rename_i q33;simp only [q33,cond_true] at hs27 ⊢
     cbv;try simp only[ArKg9]
     obtain⟨y28,hy28,hs27⟩:=bnd_out hs27
     refine ⟨gt_in hy28,?_⟩
     refine ⟨_,gt_at _ hy28,?_⟩
     cbv;try simp only[ArKg9]
     split
     ·rename_i q32;simp only [q32,cond_true] at hs27 ⊢
      cbv;try simp only[ArKg9]
      obtain⟨r29,hr29,hs27⟩:=bnd_out hs27
      refine CallK.introE rfl rfl (r_iWinner hr29) ?_
      clear hr29
      cbv;try simp only[ArKg9]
      split
      ·rename_i q31;simp only [q31,cond_true] at hs27 ⊢
       cbv;try simp only[ArKg9]
       obtain⟨c30,hs27⟩:=ck_out hs27
       refine ⟨c30,?_⟩
       obtain rfl:=SI hs27
       refine ⟨_,bs27 _ rfl,?_⟩;first|rfl|(simp only[Z0];rfl)
      ·rename_i q31;simp only [q31,cond_false] at hs27 ⊢
       cbv;try simp only[ArKg9]
       obtain rfl:=SI hs27
       refine ⟨_,bs27 _ rfl,?_⟩;first|rfl|(simp only[Z0];rfl)
     ·rename_i q32;simp only [q32,cond_false] at hs27 ⊢
      cbv;try simp only[ArKg9]
      obtain rfl:=SI hs27
      refine ⟨_,bs27 _ rfl,?_⟩;first|rfl|(simp only[Z0];rfl)
    ·rename_i q33;simp only [q33,cond_false] at hs27 ⊢
     cbv;try simp only[ArKg9]
     obtain rfl:=SI hs27
     replace ho19:=congrArg some (es27 _ rfl)
     obtain rfl:=SI ho19
     refine ⟨_,rfl,?_⟩;first|rfl|(simp only[Z0];rfl)
   ·rintro a20 rfl
    clear ho19
    cbv;try simp only[ArKg9]
    obtain rfl:=SI h
    (try simp only [Z0]);exact LeV.to rfl (LeF.rfl' _)
theorem r_sWalk{a0:FsD}{a1:List UInt8}{r:Int}(h:sWalk a0 a1=some r):Ret pg 119 true [.ag (fsC a0),.s a1] [] (.i .i64 r):=by
  unfold sWalk at h
  refine retD 8 3 [(3,[⟨false,[14,15],[13]⟩,⟨false,[13],[14]⟩,⟨false,[13],[15]⟩,⟨true,[],[16]⟩,⟨true,[],[4]⟩])] .o Tryz.func119 rfl (by decide +kernel) (by decide +kernel) rfl trivial ?_
  cbv;try simp only[ArKg8]
  repeat((first|refine R6 ?_|refine A6 ?_);cbv;try simp only[ArKg8])
  obtain⟨r5,hr5,h⟩:=bnd_out h
  refine CallK.introE rfl rfl (r_sFsOk hr5) ?_
  clear hr5
  cbv;try simp only[ArKg8]
  repeat((first|refine R6 ?_|refine A6 ?_);cbv;try simp only[ArKg8])
  cases r5
  ·simp only [cond_false] at h
   cbv;try simp only[ArKg8]
   repeat((first|refine R6 ?_|refine A6 ?_);cbv;try simp only[ArKg8])
   obtain rfl:=SI h
   (try simp only [Z0]);exact LeV.to rfl (LeF.rfl' _)
  ·simp only [cond_true] at h
   cbv;try simp only[ArKg8]
   repeat((first|refine R6 ?_|refine A6 ?_);cbv;try simp only[ArKg8])
   obtain⟨r6,hr6,h⟩:=bnd_out h
   refine CallK.introE rfl rfl (r_sPathOk hr6) ?_
   clear hr6
   cbv;try simp only[ArKg8]
   repeat((first|refine R6 ?_|refine A6 ?_);cbv;try simp only[ArKg8])
   cases r6
   ·simp only [cond_false] at h
    cbv;try simp only[ArKg8]
    repeat((first|refine R6 ?_|refine A6 ?_);cbv;try simp only[ArKg8])
    obtain rfl:=SI h
    (try simp only [Z0]);exact LeV.to rfl (LeF.rfl' _)
   ·simp only [cond_true] at h
    cbv;try simp only[ArKg8]
    repeat((first|refine R6 ?_|refine A6 ?_);cbv;try simp only[ArKg8])
    obtain⟨r9,hr9,h⟩:=bnd_out h
    refine CallK.introE rfl rfl (r_sNames hr9) ?_
    clear hr9
    cbv;try simp only[ArKg8]
    repeat((first|refine R6 ?_|refine A6 ?_);cbv;try simp only[ArKg8])
    obtain⟨r10,hr10,h⟩:=bnd_out h
    refine CallK.introE rfl rfl (r_sl9Walk hr10) ?_
    clear hr10
    cbv;try simp only[ArKg8]
    repeat((first|refine R6 ?_|refine A6 ?_);cbv;try simp only[ArKg8])
    obtain rfl:=SI h
    (try simp only [Z0]);exact LeV.to rfl (LeF.rfl' _)
theorem r_sl12Holders{a0:PoolD}{a1:List UInt8}{r:(List Int)}(h:sl12Holders a0 a1=some r):Ret pg 90 true [.ag (poolC a0),.s a1] [] (.sl .own 1 (rows intR r)):=by
  unfold sl12Holders at h
  refine retD 1000 1000 [] (.s .o (.s .o (.k .o .o))) Tryz.func90 rfl (by decide +kernel) (by decide +kernel) rfl ⟨rfl,own_intS _⟩ ?_
  cbv;try simp only[ArKg5]
  obtain⟨o12,ho12,h⟩:=bnd_out h
  refine CutK.intro (α:=(List Int)) [5] [] (fun a=>[(5,.sl .own 1 (rows intR a))]) (fun a=>[]) (fun a=>a=o12) ?_ ?_
  ·cbv;try simp only[ArKg5]
   refine LoopR (σ:=(List Int) × Int) ho12 [1,2,5,6] [2] (fun a=>[(5,.sl .own 1 (rows intR a.1)),(6,.i .i64 a.2)]) (fun a=>[]) (by first|rfl|(simp only[Z0];rfl)) fun _ s18 xs18 hs18 bs18 es18=>?_
   obtain⟨s18_0,s18_1⟩:=s18
   try dsimp only at hs18
   cbv;try simp only[ArKg5]
   split
   ·rename_i q23;simp only [q23,cond_true] at hs18 ⊢
    cbv;try simp only[ArKg5]
    obtain⟨y19,hy19,hs18⟩:=bnd_out hs18
    refine ⟨gt_in hy19,?_⟩
    refine ⟨_,gt_at _ hy19,?_⟩
    cbv;try simp only[ArKg5]
    obtain⟨r20,hr20,hs18⟩:=bnd_out hs18
    refine CallK.introE rfl rfl (r_sWalk hr20) ?_
    clear hr20
    cbv;try simp only[ArKg5]
    split
    ·rename_i q22;simp only [q22,cond_true] at hs18 ⊢
     cbv;try simp only[ArKg5]
     obtain⟨c21,hs18⟩:=ck_out hs18
     refine ⟨c21,?_⟩
     obtain rfl:=SI hs18
     refine ⟨_,bs18 _ rfl,?_⟩;first|rfl|(simp only[Z0];rfl)
    ·rename_i q22;simp only [q22,cond_false] at hs18 ⊢
     cbv;try simp only[ArKg5]
     obtain rfl:=SI hs18
     refine ⟨_,bs18 _ rfl,?_⟩;first|rfl|(simp only[Z0];rfl)
   ·rename_i q23;simp only [q23,cond_false] at hs18 ⊢
    cbv;try simp only[ArKg5]
    obtain rfl:=SI hs18
    replace ho12:=congrArg some (es18 _ rfl)
    obtain rfl:=SI ho12
    refine ⟨_,rfl,?_⟩;first|rfl|(simp only[Z0];rfl)
  ·rintro a13 rfl
   clear ho12
   cbv;try simp only[ArKg5]
   obtain rfl:=SI h
   (try simp only [Z0]);exact LeV.to rfl (LeF.rfl' _)
theorem r_sGenAt{a0:FsD}{a1:List UInt8}{r:Int}(h:sGenAt a0 a1=some r):Ret pg 91 true [.ag (fsC a0),.s a1] [] (.i .i64 r):=by
  unfold sGenAt at h
  refine retD 1000 1000 [] .o Tryz.func91 rfl (by decide +kernel) (by decide +kernel) rfl trivial ?_
  cbv;try simp only[ArKg1]
  obtain⟨r2,hr2,h⟩:=bnd_out h
  refine CallK.introE rfl rfl (r_sWalk hr2) ?_
  clear hr2
  cbv;try simp only[ArKg1]
  split
  ·rename_i q5;simp only [q5,cond_true] at h ⊢
   cbv;try simp only[ArKg1]
   obtain rfl:=SI h
   (try simp only [Z0]);exact LeV.to rfl (LeF.rfl' _)
  ·rename_i q5;simp only [q5,cond_false] at h ⊢
   cbv;try simp only[ArKg1]
   obtain⟨y4,hy4,h⟩:=bnd_out h
   refine ⟨gt_in hy4,?_⟩
   refine ⟨_,gt_at _ hy4,?_⟩
   cbv;try simp only[ArKg1]
   obtain rfl:=SI h
   (try simp only [Z0]);exact LeV.to rfl (LeF.rfl' _)
theorem r_sl12Winner{a0:PoolD}{a1:List UInt8}{r:Int}(h:sl12Winner a0 a1=some r):Ret pg 53 true [.ag (poolC a0),.s a1] [] (.i .i64 r):=by
  unfold sl12Winner at h
  refine retD 8 3 [(6,[⟨true,[],[17]⟩,⟨true,[],[18]⟩,⟨true,[],[18,19]⟩,⟨true,[],[20]⟩,⟨false,[22,23,24,25,29,31,32,33,34,35,36,37],[21]⟩,⟨false,[21],[22]⟩,⟨false,[21],[23]⟩,⟨false,[21,29,31,32,33,34,35,36,37],[24]⟩,⟨false,[21,29,31,32,33,34,35,36,37],[25]⟩,⟨false,[29,31,32,33,34,35,36,37],[26]⟩,⟨false,[29,31,32,33,34,35,36,37],[27]⟩,⟨false,[29,31,32,33,34,35,36,37],[28]⟩,⟨false,[21,24,25,26,27,28],[29]⟩,⟨false,[31,32,33,34,35,36,37],[30]⟩,⟨false,[21,24,25,26,27,28,30],[31]⟩,⟨false,[21,24,25,26,27,28,30,33,37],[32]⟩,⟨false,[21,24,25,26,27,28,30,32],[33]⟩,⟨false,[21,24,25,26,27,28,30,37],[34]⟩,⟨false,[21,24,25,26,27,28,30,37],[35]⟩,⟨false,[21,24,25,26,27,28,30,37],[36]⟩,⟨false,[21,24,25,26,27,28,30,32,34,35,36],[37]⟩,⟨true,[],[38]⟩,⟨true,[],[39]⟩,⟨true,[],[40]⟩])] (.s .o (.s .o (.s .o (.k .o .o)))) Tryz.func53 rfl (by decide +kernel) (by decide +kernel) rfl trivial ?_
  cbv;try simp only[ArKg5]
  repeat((first|refine R6 ?_|refine A6 ?_);cbv;try simp only[ArKg5])
  obtain⟨r2,hr2,h⟩:=bnd_out h
  refine CallK.introE rfl rfl (r_sl12Holders hr2) ?_
  clear hr2
  cbv;try simp only[ArKg5]
  repeat((first|refine R6 ?_|refine A6 ?_);cbv;try simp only[ArKg5])
  obtain⟨o33,ho33,h⟩:=bnd_out h
  refine CutK.intro (α:=Int) [5] [] (fun a=>[(5,.i .i64 a)]) (fun a=>[]) (fun a=>a=o33) ?_ ?_
  ·cbv;try simp only[ArKg5]
   repeat((first|refine R6 ?_|refine A6 ?_);cbv;try simp only[ArKg5])
   refine LoopR (σ:=Int × Int) ho33 [1,2,5,6,7] [2] (fun a=>[(5,.i .i64 a.1),(7,.i .i64 a.2)]) (fun a=>[]) (by first|rfl|(simp only[Z0];rfl)) fun _ s47 xs47 hs47 bs47 es47=>?_
   obtain⟨s47_0,s47_1⟩:=s47
   try dsimp only at hs47
   cbv;try simp only[ArKg5]
   repeat((first|refine R6 ?_|refine A6 ?_);cbv;try simp only[ArKg5])
   split
   ·rename_i q56;simp only [q56,cond_true] at hs47 ⊢
    cbv;try simp only[ArKg5]
    repeat((first|refine R6 ?_|refine A6 ?_);cbv;try simp only[ArKg5])
    split
    ·rename_i q55;simp only [q55,cond_true] at hs47 ⊢
     cbv;try simp only[ArKg5]
     repeat((first|refine R6 ?_|refine A6 ?_);cbv;try simp only[ArKg5])
     obtain⟨y48,hy48,hs47⟩:=bnd_out hs47
     refine ⟨gt_in hy48,?_⟩
     repeat((first|refine R6 ?_|refine A6 ?_);cbv;try simp only[ArKg5])
     refine ⟨_,gt_at _ hy48,?_⟩
     cbv;try simp only[ArKg5]
     repeat((first|refine R6 ?_|refine A6 ?_);cbv;try simp only[ArKg5])
     obtain rfl:=SI hs47
     refine ⟨_,bs47 _ rfl,?_⟩;first|rfl|(simp only[Z0];rfl)
    ·rename_i q55;simp only [q55,cond_false] at hs47 ⊢
     cbv;try simp only[ArKg5]
     repeat((first|refine R6 ?_|refine A6 ?_);cbv;try simp only[ArKg5])
     obtain⟨y49,hy49,hs47⟩:=bnd_out hs47
     refine ⟨gt_in hy49,?_⟩
     repeat((first|refine R6 ?_|refine A6 ?_);cbv;try simp only[ArKg5])
     refine ⟨_,gt_at _ hy49,?_⟩
     cbv;try simp only[ArKg5]
     repeat((first|refine R6 ?_|refine A6 ?_);cbv;try simp only[ArKg5])
     obtain⟨y50,hy50,hs47⟩:=bnd_out hs47
     refine ⟨gt_in hy50,?_⟩
     repeat((first|refine R6 ?_|refine A6 ?_);cbv;try simp only[ArKg5])
     refine ⟨_,gt_at _ hy50,?_⟩
     cbv;try simp only[ArKg5]
     repeat((first|refine R6 ?_|refine A6 ?_);cbv;try simp only[ArKg5])
     obtain⟨r51,hr51,hs47⟩:=bnd_out hs47
     refine CallK.introE rfl rfl (r_sGenAt hr51) ?_
     clear hr51
     cbv;try simp only[ArKg5]
     repeat((first|refine R6 ?_|refine A6 ?_);cbv;try simp only[ArKg5])
     obtain⟨y52,hy52,hs47⟩:=bnd_out hs47
     refine ⟨gt_in hy52,?_⟩
     repeat((first|refine R6 ?_|refine A6 ?_);cbv;try simp only[ArKg5])
     refine ⟨_,gt_at _ hy52,?_⟩
     cbv;try simp only[ArKg5]
     repeat((first|refine R6 ?_|refine A6 ?_);cbv;try simp only[ArKg5])
     obtain⟨r53,hr53,hs47⟩:=bnd_out hs47
     refine CallK.introE rfl rfl (r_sGenAt hr53) ?_
     clear hr53
     cbv;try simp only[ArKg5]
     repeat((first|refine R6 ?_|refine A6 ?_);cbv;try simp only[ArKg5])
     split
     ·rename_i q54;simp only [q54,cond_true] at hs47 ⊢
      cbv;try simp only[ArKg5]
      repeat((first|refine R6 ?_|refine A6 ?_);cbv;try simp only[ArKg5])
      refine ⟨gt_in hy49,?_⟩
      repeat((first|refine R6 ?_|refine A6 ?_);cbv;try simp only[ArKg5])
      refine ⟨_,gt_at _ hy49,?_⟩
      cbv;try simp only[ArKg5]
      repeat((first|refine R6 ?_|refine A6 ?_);cbv;try simp only[ArKg5])
      obtain rfl:=SI hs47
      refine ⟨_,bs47 _ rfl,?_⟩;first|rfl|(simp only[Z0];rfl)
     ·rename_i q54;simp only [q54,cond_false] at hs47 ⊢
      cbv;try simp only[ArKg5]
      repeat((first|refine R6 ?_|refine A6 ?_);cbv;try simp only[ArKg5])
      obtain rfl:=SI hs47
      refine ⟨_,bs47 _ rfl,?_⟩;first|rfl|(simp only[Z0];rfl)
   ·rename_i q56;simp only [q56,cond_false] at hs47 ⊢
    cbv;try simp only[ArKg5]
    repeat((first|refine R6 ?_|refine A6 ?_);cbv;try simp only[ArKg5])
    obtain rfl:=SI hs47
    replace ho33:=congrArg some (es47 _ rfl)
    obtain rfl:=SI ho33
    refine ⟨_,rfl,?_⟩;first|rfl|(simp only[Z0];rfl)
  ·rintro a34 rfl
   clear ho33
   cbv;try simp only[ArKg5]
   repeat((first|refine R6 ?_|refine A6 ?_);cbv;try simp only[ArKg5])
   obtain rfl:=SI h
   (try simp only [Z0]);exact LeV.to rfl (LeF.rfl' _)
theorem r_sStale{a0:PoolD}{a1:Int}{r:(List (List UInt8))}(h:sStale a0 a1=some r):Ret pg 24 true [.ag (poolC a0),.i .i64 a1] [] (.sl .own 1 (rows strR r)):=by
  unfold sStale at h
  refine retD 8 3 [(8,[⟨true,[],[36]⟩,⟨false,[38],[37]⟩,⟨false,[37],[38]⟩,⟨true,[],[39]⟩,⟨true,[],[40]⟩,⟨true,[],[41]⟩,⟨true,[],[42]⟩,⟨true,[],[42,43]⟩,⟨false,[45,46,47,48,49,50,52],[44]⟩,⟨false,[44],[45]⟩,⟨false,[44,47,52],[46]⟩,⟨false,[44,46],[47]⟩,⟨false,[44,52],[48]⟩,⟨false,[44,52],[49]⟩,⟨false,[44,52],[50]⟩,⟨false,[52],[51]⟩,⟨false,[44,46,48,49,50,51],[52]⟩,⟨true,[],[53]⟩,⟨true,[],[54]⟩])] (.s .o (.s .o (.s .o (.s .o (.k (.s .o (.s (.s (.s .o (.s (.s (.k .o .o) .o) .o)) .o) .o)) .o))))) Tryz.func24 rfl (by decide +kernel) (by decide +kernel) rfl ⟨rfl,own_stringS _⟩ ?_
  cbv;try simp only[ArKg9]
  repeat((first|refine R6 ?_|refine A6 ?_);cbv;try simp only[ArKg9])
  obtain⟨r5,hr5,h⟩:=bnd_out h
  refine CallK.introE rfl rfl (r_sPoolOk hr5) ?_
  clear hr5
  cbv;try simp only[ArKg9]
  repeat((first|refine R6 ?_|refine A6 ?_);cbv;try simp only[ArKg9])
  cases r5
  ·simp only [cond_false] at h
   cbv;try simp only[ArKg9]
   repeat((first|refine R6 ?_|refine A6 ?_);cbv;try simp only[ArKg9])
   obtain rfl:=SI h
   (try simp only [Z0]);exact LeV.to rfl (LeF.rfl' _)
  ·simp only [cond_true] at h
   cbv;try simp only[ArKg9]
   repeat((first|refine R6 ?_|refine A6 ?_);cbv;try simp only[ArKg9])
   obtain⟨r6,hr6,h⟩:=bnd_out h
   refine CallK.introE rfl rfl (r_sl1In hr6) ?_
   clear hr6
   cbv;try simp only[ArKg9]
   repeat((first|refine R6 ?_|refine A6 ?_);cbv;try simp only[ArKg9])
   cases r6
   ·simp only [cond_false] at h
    cbv;try simp only[ArKg9]
    repeat((first|refine R6 ?_|refine A6 ?_);cbv;try simp only[ArKg9])
    obtain rfl:=SI h
    (try simp only [Z0]);exact LeV.to rfl (LeF.rfl' _)
   ·simp only [cond_true] at h
    cbv;try simp only[ArKg9]
    repeat((first|refine R6 ?_|refine A6 ?_);cbv;try simp only[ArKg9])
    obtain⟨y9,hy9,h⟩:=bnd_out h
    refine ⟨gt_in hy9,?_⟩
    repeat((first|refine R6 ?_|refine A6 ?_);cbv;try simp only[ArKg9])
    refine ⟨_,gt_at _ hy9,?_⟩
    cbv;try simp only[ArKg9]
    repeat((first|refine R6 ?_|refine A6 ?_);cbv;try simp only[ArKg9])
    obtain⟨r10,hr10,h⟩:=bnd_out h
    refine CallK.introE rfl rfl (r_sTreeOf hr10) ?_
    clear hr10
    cbv;try simp only[ArKg9]
    repeat((first|refine R6 ?_|refine A6 ?_);cbv;try simp only[ArKg9])
    obtain⟨o34,ho34,h⟩:=bnd_out h
    refine CutK.intro (α:=(List (List UInt8))) [5] [] (fun a=>[(5,.sl .own 1 (rows strR a))]) (fun a=>[]) (fun a=>a=o34) ?_ ?_
    ·cbv;try simp only[ArKg9]
     repeat((first|refine R6 ?_|refine A6 ?_);cbv;try simp only[ArKg9])
     refine LoopR (σ:=(List (List UInt8)) × Int) ho34 [1,2,5,6,7] [2,6] (fun a=>[(5,.sl .own 1 (rows strR a.1)),(7,.i .i64 a.2)]) (fun a=>[]) (by first|rfl|(simp only[Z0];rfl)) fun _ s46 xs46 hs46 bs46 es46=>?_
     obtain⟨s46_0,s46_1⟩:=s46
     try dsimp only at hs46
     cbv;try simp only[ArKg9]
     repeat((first|refine R6 ?_|refine A6 ?_);cbv;try simp only[ArKg9])
     split
     ·rename_i q56;simp only [q56,cond_true] at hs46 ⊢
      cbv;try simp only[ArKg9]
      repeat((first|refine R6 ?_|refine A6 ?_);cbv;try simp only[ArKg9])
      obtain⟨o49,ho49,hs46⟩:=bnd_out hs46
      refine CutK.intro (α:=Bool) [1,2,5,6,7,54] [2,6] (fun a=>[(54,.b a)]) (fun a=>[]) (fun a=>a=o49) ?_ ?_
      ·cbv;try simp only[ArKg9]
       repeat((first|refine R6 ?_|refine A6 ?_);cbv;try simp only[ArKg9])
       obtain⟨y53,hy53,ho49⟩:=bnd_out ho49
       refine ⟨gt_in hy53,?_⟩
       repeat((first|refine R6 ?_|refine A6 ?_);cbv;try simp only[ArKg9])
       refine ⟨_,gt_at _ hy53,?_⟩
       cbv;try simp only[ArKg9]
       repeat((first|refine R6 ?_|refine A6 ?_);cbv;try simp only[ArKg9])
       split
       ·rename_i q55;simp only [q55,cond_true] at ho49 ⊢
        cbv;try simp only[ArKg9]
        repeat((first|refine R6 ?_|refine A6 ?_);cbv;try simp only[ArKg9])
        refine ⟨gt_in hy53,?_⟩
        repeat((first|refine R6 ?_|refine A6 ?_);cbv;try simp only[ArKg9])
        refine ⟨_,gt_at _ hy53,?_⟩
        cbv;try simp only[ArKg9]
        repeat((first|refine R6 ?_|refine A6 ?_);cbv;try simp only[ArKg9])
        obtain⟨r54,hr54,ho49⟩:=bnd_out ho49
        refine CallK.introE rfl rfl (r_sl12Winner hr54) ?_
        clear hr54
        cbv;try simp only[ArKg9]
        repeat((first|refine R6 ?_|refine A6 ?_);cbv;try simp only[ArKg9])
        obtain rfl:=SI ho49
        refine ⟨_,rfl,?_⟩;first|rfl|(simp only[Z0];rfl)
       ·rename_i q55;simp only [q55,cond_false] at ho49 ⊢
        cbv;try simp only[ArKg9]
        repeat((first|refine R6 ?_|refine A6 ?_);cbv;try simp only[ArKg9])
        obtain rfl:=SI ho49
        refine ⟨_,rfl,?_⟩;first|rfl|(simp only[Z0];rfl)
      ·rintro a50 rfl
       clear ho49
       cbv;try simp only[ArKg9]
       repeat((first|refine R6 ?_|refine A6 ?_);cbv;try simp only[ArKg9])
       cases a50
       ·simp only [cond_false] at hs46
        cbv;try simp only[ArKg9]
        repeat((first|refine R6 ?_|refine A6 ?_);cbv;try simp only[ArKg9])
        obtain rfl:=SI hs46
        refine ⟨_,bs46 _ rfl,?_⟩;first|rfl|(simp only[Z0];rfl)
       ·simp only [cond_true] at hs46
        cbv;try simp only[ArKg9]
        repeat((first|refine R6 ?_|refine A6 ?_);cbv;try simp only[ArKg9])
        obtain⟨y51,hy51,hs46⟩:=bnd_out hs46
        refine ⟨gt_in hy51,?_⟩
        repeat((first|refine R6 ?_|refine A6 ?_);cbv;try simp only[ArKg9])
        refine ⟨_,gt_at _ hy51,?_⟩
        cbv;try simp only[ArKg9]
        repeat((first|refine R6 ?_|refine A6 ?_);cbv;try simp only[ArKg9])
        obtain⟨c52,hs46⟩:=ck_out hs46
        refine ⟨c52,?_⟩
        repeat((first|refine R6 ?_|refine A6 ?_);cbv;try simp only[ArKg9])
        obtain rfl:=SI hs46
        refine ⟨_,bs46 _ rfl,?_⟩;first|rfl|(simp only[Z0];rfl)
     ·rename_i q56;simp only [q56,cond_false] at hs46 ⊢
      cbv;try simp only[ArKg9]
      repeat((first|refine R6 ?_|refine A6 ?_);cbv;try simp only[ArKg9])
      obtain rfl:=SI hs46
      replace ho34:=congrArg some (es46 _ rfl)
      obtain rfl:=SI ho34
      refine ⟨_,rfl,?_⟩;first|rfl|(simp only[Z0];rfl)
    ·rintro a35 rfl
     clear ho34
     cbv;try simp only[ArKg9]
     repeat((first|refine R6 ?_|refine A6 ?_);cbv;try simp only[ArKg9])
     obtain rfl:=SI h
     (try simp only [Z0]);exact LeV.to rfl (LeF.rfl' _)
theorem r_iLeftover{a0:PoolD}{r:Int}(h:iLeftover a0=some r):Ret pg 21 true [.ag (poolC a0)] [] (.i .i64 r):=by
  unfold iLeftover at h
  refine retD 1000 1000 [] (.s .o (.s .o (.s .o (.k .o .o)))) Tryz.func21 rfl (by decide +kernel) (by decide +kernel) rfl trivial ?_
  cbv;try simp only[ArKg2]
  obtain⟨r3,hr3,h⟩:=bnd_out h
  refine CallK.introE rfl rfl (r_iPoolOk hr3) ?_
  clear hr3
  cbv;try simp only[ArKg2]
  cases r3
  ·simp only [cond_false] at h
   cbv;try simp only[ArKg2]
   obtain rfl:=SI h
   (try simp only [Z0]);exact LeV.to rfl (LeF.rfl' _)
  ·simp only [cond_true] at h
   cbv;try simp only[ArKg2]
   obtain⟨o20,ho20,h⟩:=bnd_out h
   refine CutK.intro (α:=Int) [3] [] (fun a=>[(3,.i .i64 a)]) (fun a=>[]) (fun a=>a=o20) ?_ ?_
   ·cbv;try simp only[ArKg2]
    refine LoopR (σ:=Int × Int) ho20 [1,3,12,13,14] [1] (fun a=>[(3,.i .i64 a.1),(14,.i .i64 a.2)]) (fun a=>[]) (by first|rfl|(simp only[Z0];rfl)) fun _ s28 xs28 hs28 bs28 es28=>?_
    obtain⟨s28_0,s28_1⟩:=s28
    try dsimp only at hs28
    cbv;try simp only[ArKg2]
    split
    ·rename_i q32;simp only [q32,cond_true] at hs28 ⊢
     cbv;try simp only[ArKg2]
     obtain⟨y29,hy29,hs28⟩:=bnd_out hs28
     refine ⟨gt_in hy29,?_⟩
     refine ⟨_,gt_at _ hy29,?_⟩
     cbv;try simp only[ArKg2]
     obtain⟨r30,hr30,hs28⟩:=bnd_out hs28
     refine CallK.introE rfl rfl (r_iStale hr30) ?_
     clear hr30
     cbv;try simp only[ArKg2]
     obtain⟨r31,hr31,hs28⟩:=bnd_out hs28
     refine CallK.introE rfl rfl (r_iHiddenOf hr31) ?_
     obtain⟨r31_0,r31_1⟩:=r31
     try dsimp only at hs28
     clear hr31
     cbv;try simp only[ArKg2]
     cases r31_1
     ·simp only [cond_false] at hs28
      cbv;try simp only[ArKg2]
      obtain rfl:=SI hs28
      refine ⟨_,bs28 _ rfl,?_⟩;first|rfl|(simp only[Z0];rfl)
     ·simp only [cond_true] at hs28
      cbv;try simp only[ArKg2]
      obtain rfl:=SI hs28
      refine ⟨_,bs28 _ rfl,?_⟩;first|rfl|(simp only[Z0];rfl)
    ·rename_i q32;simp only [q32,cond_false] at hs28 ⊢
     cbv;try simp only[ArKg2]
     obtain rfl:=SI hs28
     replace ho20:=congrArg some (es28 _ rfl)
     obtain rfl:=SI ho20
     refine ⟨_,rfl,?_⟩;first|rfl|(simp only[Z0];rfl)
   ·rintro a21 rfl
    clear ho20
    cbv;try simp only[ArKg2]
    obtain rfl:=SI h
    (try simp only [Z0]);exact LeV.to rfl (LeF.rfl' _)
theorem r_sLeftover{a0:PoolD}{r:Int}(h:sLeftover a0=some r):Ret pg 20 true [.ag (poolC a0)] [] (.i .i64 r):=by
  unfold sLeftover at h
  refine retD 1000 1000 [] (.s .o (.s .o (.s .o (.k .o .o)))) Tryz.func20 rfl (by decide +kernel) (by decide +kernel) rfl trivial ?_
  cbv;try simp only[ArKg2]
  obtain⟨r3,hr3,h⟩:=bnd_out h
  refine CallK.introE rfl rfl (r_sPoolOk hr3) ?_
  clear hr3
  cbv;try simp only[ArKg2]
  cases r3
  ·simp only [cond_false] at h
   cbv;try simp only[ArKg2]
   obtain rfl:=SI h
   (try simp only [Z0]);exact LeV.to rfl (LeF.rfl' _)
  ·simp only [cond_true] at h
   cbv;try simp only[ArKg2]
   obtain⟨o23,ho23,h⟩:=bnd_out h
   refine CutK.intro (α:=Int) [3] [] (fun a=>[(3,.i .i64 a)]) (fun a=>[]) (fun a=>a=o23) ?_ ?_
   ·cbv;try simp only[ArKg2]
    refine LoopR (σ:=Int × Int) ho23 [1,3,4] [1] (fun a=>[(3,.i .i64 a.1),(4,.i .i64 a.2)]) (fun a=>[]) (by first|rfl|(simp only[Z0];rfl)) fun _ s33 xs33 hs33 bs33 es33=>?_
    obtain⟨s33_0,s33_1⟩:=s33
    try dsimp only at hs33
    cbv;try simp only[ArKg2]
    split
    ·rename_i q38;simp only [q38,cond_true] at hs33 ⊢
     cbv;try simp only[ArKg2]
     obtain⟨y34,hy34,hs33⟩:=bnd_out hs33
     refine ⟨gt_in hy34,?_⟩
     refine ⟨_,gt_at _ hy34,?_⟩
     cbv;try simp only[ArKg2]
     obtain⟨r35,hr35,hs33⟩:=bnd_out hs33
     refine CallK.introE rfl rfl (r_sHiddenOf hr35) ?_
     obtain⟨r35_0,r35_1⟩:=r35
     try dsimp only at hs33
     clear hr35
     cbv;try simp only[ArKg2]
     obtain⟨r36,hr36,hs33⟩:=bnd_out hs33
     refine CallK.introE rfl rfl (r_sStale hr36) ?_
     clear hr36
     cbv;try simp only[ArKg2]
     obtain⟨r37,hr37,hs33⟩:=bnd_out hs33
     refine CallK.introE rfl rfl (r_sl1Bit hr37) ?_
     clear hr37
     cbv;try simp only[ArKg2]
     obtain rfl:=SI hs33
     refine ⟨_,bs33 _ rfl,?_⟩;first|rfl|(simp only[Z0];rfl)
    ·rename_i q38;simp only [q38,cond_false] at hs33 ⊢
     cbv;try simp only[ArKg2]
     obtain rfl:=SI hs33
     replace ho23:=congrArg some (es33 _ rfl)
     obtain rfl:=SI ho23
     refine ⟨_,rfl,?_⟩;first|rfl|(simp only[Z0];rfl)
   ·rintro a24 rfl
    clear ho23
    cbv;try simp only[ArKg2]
    obtain rfl:=SI h
    (try simp only [Z0]);exact LeV.to rfl (LeF.rfl' _)
theorem r_iAbove{a0:List UInt8}{r:(List UInt8)}(h:iAbove a0=some r):Ret pg 50 true [.s a0] [] (.s r):=by
  unfold iAbove at h
  refine retD 1000 1000 [] .o Tryz.func50 rfl (by decide +kernel) (by decide +kernel) rfl trivial ?_
  cbv;try simp only[ArKg10]
  obtain⟨r2,hr2,h⟩:=bnd_out h
  refine CallK.introE rfl rfl (r_ireadPath hr2) ?_
  obtain⟨r2_0,r2_1⟩:=r2
  try dsimp only at h
  clear hr2
  cbv;try simp only[ArKg10]
  cases r2_1
  ·simp only [cond_false] at h
   cbv;try simp only[ArKg10]
   obtain rfl:=SI h
   (try simp only [Z0]);exact LeV.to rfl (LeF.rfl' _)
  ·simp only [cond_true] at h
   cbv;try simp only[ArKg10]
   obtain⟨c5,h⟩:=ck_out h
   refine ⟨c5,?_⟩
   obtain⟨r4,hr4,h⟩:=bnd_out h
   refine CallK.introE rfl rfl (r_iPathOf hr4) ?_
   clear hr4
   cbv;try simp only[ArKg10]
   obtain rfl:=SI h
   (try simp only [Z0]);exact LeV.to rfl (LeF.rfl' _)
theorem r_iKindAt{a0:FsD}{a1:List UInt8}{r:Int}(h:iKindAt a0 a1=some r):Ret pg 49 true [.ag (fsC a0),.s a1] [] (.i .i64 r):=by
  unfold iKindAt at h
  refine retD 1000 1000 [] .o Tryz.func49 rfl (by decide +kernel) (by decide +kernel) rfl trivial ?_
  cbv;try simp only[ArKg1]
  obtain⟨r2,hr2,h⟩:=bnd_out h
  refine CallK.introE rfl rfl (r_iWalk hr2) ?_
  clear hr2
  cbv;try simp only[ArKg1]
  split
  ·rename_i q5;simp only [q5,cond_true] at h ⊢
   cbv;try simp only[ArKg1]
   obtain rfl:=SI h
   (try simp only [Z0]);exact LeV.to rfl (LeF.rfl' _)
  ·rename_i q5;simp only [q5,cond_false] at h ⊢
   cbv;try simp only[ArKg1]
   obtain⟨y4,hy4,h⟩:=bnd_out h
   refine ⟨gt_in hy4,?_⟩
   refine ⟨_,gt_at _ hy4,?_⟩
   cbv;try simp only[ArKg1]
   obtain rfl:=SI h
   (try simp only [Z0]);exact LeV.to rfl (LeF.rfl' _)
theorem r_iPick{a0:PoolD}{a1:List UInt8}{a2:Int}{r:Int}(h:iPick a0 a1 a2=some r):Ret pg 23 true [.ag (poolC a0),.s a1,.i .i64 a2] [] (.i .i64 r):=by
  unfold iPick at h
  refine retD 8 3 [(6,[⟨true,[],[27]⟩,⟨true,[],[28]⟩,⟨true,[],[29]⟩,⟨true,[],[29,30]⟩,⟨false,[32,33],[31]⟩,⟨false,[31],[32]⟩,⟨false,[31],[33]⟩,⟨true,[],[34]⟩,⟨true,[],[35]⟩,⟨true,[],[36]⟩]),(15,[⟨false,[53,54,55],[51]⟩,⟨false,[53,54,55],[52]⟩,⟨false,[51,52],[53]⟩,⟨false,[51,52],[54]⟩,⟨false,[51,52],[55]⟩,⟨true,[],[56]⟩,⟨true,[],[12]⟩])] (.s .o (.s .o (.k (.s .o (.s (.s (.s .o (.s .o (.s (.s (.s .o (.s .o (.k .o (.s .o (.k (.s .o (.s (.k .o .o) .o)) .o))))) .o) .o))) .o) .o)) .o))) Tryz.func23 rfl (by decide +kernel) (by decide +kernel) rfl trivial ?_
  cbv;try simp only[ArKg5]
  repeat((first|refine R6 ?_|refine A6 ?_);cbv;try simp only[ArKg5])
  obtain⟨o67,ho67,h⟩:=bnd_out h
  refine CutK.intro (α:=Int) [7] [] (fun a=>[(7,.i .i64 a)]) (fun a=>[]) (fun a=>a=o67) ?_ ?_
  ·cbv;try simp only[ArKg5]
   repeat((first|refine R6 ?_|refine A6 ?_);cbv;try simp only[ArKg5])
   obtain⟨r69,hr69,ho67⟩:=bnd_out ho67
   refine CallK.introE rfl rfl (r_iEligible hr69) ?_
   clear hr69
   cbv;try simp only[ArKg5]
   repeat((first|refine R6 ?_|refine A6 ?_);cbv;try simp only[ArKg5])
   refine LoopR (σ:=Int × Int × Int) ho67 [1,3,7,8,15,16,17] [3] (fun a=>[(7,.i .i64 a.1),(8,.i .i64 a.2.1),(17,.i .i64 a.2.2)]) (fun a=>[]) (by first|rfl|(simp only[Z0];rfl)) fun _ s96 xs96 hs96 bs96 es96=>?_
   obtain⟨s96_0,s96_1,s96_2⟩:=s96
   try dsimp only at hs96
   cbv;try simp only[ArKg5]
   repeat((first|refine R6 ?_|refine A6 ?_);cbv;try simp only[ArKg5])
   split
   ·rename_i q124;simp only [q124,cond_true] at hs96 ⊢
    cbv;try simp only[ArKg5]
    repeat((first|refine R6 ?_|refine A6 ?_);cbv;try simp only[ArKg5])
    obtain⟨y97,hy97,hs96⟩:=bnd_out hs96
    refine ⟨gt_in hy97,?_⟩
    repeat((first|refine R6 ?_|refine A6 ?_);cbv;try simp only[ArKg5])
    refine ⟨_,gt_at _ hy97,?_⟩
    cbv;try simp only[ArKg5]
    repeat((first|refine R6 ?_|refine A6 ?_);cbv;try simp only[ArKg5])
    obtain⟨y98,hy98,hs96⟩:=bnd_out hs96
    refine ⟨gt_in hy98,?_⟩
    repeat((first|refine R6 ?_|refine A6 ?_);cbv;try simp only[ArKg5])
    refine ⟨_,gt_at _ hy98,?_⟩
    cbv;try simp only[ArKg5]
    repeat((first|refine R6 ?_|refine A6 ?_);cbv;try simp only[ArKg5])
    obtain⟨o101,ho101,hs96⟩:=bnd_out hs96
    refine CutK.intro (α:=Unit) [1,3,7,8,10,11,15,16,17] [3,11] (fun a=>[]) (fun a=>[]) (fun a=>(Sum.inl a:_ ⊕ _)=o101) ?_ ?_
    ·cbv;try simp only[ArKg5]
     repeat((first|refine R6 ?_|refine A6 ?_);cbv;try simp only[ArKg5])
     split
     ·rename_i q123;simp only [q123,cond_true] at ho101 ⊢
      cbv;try simp only[ArKg5]
      repeat((first|refine R6 ?_|refine A6 ?_);cbv;try simp only[ArKg5])
      obtain⟨r120,hr120,ho101⟩:=bnd_out ho101
      refine CallK.introE rfl rfl (r_iAbove hr120) ?_
      clear hr120
      cbv;try simp only[ArKg5]
      repeat((first|refine R6 ?_|refine A6 ?_);cbv;try simp only[ArKg5])
      obtain⟨r121,hr121,ho101⟩:=bnd_out ho101
      refine CallK.introE rfl rfl (r_iKindAt hr121) ?_
      clear hr121
      cbv;try simp only[ArKg5]
      repeat((first|refine R6 ?_|refine A6 ?_);cbv;try simp only[ArKg5])
      split
      ·rename_i q122;simp only [q122,cond_true] at ho101 ⊢
       cbv;try simp only[ArKg5]
       repeat((first|refine R6 ?_|refine A6 ?_);cbv;try simp only[ArKg5])
       obtain rfl:=SI ho101
       simp only [Sum.elim_inr] at hs96
       obtain rfl:=SI hs96
       refine ⟨_,bs96 _ rfl,?_⟩;first|rfl|(simp only[Z0];rfl)
      ·rename_i q122;simp only [q122,cond_false] at ho101 ⊢
       cbv;try simp only[ArKg5]
       repeat((first|refine R6 ?_|refine A6 ?_);cbv;try simp only[ArKg5])
       obtain rfl:=SI ho101
       refine ⟨_,rfl,?_⟩;first|rfl|(simp only[Z0];rfl)
     ·rename_i q123;simp only [q123,cond_false] at ho101 ⊢
      cbv;try simp only[ArKg5]
      repeat((first|refine R6 ?_|refine A6 ?_);cbv;try simp only[ArKg5])
      obtain rfl:=SI ho101
      refine ⟨_,rfl,?_⟩;first|rfl|(simp only[Z0];rfl)
    ·rintro a102 rfl
     clear ho101
     simp only [Sum.elim_inl] at hs96
     cbv;try simp only[ArKg5]
     repeat((first|refine R6 ?_|refine A6 ?_);cbv;try simp only[ArKg5])
     obtain⟨o108,ho108,hs96⟩:=bnd_out hs96
     refine CutK.intro (α:=Int) [1,3,7,8,10,12,15,16,17] [3] (fun a=>[(12,.i .i64 a)]) (fun a=>[]) (fun a=>a=o108) ?_ ?_
     ·cbv;try simp only[ArKg5]
      repeat((first|refine R6 ?_|refine A6 ?_);cbv;try simp only[ArKg5])
      obtain⟨o112,ho112,ho108⟩:=bnd_out ho108
      refine CutK.intro (α:=Bool) [1,3,7,8,10,11,12,15,16,17,38,39] [3,11] (fun a=>[(39,.b a)]) (fun a=>[]) (fun a=>a=o112) ?_ ?_
      ·cbv;try simp only[ArKg5]
       repeat((first|refine R6 ?_|refine A6 ?_);cbv;try simp only[ArKg5])
       split
       ·rename_i q119;simp only [q119,cond_true] at ho112 ⊢
        cbv;try simp only[ArKg5]
        repeat((first|refine R6 ?_|refine A6 ?_);cbv;try simp only[ArKg5])
        obtain rfl:=SI ho112
        refine ⟨_,rfl,?_⟩;first|rfl|(simp only[Z0];rfl)
       ·rename_i q119;simp only [q119,cond_false] at ho112 ⊢
        cbv;try simp only[ArKg5]
        repeat((first|refine R6 ?_|refine A6 ?_);cbv;try simp only[ArKg5])
        obtain rfl:=SI ho112
        refine ⟨_,rfl,?_⟩;first|rfl|(simp only[Z0];rfl)
      ·rintro a113 rfl
       clear ho112
       cbv;try simp only[ArKg5]
       repeat((first|refine R6 ?_|refine A6 ?_);cbv;try simp only[ArKg5])
       cases a113
       ·simp only [cond_false] at ho108
        cbv;try simp only[ArKg5]
        repeat((first|refine R6 ?_|refine A6 ?_);cbv;try simp only[ArKg5])
        split
        ·rename_i q118;simp only [q118,cond_true] at ho108 ⊢
         cbv;try simp only[ArKg5]
         repeat((first|refine R6 ?_|refine A6 ?_);cbv;try simp only[ArKg5])
         obtain⟨r115,hr115,ho108⟩:=bnd_out ho108
         refine CallK.introE rfl rfl (r_iFreeOf hr115) ?_
         clear hr115
         cbv;try simp only[ArKg5]
         repeat((first|refine R6 ?_|refine A6 ?_);cbv;try simp only[ArKg5])
         obtain rfl:=SI ho108
         refine ⟨_,rfl,?_⟩;first|rfl|(simp only[Z0];rfl)
        ·rename_i q118;simp only [q118,cond_false] at ho108 ⊢
         cbv;try simp only[ArKg5]
         repeat((first|refine R6 ?_|refine A6 ?_);cbv;try simp only[ArKg5])
         split
         ·rename_i q117;simp only [q117,cond_true] at ho108 ⊢
          cbv;try simp only[ArKg5]
          repeat((first|refine R6 ?_|refine A6 ?_);cbv;try simp only[ArKg5])
          obtain⟨r116,hr116,ho108⟩:=bnd_out ho108
          refine CallK.introE rfl rfl (r_iFreeOf hr116) ?_
          clear hr116
          cbv;try simp only[ArKg5]
          repeat((first|refine R6 ?_|refine A6 ?_);cbv;try simp only[ArKg5])
          obtain rfl:=SI ho108
          refine ⟨_,rfl,?_⟩;first|rfl|(simp only[Z0];rfl)
         ·rename_i q117;simp only [q117,cond_false] at ho108 ⊢
          cbv;try simp only[ArKg5]
          repeat((first|refine R6 ?_|refine A6 ?_);cbv;try simp only[ArKg5])
          obtain rfl:=SI ho108
          refine ⟨_,rfl,?_⟩;first|rfl|(simp only[Z0];rfl)
       ·simp only [cond_true] at ho108
        cbv;try simp only[ArKg5]
        repeat((first|refine R6 ?_|refine A6 ?_);cbv;try simp only[ArKg5])
        obtain⟨r114,hr114,ho108⟩:=bnd_out ho108
        refine CallK.introE rfl rfl (r_iFreeOf hr114) ?_
        clear hr114
        cbv;try simp only[ArKg5]
        repeat((first|refine R6 ?_|refine A6 ?_);cbv;try simp only[ArKg5])
        obtain rfl:=SI ho108
        refine ⟨_,rfl,?_⟩;first|rfl|(simp only[Z0];rfl)
     ·rintro a109 rfl
      clear ho108
      cbv;try simp only[ArKg5]
      repeat((first|refine R6 ?_|refine A6 ?_);cbv;try simp only[ArKg5])
      split
      ·rename_i q111;simp only [q111,cond_true] at hs96 ⊢
       cbv;try simp only[ArKg5]
       repeat((first|refine R6 ?_|refine A6 ?_);cbv;try simp only[ArKg5])
       obtain rfl:=SI hs96
       refine ⟨_,bs96 _ rfl,?_⟩;first|rfl|(simp only[Z0];rfl)
      ·rename_i q111;simp only [q111,cond_false] at hs96 ⊢
       cbv;try simp only[ArKg5]
       repeat((first|refine R6 ?_|refine A6 ?_);cbv;try simp only[ArKg5])
       split
       ·rename_i q110;simp only [q110,cond_true] at hs96 ⊢
        cbv;try simp only[ArKg5]
        repeat((first|refine R6 ?_|refine A6 ?_);cbv;try simp only[ArKg5])
        obtain rfl:=SI hs96
        refine ⟨_,bs96 _ rfl,?_⟩;first|rfl|(simp only[Z0];rfl)
       ·rename_i q110;simp only [q110,cond_false] at hs96 ⊢
        cbv;try simp only[ArKg5]
        repeat((first|refine R6 ?_|refine A6 ?_);cbv;try simp only[ArKg5])
        obtain rfl:=SI hs96
        refine ⟨_,bs96 _ rfl,?_⟩;first|rfl|(simp only[Z0];rfl)
   ·rename_i q124;simp only [q124,cond_false] at hs96 ⊢
    cbv;try simp only[ArKg5]
    repeat((first|refine R6 ?_|refine A6 ?_);cbv;try simp only[ArKg5])
    obtain rfl:=SI hs96
    replace ho67:=congrArg some (es96 _ rfl)
    obtain rfl:=SI ho67
    refine ⟨_,rfl,?_⟩;first|rfl|(simp only[Z0];rfl)
  ·rintro a68 rfl
   clear ho67
   cbv;try simp only[ArKg5]
   repeat((first|refine R6 ?_|refine A6 ?_);cbv;try simp only[ArKg5])
   obtain rfl:=SI h
   (try simp only [Z0]);exact LeV.to rfl (LeF.rfl' _)
theorem r_sAbove{a0:List UInt8}{r:(List UInt8)}(h:sAbove a0=some r):Ret pg 84 true [.s a0] [] (.s r):=by
  unfold sAbove at h
  refine retD 1000 1000 [] .o Tryz.func84 rfl (by decide +kernel) (by decide +kernel) rfl trivial ?_
  cbv;try simp only[ArKg10]
  obtain⟨r2,hr2,h⟩:=bnd_out h
  refine CallK.introE rfl rfl (r_sNames hr2) ?_
  clear hr2
  cbv;try simp only[ArKg10]
  obtain⟨r5,hr5,h⟩:=bnd_out h
  refine CallK.introE rfl rfl (r_sPathOk hr5) ?_
  clear hr5
  cbv;try simp only[ArKg10]
  cases r5
  ·simp only [cond_false] at h
   cbv;try simp only[ArKg10]
   obtain rfl:=SI h
   (try simp only [Z0]);exact LeV.to rfl (LeF.rfl' _)
  ·simp only [cond_true] at h
   cbv;try simp only[ArKg10]
   split
   ·rename_i q9;simp only [q9,cond_true] at h ⊢
    cbv;try simp only[ArKg10]
    obtain rfl:=SI h
    (try simp only [Z0]);exact LeV.to rfl (LeF.rfl' _)
   ·rename_i q9;simp only [q9,cond_false] at h ⊢
    cbv;try simp only[ArKg10]
    obtain⟨c8,h⟩:=ck_out h
    refine ⟨c8,?_⟩
    obtain⟨r7,hr7,h⟩:=bnd_out h
    refine CallK.introE rfl rfl (r_sPathOf hr7) ?_
    clear hr7
    cbv;try simp only[ArKg10]
    obtain rfl:=SI h
    (try simp only [Z0]);exact LeV.to rfl (LeF.rfl' _)
theorem r_sKindAt{a0:FsD}{a1:List UInt8}{r:Int}(h:sKindAt a0 a1=some r):Ret pg 83 true [.ag (fsC a0),.s a1] [] (.i .i64 r):=by
  unfold sKindAt at h
  refine retD 1000 1000 [] .o Tryz.func83 rfl (by decide +kernel) (by decide +kernel) rfl trivial ?_
  cbv;try simp only[ArKg1]
  obtain⟨r2,hr2,h⟩:=bnd_out h
  refine CallK.introE rfl rfl (r_sWalk hr2) ?_
  clear hr2
  cbv;try simp only[ArKg1]
  split
  ·rename_i q5;simp only [q5,cond_true] at h ⊢
   cbv;try simp only[ArKg1]
   obtain rfl:=SI h
   (try simp only [Z0]);exact LeV.to rfl (LeF.rfl' _)
  ·rename_i q5;simp only [q5,cond_false] at h ⊢
   cbv;try simp only[ArKg1]
   obtain⟨y4,hy4,h⟩:=bnd_out h
   refine ⟨gt_in hy4,?_⟩
   refine ⟨_,gt_at _ hy4,?_⟩
   cbv;try simp only[ArKg1]
   obtain rfl:=SI h
   (try simp only [Z0]);exact LeV.to rfl (LeF.rfl' _)
theorem r_sl13Score{a0:PoolD}{a1:Int}{r:Int}(h:sl13Score a0 a1=some r):Ret pg 85 true [.ag (poolC a0),.i .i64 a1] [] (.i .i64 r):=by
  unfold sl13Score at h
  refine retD 8 3 [(9,[⟨false,[28,29,30],[26]⟩,⟨false,[28,29,30],[27]⟩,⟨false,[26,27],[28]⟩,⟨false,[26,27],[29]⟩,⟨false,[26,27],[30]⟩,⟨true,[],[31]⟩,⟨true,[],[4]⟩])] (.s .o (.s .o (.s (.s .o (.s (.k .o .o) .o)) .o))) Tryz.func85 rfl (by decide +kernel) (by decide +kernel) rfl trivial ?_
  cbv;try simp only[ArKg2]
  repeat((first|refine R6 ?_|refine A6 ?_);cbv;try simp only[ArKg2])
  obtain⟨y2,hy2,h⟩:=bnd_out h
  refine ⟨gt_in hy2,?_⟩
  repeat((first|refine R6 ?_|refine A6 ?_);cbv;try simp only[ArKg2])
  refine ⟨_,gt_at _ hy2,?_⟩
  cbv;try simp only[ArKg2]
  repeat((first|refine R6 ?_|refine A6 ?_);cbv;try simp only[ArKg2])
  obtain⟨o11,ho11,h⟩:=bnd_out h
  refine CutK.intro (α:=Bool) [5,13,14] [5] (fun a=>[(14,.b a)]) (fun a=>[]) (fun a=>a=o11) ?_ ?_
  ·cbv;try simp only[ArKg2]
   repeat((first|refine R6 ?_|refine A6 ?_);cbv;try simp only[ArKg2])
   split
   ·rename_i q18;simp only [q18,cond_true] at ho11 ⊢
    cbv;try simp only[ArKg2]
    repeat((first|refine R6 ?_|refine A6 ?_);cbv;try simp only[ArKg2])
    obtain rfl:=SI ho11
    refine ⟨_,rfl,?_⟩;first|rfl|(simp only[Z0];rfl)
   ·rename_i q18;simp only [q18,cond_false] at ho11 ⊢
    cbv;try simp only[ArKg2]
    repeat((first|refine R6 ?_|refine A6 ?_);cbv;try simp only[ArKg2])
    obtain rfl:=SI ho11
    refine ⟨_,rfl,?_⟩;first|rfl|(simp only[Z0];rfl)
  ·rintro a12 rfl
   clear ho11
   cbv;try simp only[ArKg2]
   repeat((first|refine R6 ?_|refine A6 ?_);cbv;try simp only[ArKg2])
   cases a12
   ·simp only [cond_false] at h
    cbv;try simp only[ArKg2]
    repeat((first|refine R6 ?_|refine A6 ?_);cbv;try simp only[ArKg2])
    split
    ·rename_i q17;simp only [q17,cond_true] at h ⊢
     cbv;try simp only[ArKg2]
     repeat((first|refine R6 ?_|refine A6 ?_);cbv;try simp only[ArKg2])
     obtain⟨r14,hr14,h⟩:=bnd_out h
     refine CallK.introE rfl rfl (r_sFreeOf hr14) ?_
     clear hr14
     cbv;try simp only[ArKg2]
     repeat((first|refine R6 ?_|refine A6 ?_);cbv;try simp only[ArKg2])
     obtain rfl:=SI h
     (try simp only [Z0]);exact LeV.to rfl (LeF.rfl' _)
    ·rename_i q17;simp only [q17,cond_false] at h ⊢
     cbv;try simp only[ArKg2]
     repeat((first|refine R6 ?_|refine A6 ?_);cbv;try simp only[ArKg2])
     split
     ·rename_i q16;simp only [q16,cond_true] at h ⊢
      cbv;try simp only[ArKg2]
      repeat((first|refine R6 ?_|refine A6 ?_);cbv;try simp only[ArKg2])
      obtain⟨r15,hr15,h⟩:=bnd_out h
      refine CallK.introE rfl rfl (r_sFreeOf hr15) ?_
      clear hr15
      cbv;try simp only[ArKg2]
      repeat((first|refine R6 ?_|refine A6 ?_);cbv;try simp only[ArKg2])
      obtain rfl:=SI h
      (try simp only [Z0]);exact LeV.to rfl (LeF.rfl' _)
     ·rename_i q16;simp only [q16,cond_false] at h ⊢
      cbv;try simp only[ArKg2]
      repeat((first|refine R6 ?_|refine A6 ?_);cbv;try simp only[ArKg2])
      obtain rfl:=SI h
      (try simp only [Z0]);exact LeV.to rfl (LeF.rfl' _)
   ·simp only [cond_true] at h
    cbv;try simp only[ArKg2]
    repeat((first|refine R6 ?_|refine A6 ?_);cbv;try simp only[ArKg2])
    obtain⟨r13,hr13,h⟩:=bnd_out h
    refine CallK.introE rfl rfl (r_sFreeOf hr13) ?_
    clear hr13
    cbv;try simp only[ArKg2]
    repeat((first|refine R6 ?_|refine A6 ?_);cbv;try simp only[ArKg2])
    obtain rfl:=SI h
    (try simp only [Z0]);exact LeV.to rfl (LeF.rfl' _)
theorem r_sl13Pick{a0:PoolD}{a1:List UInt8}{a2:Int}{r:Int}(h:sl13Pick a0 a1 a2=some r):Ret pg 48 true [.ag (poolC a0),.s a1,.i .i64 a2] [] (.i .i64 r):=by
  unfold sl13Pick at h
  refine retD 8 3 [(7,[⟨true,[],[24]⟩,⟨true,[],[25]⟩,⟨true,[],[26]⟩,⟨true,[],[26,27]⟩,⟨true,[],[28]⟩,⟨false,[30,34,35],[29]⟩,⟨false,[29],[30]⟩,⟨false,[34,35],[31]⟩,⟨false,[34,35],[32]⟩,⟨false,[34,35],[33]⟩,⟨false,[29,31,32,33],[34]⟩,⟨false,[29,31,32,33],[35]⟩,⟨true,[],[36]⟩,⟨true,[],[37]⟩,⟨true,[],[38]⟩]),(8,[⟨true,[],[39]⟩,⟨true,[],[40]⟩,⟨true,[],[40,41]⟩,⟨false,[43,45,46],[42]⟩,⟨false,[42],[43]⟩,⟨false,[45,46],[44]⟩,⟨false,[42,44,46],[45]⟩,⟨false,[42,44,45],[46]⟩,⟨true,[],[47]⟩,⟨true,[],[48]⟩,⟨true,[],[49]⟩])] (.s .o (.s .o (.s .o (.k (.s .o (.s (.s (.s .o (.s (.s (.s .o (.k .o .o)) .o) .o)) .o) .o)) .o)))) Tryz.func48 rfl (by decide +kernel) (by decide +kernel) rfl trivial ?_
  cbv;try simp only[ArKg5]
  repeat((first|refine R6 ?_|refine A6 ?_);cbv;try simp only[ArKg5])
  obtain⟨r2,hr2,h⟩:=bnd_out h
  refine CallK.introE rfl rfl (r_sl13Eligible hr2) ?_
  clear hr2
  cbv;try simp only[ArKg5]
  repeat((first|refine R6 ?_|refine A6 ?_);cbv;try simp only[ArKg5])
  obtain⟨o45,ho45,h⟩:=bnd_out h
  refine CutK.intro (α:=Int) [7] [] (fun a=>[(7,.i .i64 a)]) (fun a=>[]) (fun a=>a=o45) ?_ ?_
  ·cbv;try simp only[ArKg5]
   repeat((first|refine R6 ?_|refine A6 ?_);cbv;try simp only[ArKg5])
   refine LoopR (σ:=Int × Int) ho45 [1,3,7,8,9] [3] (fun a=>[(7,.i .i64 a.1),(9,.i .i64 a.2)]) (fun a=>[]) (by first|rfl|(simp only[Z0];rfl)) fun _ s63 xs63 hs63 bs63 es63=>?_
   obtain⟨s63_0,s63_1⟩:=s63
   try dsimp only at hs63
   cbv;try simp only[ArKg5]
   repeat((first|refine R6 ?_|refine A6 ?_);cbv;try simp only[ArKg5])
   split
   ·rename_i q79;simp only [q79,cond_true] at hs63 ⊢
    cbv;try simp only[ArKg5]
    repeat((first|refine R6 ?_|refine A6 ?_);cbv;try simp only[ArKg5])
    obtain⟨y64,hy64,hs63⟩:=bnd_out hs63
    refine ⟨gt_in hy64,?_⟩
    repeat((first|refine R6 ?_|refine A6 ?_);cbv;try simp only[ArKg5])
    refine ⟨_,gt_at _ hy64,?_⟩
    cbv;try simp only[ArKg5]
    repeat((first|refine R6 ?_|refine A6 ?_);cbv;try simp only[ArKg5])
    obtain⟨o68,ho68,hs63⟩:=bnd_out hs63
    refine CutK.intro (α:=Unit) [1,3,7,8,9,10] [3] (fun a=>[]) (fun a=>[]) (fun a=>(Sum.inl a:_ ⊕ _)=o68) ?_ ?_
    ·cbv;try simp only[ArKg5]
     repeat((first|refine R6 ?_|refine A6 ?_);cbv;try simp only[ArKg5])
     split
     ·rename_i q78;simp only [q78,cond_true] at ho68 ⊢
      cbv;try simp only[ArKg5]
      repeat((first|refine R6 ?_|refine A6 ?_);cbv;try simp only[ArKg5])
      obtain⟨y74,hy74,ho68⟩:=bnd_out ho68
      refine ⟨gt_in hy74,?_⟩
      repeat((first|refine R6 ?_|refine A6 ?_);cbv;try simp only[ArKg5])
      refine ⟨_,gt_at _ hy74,?_⟩
      cbv;try simp only[ArKg5]
      repeat((first|refine R6 ?_|refine A6 ?_);cbv;try simp only[ArKg5])
      obtain⟨r75,hr75,ho68⟩:=bnd_out ho68
      refine CallK.introE rfl rfl (r_sAbove hr75) ?_
      clear hr75
      cbv;try simp only[ArKg5]
      repeat((first|refine R6 ?_|refine A6 ?_);cbv;try simp only[ArKg5])
      obtain⟨r76,hr76,ho68⟩:=bnd_out ho68
      refine CallK.introE rfl rfl (r_sKindAt hr76) ?_
      clear hr76
      cbv;try simp only[ArKg5]
      repeat((first|refine R6 ?_|refine A6 ?_);cbv;try simp only[ArKg5])
      split
      ·rename_i q77;simp only [q77,cond_true] at ho68 ⊢
       cbv;try simp only[ArKg5]
       repeat((first|refine R6 ?_|refine A6 ?_);cbv;try simp only[ArKg5])
       obtain rfl:=SI ho68
       simp only [Sum.elim_inr] at hs63
       obtain rfl:=SI hs63
       refine ⟨_,bs63 _ rfl,?_⟩;first|rfl|(simp only[Z0];rfl)
      ·rename_i q77;simp only [q77,cond_false] at ho68 ⊢
       cbv;try simp only[ArKg5]
       repeat((first|refine R6 ?_|refine A6 ?_);cbv;try simp only[ArKg5])
       obtain rfl:=SI ho68
       refine ⟨_,rfl,?_⟩;first|rfl|(simp only[Z0];rfl)
     ·rename_i q78;simp only [q78,cond_false] at ho68 ⊢
      cbv;try simp only[ArKg5]
      repeat((first|refine R6 ?_|refine A6 ?_);cbv;try simp only[ArKg5])
      obtain rfl:=SI ho68
      refine ⟨_,rfl,?_⟩;first|rfl|(simp only[Z0];rfl)
    ·rintro a69 rfl
     clear ho68
     simp only [Sum.elim_inl] at hs63
     cbv;try simp only[ArKg5]
     repeat((first|refine R6 ?_|refine A6 ?_);cbv;try simp only[ArKg5])
     split
     ·rename_i q73;simp only [q73,cond_true] at hs63 ⊢
      cbv;try simp only[ArKg5]
      repeat((first|refine R6 ?_|refine A6 ?_);cbv;try simp only[ArKg5])
      obtain rfl:=SI hs63
      refine ⟨_,bs63 _ rfl,?_⟩;first|rfl|(simp only[Z0];rfl)
     ·rename_i q73;simp only [q73,cond_false] at hs63 ⊢
      cbv;try simp only[ArKg5]
      repeat((first|refine R6 ?_|refine A6 ?_);cbv;try simp only[ArKg5])
      obtain⟨r70,hr70,hs63⟩:=bnd_out hs63
      refine CallK.introE rfl rfl (r_sl13Score hr70) ?_
      clear hr70
      cbv;try simp only[ArKg5]
      repeat((first|refine R6 ?_|refine A6 ?_);cbv;try simp only[ArKg5])
      obtain⟨r71,hr71,hs63⟩:=bnd_out hs63
      refine CallK.introE rfl rfl (r_sl13Score hr71) ?_
      clear hr71
      cbv;try simp only[ArKg5]
      repeat((first|refine R6 ?_|refine A6 ?_);cbv;try simp only[ArKg5])
      split
      ·rename_i q72;simp only [q72,cond_true] at hs63 ⊢
       cbv;try simp only[ArKg5]
       repeat((first|refine R6 ?_|refine A6 ?_);cbv;try simp only[ArKg5])
       obtain rfl:=SI hs63
       refine ⟨_,bs63 _ rfl,?_⟩;first|rfl|(simp only[Z0];rfl)
      ·rename_i q72;simp only [q72,cond_false] at hs63 ⊢
       cbv;try simp only[ArKg5]
       repeat((first|refine R6 ?_|refine A6 ?_);cbv;try simp only[ArKg5])
       obtain rfl:=SI hs63
       refine ⟨_,bs63 _ rfl,?_⟩;first|rfl|(simp only[Z0];rfl)
   ·rename_i q79;simp only [q79,cond_false] at hs63 ⊢
    cbv;try simp only[ArKg5]
    repeat((first|refine R6 ?_|refine A6 ?_);cbv;try simp only[ArKg5])
    obtain rfl:=SI hs63
    replace ho45:=congrArg some (es63 _ rfl)
    obtain rfl:=SI ho45
    refine ⟨_,rfl,?_⟩;first|rfl|(simp only[Z0];rfl)
  ·rintro a46 rfl
   clear ho45
   cbv;try simp only[ArKg5]
   repeat((first|refine R6 ?_|refine A6 ?_);cbv;try simp only[ArKg5])
   obtain rfl:=SI h
   (try simp only [Z0]);exact LeV.to rfl (LeF.rfl' _)
theorem r_sPick{a0:PoolD}{a1:List UInt8}{a2:Int}{r:Int}(h:sPick a0 a1 a2=some r):Ret pg 22 true [.ag (poolC a0),.s a1,.i .i64 a2] [] (.i .i64 r):=by
  unfold sPick at h
  refine retD 1000 1000 [] .o Tryz.func22 rfl (by decide +kernel) (by decide +kernel) rfl trivial ?_
  cbv;try simp only[ArKg4]
  obtain⟨r3,hr3,h⟩:=bnd_out h
  refine CallK.introE rfl rfl (r_sPoolOk hr3) ?_
  clear hr3
  cbv;try simp only[ArKg4]
  cases r3
  ·simp only [cond_false] at h
   cbv;try simp only[ArKg4]
   obtain rfl:=SI h
   (try simp only [Z0]);exact LeV.to rfl (LeF.rfl' _)
  ·simp only [cond_true] at h
   cbv;try simp only[ArKg4]
   obtain⟨r5,hr5,h⟩:=bnd_out h
   refine CallK.introE rfl rfl (r_sl13Pick hr5) ?_
   clear hr5
   cbv;try simp only[ArKg4]
   obtain rfl:=SI h
   (try simp only [Z0]);exact LeV.to rfl (LeF.rfl' _)
end Go.Ar
