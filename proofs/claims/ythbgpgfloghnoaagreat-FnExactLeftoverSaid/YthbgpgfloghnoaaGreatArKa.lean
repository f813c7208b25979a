import Derived.Test.YthbgpgfloghnoaaGreatArKD
import Derived.Test.YthbgpgfloghnoaaGreatArDcN
namespace Go.Ar
open Go.Proofs
set_option linter.unusedVariables false
set_option linter.unusedSimpArgs false
set_option maxRecDepth 20000
set_option maxHeartbeats 40000000
theorem ArKa1:type_of% (And.intro @F (And.intro @F2 @N0)):=⟨@F,@F2,@N0⟩
theorem ArKa2:type_of% (And.intro @F (And.intro @F2 (And.intro @N0 @N_Int))):=⟨@F,@F2,@N0,@N_Int⟩
theorem ArKa3:type_of% (And.intro @F (And.intro @F2 (And.intro @N0 (And.intro @N_Int @N_Node)))):=⟨@F,@F2,@N0,@N_Int,@N_Node⟩
theorem ArKa4:type_of% (And.intro @F (And.intro @F2 (And.intro @N0 @N_Node))):=⟨@F,@F2,@N0,@N_Node⟩
theorem ArKa5:type_of% (And.intro @F (And.intro @F2 (And.intro @N0 (And.intro @N_Int (And.intro @N_Node @N_String))))):=⟨@F,@F2,@N0,@N_Int,@N_Node,@N_String⟩
theorem r_iwithin{a0:Int}{a1:Int}{a2:Int}{r:Bool}(h:iwithin a0 a1 a2=some r):Ret pg 70 true [.i .i64 a0,.i .i64 a1,.i .i64 a2] [] (.b r):=by
  unfold iwithin at h
  refine retD 1000 1000 [] .o Tryz.func70 rfl (by decide +kernel) (by decide +kernel) rfl trivial ?_
  cbv;try simp only[ArKa1]
  split
  ·rename_i q1;simp only [q1,cond_true] at h ⊢
   cbv;try simp only[ArKa1]
   obtain rfl:=SI h
   (try simp only [Z0]);exact LeV.to rfl (LeF.rfl' _)
  ·rename_i q1;simp only [q1,cond_false] at h ⊢
   cbv;try simp only[ArKa1]
   obtain rfl:=SI h
   (try simp only [Z0]);exact LeV.to rfl (LeF.rfl' _)
theorem r_iBlocksFor{a0:Int}{r:Int}(h:iBlocksFor a0=some r):Ret pg 148 true [.i .i64 a0] [] (.i .i64 r):=by
  unfold iBlocksFor at h
  refine retD 1000 1000 [] .o Tryz.func148 rfl (by decide +kernel) (by decide +kernel) rfl trivial ?_
  cbv;try simp only[ArKa1]
  split
  ·rename_i q2;simp only [q2,cond_true] at h ⊢
   cbv;try simp only[ArKa1]
   obtain rfl:=SI h
   (try simp only [Z0]);exact LeV.to rfl (LeF.rfl' _)
  ·rename_i q2;simp only [q2,cond_false] at h ⊢
   cbv;try simp only[ArKa1]
   split
   ·rename_i q1;simp only [q1,cond_true] at h ⊢
    cbv;try simp only[ArKa1]
    obtain rfl:=SI h
    (try simp only [Z0]);exact LeV.to rfl (LeF.rfl' _)
   ·rename_i q1;simp only [q1,cond_false] at h ⊢
    cbv;try simp only[ArKa1]
    refine ⟨by rw [icmp_neq];rfl,?_⟩
    obtain rfl:=SI h
    (try simp only [Z0]);exact LeV.to rfl (LeF.rfl' _)
theorem r_gslices_Index_int{a0:List Int}{a1:Int}{r:Int}(h:gslices_Index_int a0 a1=some r):Ret pg 175 true [.sl .shr 1 (rows intR a0),.i .i64 a1] [] (.i .i64 r):=by
  unfold gslices_Index_int at h
  refine retD 1000 1000 [] (.s .o (.k .o .o)) Tryz.func175 rfl (by decide +kernel) (by decide +kernel) rfl trivial ?_
  cbv;try simp only[ArKa2]
  obtain⟨o7,ho7,h⟩:=bnd_out h
  refine CutK.intro (α:=Unit) [] [] (fun a=>[]) (fun a=>[]) (fun a=>(Sum.inl a:_ ⊕ _)=o7) ?_ ?_
  ·cbv;try simp only[ArKa2]
   refine LoopR (σ:=Int) ho7 [0,1,7,8] [] (fun a=>[(8,.i .i64 a)]) (fun a=>[]) (by first|rfl|(simp only[Z0];rfl)) fun _ s11 xs11 hs11 bs11 es11=>?_
   cbv;try simp only[ArKa2]
   split
   ·rename_i q14;simp only [q14,cond_true] at hs11 ⊢
    cbv;try simp only[ArKa2]
    obtain⟨y12,hy12,hs11⟩:=bnd_out hs11
    refine ⟨gt_in hy12,?_⟩
    refine ⟨_,gt_at _ hy12,?_⟩
    cbv;try simp only[ArKa2]
    split
    ·rename_i q13;simp only [q13,cond_true] at hs11 ⊢
     cbv;try simp only[ArKa2]
     obtain rfl:=SI hs11
     replace ho7:=congrArg some (es11 _ rfl)
     obtain rfl:=SI ho7
     simp only [Sum.elim_inr] at h
     obtain rfl:=SI h
     (try simp only [Z0]);exact LeV.to rfl (LeF.rfl' _)
    ·rename_i q13;simp only [q13,cond_false] at hs11 ⊢
     cbv;try simp only[ArKa2]
     obtain rfl:=SI hs11
     refine ⟨_,bs11 _ rfl,?_⟩;first|rfl|(simp only[Z0];rfl)
   ·rename_i q14;simp only [q14,cond_false] at hs11 ⊢
    cbv;try simp only[ArKa2]
    obtain rfl:=SI hs11
    replace ho7:=congrArg some (es11 _ rfl)
    obtain rfl:=SI ho7
    refine ⟨_,rfl,?_⟩;first|rfl|(simp only[Z0];rfl)
  ·rintro a8 rfl
   clear ho7
   simp only [Sum.elim_inl] at h
   cbv;try simp only[ArKa2]
   obtain rfl:=SI h
   (try simp only [Z0]);exact LeV.to rfl (LeF.rfl' _)
theorem r_gslices_Contains_int{a0:List Int}{a1:Int}{r:Bool}(h:gslices_Contains_int a0 a1=some r):Ret pg 149 true [.sl .shr 1 (rows intR a0),.i .i64 a1] [] (.b r):=by
  unfold gslices_Contains_int at h
  refine retD 1000 1000 [] .o Tryz.func149 rfl (by decide +kernel) (by decide +kernel) rfl trivial ?_
  cbv;try simp only[ArKa2]
  obtain⟨r2,hr2,h⟩:=bnd_out h
  refine CallK.introE rfl rfl (r_gslices_Index_int hr2) ?_
  clear hr2
  cbv;try simp only[ArKa2]
  obtain rfl:=SI h
  (try simp only [Z0]);exact LeV.to rfl (LeF.rfl' _)
theorem r_iNodeOk{a0:NodeD}{r:Bool}(h:iNodeOk a0=some r):Ret pg 112 true [.ag (nodeC a0)] [] (.b r):=by
  unfold iNodeOk at h
  refine retD 8 3 [(5,[⟨true,[],[49]⟩,⟨true,[],[50]⟩,⟨true,[],[51]⟩,⟨true,[],[51,52]⟩,⟨true,[],[53]⟩,⟨true,[],[54]⟩,⟨true,[],[55]⟩,⟨true,[],[55,56]⟩,⟨true,[],[57]⟩,⟨true,[],[58]⟩,⟨true,[],[59]⟩,⟨true,[],[60]⟩,⟨true,[],[61]⟩,⟨true,[],[61,62]⟩,⟨true,[],[63]⟩,⟨false,[66,67,68],[64]⟩,⟨false,[66,67,68],[65]⟩,⟨false,[64,65],[66]⟩,⟨false,[64,65],[67]⟩,⟨false,[64,65],[68]⟩,⟨true,[],[69]⟩,⟨true,[],[70]⟩])] (.s .o (.s .o (.s .o (.k .o (.k .o .o))))) Tryz.func112 rfl (by decide +kernel) (by decide +kernel) rfl trivial ?_
  cbv;try simp only[ArKa2]
  repeat((first|refine R6 ?_|refine A6 ?_);cbv;try simp only[ArKa2])
  split
  ·rename_i q61;simp only [q61,cond_true] at h ⊢
   cbv;try simp only[ArKa2]
   repeat((first|refine R6 ?_|refine A6 ?_);cbv;try simp only[ArKa2])
   split
   ·rename_i q3;simp only [q3,cond_true] at h ⊢
    cbv;try simp only[ArKa2]
    repeat((first|refine R6 ?_|refine A6 ?_);cbv;try simp only[ArKa2])
    split
    ·rename_i q2;simp only [q2,cond_true] at h ⊢
     cbv;try simp only[ArKa2]
     repeat((first|refine R6 ?_|refine A6 ?_);cbv;try simp only[ArKa2])
     split
     ·rename_i q1;simp only [q1,cond_true] at h ⊢
      cbv;try simp only[ArKa2]
      repeat((first|refine R6 ?_|refine A6 ?_);cbv;try simp only[ArKa2])
      obtain rfl:=SI h
      (try simp only [Z0]);exact LeV.to rfl (LeF.rfl' _)
     ·rename_i q1;simp only [q1,cond_false] at h ⊢
      cbv;try simp only[ArKa2]
      repeat((first|refine R6 ?_|refine A6 ?_);cbv;try simp only[ArKa2])
      obtain rfl:=SI h
      (try simp only [Z0]);exact LeV.to rfl (LeF.rfl' _)
    ·rename_i q2;simp only [q2,cond_false] at h ⊢
     cbv;try simp only[ArKa2]
     repeat((first|refine R6 ?_|refine A6 ?_);cbv;try simp only[ArKa2])
     obtain rfl:=SI h
     (try simp only [Z0]);exact LeV.to rfl (LeF.rfl' _)
   ·rename_i q3;simp only [q3,cond_false] at h ⊢
    cbv;try simp only[ArKa2]
    repeat((first|refine R6 ?_|refine A6 ?_);cbv;try simp only[ArKa2])
    obtain rfl:=SI h
    (try simp only [Z0]);exact LeV.to rfl (LeF.rfl' _)
  ·rename_i q61;simp only [q61,cond_false] at h ⊢
   cbv;try simp only[ArKa2]
   repeat((first|refine R6 ?_|refine A6 ?_);cbv;try simp only[ArKa2])
   obtain⟨r12,hr12,h⟩:=bnd_out h
   refine CallK.introE rfl rfl (r_iwithin hr12) ?_
   clear hr12
   cbv;try simp only[ArKa2]
   repeat((first|refine R6 ?_|refine A6 ?_);cbv;try simp only[ArKa2])
   cases r12
   ·simp only [cond_false] at h
    cbv;try simp only[ArKa2]
    repeat((first|refine R6 ?_|refine A6 ?_);cbv;try simp only[ArKa2])
    obtain rfl:=SI h
    (try simp only [Z0]);exact LeV.to rfl (LeF.rfl' _)
   ·simp only [cond_true] at h
    cbv;try simp only[ArKa2]
    repeat((first|refine R6 ?_|refine A6 ?_);cbv;try simp only[ArKa2])
    obtain⟨r13,hr13,h⟩:=bnd_out h
    refine CallK.introE rfl rfl (r_iwithin hr13) ?_
    clear hr13
    cbv;try simp only[ArKa2]
    repeat((first|refine R6 ?_|refine A6 ?_);cbv;try simp only[ArKa2])
    cases r13
    ·simp only [cond_false] at h
     cbv;try simp only[ArKa2]
     repeat((first|refine R6 ?_|refine A6 ?_);cbv;try simp only[ArKa2])
     obtain rfl:=SI h
     (try simp only [Z0]);exact LeV.to rfl (LeF.rfl' _)
    ·simp only [cond_true] at h
     cbv;try simp only[ArKa2]
     repeat((first|refine R6 ?_|refine A6 ?_);cbv;try simp only[ArKa2])
     obtain⟨r14,hr14,h⟩:=bnd_out h
     refine CallK.introE rfl rfl (r_iwithin hr14) ?_
     clear hr14
     cbv;try simp only[ArKa2]
     repeat((first|refine R6 ?_|refine A6 ?_);cbv;try simp only[ArKa2])
     cases r14
     ·simp only [cond_false] at h
      cbv;try simp only[ArKa2]
      repeat((first|refine R6 ?_|refine A6 ?_);cbv;try simp only[ArKa2])
      obtain rfl:=SI h
      (try simp only [Z0]);exact LeV.to rfl (LeF.rfl' _)
     ·simp only [cond_true] at h
      cbv;try simp only[ArKa2]
      repeat((first|refine R6 ?_|refine A6 ?_);cbv;try simp only[ArKa2])
      obtain⟨r15,hr15,h⟩:=bnd_out h
      refine CallK.introE rfl rfl (r_iwithin hr15) ?_
      clear hr15
      cbv;try simp only[ArKa2]
      repeat((first|refine R6 ?_|refine A6 ?_);cbv;try simp only[ArKa2])
      cases r15
      ·simp only [cond_false] at h
       cbv;try simp only[ArKa2]
       repeat((first|refine R6 ?_|refine A6 ?_);cbv;try simp only[ArKa2])
       obtain rfl:=SI h
       (try simp only [Z0]);exact LeV.to rfl (LeF.rfl' _)
      ·simp only [cond_true] at h
       cbv;try simp only[ArKa2]
       repeat((first|refine R6 ?_|refine A6 ?_);cbv;try simp only[ArKa2])
       obtain⟨o22,ho22,h⟩:=bnd_out h
       refine CutK.intro (α:=Unit) [1] [1] (fun a=>[]) (fun a=>[]) (fun a=>(Sum.inl a:_ ⊕ _)=o22) ?_ ?_
       ·cbv;try simp only[ArKa2]
        repeat((first|refine R6 ?_|refine A6 ?_);cbv;try simp only[ArKa2])
        split
        ·rename_i q60;simp only [q60,cond_true] at ho22 ⊢
         cbv;try simp only[ArKa2]
         repeat((first|refine R6 ?_|refine A6 ?_);cbv;try simp only[ArKa2])
         split
         ·rename_i q57;simp only [q57,cond_true] at ho22 ⊢
          cbv;try simp only[ArKa2]
          repeat((first|refine R6 ?_|refine A6 ?_);cbv;try simp only[ArKa2])
          obtain rfl:=SI ho22
          simp only [Sum.elim_inr] at h
          obtain rfl:=SI h
          (try simp only [Z0]);exact LeV.to rfl (LeF.rfl' _)
         ·rename_i q57;simp only [q57,cond_false] at ho22 ⊢
          cbv;try simp only[ArKa2]
          repeat((first|refine R6 ?_|refine A6 ?_);cbv;try simp only[ArKa2])
          split
          ·rename_i q56;simp only [q56,cond_true] at ho22 ⊢
           cbv;try simp only[ArKa2]
           repeat((first|refine R6 ?_|refine A6 ?_);cbv;try simp only[ArKa2])
           obtain rfl:=SI ho22
           simp only [Sum.elim_inr] at h
           obtain rfl:=SI h
           (try simp only [Z0]);exact LeV.to rfl (LeF.rfl' _)
          ·rename_i q56;simp only [q56,cond_false] at ho22 ⊢
           cbv;try simp only[ArKa2]
           repeat((first|refine R6 ?_|refine A6 ?_);cbv;try simp only[ArKa2])
           obtain⟨r54,hr54,ho22⟩:=bnd_out ho22
           refine CallK.introE rfl rfl (r_iBlocksFor hr54) ?_
           clear hr54
           cbv;try simp only[ArKa2]
           repeat((first|refine R6 ?_|refine A6 ?_);cbv;try simp only[ArKa2])
           split
           ·rename_i q55;simp only [q55,cond_true] at ho22 ⊢
            cbv;try simp only[ArKa2]
            repeat((first|refine R6 ?_|refine A6 ?_);cbv;try simp only[ArKa2])
            obtain rfl:=SI ho22
            simp only [Sum.elim_inr] at h
            obtain rfl:=SI h
            (try simp only [Z0]);exact LeV.to rfl (LeF.rfl' _)
           ·rename_i q55;simp only [q55,cond_false] at ho22 ⊢
            cbv;try simp only[ArKa2]
            repeat((first|refine R6 ?_|refine A6 ?_);cbv;try simp only[ArKa2])
            obtain rfl:=SI ho22
            refine ⟨_,rfl,?_⟩;first|rfl|(simp only[Z0];rfl)
        ·rename_i q60;simp only [q60,cond_false] at ho22 ⊢
         cbv;try simp only[ArKa2]
         repeat((first|refine R6 ?_|refine A6 ?_);cbv;try simp only[ArKa2])
         obtain⟨r58,hr58,ho22⟩:=bnd_out ho22
         refine CallK.introE rfl rfl (r_iBlocksFor hr58) ?_
         clear hr58
         cbv;try simp only[ArKa2]
         repeat((first|refine R6 ?_|refine A6 ?_);cbv;try simp only[ArKa2])
         split
         ·rename_i q59;simp only [q59,cond_true] at ho22 ⊢
          cbv;try simp only[ArKa2]
          repeat((first|refine R6 ?_|refine A6 ?_);cbv;try simp only[ArKa2])
          obtain rfl:=SI ho22
          simp only [Sum.elim_inr] at h
          obtain rfl:=SI h
          (try simp only [Z0]);exact LeV.to rfl (LeF.rfl' _)
         ·rename_i q59;simp only [q59,cond_false] at ho22 ⊢
          cbv;try simp only[ArKa2]
          repeat((first|refine R6 ?_|refine A6 ?_);cbv;try simp only[ArKa2])
          obtain rfl:=SI ho22
          refine ⟨_,rfl,?_⟩;first|rfl|(simp only[Z0];rfl)
       ·rintro a23 rfl
        clear ho22
        simp only [Sum.elim_inl] at h
        cbv;try simp only[ArKa2]
        repeat((first|refine R6 ?_|refine A6 ?_);cbv;try simp only[ArKa2])
        obtain⟨o40,ho40,h⟩:=bnd_out h
        refine CutK.intro (α:=Unit) [] [] (fun a=>[]) (fun a=>[]) (fun a=>(Sum.inl a:_ ⊕ _)=o40) ?_ ?_
        ·cbv;try simp only[ArKa2]
         repeat((first|refine R6 ?_|refine A6 ?_);cbv;try simp only[ArKa2])
         refine LoopR (σ:=Int) ho40 [1,72,73,74] [1] (fun a=>[(74,.i .i64 a)]) (fun a=>[]) (by first|rfl|(simp only[Z0];rfl)) fun _ s48 xs48 hs48 bs48 es48=>?_
         cbv;try simp only[ArKa2]
         repeat((first|refine R6 ?_|refine A6 ?_);cbv;try simp only[ArKa2])
         split
         ·rename_i q53;simp only [q53,cond_true] at hs48 ⊢
          cbv;try simp only[ArKa2]
          repeat((first|refine R6 ?_|refine A6 ?_);cbv;try simp only[ArKa2])
          obtain⟨y49,hy49,hs48⟩:=bnd_out hs48
          refine ⟨gt_in hy49,?_⟩
          repeat((first|refine R6 ?_|refine A6 ?_);cbv;try simp only[ArKa2])
          refine ⟨_,gt_at _ hy49,?_⟩
          cbv;try simp only[ArKa2]
          repeat((first|refine R6 ?_|refine A6 ?_);cbv;try simp only[ArKa2])
          obtain⟨r50,hr50,hs48⟩:=bnd_out hs48
          refine CallK.introE rfl rfl (r_iwithin hr50) ?_
          clear hr50
          cbv;try simp only[ArKa2]
          repeat((first|refine R6 ?_|refine A6 ?_);cbv;try simp only[ArKa2])
          cases r50
          ·simp only [cond_false] at hs48
           cbv;try simp only[ArKa2]
           repeat((first|refine R6 ?_|refine A6 ?_);cbv;try simp only[ArKa2])
           obtain rfl:=SI hs48
           replace ho40:=congrArg some (es48 _ rfl)
           obtain rfl:=SI ho40
           simp only [Sum.elim_inr] at h
           obtain rfl:=SI h
           (try simp only [Z0]);exact LeV.to rfl (LeF.rfl' _)
          ·simp only [cond_true] at hs48
           cbv;try simp only[ArKa2]
           repeat((first|refine R6 ?_|refine A6 ?_);cbv;try simp only[ArKa2])
           obtain⟨c52,hs48⟩:=ck_out hs48
           refine ⟨c52,?_⟩
           repeat((first|refine R6 ?_|refine A6 ?_);cbv;try simp only[ArKa2])
           obtain⟨r51,hr51,hs48⟩:=bnd_out hs48
           refine CallK.introE rfl rfl (r_gslices_Contains_int hr51) ?_
           clear hr51
           cbv;try simp only[ArKa2]
           repeat((first|refine R6 ?_|refine A6 ?_);cbv;try simp only[ArKa2])
           cases r51
           ·simp only [cond_false] at hs48
            cbv;try simp only[ArKa2]
            repeat((first|refine R6 ?_|refine A6 ?_);cbv;try simp only[ArKa2])
            obtain rfl:=SI hs48
            refine ⟨_,bs48 _ rfl,?_⟩;first|rfl|(simp only[Z0];rfl)
           ·simp only [cond_true] at hs48
            cbv;try simp only[ArKa2]
            repeat((first|refine R6 ?_|refine A6 ?_);cbv;try simp only[ArKa2])
            obtain rfl:=SI hs48
            replace ho40:=congrArg some (es48 _ rfl)
            obtain rfl:=SI ho40
            simp only [Sum.elim_inr] at h
            obtain rfl:=SI h
            (try simp only [Z0]);exact LeV.to rfl (LeF.rfl' _)
         ·rename_i q53;simp only [q53,cond_false] at hs48 ⊢
          cbv;try simp only[ArKa2]
          repeat((first|refine R6 ?_|refine A6 ?_);cbv;try simp only[ArKa2])
          obtain rfl:=SI hs48
          replace ho40:=congrArg some (es48 _ rfl)
          obtain rfl:=SI ho40
          refine ⟨_,rfl,?_⟩;first|rfl|(simp only[Z0];rfl)
        ·rintro a41 rfl
         clear ho40
         simp only [Sum.elim_inl] at h
         cbv;try simp only[ArKa2]
         repeat((first|refine R6 ?_|refine A6 ?_);cbv;try simp only[ArKa2])
         obtain rfl:=SI h
         (try simp only [Z0]);exact LeV.to rfl (LeF.rfl' _)
theorem r_iShapeOk_1{a0:NodeD}{r:Bool}(h:iShapeOk_1 a0=some r):Ret pg 111 true [.ag (nodeC a0)] [] (.b r):=by
  unfold iShapeOk_1 at h
  refine retD 1000 1000 [] .o Tryz.func111 rfl (by decide +kernel) (by decide +kernel) rfl trivial ?_
  cbv;try simp only[ArKa2]
  obtain⟨r2,hr2,h⟩:=bnd_out h
  refine CallK.introE rfl rfl (r_iNodeOk hr2) ?_
  clear hr2
  cbv;try simp only[ArKa2]
  obtain rfl:=SI h
  (try simp only [Z0]);exact LeV.to rfl (LeF.rfl' _)
theorem r_gslices_IndexFunc_Node_iShapeOk_1{a0:List NodeD}{r:Int}(h:gslices_IndexFunc_Node_iShapeOk_1 a0=some r):Ret pg 147 true [.sl .shr 5 (rows nodeR a0),.fn 111 []] [] (.i .i64 r):=by
  unfold gslices_IndexFunc_Node_iShapeOk_1 at h
  refine retD 1000 1000 [] (.s .o (.k .o .o)) Tryz.func147 rfl (by decide +kernel) (by decide +kernel) rfl trivial ?_
  cbv;try simp only[ArKa3]
  obtain⟨o12,ho12,h⟩:=bnd_out h
  refine CutK.intro (α:=Unit) [] [] (fun a=>[]) (fun a=>[]) (fun a=>(Sum.inl a:_ ⊕ _)=o12) ?_ ?_
  ·cbv;try simp only[ArKa3]
   refine LoopR (σ:=Int) ho12 [0,1,7,8] [] (fun a=>[(8,.i .i64 a)]) (fun a=>[]) (by first|rfl|(simp only[Z0];rfl)) fun _ s18 xs18 hs18 bs18 es18=>?_
   cbv;try simp only[ArKa3]
   split
   ·rename_i q21;simp only [q21,cond_true] at hs18 ⊢
    cbv;try simp only[ArKa3]
    obtain⟨y19,hy19,hs18⟩:=bnd_out hs18
    refine ⟨gt_in hy19,?_⟩
    refine ⟨_,gt_at _ hy19,?_⟩
    cbv;try simp only[ArKa3]
    obtain⟨r20,hr20,hs18⟩:=bnd_out hs18
    refine CallK.introE rfl rfl (r_iShapeOk_1 hr20) ?_
    clear hr20
    cbv;try simp only[ArKa3]
    cases r20
    ·simp only [cond_false] at hs18
     cbv;try simp only[ArKa3]
     obtain rfl:=SI hs18
     refine ⟨_,bs18 _ rfl,?_⟩;first|rfl|(simp only[Z0];rfl)
    ·simp only [cond_true] at hs18
     cbv;try simp only[ArKa3]
     obtain rfl:=SI hs18
     replace ho12:=congrArg some (es18 _ rfl)
     obtain rfl:=SI ho12
     simp only [Sum.elim_inr] at h
     obtain rfl:=SI h
     (try simp only [Z0]);exact LeV.to rfl (LeF.rfl' _)
   ·rename_i q21;simp only [q21,cond_false] at hs18 ⊢
    cbv;try simp only[ArKa3]
    obtain rfl:=SI hs18
    replace ho12:=congrArg some (es18 _ rfl)
    obtain rfl:=SI ho12
    refine ⟨_,rfl,?_⟩;first|rfl|(simp only[Z0];rfl)
  ·rintro a13 rfl
   clear ho12
   simp only [Sum.elim_inl] at h
   cbv;try simp only[ArKa3]
   obtain rfl:=SI h
   (try simp only [Z0]);exact LeV.to rfl (LeF.rfl' _)
theorem r_gslices_ContainsFunc_Node_iShapeOk_1{a0:List NodeD}{r:Bool}(h:gslices_ContainsFunc_Node_iShapeOk_1 a0=some r):Ret pg 110 true [.sl .shr 5 (rows nodeR a0),.fn 111 []] [] (.b r):=by
  unfold gslices_ContainsFunc_Node_iShapeOk_1 at h
  refine retD 1000 1000 [] .o Tryz.func110 rfl (by decide +kernel) (by decide +kernel) rfl trivial ?_
  cbv;try simp only[ArKa4]
  obtain⟨r2,hr2,h⟩:=bnd_out h
  refine CallK.introE rfl rfl (r_gslices_IndexFunc_Node_iShapeOk_1 hr2) ?_
  clear hr2
  cbv;try simp only[ArKa4]
  obtain rfl:=SI h
  (try simp only [Z0]);exact LeV.to rfl (LeF.rfl' _)
theorem r_gmath_bits_Mul64{a0:Int}{a1:Int}{r:Int × Int}(h:gmath_bits_Mul64 a0 a1=some r):Ret pg 177 true [.i .u64 a0,.i .u64 a1] [] (.tu [.i .u64 r.1,.i .u64 r.2]):=by
  unfold gmath_bits_Mul64 at h
  refine retD 1000 1000 [] .o Tryz.func177 rfl (by decide +kernel) (by decide +kernel) rfl ⟨trivial,trivial,trivial⟩ ?_
  cbv;try simp only[ArKa1]
  refine ⟨by rw [icmp_geq];rfl,?_⟩
  refine ⟨by rw [icmp_geq];rfl,?_⟩
  refine ⟨by rw [icmp_geq];rfl,?_⟩
  refine ⟨by rw [icmp_geq];rfl,?_⟩
  refine ⟨by rw [icmp_geq];rfl,?_⟩
  obtain rfl:=SI h
  (try simp only [Z0]);exact LeV.to rfl (LeF.rfl' _)
theorem r_gmath_bits_Mul{a0:Int}{a1:Int}{r:Int × Int}(h:gmath_bits_Mul a0 a1=some r):Ret pg 150 true [.i .u64 a0,.i .u64 a1] [] (.tu [.i .u64 r.1,.i .u64 r.2]):=by
  unfold gmath_bits_Mul at h
  refine retD 1000 1000 [] .o Tryz.func150 rfl (by decide +kernel) (by decide +kernel) rfl ⟨trivial,trivial,trivial⟩ ?_
  cbv;try simp only[ArKa1]
  obtain⟨r2,hr2,h⟩:=bnd_out h
  refine CallK.introE rfl rfl (r_gmath_bits_Mul64 hr2) ?_
  obtain⟨r2_0,r2_1⟩:=r2
  try dsimp only at h
  clear hr2
  cbv;try simp only[ArKa1]
  obtain rfl:=SI h
  (try simp only [Z0]);exact LeV.to rfl (LeF.rfl' _)
theorem r_gslices_Repeat_int{a0:List Int}{a1:Int}{r:(List Int)}(h:gslices_Repeat_int a0 a1=some r):Ret pg 113 true [.sl .shr 1 (rows intR a0),.i .i64 a1] [] (.sl .own 1 (rows intR r)):=by
  unfold gslices_Repeat_int at h
  refine retD 8 3 [(9,[⟨true,[],[8,38]⟩,⟨true,[],[39]⟩,⟨true,[],[8,40]⟩,⟨false,[42,8,43,44],[41]⟩,⟨false,[41],[42]⟩,⟨false,[41],[8,43]⟩,⟨false,[41],[44]⟩,⟨true,[],[7,45]⟩,⟨true,[],[46]⟩,⟨true,[],[8]⟩])] (.s .o (.s .o (.s .o (.s .o (.s .o (.s .o (.k .o .o))))))) Tryz.func113 rfl (by decide +kernel) (by decide +kernel) rfl ⟨rfl,own_intS _⟩ ?_
  cbv;try simp only[ArKa2]
  repeat((first|refine R6 ?_|refine A6 ?_);cbv;try simp only[ArKa2])
  split
  ·rename_i q14;simp only [q14,cond_true] at h ⊢
   cbv;try simp only[ArKa2]
   repeat((first|refine R6 ?_|refine A6 ?_);cbv;try simp only[ArKa2])
   cases h
  ·rename_i q14;simp only [q14,cond_false] at h ⊢
   cbv;try simp only[ArKa2]
   repeat((first|refine R6 ?_|refine A6 ?_);cbv;try simp only[ArKa2])
   obtain⟨r2,hr2,h⟩:=bnd_out h
   refine CallK.introE rfl rfl (r_gmath_bits_Mul hr2) ?_
   obtain⟨r2_0,r2_1⟩:=r2
   try dsimp only at h
   clear hr2
   cbv;try simp only[ArKa2]
   repeat((first|refine R6 ?_|refine A6 ?_);cbv;try simp only[ArKa2])
   split
   ·rename_i q13;simp only [q13,cond_true] at h ⊢
    cbv;try simp only[ArKa2]
    repeat((first|refine R6 ?_|refine A6 ?_);cbv;try simp only[ArKa2])
    cases h
   ·rename_i q13;simp only [q13,cond_false] at h ⊢
    cbv;try simp only[ArKa2]
    repeat((first|refine R6 ?_|refine A6 ?_);cbv;try simp only[ArKa2])
    split
    ·rename_i q12;simp only [q12,cond_true] at h ⊢
     cbv;try simp only[ArKa2]
     repeat((first|refine R6 ?_|refine A6 ?_);cbv;try simp only[ArKa2])
     cases h
    ·rename_i q12;simp only [q12,cond_false] at h ⊢
     cbv;try simp only[ArKa2]
     repeat((first|refine R6 ?_|refine A6 ?_);cbv;try simp only[ArKa2])
     obtain⟨c11,h⟩:=ck_out h
     refine ⟨c11,?_⟩
     repeat((first|refine R6 ?_|refine A6 ?_);cbv;try simp only[ArKa2])
     obtain⟨c10,h⟩:=ck_out h
     refine ⟨c10,?_⟩
     repeat((first|refine R6 ?_|refine A6 ?_);cbv;try simp only[ArKa2])
     obtain⟨o4,ho4,h⟩:=bnd_out h
     refine CutK.intro (α:=(List Int)) [7] [] (fun a=>[(7,.sl .own 1 (rows intR a))]) (fun a=>[]) (fun a=>a=o4) ?_ ?_
     ·cbv;try simp only[ArKa2]
      repeat((first|refine R6 ?_|refine A6 ?_);cbv;try simp only[ArKa2])
      refine LoopR (σ:=(List Int) × Int) ho4 [7,8] [] (fun a=>[(7,.sl .own 1 (rows intR a.1)),(8,.i .i64 a.2)]) (fun a=>[]) (by first|rfl|(simp only[Z0];rfl)) fun _ s6 xs6 hs6 bs6 es6=>?_
      obtain⟨s6_0,s6_1⟩:=s6
      try dsimp only at hs6
      cbv;try simp only[ArKa2]
      repeat((first|refine R6 ?_|refine A6 ?_);cbv;try simp only[ArKa2])
      split
      ·rename_i q9;simp only [q9,cond_true] at hs6 ⊢
       cbv;try simp only[ArKa2]
       repeat((first|refine R6 ?_|refine A6 ?_);cbv;try simp only[ArKa2])
       obtain⟨c8,hs6⟩:=ck_out hs6
       refine ⟨c8,?_⟩
       repeat((first|refine R6 ?_|refine A6 ?_);cbv;try simp only[ArKa2])
       obtain⟨c7,hs6⟩:=ck_out hs6
       refine ⟨c7,?_⟩
       repeat((first|refine R6 ?_|refine A6 ?_);cbv;try simp only[ArKa2])
       obtain rfl:=SI hs6
       refine ⟨_,bs6 _ rfl,?_⟩;first|rfl|(simp only[Z0];rfl)
      ·rename_i q9;simp only [q9,cond_false] at hs6 ⊢
       cbv;try simp only[ArKa2]
       repeat((first|refine R6 ?_|refine A6 ?_);cbv;try simp only[ArKa2])
       obtain rfl:=SI hs6
       replace ho4:=congrArg some (es6 _ rfl)
       obtain rfl:=SI ho4
       refine ⟨_,rfl,?_⟩;first|rfl|(simp only[Z0];rfl)
     ·rintro a5 rfl
      clear ho4
      cbv;try simp only[ArKa2]
      repeat((first|refine R6 ?_|refine A6 ?_);cbv;try simp only[ArKa2])
      obtain rfl:=SI h
      (try simp only [Z0]);exact LeV.to rfl (LeF.rfl' _)
theorem r_iowners{a0:FsD}{r:(List Int) × Bool}(h:iowners a0=some r):Ret pg 76 true [.ag (fsC a0)] [] (.tu [.sl .own 1 (rows intR r.1),.b r.2]):=by
  unfold iowners at h
  refine retD 1000 1000 [] (.s .o (.s .o (.k (.s .o (.s (.s (.s .o (.s .o (.k .o .o))) .o) .o)) .o))) Tryz.func76 rfl (by decide +kernel) (by decide +kernel) rfl ⟨⟨rfl,own_intS _⟩,trivial,trivial⟩ ?_
  cbv;try simp only[ArKa5]
  obtain⟨r2,hr2,h⟩:=bnd_out h
  refine CallK.introE rfl rfl (r_gslices_Repeat_int hr2) ?_
  clear hr2
  cbv;try simp only[ArKa5]
  obtain⟨o40,ho40,h⟩:=bnd_out h
  refine CutK.intro (α:=(List Int)) [4] [] (fun a=>[(4,.sl .own 1 (rows intR a))]) (fun a=>[]) (fun a=>(Sum.inl a:_ ⊕ _)=o40) ?_ ?_
  ·cbv;try simp only[ArKa5]
   refine LoopR (σ:=(List Int) × Int) ho40 [1,4,15,16,17] [1] (fun a=>[(4,.sl .own 1 (rows intR a.1)),(17,.i .i64 a.2)]) (fun a=>[]) (by first|rfl|(simp only[Z0];rfl)) fun _ s62 xs62 hs62 bs62 es62=>?_
   obtain⟨s62_0,s62_1⟩:=s62
   try dsimp only at hs62
   cbv;try simp only[ArKa5]
   split
   ·rename_i q84;simp only [q84,cond_true] at hs62 ⊢
    cbv;try simp only[ArKa5]
    obtain⟨o71,ho71,hs62⟩:=bnd_out hs62
    refine CutK.intro (α:=(List Int)) [1,4,15,16,17] [1] (fun a=>[(4,.sl .own 1 (rows intR a))]) (fun a=>[]) (fun a=>(Sum.inl a:_ ⊕ _)=o71) ?_ ?_
    ·cbv;try simp only[ArKa5]
     obtain⟨y73,hy73,ho71⟩:=bnd_out ho71
     refine ⟨gt_in hy73,?_⟩
     refine ⟨_,gt_at _ hy73,?_⟩
     cbv;try simp only[ArKa5]
     refine LoopR (σ:=(List Int) × Int) ho71 [1,4,5,15,16,17,23,24,25] [1] (fun a=>[(4,.sl .own 1 (rows intR a.1)),(25,.i .i64 a.2)]) (fun a=>[]) (by first|rfl|(simp only[Z0];rfl)) fun _ s78 xs78 hs78 bs78 es78=>?_
     obtain⟨s78_0,s78_1⟩:=s78
     try dsimp only at hs78
     cbv;try simp only[ArKa5]
     split
     ·rename_i q83;simp only [q83,cond_true] at hs78 ⊢
      cbv;try simp only[ArKa5]
      obtain⟨y79,hy79,hs78⟩:=bnd_out hs78
      refine ⟨gt_in hy79,?_⟩
      refine ⟨_,gt_at _ hy79,?_⟩
      cbv;try simp only[ArKa5]
      split
      ·rename_i q82;simp only [q82,cond_true] at hs78 ⊢
       cbv;try simp only[ArKa5]
       obtain rfl:=SI hs78
       replace ho71:=congrArg some (es78 _ rfl)
       obtain rfl:=SI ho71
       simp only [Sum.elim_inr] at hs62
       obtain rfl:=SI hs62
       replace ho40:=congrArg some (es62 _ rfl)
       obtain rfl:=SI ho40
       simp only [Sum.elim_inr] at h
       obtain rfl:=SI h
       first | exact LeV.to rfl (LeF.tu (LeFs.c (LeF.nr _ _ _) (LeFs.c (LeF.rfl' _) LeFs.n))) | (simp only [rows_nil,bys_n];exact LeV.to rfl (LeF.tu (LeFs.c (LeF.nr _ _ _) (LeFs.c (LeF.rfl' _) LeFs.n))))
      ·rename_i q82;simp only [q82,cond_false] at hs78 ⊢
       cbv;try simp only[ArKa5]
       obtain⟨y80,hy80,hs78⟩:=bnd_out hs78
       refine ⟨gt_in hy80,?_⟩
       refine ⟨_,gt_at _ hy80,?_⟩
       cbv;try simp only[ArKa5]
       split
       ·rename_i q81;simp only [q81,cond_true] at hs78 ⊢
        cbv;try simp only[ArKa5]
        obtain rfl:=SI hs78
        replace ho71:=congrArg some (es78 _ rfl)
        obtain rfl:=SI ho71
        simp only [Sum.elim_inr] at hs62
        obtain rfl:=SI hs62
        replace ho40:=congrArg some (es62 _ rfl)
        obtain rfl:=SI ho40
        simp only [Sum.elim_inr] at h
        obtain rfl:=SI h
        first | exact LeV.to rfl (LeF.tu (LeFs.c (LeF.nr _ _ _) (LeFs.c (LeF.rfl' _) LeFs.n))) | (simp only [rows_nil,bys_n];exact LeV.to rfl (LeF.tu (LeFs.c (LeF.nr _ _ _) (LeFs.c (LeF.rfl' _) LeFs.n))))
       ·rename_i q81;simp only [q81,cond_false] at hs78 ⊢
        cbv;try simp only[ArKa5]
        refine ⟨gt_in hy80,?_⟩
        refine ⟨_,gt_at _ hy80,?_⟩
        cbv;try simp only[ArKa5]
        obtain rfl:=SI hs78
        refine ⟨_,bs78 _ rfl,?_⟩;first|rfl|(simp only[Z0];rfl)
     ·rename_i q83;simp only [q83,cond_false] at hs78 ⊢
      cbv;try simp only[ArKa5]
      obtain rfl:=SI hs78
      replace ho71:=congrArg some (es78 _ rfl)
      obtain rfl:=SI ho71
      refine ⟨_,rfl,?_⟩;first|rfl|(simp only[Z0];rfl)
    ·rintro a72 rfl
     clear ho71
     simp only [Sum.elim_inl] at hs62
     cbv;try simp only[ArKa5]
     obtain rfl:=SI hs62
     refine ⟨_,bs62 _ rfl,?_⟩;first|rfl|(simp only[Z0];rfl)
   ·rename_i q84;simp only [q84,cond_false] at hs62 ⊢
    cbv;try simp only[ArKa5]
    obtain rfl:=SI hs62
    replace ho40:=congrArg some (es62 _ rfl)
    obtain rfl:=SI ho40
    refine ⟨_,rfl,?_⟩;first|rfl|(simp only[Z0];rfl)
  ·rintro a41 rfl
   clear ho40
   simp only [Sum.elim_inl] at h
   cbv;try simp only[ArKa5]
   obtain rfl:=SI h
   (try simp only [Z0]);exact LeV.to rfl (LeF.rfl' _)
theorem r_iShapeOk{a0:FsD}{r:Bool}(h:iShapeOk a0=some r):Ret pg 75 true [.ag (fsC a0)] [] (.b r):=by
  unfold iShapeOk at h
  refine retD 1000 1000 [] (.s .o (.s .o (.s .o (.s .o (.s .o (.k .o (.k (.s .o (.s (.s (.s .o (.s .o (.k .o .o))) .o) .o)) .o))))))) Tryz.func75 rfl (by decide +kernel) (by decide +kernel) rfl trivial ?_
  cbv;try simp only[ArKa5]
  obtain⟨r7,hr7,h⟩:=bnd_out h
  refine CallK.introE rfl rfl (r_iwithin hr7) ?_
  clear hr7
  cbv;try simp only[ArKa5]
  cases r7
  ·simp only [cond_false] at h
   cbv;try simp only[ArKa5]
   obtain rfl:=SI h
   (try simp only [Z0]);exact LeV.to rfl (LeF.rfl' _)
  ·simp only [cond_true] at h
   cbv;try simp only[ArKa5]
   obtain⟨r8,hr8,h⟩:=bnd_out h
   refine CallK.introE rfl rfl (r_iwithin hr8) ?_
   clear hr8
   cbv;try simp only[ArKa5]
   cases r8
   ·simp only [cond_false] at h
    cbv;try simp only[ArKa5]
    obtain rfl:=SI h
    (try simp only [Z0]);exact LeV.to rfl (LeF.rfl' _)
   ·simp only [cond_true] at h
    cbv;try simp only[ArKa5]
    obtain⟨y9,hy9,h⟩:=bnd_out h
    refine ⟨gt_in hy9,?_⟩
    refine ⟨_,gt_at _ hy9,?_⟩
    cbv;try simp only[ArKa5]
    split
    ·rename_i q117;simp only [q117,cond_true] at h ⊢
     cbv;try simp only[ArKa5]
     obtain rfl:=SI h
     (try simp only [Z0]);exact LeV.to rfl (LeF.rfl' _)
    ·rename_i q117;simp only [q117,cond_false] at h ⊢
     cbv;try simp only[ArKa5]
     obtain⟨r12,hr12,h⟩:=bnd_out h
     refine CallK.introE rfl rfl (r_gslices_ContainsFunc_Node_iShapeOk_1 hr12) ?_
     clear hr12
     cbv;try simp only[ArKa5]
     cases r12
     ·simp only [cond_false] at h
      cbv;try simp only[ArKa5]
      obtain⟨r14,hr14,h⟩:=bnd_out h
      refine CallK.introE rfl rfl (r_iowners hr14) ?_
      obtain⟨r14_0,r14_1⟩:=r14
      try dsimp only at h
      clear hr14
      cbv;try simp only[ArKa5]
      cases r14_1
      ·simp only [cond_false] at h
       cbv;try simp only[ArKa5]
       obtain rfl:=SI h
       (try simp only [Z0]);exact LeV.to rfl (LeF.rfl' _)
      ·simp only [cond_true] at h
       cbv;try simp only[ArKa5]
       obtain⟨o26,ho26,h⟩:=bnd_out h
       refine CutK.intro (α:=Unit) [1] [1] (fun a=>[]) (fun a=>[]) (fun a=>(Sum.inl a:_ ⊕ _)=o26) ?_ ?_
       ·cbv;try simp only[ArKa5]
        refine LoopR (σ:=Int) ho26 [1,3,43,44,45] [1] (fun a=>[(45,.i .i64 a)]) (fun a=>[]) (by first|rfl|(simp only[Z0];rfl)) fun _ s110 xs110 hs110 bs110 es110=>?_
        cbv;try simp only[ArKa5]
        split
        ·rename_i q116;simp only [q116,cond_true] at hs110 ⊢
         cbv;try simp only[ArKa5]
         obtain⟨y111,hy111,hs110⟩:=bnd_out hs110
         refine ⟨gt_in hy111,?_⟩
         refine ⟨_,gt_at _ hy111,?_⟩
         cbv;try simp only[ArKa5]
         split
         ·rename_i q115;simp only [q115,cond_true] at hs110 ⊢
          cbv;try simp only[ArKa5]
          obtain rfl:=SI hs110
          replace ho26:=congrArg some (es110 _ rfl)
          obtain rfl:=SI ho26
          simp only [Sum.elim_inr] at h
          obtain rfl:=SI h
          (try simp only [Z0]);exact LeV.to rfl (LeF.rfl' _)
         ·rename_i q115;simp only [q115,cond_false] at hs110 ⊢
          cbv;try simp only[ArKa5]
          obtain⟨y112,hy112,hs110⟩:=bnd_out hs110
          refine ⟨gt_in hy112,?_⟩
          refine ⟨_,gt_at _ hy112,?_⟩
          cbv;try simp only[ArKa5]
          split
          ·rename_i q114;simp only [q114,cond_true] at hs110 ⊢
           cbv;try simp only[ArKa5]
           split
           ·rename_i q113;simp only [q113,cond_true] at hs110 ⊢
            cbv;try simp only[ArKa5]
            obtain rfl:=SI hs110
            replace ho26:=congrArg some (es110 _ rfl)
            obtain rfl:=SI ho26
            simp only [Sum.elim_inr] at h
            obtain rfl:=SI h
            (try simp only [Z0]);exact LeV.to rfl (LeF.rfl' _)
           ·rename_i q113;simp only [q113,cond_false] at hs110 ⊢
            cbv;try simp only[ArKa5]
            obtain rfl:=SI hs110
            refine ⟨_,bs110 _ rfl,?_⟩;first|rfl|(simp only[Z0];rfl)
          ·rename_i q114;simp only [q114,cond_false] at hs110 ⊢
           cbv;try simp only[ArKa5]
           obtain rfl:=SI hs110
           refine ⟨_,bs110 _ rfl,?_⟩;first|rfl|(simp only[Z0];rfl)
        ·rename_i q116;simp only [q116,cond_false] at hs110 ⊢
         cbv;try simp only[ArKa5]
         obtain rfl:=SI hs110
         replace ho26:=congrArg some (es110 _ rfl)
         obtain rfl:=SI ho26
         refine ⟨_,rfl,?_⟩;first|rfl|(simp only[Z0];rfl)
       ·rintro a27 rfl
        clear ho26
        simp only [Sum.elim_inl] at h
        cbv;try simp only[ArKa5]
        obtain⟨o63,ho63,h⟩:=bnd_out h
        refine CutK.intro (α:=Unit) [] [] (fun a=>[]) (fun a=>[]) (fun a=>(Sum.inl a:_ ⊕ _)=o63) ?_ ?_
        ·cbv;try simp only[ArKa5]
         refine LoopR (σ:=Int) ho63 [1,66,67,68] [1] (fun a=>[(68,.i .i64 a)]) (fun a=>[]) (by first|rfl|(simp only[Z0];rfl)) fun _ s84 xs84 hs84 bs84 es84=>?_
         cbv;try simp only[ArKa5]
         split
         ·rename_i q105;simp only [q105,cond_true] at hs84 ⊢
          cbv;try simp only[ArKa5]
          obtain⟨o93,ho93,hs84⟩:=bnd_out hs84
          refine CutK.intro (α:=Unit) [1,66,67,68] [1] (fun a=>[]) (fun a=>[]) (fun a=>(Sum.inl a:_ ⊕ _)=o93) ?_ ?_
          ·cbv;try simp only[ArKa5]
           obtain⟨y95,hy95,ho93⟩:=bnd_out ho93
           refine ⟨gt_in hy95,?_⟩
           refine ⟨_,gt_at _ hy95,?_⟩
           cbv;try simp only[ArKa5]
           refine LoopR (σ:=Int × Int) ho93 [1,9,66,67,68,75,76,77] [1] (fun a=>[(9,.i .i64 a.1),(77,.i .i64 a.2)]) (fun a=>[]) (by first|rfl|(simp only[Z0];rfl)) fun _ s100 xs100 hs100 bs100 es100=>?_
           obtain⟨s100_0,s100_1⟩:=s100
           try dsimp only at hs100
           cbv;try simp only[ArKa5]
           split
           ·rename_i q104;simp only [q104,cond_true] at hs100 ⊢
            cbv;try simp only[ArKa5]
            obtain⟨y101,hy101,hs100⟩:=bnd_out hs100
            refine ⟨gt_in hy101,?_⟩
            refine ⟨_,gt_at _ hy101,?_⟩
            cbv;try simp only[ArKa5]
            obtain⟨y102,hy102,hs100⟩:=bnd_out hs100
            refine ⟨gt_in hy102,?_⟩
            refine ⟨_,gt_at _ hy102,?_⟩
            cbv;try simp only[ArKa5]
            split
            ·rename_i q103;simp only [q103,cond_true] at hs100 ⊢
             cbv;try simp only[ArKa5]
             obtain rfl:=SI hs100
             replace ho93:=congrArg some (es100 _ rfl)
             obtain rfl:=SI ho93
             simp only [Sum.elim_inr] at hs84
             obtain rfl:=SI hs84
             replace ho63:=congrArg some (es84 _ rfl)
             obtain rfl:=SI ho63
             simp only [Sum.elim_inr] at h
             obtain rfl:=SI h
             (try simp only [Z0]);exact LeV.to rfl (LeF.rfl' _)
            ·rename_i q103;simp only [q103,cond_false] at hs100 ⊢
             cbv;try simp only[ArKa5]
             obtain rfl:=SI hs100
             refine ⟨_,bs100 _ rfl,?_⟩;first|rfl|(simp only[Z0];rfl)
           ·rename_i q104;simp only [q104,cond_false] at hs100 ⊢
            cbv;try simp only[ArKa5]
            obtain rfl:=SI hs100
            replace ho93:=congrArg some (es100 _ rfl)
            obtain rfl:=SI ho93
            refine ⟨_,rfl,?_⟩;first|rfl|(simp only[Z0];rfl)
          ·rintro a94 rfl
           clear ho93
           simp only [Sum.elim_inl] at hs84
           cbv;try simp only[ArKa5]
           obtain rfl:=SI hs84
           refine ⟨_,bs84 _ rfl,?_⟩;first|rfl|(simp only[Z0];rfl)
         ·rename_i q105;simp only [q105,cond_false] at hs84 ⊢
          cbv;try simp only[ArKa5]
          obtain rfl:=SI hs84
          replace ho63:=congrArg some (es84 _ rfl)
          obtain rfl:=SI ho63
          refine ⟨_,rfl,?_⟩;first|rfl|(simp only[Z0];rfl)
        ·rintro a64 rfl
         clear ho63
         simp only [Sum.elim_inl] at h
         cbv;try simp only[ArKa5]
         obtain rfl:=SI h
         (try simp only [Z0]);exact LeV.to rfl (LeF.rfl' _)
     ·simp only [cond_true] at h
      cbv;try simp only[ArKa5]
      obtain rfl:=SI h
      (try simp only [Z0]);exact LeV.to rfl (LeF.rfl' _)
theorem r_sl1In{a0:Int}{a1:Int}{a2:Int}{r:Bool}(h:sl1In a0 a1 a2=some r):Ret pg 51 true [.i .i64 a0,.i .i64 a1,.i .i64 a2] [] (.b r):=by
  unfold sl1In at h
  refine retD 1000 1000 [] .o Tryz.func51 rfl (by decide +kernel) (by decide +kernel) rfl trivial ?_
  cbv;try simp only[ArKa1]
  split
  ·rename_i q1;simp only [q1,cond_true] at h ⊢
   cbv;try simp only[ArKa1]
   obtain rfl:=SI h
   (try simp only [Z0]);exact LeV.to rfl (LeF.rfl' _)
  ·rename_i q1;simp only [q1,cond_false] at h ⊢
   cbv;try simp only[ArKa1]
   obtain rfl:=SI h
   (try simp only [Z0]);exact LeV.to rfl (LeF.rfl' _)
theorem r_sBlocksFor{a0:Int}{r:Int}(h:sBlocksFor a0=some r):Ret pg 171 true [.i .i64 a0] [] (.i .i64 r):=by
  unfold sBlocksFor at h
  refine retD 1000 1000 [] .o Tryz.func171 rfl (by decide +kernel) (by decide +kernel) rfl trivial ?_
  cbv;try simp only[ArKa1]
  split
  ·rename_i q2;simp only [q2,cond_true] at h ⊢
   cbv;try simp only[ArKa1]
   obtain rfl:=SI h
   (try simp only [Z0]);exact LeV.to rfl (LeF.rfl' _)
  ·rename_i q2;simp only [q2,cond_false] at h ⊢
   cbv;try simp only[ArKa1]
   split
   ·rename_i q1;simp only [q1,cond_true] at h ⊢
    cbv;try simp only[ArKa1]
    obtain rfl:=SI h
    (try simp only [Z0]);exact LeV.to rfl (LeF.rfl' _)
   ·rename_i q1;simp only [q1,cond_false] at h ⊢
    cbv;try simp only[ArKa1]
    refine ⟨by rw [icmp_neq];rfl,?_⟩
    obtain rfl:=SI h
    (try simp only [Z0]);exact LeV.to rfl (LeF.rfl' _)
theorem r_sl1Has{a0:List Int}{a1:Int}{r:Bool}(h:sl1Has a0 a1=some r):Ret pg 172 true [.sl .shr 1 (rows intR a0),.i .i64 a1] [] (.b r):=by
  unfold sl1Has at h
  refine retD 1000 1000 [] (.s .o (.k .o .o)) Tryz.func172 rfl (by decide +kernel) (by decide +kernel) rfl trivial ?_
  cbv;try simp only[ArKa2]
  obtain⟨o7,ho7,h⟩:=bnd_out h
  refine CutK.intro (α:=Unit) [] [] (fun a=>[]) (fun a=>[]) (fun a=>(Sum.inl a:_ ⊕ _)=o7) ?_ ?_
  ·cbv;try simp only[ArKa2]
   refine LoopR (σ:=Int) ho7 [0,1,5] [] (fun a=>[(5,.i .i64 a)]) (fun a=>[]) (by first|rfl|(simp only[Z0];rfl)) fun _ s11 xs11 hs11 bs11 es11=>?_
   cbv;try simp only[ArKa2]
   split
   ·rename_i q14;simp only [q14,cond_true] at hs11 ⊢
    cbv;try simp only[ArKa2]
    obtain⟨y12,hy12,hs11⟩:=bnd_out hs11
    refine ⟨gt_in hy12,?_⟩
    refine ⟨_,gt_at _ hy12,?_⟩
    cbv;try simp only[ArKa2]
    split
    ·rename_i q13;simp only [q13,cond_true] at hs11 ⊢
     cbv;try simp only[ArKa2]
     obtain rfl:=SI hs11
     replace ho7:=congrArg some (es11 _ rfl)
     obtain rfl:=SI ho7
     simp only [Sum.elim_inr] at h
     obtain rfl:=SI h
     (try simp only [Z0]);exact LeV.to rfl (LeF.rfl' _)
    ·rename_i q13;simp only [q13,cond_false] at hs11 ⊢
     cbv;try simp only[ArKa2]
     obtain rfl:=SI hs11
     refine ⟨_,bs11 _ rfl,?_⟩;first|rfl|(simp only[Z0];rfl)
   ·rename_i q14;simp only [q14,cond_false] at hs11 ⊢
    cbv;try simp only[ArKa2]
    obtain rfl:=SI hs11
    replace ho7:=congrArg some (es11 _ rfl)
    obtain rfl:=SI ho7
    refine ⟨_,rfl,?_⟩;first|rfl|(simp only[Z0];rfl)
  ·rintro a8 rfl
   clear ho7
   simp only [Sum.elim_inl] at h
   cbv;try simp only[ArKa2]
   obtain rfl:=SI h
   (try simp only [Z0]);exact LeV.to rfl (LeF.rfl' _)
theorem r_sNodeOk{a0:NodeD}{r:Bool}(h:sNodeOk a0=some r):Ret pg 141 true [.ag (nodeC a0)] [] (.b r):=by
  unfold sNodeOk at h
  refine retD 8 3 [(3,[⟨true,[],[26]⟩,⟨true,[],[27]⟩,⟨true,[],[28]⟩,⟨true,[],[29]⟩,⟨true,[],[29,30]⟩,⟨true,[],[31]⟩,⟨true,[],[32]⟩,⟨true,[],[33]⟩,⟨true,[],[34]⟩,⟨true,[],[35]⟩,⟨true,[],[35,36]⟩,⟨true,[],[37]⟩,⟨true,[],[38]⟩,⟨true,[],[39]⟩,⟨true,[],[40]⟩,⟨true,[],[41]⟩,⟨true,[],[41,42]⟩,⟨true,[],[43]⟩,⟨true,[],[44]⟩,⟨true,[],[45]⟩,⟨true,[],[46]⟩,⟨true,[],[47]⟩,⟨true,[],[47,48]⟩,⟨true,[],[49]⟩,⟨false,[52,53,54],[50]⟩,⟨false,[52,53,54],[51]⟩,⟨false,[50,51],[52]⟩,⟨false,[50,51],[53]⟩,⟨false,[50,51],[54]⟩,⟨true,[],[55]⟩,⟨true,[],[56]⟩]),(10,[⟨true,[],[77]⟩,⟨false,[79],[78]⟩,⟨false,[78],[79]⟩,⟨true,[],[80]⟩,⟨true,[],[81]⟩,⟨true,[],[82]⟩,⟨true,[],[83]⟩,⟨true,[],[83,84]⟩,⟨true,[],[85]⟩,⟨false,[87,89,90,91,92,93],[86]⟩,⟨false,[86],[87]⟩,⟨false,[89,90,91,92,93],[88]⟩,⟨false,[86,88],[89]⟩,⟨false,[86,88,91],[90]⟩,⟨false,[86,88,90],[91]⟩,⟨false,[86,88],[92]⟩,⟨false,[86,88],[93]⟩,⟨true,[],[94]⟩,⟨true,[],[95]⟩])] (.s .o (.s .o (.s .o (.k .o (.k .o .o))))) Tryz.func141 rfl (by decide +kernel) (by decide +kernel) rfl trivial ?_
  cbv;try simp only[ArKa2]
  repeat((first|refine R6 ?_|refine A6 ?_);cbv;try simp only[ArKa2])
  split
  ·rename_i q55;simp only [q55,cond_true] at h ⊢
   cbv;try simp only[ArKa2]
   repeat((first|refine R6 ?_|refine A6 ?_);cbv;try simp only[ArKa2])
   split
   ·rename_i q3;simp only [q3,cond_true] at h ⊢
    cbv;try simp only[ArKa2]
    repeat((first|refine R6 ?_|refine A6 ?_);cbv;try simp only[ArKa2])
    split
    ·rename_i q2;simp only [q2,cond_true] at h ⊢
     cbv;try simp only[ArKa2]
     repeat((first|refine R6 ?_|refine A6 ?_);cbv;try simp only[ArKa2])
     split
     ·rename_i q1;simp only [q1,cond_true] at h ⊢
      cbv;try simp only[ArKa2]
      repeat((first|refine R6 ?_|refine A6 ?_);cbv;try simp only[ArKa2])
      obtain rfl:=SI h
      (try simp only [Z0]);exact LeV.to rfl (LeF.rfl' _)
     ·rename_i q1;simp only [q1,cond_false] at h ⊢
      cbv;try simp only[ArKa2]
      repeat((first|refine R6 ?_|refine A6 ?_);cbv;try simp only[ArKa2])
      obtain rfl:=SI h
      (try simp only [Z0]);exact LeV.to rfl (LeF.rfl' _)
    ·rename_i q2;simp only [q2,cond_false] at h ⊢
     cbv;try simp only[ArKa2]
     repeat((first|refine R6 ?_|refine A6 ?_);cbv;try simp only[ArKa2])
     obtain rfl:=SI h
     (try simp only [Z0]);exact LeV.to rfl (LeF.rfl' _)
   ·rename_i q3;simp only [q3,cond_false] at h ⊢
    cbv;try simp only[ArKa2]
    repeat((first|refine R6 ?_|refine A6 ?_);cbv;try simp only[ArKa2])
    obtain rfl:=SI h
    (try simp only [Z0]);exact LeV.to rfl (LeF.rfl' _)
  ·rename_i q55;simp only [q55,cond_false] at h ⊢
   cbv;try simp only[ArKa2]
   repeat((first|refine R6 ?_|refine A6 ?_);cbv;try simp only[ArKa2])
   obtain⟨r14,hr14,h⟩:=bnd_out h
   refine CallK.introE rfl rfl (r_sl1In hr14) ?_
   clear hr14
   cbv;try simp only[ArKa2]
   repeat((first|refine R6 ?_|refine A6 ?_);cbv;try simp only[ArKa2])
   cases r14
   ·simp only [cond_false] at h
    cbv;try simp only[ArKa2]
    repeat((first|refine R6 ?_|refine A6 ?_);cbv;try simp only[ArKa2])
    obtain rfl:=SI h
    (try simp only [Z0]);exact LeV.to rfl (LeF.rfl' _)
   ·simp only [cond_true] at h
    cbv;try simp only[ArKa2]
    repeat((first|refine R6 ?_|refine A6 ?_);cbv;try simp only[ArKa2])
    obtain⟨r15,hr15,h⟩:=bnd_out h
    refine CallK.introE rfl rfl (r_sl1In hr15) ?_
    clear hr15
    cbv;try simp only[ArKa2]
    repeat((first|refine R6 ?_|refine A6 ?_);cbv;try simp only[ArKa2])
    cases r15
    ·simp only [cond_false] at h
     cbv;try simp only[ArKa2]
     repeat((first|refine R6 ?_|refine A6 ?_);cbv;try simp only[ArKa2])
     obtain rfl:=SI h
     (try simp only [Z0]);exact LeV.to rfl (LeF.rfl' _)
    ·simp only [cond_true] at h
     cbv;try simp only[ArKa2]
     repeat((first|refine R6 ?_|refine A6 ?_);cbv;try simp only[ArKa2])
     obtain⟨r16,hr16,h⟩:=bnd_out h
     refine CallK.introE rfl rfl (r_sl1In hr16) ?_
     clear hr16
     cbv;try simp only[ArKa2]
     repeat((first|refine R6 ?_|refine A6 ?_);cbv;try simp only[ArKa2])
     cases r16
     ·simp only [cond_false] at h
      cbv;try simp only[ArKa2]
      repeat((first|refine R6 ?_|refine A6 ?_);cbv;try simp only[ArKa2])
      obtain rfl:=SI h
      (try simp only [Z0]);exact LeV.to rfl (LeF.rfl' _)
     ·simp only [cond_true] at h
      cbv;try simp only[ArKa2]
      repeat((first|refine R6 ?_|refine A6 ?_);cbv;try simp only[ArKa2])
      obtain⟨r17,hr17,h⟩:=bnd_out h
      refine CallK.introE rfl rfl (r_sl1In hr17) ?_
      clear hr17
      cbv;try simp only[ArKa2]
      repeat((first|refine R6 ?_|refine A6 ?_);cbv;try simp only[ArKa2])
      cases r17
      ·simp only [cond_false] at h
       cbv;try simp only[ArKa2]
       repeat((first|refine R6 ?_|refine A6 ?_);cbv;try simp only[ArKa2])
       obtain rfl:=SI h
       (try simp only [Z0]);exact LeV.to rfl (LeF.rfl' _)
      ·simp only [cond_true] at h
       cbv;try simp only[ArKa2]
       repeat((first|refine R6 ?_|refine A6 ?_);cbv;try simp only[ArKa2])
       obtain⟨r18,hr18,h⟩:=bnd_out h
       refine CallK.introE rfl rfl (r_sBlocksFor hr18) ?_
       clear hr18
       cbv;try simp only[ArKa2]
       repeat((first|refine R6 ?_|refine A6 ?_);cbv;try simp only[ArKa2])
       split
       ·rename_i q54;simp only [q54,cond_true] at h ⊢
        cbv;try simp only[ArKa2]
        repeat((first|refine R6 ?_|refine A6 ?_);cbv;try simp only[ArKa2])
        obtain rfl:=SI h
        (try simp only [Z0]);exact LeV.to rfl (LeF.rfl' _)
       ·rename_i q54;simp only [q54,cond_false] at h ⊢
        cbv;try simp only[ArKa2]
        repeat((first|refine R6 ?_|refine A6 ?_);cbv;try simp only[ArKa2])
        obtain⟨o19,ho19,h⟩:=bnd_out h
        refine CutK.intro (α:=Unit) [1] [1] (fun a=>[]) (fun a=>[]) (fun a=>(Sum.inl a:_ ⊕ _)=o19) ?_ ?_
        ·cbv;try simp only[ArKa2]
         repeat((first|refine R6 ?_|refine A6 ?_);cbv;try simp only[ArKa2])
         split
         ·rename_i q53;simp only [q53,cond_true] at ho19 ⊢
          cbv;try simp only[ArKa2]
          repeat((first|refine R6 ?_|refine A6 ?_);cbv;try simp only[ArKa2])
          split
          ·rename_i q52;simp only [q52,cond_true] at ho19 ⊢
           cbv;try simp only[ArKa2]
           repeat((first|refine R6 ?_|refine A6 ?_);cbv;try simp only[ArKa2])
           obtain rfl:=SI ho19
           simp only [Sum.elim_inr] at h
           obtain rfl:=SI h
           (try simp only [Z0]);exact LeV.to rfl (LeF.rfl' _)
          ·rename_i q52;simp only [q52,cond_false] at ho19 ⊢
           cbv;try simp only[ArKa2]
           repeat((first|refine R6 ?_|refine A6 ?_);cbv;try simp only[ArKa2])
           split
           ·rename_i q51;simp only [q51,cond_true] at ho19 ⊢
            cbv;try simp only[ArKa2]
            repeat((first|refine R6 ?_|refine A6 ?_);cbv;try simp only[ArKa2])
            obtain rfl:=SI ho19
            simp only [Sum.elim_inr] at h
            obtain rfl:=SI h
            (try simp only [Z0]);exact LeV.to rfl (LeF.rfl' _)
           ·rename_i q51;simp only [q51,cond_false] at ho19 ⊢
            cbv;try simp only[ArKa2]
            repeat((first|refine R6 ?_|refine A6 ?_);cbv;try simp only[ArKa2])
            obtain rfl:=SI ho19
            refine ⟨_,rfl,?_⟩;first|rfl|(simp only[Z0];rfl)
         ·rename_i q53;simp only [q53,cond_false] at ho19 ⊢
          cbv;try simp only[ArKa2]
          repeat((first|refine R6 ?_|refine A6 ?_);cbv;try simp only[ArKa2])
          obtain rfl:=SI ho19
          refine ⟨_,rfl,?_⟩;first|rfl|(simp only[Z0];rfl)
        ·rintro a20 rfl
         clear ho19
         simp only [Sum.elim_inl] at h
         cbv;try simp only[ArKa2]
         repeat((first|refine R6 ?_|refine A6 ?_);cbv;try simp only[ArKa2])
         obtain⟨o37,ho37,h⟩:=bnd_out h
         refine CutK.intro (α:=Unit) [] [] (fun a=>[]) (fun a=>[]) (fun a=>(Sum.inl a:_ ⊕ _)=o37) ?_ ?_
         ·cbv;try simp only[ArKa2]
          repeat((first|refine R6 ?_|refine A6 ?_);cbv;try simp only[ArKa2])
          refine LoopR (σ:=Int) ho37 [1,3] [1] (fun a=>[(3,.i .i64 a)]) (fun a=>[]) (by first|rfl|(simp only[Z0];rfl)) fun _ s45 xs45 hs45 bs45 es45=>?_
          cbv;try simp only[ArKa2]
          repeat((first|refine R6 ?_|refine A6 ?_);cbv;try simp only[ArKa2])
          split
          ·rename_i q50;simp only [q50,cond_true] at hs45 ⊢
           cbv;try simp only[ArKa2]
           repeat((first|refine R6 ?_|refine A6 ?_);cbv;try simp only[ArKa2])
           obtain⟨y46,hy46,hs45⟩:=bnd_out hs45
           refine ⟨gt_in hy46,?_⟩
           repeat((first|refine R6 ?_|refine A6 ?_);cbv;try simp only[ArKa2])
           refine ⟨_,gt_at _ hy46,?_⟩
           cbv;try simp only[ArKa2]
           repeat((first|refine R6 ?_|refine A6 ?_);cbv;try simp only[ArKa2])
           obtain⟨r47,hr47,hs45⟩:=bnd_out hs45
           refine CallK.introE rfl rfl (r_sl1In hr47) ?_
           clear hr47
           cbv;try simp only[ArKa2]
           repeat((first|refine R6 ?_|refine A6 ?_);cbv;try simp only[ArKa2])
           cases r47
           ·simp only [cond_false] at hs45
            cbv;try simp only[ArKa2]
            repeat((first|refine R6 ?_|refine A6 ?_);cbv;try simp only[ArKa2])
            obtain rfl:=SI hs45
            replace ho37:=congrArg some (es45 _ rfl)
            obtain rfl:=SI ho37
            simp only [Sum.elim_inr] at h
            obtain rfl:=SI h
            (try simp only [Z0]);exact LeV.to rfl (LeF.rfl' _)
           ·simp only [cond_true] at hs45
            cbv;try simp only[ArKa2]
            repeat((first|refine R6 ?_|refine A6 ?_);cbv;try simp only[ArKa2])
            obtain⟨c49,hs45⟩:=ck_out hs45
            refine ⟨c49,?_⟩
            repeat((first|refine R6 ?_|refine A6 ?_);cbv;try simp only[ArKa2])
            refine ⟨gt_in hy46,?_⟩
            repeat((first|refine R6 ?_|refine A6 ?_);cbv;try simp only[ArKa2])
            refine ⟨_,gt_at _ hy46,?_⟩
            cbv;try simp only[ArKa2]
            repeat((first|refine R6 ?_|refine A6 ?_);cbv;try simp only[ArKa2])
            obtain⟨r48,hr48,hs45⟩:=bnd_out hs45
            refine CallK.introE rfl rfl (r_sl1Has hr48) ?_
            clear hr48
            cbv;try simp only[ArKa2]
            repeat((first|refine R6 ?_|refine A6 ?_);cbv;try simp only[ArKa2])
            cases r48
            ·simp only [cond_false] at hs45
             cbv;try simp only[ArKa2]
             repeat((first|refine R6 ?_|refine A6 ?_);cbv;try simp only[ArKa2])
             obtain rfl:=SI hs45
             refine ⟨_,bs45 _ rfl,?_⟩;first|rfl|(simp only[Z0];rfl)
            ·simp only [cond_true] at hs45
             cbv;try simp only[ArKa2]
             repeat((first|refine R6 ?_|refine A6 ?_);cbv;try simp only[ArKa2])
             obtain rfl:=SI hs45
             replace ho37:=congrArg some (es45 _ rfl)
             obtain rfl:=SI ho37
             simp only [Sum.elim_inr] at h
             obtain rfl:=SI h
             (try simp only [Z0]);exact LeV.to rfl (LeF.rfl' _)
          ·rename_i q50;simp only [q50,cond_false] at hs45 ⊢
           cbv;try simp only[ArKa2]
           repeat((first|refine R6 ?_|refine A6 ?_);cbv;try simp only[ArKa2])
           obtain rfl:=SI hs45
           replace ho37:=congrArg some (es45 _ rfl)
           obtain rfl:=SI ho37
           refine ⟨_,rfl,?_⟩;first|rfl|(simp only[Z0];rfl)
         ·rintro a38 rfl
          clear ho37
          simp only [Sum.elim_inl] at h
          cbv;try simp only[ArKa2]
          repeat((first|refine R6 ?_|refine A6 ?_);cbv;try simp only[ArKa2])
          obtain rfl:=SI h
          (try simp only [Z0]);exact LeV.to rfl (LeF.rfl' _)
theorem r_sl6Used{a0:FsD}{r:(List Int)}(h:sl6Used a0=some r):Ret pg 105 true [.ag (fsC a0)] [] (.sl .own 1 (rows intR r)):=by
  unfold sl6Used at h
  refine retD 8 3 [(11,[⟨true,[],[53]⟩,⟨true,[],[54]⟩,⟨false,[57,58,59,60,61,62,63],[55]⟩,⟨false,[57,58,59,60,61,62,63],[56]⟩,⟨false,[55,56],[57]⟩,⟨false,[55,56],[58]⟩,⟨false,[55,56],[59]⟩,⟨false,[55,56],[60]⟩,⟨false,[55,56],[61]⟩,⟨false,[55,56],[62]⟩,⟨false,[55,56],[63]⟩,⟨true,[],[64]⟩,⟨true,[],[]⟩])] (.s .o (.s .o (.k (.s .o (.s (.s (.s .o (.k .o .o)) .o) .o)) .o))) Tryz.func105 rfl (by decide +kernel) (by decide +kernel) rfl ⟨rfl,own_intS _⟩ ?_
  cbv;try simp only[ArKa5]
  repeat((first|refine R6 ?_|refine A6 ?_);cbv;try simp only[ArKa5])
  obtain⟨c140,h⟩:=ck_out h
  refine ⟨c140,?_⟩
  repeat((first|refine R6 ?_|refine A6 ?_);cbv;try simp only[ArKa5])
  obtain⟨c139,h⟩:=ck_out h
  refine ⟨c139,?_⟩
  repeat((first|refine R6 ?_|refine A6 ?_);cbv;try simp only[ArKa5])
  obtain⟨o64,ho64,h⟩:=bnd_out h
  refine CutK.intro (α:=(List Int)) [3] [] (fun a=>[(3,.sl .own 1 (rows intR a))]) (fun a=>[]) (fun a=>a=o64) ?_ ?_
  ·cbv;try simp only[ArKa5]
   repeat((first|refine R6 ?_|refine A6 ?_);cbv;try simp only[ArKa5])
   refine LoopR (σ:=(List Int) × Int) ho64 [1,3,4] [1] (fun a=>[(3,.sl .own 1 (rows intR a.1)),(4,.i .i64 a.2)]) (fun a=>[]) (by first|rfl|(simp only[Z0];rfl)) fun _ s102 xs102 hs102 bs102 es102=>?_
   obtain⟨s102_0,s102_1⟩:=s102
   try dsimp only at hs102
   cbv;try simp only[ArKa5]
   repeat((first|refine R6 ?_|refine A6 ?_);cbv;try simp only[ArKa5])
   split
   ·rename_i q138;simp only [q138,cond_true] at hs102 ⊢
    cbv;try simp only[ArKa5]
    repeat((first|refine R6 ?_|refine A6 ?_);cbv;try simp only[ArKa5])
    obtain⟨o119,ho119,hs102⟩:=bnd_out hs102
    refine CutK.intro (α:=(List Int)) [1,3,4] [1] (fun a=>[(3,.sl .own 1 (rows intR a))]) (fun a=>[]) (fun a=>a=o119) ?_ ?_
    ·cbv;try simp only[ArKa5]
     repeat((first|refine R6 ?_|refine A6 ?_);cbv;try simp only[ArKa5])
     refine LoopR (σ:=(List Int) × Int) ho119 [1,3,4,5] [1] (fun a=>[(3,.sl .own 1 (rows intR a.1)),(5,.i .i64 a.2)]) (fun a=>[]) (by first|rfl|(simp only[Z0];rfl)) fun _ s131 xs131 hs131 bs131 es131=>?_
     obtain⟨s131_0,s131_1⟩:=s131
     try dsimp only at hs131
     cbv;try simp only[ArKa5]
     repeat((first|refine R6 ?_|refine A6 ?_);cbv;try simp only[ArKa5])
     obtain⟨y132,hy132,hs131⟩:=bnd_out hs131
     refine ⟨gt_in hy132,?_⟩
     repeat((first|refine R6 ?_|refine A6 ?_);cbv;try simp only[ArKa5])
     refine ⟨_,gt_at _ hy132,?_⟩
     cbv;try simp only[ArKa5]
     repeat((first|refine R6 ?_|refine A6 ?_);cbv;try simp only[ArKa5])
     split
     ·rename_i q137;simp only [q137,cond_true] at hs131 ⊢
      cbv;try simp only[ArKa5]
      repeat((first|refine R6 ?_|refine A6 ?_);cbv;try simp only[ArKa5])
      refine ⟨gt_in hy132,?_⟩
      repeat((first|refine R6 ?_|refine A6 ?_);cbv;try simp only[ArKa5])
      refine ⟨_,gt_at _ hy132,?_⟩
      cbv;try simp only[ArKa5]
      repeat((first|refine R6 ?_|refine A6 ?_);cbv;try simp only[ArKa5])
      obtain⟨y133,hy133,hs131⟩:=bnd_out hs131
      refine ⟨gt_in hy133,?_⟩
      repeat((first|refine R6 ?_|refine A6 ?_);cbv;try simp only[ArKa5])
      refine ⟨_,gt_at _ hy133,?_⟩
      cbv;try simp only[ArKa5]
      repeat((first|refine R6 ?_|refine A6 ?_);cbv;try simp only[ArKa5])
      obtain⟨r134,hr134,hs131⟩:=bnd_out hs131
      refine CallK.introE rfl rfl (r_sl1In hr134) ?_
      clear hr134
      cbv;try simp only[ArKa5]
      repeat((first|refine R6 ?_|refine A6 ?_);cbv;try simp only[ArKa5])
      cases r134
      ·simp only [cond_false] at hs131
       cbv;try simp only[ArKa5]
       repeat((first|refine R6 ?_|refine A6 ?_);cbv;try simp only[ArKa5])
       obtain⟨y136,hy136,hs131⟩:=bnd_out hs131
       refine ⟨gt_in hy136,?_⟩
       repeat((first|refine R6 ?_|refine A6 ?_);cbv;try simp only[ArKa5])
       refine ⟨_,gt_at _ hy136,?_⟩
       cbv;try simp only[ArKa5]
       repeat((first|refine R6 ?_|refine A6 ?_);cbv;try simp only[ArKa5])
       refine ⟨gt_in hy136,?_⟩
       repeat((first|refine R6 ?_|refine A6 ?_);cbv;try simp only[ArKa5])
       refine ⟨_,gt_at _ hy136,?_⟩
       cbv;try simp only[ArKa5]
       repeat((first|refine R6 ?_|refine A6 ?_);cbv;try simp only[ArKa5])
       obtain rfl:=SI hs131
       refine ⟨_,bs131 _ rfl,?_⟩;first|rfl|(simp only[Z0];rfl)
      ·simp only [cond_true] at hs131
       cbv;try simp only[ArKa5]
       repeat((first|refine R6 ?_|refine A6 ?_);cbv;try simp only[ArKa5])
       obtain⟨y135,hy135,hs131⟩:=bnd_out hs131
       refine ⟨gt_in hy135,?_⟩
       repeat((first|refine R6 ?_|refine A6 ?_);cbv;try simp only[ArKa5])
       refine ⟨_,gt_at _ hy135,?_⟩
       cbv;try simp only[ArKa5]
       repeat((first|refine R6 ?_|refine A6 ?_);cbv;try simp only[ArKa5])
       refine ⟨gt_in hy135,?_⟩
       repeat((first|refine R6 ?_|refine A6 ?_);cbv;try simp only[ArKa5])
       refine ⟨_,gt_at _ hy135,?_⟩
       cbv;try simp only[ArKa5]
       repeat((first|refine R6 ?_|refine A6 ?_);cbv;try simp only[ArKa5])
       obtain rfl:=SI hs131
       refine ⟨_,bs131 _ rfl,?_⟩;first|rfl|(simp only[Z0];rfl)
     ·rename_i q137;simp only [q137,cond_false] at hs131 ⊢
      cbv;try simp only[ArKa5]
      repeat((first|refine R6 ?_|refine A6 ?_);cbv;try simp only[ArKa5])
      obtain rfl:=SI hs131
      replace ho119:=congrArg some (es131 _ rfl)
      obtain rfl:=SI ho119
      refine ⟨_,rfl,?_⟩;first|rfl|(simp only[Z0];rfl)
    ·rintro a120 rfl
     clear ho119
     cbv;try simp only[ArKa5]
     repeat((first|refine R6 ?_|refine A6 ?_);cbv;try simp only[ArKa5])
     obtain rfl:=SI hs102
     refine ⟨_,bs102 _ rfl,?_⟩;first|rfl|(simp only[Z0];rfl)
   ·rename_i q138;simp only [q138,cond_false] at hs102 ⊢
    cbv;try simp only[ArKa5]
    repeat((first|refine R6 ?_|refine A6 ?_);cbv;try simp only[ArKa5])
    obtain rfl:=SI hs102
    replace ho64:=congrArg some (es102 _ rfl)
    obtain rfl:=SI ho64
    refine ⟨_,rfl,?_⟩;first|rfl|(simp only[Z0];rfl)
  ·rintro a65 rfl
   clear ho64
   cbv;try simp only[ArKa5]
   repeat((first|refine R6 ?_|refine A6 ?_);cbv;try simp only[ArKa5])
   obtain rfl:=SI h
   (try simp only [Z0]);exact LeV.to rfl (LeF.rfl' _)
theorem r_sl1Min{a0:Int}{a1:Int}{r:Int}(h:sl1Min a0 a1=some r):Ret pg 173 true [.i .i64 a0,.i .i64 a1] [] (.i .i64 r):=by
  unfold sl1Min at h
  refine retD 1000 1000 [] .o Tryz.func173 rfl (by decide +kernel) (by decide +kernel) rfl trivial ?_
  cbv;try simp only[ArKa1]
  split
  ·rename_i q1;simp only [q1,cond_true] at h ⊢
   cbv;try simp only[ArKa1]
   obtain rfl:=SI h
   (try simp only [Z0]);exact LeV.to rfl (LeF.rfl' _)
  ·rename_i q1;simp only [q1,cond_false] at h ⊢
   cbv;try simp only[ArKa1]
   obtain rfl:=SI h
   (try simp only [Z0]);exact LeV.to rfl (LeF.rfl' _)
theorem r_sl6Long{a0:Int}{a1:Int}{r:Int}(h:sl6Long a0 a1=some r):Ret pg 142 true [.i .i64 a0,.i .i64 a1] [] (.i .i64 r):=by
  unfold sl6Long at h
  refine retD 1000 1000 [] .o Tryz.func142 rfl (by decide +kernel) (by decide +kernel) rfl trivial ?_
  cbv;try simp only[ArKa1]
  obtain⟨r2,hr2,h⟩:=bnd_out h
  refine CallK.introE rfl rfl (r_sl1Min hr2) ?_
  clear hr2
  cbv;try simp only[ArKa1]
  obtain rfl:=SI h
  (try simp only [Z0]);exact LeV.to rfl (LeF.rfl' _)
theorem r_sShapeOk{a0:FsD}{r:Bool}(h:sShapeOk a0=some r):Ret pg 102 true [.ag (fsC a0)] [] (.b r):=by
  unfold sShapeOk at h
  refine retD 8 3 [(23,[⟨true,[],[107]⟩,⟨false,[109,110,111,112,113,117,118,119,120],[108]⟩,⟨false,[108],[109]⟩,⟨false,[108,111,117,118,119,120],[110]⟩,⟨false,[108,110],[111]⟩,⟨false,[108,117,118,119,120],[112]⟩,⟨false,[108,117,118,119,120],[113]⟩,⟨false,[117,118,119,120],[114]⟩,⟨false,[117,118,119,120],[115]⟩,⟨false,[117,118,119,120],[116]⟩,⟨false,[108,110,112,113,114,115,116],[117]⟩,⟨false,[108,110,112,113,114,115,116,119],[118]⟩,⟨false,[108,110,112,113,114,115,116,118],[119]⟩,⟨false,[108,110,112,113,114,115,116],[120]⟩,⟨true,[],[121]⟩])] (.s .o (.s .o (.k .o (.s .o (.s .o (.k .o (.k (.s .o (.s (.s (.s .o (.k .o .o)) .o) .o)) .o))))))) Tryz.func102 rfl (by decide +kernel) (by decide +kernel) rfl trivial ?_
  cbv;try simp only[ArKa5]
  repeat((first|refine R6 ?_|refine A6 ?_);cbv;try simp only[ArKa5])
  obtain⟨r7,hr7,h⟩:=bnd_out h
  refine CallK.introE rfl rfl (r_sl1In hr7) ?_
  clear hr7
  cbv;try simp only[ArKa5]
  repeat((first|refine R6 ?_|refine A6 ?_);cbv;try simp only[ArKa5])
  cases r7
  ·simp only [cond_false] at h
   cbv;try simp only[ArKa5]
   repeat((first|refine R6 ?_|refine A6 ?_);cbv;try simp only[ArKa5])
   obtain rfl:=SI h
   (try simp only [Z0]);exact LeV.to rfl (LeF.rfl' _)
  ·simp only [cond_true] at h
   cbv;try simp only[ArKa5]
   repeat((first|refine R6 ?_|refine A6 ?_);cbv;try simp only[ArKa5])
   obtain⟨r8,hr8,h⟩:=bnd_out h
   refine CallK.introE rfl rfl (r_sl1In hr8) ?_
   clear hr8
   cbv;try simp only[ArKa5]
   repeat((first|refine R6 ?_|refine A6 ?_);cbv;try simp only[ArKa5])
   cases r8
   ·simp only [cond_false] at h
    cbv;try simp only[ArKa5]
    repeat((first|refine R6 ?_|refine A6 ?_);cbv;try simp only[ArKa5])
    obtain rfl:=SI h
    (try simp only [Z0]);exact LeV.to rfl (LeF.rfl' _)
   ·simp only [cond_true] at h
    cbv;try simp only[ArKa5]
    repeat((first|refine R6 ?_|refine A6 ?_);cbv;try simp only[ArKa5])
    obtain⟨y9,hy9,h⟩:=bnd_out h
    refine ⟨gt_in hy9,?_⟩
    repeat((first|refine R6 ?_|refine A6 ?_);cbv;try simp only[ArKa5])
    refine ⟨_,gt_at _ hy9,?_⟩
    cbv;try simp only[ArKa5]
    repeat((first|refine R6 ?_|refine A6 ?_);cbv;try simp only[ArKa5])
    split
    ·rename_i q167;simp only [q167,cond_true] at h ⊢
     cbv;try simp only[ArKa5]
     repeat((first|refine R6 ?_|refine A6 ?_);cbv;try simp only[ArKa5])
     obtain rfl:=SI h
     (try simp only [Z0]);exact LeV.to rfl (LeF.rfl' _)
    ·rename_i q167;simp only [q167,cond_false] at h ⊢
     cbv;try simp only[ArKa5]
     repeat((first|refine R6 ?_|refine A6 ?_);cbv;try simp only[ArKa5])
     obtain⟨o18,ho18,h⟩:=bnd_out h
     refine CutK.intro (α:=Unit) [1] [1] (fun a=>[]) (fun a=>[]) (fun a=>(Sum.inl a:_ ⊕ _)=o18) ?_ ?_
     ·cbv;try simp only[ArKa5]
      repeat((first|refine R6 ?_|refine A6 ?_);cbv;try simp only[ArKa5])
      refine LoopR (σ:=Int) ho18 [1,3] [1] (fun a=>[(3,.i .i64 a)]) (fun a=>[]) (by first|rfl|(simp only[Z0];rfl)) fun _ s163 xs163 hs163 bs163 es163=>?_
      cbv;try simp only[ArKa5]
      repeat((first|refine R6 ?_|refine A6 ?_);cbv;try simp only[ArKa5])
      split
      ·rename_i q166;simp only [q166,cond_true] at hs163 ⊢
       cbv;try simp only[ArKa5]
       repeat((first|refine R6 ?_|refine A6 ?_);cbv;try simp only[ArKa5])
       obtain⟨y164,hy164,hs163⟩:=bnd_out hs163
       refine ⟨gt_in hy164,?_⟩
       repeat((first|refine R6 ?_|refine A6 ?_);cbv;try simp only[ArKa5])
       refine ⟨_,gt_at _ hy164,?_⟩
       cbv;try simp only[ArKa5]
       repeat((first|refine R6 ?_|refine A6 ?_);cbv;try simp only[ArKa5])
       obtain⟨r165,hr165,hs163⟩:=bnd_out hs163
       refine CallK.introE rfl rfl (r_sNodeOk hr165) ?_
       clear hr165
       cbv;try simp only[ArKa5]
       repeat((first|refine R6 ?_|refine A6 ?_);cbv;try simp only[ArKa5])
       cases r165
       ·simp only [cond_false] at hs163
        cbv;try simp only[ArKa5]
        repeat((first|refine R6 ?_|refine A6 ?_);cbv;try simp only[ArKa5])
        obtain rfl:=SI hs163
        replace ho18:=congrArg some (es163 _ rfl)
        obtain rfl:=SI ho18
        simp only [Sum.elim_inr] at h
        obtain rfl:=SI h
        (try simp only [Z0]);exact LeV.to rfl (LeF.rfl' _)
       ·simp only [cond_true] at hs163
        cbv;try simp only[ArKa5]
        repeat((first|refine R6 ?_|refine A6 ?_);cbv;try simp only[ArKa5])
        obtain rfl:=SI hs163
        refine ⟨_,bs163 _ rfl,?_⟩;first|rfl|(simp only[Z0];rfl)
      ·rename_i q166;simp only [q166,cond_false] at hs163 ⊢
       cbv;try simp only[ArKa5]
       repeat((first|refine R6 ?_|refine A6 ?_);cbv;try simp only[ArKa5])
       obtain rfl:=SI hs163
       replace ho18:=congrArg some (es163 _ rfl)
       obtain rfl:=SI ho18
       refine ⟨_,rfl,?_⟩;first|rfl|(simp only[Z0];rfl)
     ·rintro a19 rfl
      clear ho18
      simp only [Sum.elim_inl] at h
      cbv;try simp only[ArKa5]
      repeat((first|refine R6 ?_|refine A6 ?_);cbv;try simp only[ArKa5])
      obtain⟨r21,hr21,h⟩:=bnd_out h
      refine CallK.introE rfl rfl (r_sl6Used hr21) ?_
      clear hr21
      cbv;try simp only[ArKa5]
      repeat((first|refine R6 ?_|refine A6 ?_);cbv;try simp only[ArKa5])
      obtain⟨y24,hy24,h⟩:=bnd_out h
      refine ⟨gt_in hy24,?_⟩
      repeat((first|refine R6 ?_|refine A6 ?_);cbv;try simp only[ArKa5])
      refine ⟨_,gt_at _ hy24,?_⟩
      cbv;try simp only[ArKa5]
      repeat((first|refine R6 ?_|refine A6 ?_);cbv;try simp only[ArKa5])
      split
      ·rename_i q159;simp only [q159,cond_true] at h ⊢
       cbv;try simp only[ArKa5]
       repeat((first|refine R6 ?_|refine A6 ?_);cbv;try simp only[ArKa5])
       obtain rfl:=SI h
       (try simp only [Z0]);exact LeV.to rfl (LeF.rfl' _)
      ·rename_i q159;simp only [q159,cond_false] at h ⊢
       cbv;try simp only[ArKa5]
       repeat((first|refine R6 ?_|refine A6 ?_);cbv;try simp only[ArKa5])
       obtain⟨o41,ho41,h⟩:=bnd_out h
       refine CutK.intro (α:=Unit) [1] [1] (fun a=>[]) (fun a=>[]) (fun a=>(Sum.inl a:_ ⊕ _)=o41) ?_ ?_
       ·cbv;try simp only[ArKa5]
        repeat((first|refine R6 ?_|refine A6 ?_);cbv;try simp only[ArKa5])
        refine LoopR (σ:=Int) ho41 [1,4,5] [1] (fun a=>[(5,.i .i64 a)]) (fun a=>[]) (by first|rfl|(simp only[Z0];rfl)) fun _ s149 xs149 hs149 bs149 es149=>?_
        cbv;try simp only[ArKa5]
        repeat((first|refine R6 ?_|refine A6 ?_);cbv;try simp only[ArKa5])
        split
        ·rename_i q158;simp only [q158,cond_true] at hs149 ⊢
         cbv;try simp only[ArKa5]
         repeat((first|refine R6 ?_|refine A6 ?_);cbv;try simp only[ArKa5])
         obtain⟨y150,hy150,hs149⟩:=bnd_out hs149
         refine ⟨gt_in hy150,?_⟩
         repeat((first|refine R6 ?_|refine A6 ?_);cbv;try simp only[ArKa5])
         refine ⟨_,gt_at _ hy150,?_⟩
         cbv;try simp only[ArKa5]
         repeat((first|refine R6 ?_|refine A6 ?_);cbv;try simp only[ArKa5])
         split
         ·rename_i q157;simp only [q157,cond_true] at hs149 ⊢
          cbv;try simp only[ArKa5]
          repeat((first|refine R6 ?_|refine A6 ?_);cbv;try simp only[ArKa5])
          obtain rfl:=SI hs149
          replace ho41:=congrArg some (es149 _ rfl)
          obtain rfl:=SI ho41
          simp only [Sum.elim_inr] at h
          obtain rfl:=SI h
          (try simp only [Z0]);exact LeV.to rfl (LeF.rfl' _)
         ·rename_i q157;simp only [q157,cond_false] at hs149 ⊢
          cbv;try simp only[ArKa5]
          repeat((first|refine R6 ?_|refine A6 ?_);cbv;try simp only[ArKa5])
          refine ⟨gt_in hy150,?_⟩
          repeat((first|refine R6 ?_|refine A6 ?_);cbv;try simp only[ArKa5])
          refine ⟨_,gt_at _ hy150,?_⟩
          cbv;try simp only[ArKa5]
          repeat((first|refine R6 ?_|refine A6 ?_);cbv;try simp only[ArKa5])
          split
          ·rename_i q156;simp only [q156,cond_true] at hs149 ⊢
           cbv;try simp only[ArKa5]
           repeat((first|refine R6 ?_|refine A6 ?_);cbv;try simp only[ArKa5])
           obtain⟨y151,hy151,hs149⟩:=bnd_out hs149
           refine ⟨gt_in hy151,?_⟩
           repeat((first|refine R6 ?_|refine A6 ?_);cbv;try simp only[ArKa5])
           refine ⟨_,gt_at _ hy151,?_⟩
           cbv;try simp only[ArKa5]
           repeat((first|refine R6 ?_|refine A6 ?_);cbv;try simp only[ArKa5])
           split
           ·rename_i q153;simp only [q153,cond_true] at hs149 ⊢
            cbv;try simp only[ArKa5]
            repeat((first|refine R6 ?_|refine A6 ?_);cbv;try simp only[ArKa5])
            obtain rfl:=SI hs149
            replace ho41:=congrArg some (es149 _ rfl)
            obtain rfl:=SI ho41
            simp only [Sum.elim_inr] at h
            obtain rfl:=SI h
            (try simp only [Z0]);exact LeV.to rfl (LeF.rfl' _)
           ·rename_i q153;simp only [q153,cond_false] at hs149 ⊢
            cbv;try simp only[ArKa5]
            repeat((first|refine R6 ?_|refine A6 ?_);cbv;try simp only[ArKa5])
            refine ⟨gt_in hy151,?_⟩
            repeat((first|refine R6 ?_|refine A6 ?_);cbv;try simp only[ArKa5])
            refine ⟨_,gt_at _ hy151,?_⟩
            cbv;try simp only[ArKa5]
            repeat((first|refine R6 ?_|refine A6 ?_);cbv;try simp only[ArKa5])
            split
            ·rename_i q152;simp only [q152,cond_true] at hs149 ⊢
             cbv;try simp only[ArKa5]
             repeat((first|refine R6 ?_|refine A6 ?_);cbv;try simp only[ArKa5])
             obtain rfl:=SI hs149
             replace ho41:=congrArg some (es149 _ rfl)
             obtain rfl:=SI ho41
             simp only [Sum.elim_inr] at h
             obtain rfl:=SI h
             (try simp only [Z0]);exact LeV.to rfl (LeF.rfl' _)
            ·rename_i q152;simp only [q152,cond_false] at hs149 ⊢
             cbv;try simp only[ArKa5]
             repeat((first|refine R6 ?_|refine A6 ?_);cbv;try simp only[ArKa5])
             obtain rfl:=SI hs149
             refine ⟨_,bs149 _ rfl,?_⟩;first|rfl|(simp only[Z0];rfl)
          ·rename_i q156;simp only [q156,cond_false] at hs149 ⊢
           cbv;try simp only[ArKa5]
           repeat((first|refine R6 ?_|refine A6 ?_);cbv;try simp only[ArKa5])
           obtain⟨y154,hy154,hs149⟩:=bnd_out hs149
           refine ⟨gt_in hy154,?_⟩
           repeat((first|refine R6 ?_|refine A6 ?_);cbv;try simp only[ArKa5])
           refine ⟨_,gt_at _ hy154,?_⟩
           cbv;try simp only[ArKa5]
           repeat((first|refine R6 ?_|refine A6 ?_);cbv;try simp only[ArKa5])
           split
           ·rename_i q155;simp only [q155,cond_true] at hs149 ⊢
            cbv;try simp only[ArKa5]
            repeat((first|refine R6 ?_|refine A6 ?_);cbv;try simp only[ArKa5])
            obtain rfl:=SI hs149
            replace ho41:=congrArg some (es149 _ rfl)
            obtain rfl:=SI ho41
            simp only [Sum.elim_inr] at h
            obtain rfl:=SI h
            (try simp only [Z0]);exact LeV.to rfl (LeF.rfl' _)
           ·rename_i q155;simp only [q155,cond_false] at hs149 ⊢
            cbv;try simp only[ArKa5]
            repeat((first|refine R6 ?_|refine A6 ?_);cbv;try simp only[ArKa5])
            obtain rfl:=SI hs149
            refine ⟨_,bs149 _ rfl,?_⟩;first|rfl|(simp only[Z0];rfl)
        ·rename_i q158;simp only [q158,cond_false] at hs149 ⊢
         cbv;try simp only[ArKa5]
         repeat((first|refine R6 ?_|refine A6 ?_);cbv;try simp only[ArKa5])
         obtain rfl:=SI hs149
         replace ho41:=congrArg some (es149 _ rfl)
         obtain rfl:=SI ho41
         refine ⟨_,rfl,?_⟩;first|rfl|(simp only[Z0];rfl)
       ·rintro a42 rfl
        clear ho41
        simp only [Sum.elim_inl] at h
        cbv;try simp only[ArKa5]
        repeat((first|refine R6 ?_|refine A6 ?_);cbv;try simp only[ArKa5])
        obtain⟨o88,ho88,h⟩:=bnd_out h
        refine CutK.intro (α:=Unit) [] [] (fun a=>[]) (fun a=>[]) (fun a=>(Sum.inl a:_ ⊕ _)=o88) ?_ ?_
        ·cbv;try simp only[ArKa5]
         repeat((first|refine R6 ?_|refine A6 ?_);cbv;try simp only[ArKa5])
         refine LoopR (σ:=Int) ho88 [1,6] [1] (fun a=>[(6,.i .i64 a)]) (fun a=>[]) (by first|rfl|(simp only[Z0];rfl)) fun _ s115 xs115 hs115 bs115 es115=>?_
         cbv;try simp only[ArKa5]
         repeat((first|refine R6 ?_|refine A6 ?_);cbv;try simp only[ArKa5])
         split
         ·rename_i q142;simp only [q142,cond_true] at hs115 ⊢
          cbv;try simp only[ArKa5]
          repeat((first|refine R6 ?_|refine A6 ?_);cbv;try simp only[ArKa5])
          obtain⟨o127,ho127,hs115⟩:=bnd_out hs115
          refine CutK.intro (α:=Unit) [1,6] [1] (fun a=>[]) (fun a=>[]) (fun a=>(Sum.inl a:_ ⊕ _)=o127) ?_ ?_
          ·cbv;try simp only[ArKa5]
           repeat((first|refine R6 ?_|refine A6 ?_);cbv;try simp only[ArKa5])
           obtain⟨y129,hy129,ho127⟩:=bnd_out ho127
           refine ⟨gt_in hy129,?_⟩
           repeat((first|refine R6 ?_|refine A6 ?_);cbv;try simp only[ArKa5])
           refine ⟨_,gt_at _ hy129,?_⟩
           cbv;try simp only[ArKa5]
           repeat((first|refine R6 ?_|refine A6 ?_);cbv;try simp only[ArKa5])
           refine LoopR (σ:=Int) ho127 [1,6,7,8] [1,7] (fun a=>[(8,.i .i64 a)]) (fun a=>[]) (by first|rfl|(simp only[Z0];rfl)) fun _ s136 xs136 hs136 bs136 es136=>?_
           cbv;try simp only[ArKa5]
           repeat((first|refine R6 ?_|refine A6 ?_);cbv;try simp only[ArKa5])
           split
           ·rename_i q141;simp only [q141,cond_true] at hs136 ⊢
            cbv;try simp only[ArKa5]
            repeat((first|refine R6 ?_|refine A6 ?_);cbv;try simp only[ArKa5])
            obtain⟨y137,hy137,hs136⟩:=bnd_out hs136
            refine ⟨gt_in hy137,?_⟩
            repeat((first|refine R6 ?_|refine A6 ?_);cbv;try simp only[ArKa5])
            refine ⟨_,gt_at _ hy137,?_⟩
            cbv;try simp only[ArKa5]
            repeat((first|refine R6 ?_|refine A6 ?_);cbv;try simp only[ArKa5])
            obtain⟨y138,hy138,hs136⟩:=bnd_out hs136
            refine ⟨gt_in hy138,?_⟩
            repeat((first|refine R6 ?_|refine A6 ?_);cbv;try simp only[ArKa5])
            refine ⟨_,gt_at _ hy138,?_⟩
            cbv;try simp only[ArKa5]
            repeat((first|refine R6 ?_|refine A6 ?_);cbv;try simp only[ArKa5])
            obtain⟨r139,hr139,hs136⟩:=bnd_out hs136
            refine CallK.introE rfl rfl (r_sl6Long hr139) ?_
            clear hr139
            cbv;try simp only[ArKa5]
            repeat((first|refine R6 ?_|refine A6 ?_);cbv;try simp only[ArKa5])
            split
            ·rename_i q140;simp only [q140,cond_true] at hs136 ⊢
             cbv;try simp only[ArKa5]
             repeat((first|refine R6 ?_|refine A6 ?_);cbv;try simp only[ArKa5])
             obtain rfl:=SI hs136
             replace ho127:=congrArg some (es136 _ rfl)
             obtain rfl:=SI ho127
             simp only [Sum.elim_inr] at hs115
             obtain rfl:=SI hs115
             replace ho88:=congrArg some (es115 _ rfl)
             obtain rfl:=SI ho88
             simp only [Sum.elim_inr] at h
             obtain rfl:=SI h
             (try simp only [Z0]);exact LeV.to rfl (LeF.rfl' _)
            ·rename_i q140;simp only [q140,cond_false] at hs136 ⊢
             cbv;try simp only[ArKa5]
             repeat((first|refine R6 ?_|refine A6 ?_);cbv;try simp only[ArKa5])
             obtain rfl:=SI hs136
             refine ⟨_,bs136 _ rfl,?_⟩;first|rfl|(simp only[Z0];rfl)
           ·rename_i q141;simp only [q141,cond_false] at hs136 ⊢
            cbv;try simp only[ArKa5]
            repeat((first|refine R6 ?_|refine A6 ?_);cbv;try simp only[ArKa5])
            obtain rfl:=SI hs136
            replace ho127:=congrArg some (es136 _ rfl)
            obtain rfl:=SI ho127
            refine ⟨_,rfl,?_⟩;first|rfl|(simp only[Z0];rfl)
          ·rintro a128 rfl
           clear ho127
           simp only [Sum.elim_inl] at hs115
           cbv;try simp only[ArKa5]
           repeat((first|refine R6 ?_|refine A6 ?_);cbv;try simp only[ArKa5])
           obtain rfl:=SI hs115
           refine ⟨_,bs115 _ rfl,?_⟩;first|rfl|(simp only[Z0];rfl)
         ·rename_i q142;simp only [q142,cond_false] at hs115 ⊢
          cbv;try simp only[ArKa5]
          repeat((first|refine R6 ?_|refine A6 ?_);cbv;try simp only[ArKa5])
          obtain rfl:=SI hs115
          replace ho88:=congrArg some (es115 _ rfl)
          obtain rfl:=SI ho88
          refine ⟨_,rfl,?_⟩;first|rfl|(simp only[Z0];rfl)
        ·rintro a89 rfl
         clear ho88
         simp only [Sum.elim_inl] at h
         cbv;try simp only[ArKa5]
         repeat((first|refine R6 ?_|refine A6 ?_);cbv;try simp only[ArKa5])
         obtain rfl:=SI h
         (try simp only [Z0]);exact LeV.to rfl (LeF.rfl' _)
end Go.Ar
