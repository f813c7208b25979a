import Derived.Test.YthbgpgfloghnoaaGreatArKD
import Derived.Test.YthbgpgfloghnoaaGreatArDcN
import Derived.Test.YthbgpgfloghnoaaGreatArKa
namespace Go.Ar
open Go.Proofs
set_option linter.unusedVariables false
set_option linter.unusedSimpArgs false
set_option maxRecDepth 20000
set_option maxHeartbeats 40000000
theorem ArKc1:type_of% (And.intro @F (And.intro @F2 (And.intro @N0 (And.intro @N_Int (And.intro @N_Node @N_String))))):=⟨@F,@F2,@N0,@N_Int,@N_Node,@N_String⟩
theorem ArKc2:type_of% (And.intro @F (And.intro @F2 (And.intro @N0 @N_Byte))):=⟨@F,@F2,@N0,@N_Byte⟩
theorem ArKc3:type_of% (And.intro @F (And.intro @F2 @N0)):=⟨@F,@F2,@N0⟩
theorem ArKc4:type_of% (And.intro @F (And.intro @F2 (And.intro @N0 @N_Entry))):=⟨@F,@F2,@N0,@N_Entry⟩
theorem ArKc5:type_of% (And.intro @F (And.intro @F2 (And.intro @N0 (And.intro @N_Byte @N_Entry)))):=⟨@F,@F2,@N0,@N_Byte,@N_Entry⟩
theorem ArKc6:type_of% (And.intro @F (And.intro @F2 (And.intro @N0 (And.intro @N_Entry (And.intro @N_Node @N_String))))):=⟨@F,@F2,@N0,@N_Entry,@N_Node,@N_String⟩
theorem ArKc7:type_of% (And.intro @F (And.intro @F2 (And.intro @N0 (And.intro @N_Entry (And.intro @N_Int (And.intro @N_Node @N_String)))))):=⟨@F,@F2,@N0,@N_Entry,@N_Int,@N_Node,@N_String⟩
theorem r_icontent{a0:FsD}{a1:Int}{r:(List UInt8)}(h:icontent a0 a1=some r):Ret pg 82 true [.ag (fsC a0),.i .i64 a1] [] (.s r):=by
  unfold icontent at h
  refine retD 1000 1000 [] (.s .o (.s .o (.k .o .o))) Tryz.func82 rfl (by decide +kernel) (by decide +kernel) rfl trivial ?_
  cbv;try simp only[ArKc1]
  obtain⟨o13,ho13,h⟩:=bnd_out h
  refine CutK.intro (α:=(List UInt8)) [5] [] (fun a=>[(5,.s a)]) (fun a=>[]) (fun a=>a=o13) ?_ ?_
  ·cbv;try simp only[ArKc1]
   obtain⟨y15,hy15,ho13⟩:=bnd_out ho13
   refine ⟨gt_in hy15,?_⟩
   refine ⟨_,gt_at _ hy15,?_⟩
   cbv;try simp only[ArKc1]
   refine LoopR (σ:=(List UInt8) × Int) ho13 [2,5,13,14,15] [2] (fun a=>[(5,.s a.1),(15,.i .i64 a.2)]) (fun a=>[]) (by first|rfl|(simp only[Z0];rfl)) fun _ s20 xs20 hs20 bs20 es20=>?_
   obtain⟨s20_0,s20_1⟩:=s20
   try dsimp only at hs20
   cbv;try simp only[ArKc1]
   split
   ·rename_i q24;simp only [q24,cond_true] at hs20 ⊢
    cbv;try simp only[ArKc1]
    obtain⟨y21,hy21,hs20⟩:=bnd_out hs20
    refine ⟨gt_in hy21,?_⟩
    refine ⟨_,gt_at _ hy21,?_⟩
    cbv;try simp only[ArKc1]
    obtain⟨y22,hy22,hs20⟩:=bnd_out hs20
    refine ⟨gt_in hy22,?_⟩
    refine ⟨_,gt_at _ hy22,?_⟩
    cbv;try simp only[ArKc1]
    obtain⟨c23,hs20⟩:=ck_out hs20
    refine ⟨c23,?_⟩
    obtain rfl:=SI hs20
    refine ⟨_,bs20 _ rfl,?_⟩;first|rfl|(simp only[Z0];rfl)
   ·rename_i q24;simp only [q24,cond_false] at hs20 ⊢
    cbv;try simp only[ArKc1]
    obtain rfl:=SI hs20
    replace ho13:=congrArg some (es20 _ rfl)
    obtain rfl:=SI ho13
    refine ⟨_,rfl,?_⟩;first|rfl|(simp only[Z0];rfl)
  ·rintro a14 rfl
   clear ho13
   cbv;try simp only[ArKc1]
   obtain rfl:=SI h
   (try simp only [Z0]);exact LeV.to rfl (LeF.rfl' _)
theorem r_iGetNum{a0:List UInt8}{a1:Int}{r:Int × Int × Bool}(h:iGetNum a0 a1=some r):Ret pg 183 true [.sl .shr 1 (bys a0),.i .i64 a1] [] (.tu [.i .i64 r.1,.i .i64 r.2.1,.b r.2.2]):=by
  unfold iGetNum at h
  refine retD 1000 1000 [] (.s .o (.s .o (.s .o (.k (.s .o (.s (.s (.s .o (.s (.s (.s .o (.s .o (.s .o (.k .o .o)))) .o) .o)) .o) .o)) .o)))) Tryz.func183 rfl (by decide +kernel) (by decide +kernel) rfl ⟨trivial,trivial,trivial,trivial⟩ ?_
  cbv;try simp only[ArKc2]
  obtain⟨r3,hr3,h⟩:=bnd_out h
  refine CallK.introE rfl rfl (r_iwithin hr3) ?_
  clear hr3
  cbv;try simp only[ArKc2]
  cases r3
  ·simp only [cond_false] at h
   cbv;try simp only[ArKc2]
   obtain rfl:=SI h
   (try simp only [Z0]);exact LeV.to rfl (LeF.rfl' _)
  ·simp only [cond_true] at h
   cbv;try simp only[ArKc2]
   obtain⟨o18,ho18,h⟩:=bnd_out h
   refine CutK.intro (α:=Unit) [] [] (fun a=>[]) (fun a=>[]) (fun a=>(Sum.inl a:_ ⊕ _)=o18) ?_ ?_
   ·cbv;try simp only[ArKc2]
    refine LoopR (σ:=Int × Int) ho18 [0,1,7,8] [] (fun a=>[(7,.i .i64 a.1),(8,.i .i64 a.2)]) (fun a=>[]) (by first|rfl|(simp only[Z0];rfl)) fun _ s26 xs26 hs26 bs26 es26=>?_
    obtain⟨s26_0,s26_1⟩:=s26
    try dsimp only at hs26
    cbv;try simp only[ArKc2]
    split
    ·rename_i q37;simp only [q37,cond_true] at hs26 ⊢
     cbv;try simp only[ArKc2]
     split
     ·rename_i q36;simp only [q36,cond_true] at hs26 ⊢
      cbv;try simp only[ArKc2]
      obtain⟨y27,hy27,hs26⟩:=bnd_out hs26
      refine ⟨gt_in hy27,?_⟩
      refine ⟨_,gt_ab hy27,?_⟩
      cbv;try simp only[ArKc2]
      obtain⟨c35,hs26⟩:=ck_out hs26
      refine ⟨c35,?_⟩
      split
      ·rename_i q34;simp only [q34,cond_true] at hs26 ⊢
       cbv;try simp only[ArKc2]
       obtain rfl:=SI hs26
       refine ⟨_,bs26 _ rfl,?_⟩;first|rfl|(simp only[Z0];rfl)
      ·rename_i q34;simp only [q34,cond_false] at hs26 ⊢
       cbv;try simp only[ArKc2]
       obtain⟨o28,ho28,hs26⟩:=bnd_out hs26
       refine CutK.intro (α:=Unit) [1,7,8] [] (fun a=>[]) (fun a=>[]) (fun a=>(Sum.inl a:_ ⊕ _)=o28) ?_ ?_
       ·cbv;try simp only[ArKc2]
        split
        ·rename_i q33;simp only [q33,cond_true] at ho28 ⊢
         cbv;try simp only[ArKc2]
         split
         ·rename_i q31;simp only [q31,cond_true] at ho28 ⊢
          cbv;try simp only[ArKc2]
          obtain rfl:=SI ho28
          simp only [Sum.elim_inr] at hs26
          obtain rfl:=SI hs26
          replace ho18:=congrArg some (es26 _ rfl)
          obtain rfl:=SI ho18
          simp only [Sum.elim_inr] at h
          obtain rfl:=SI h
          (try simp only [Z0]);exact LeV.to rfl (LeF.rfl' _)
         ·rename_i q31;simp only [q31,cond_false] at ho28 ⊢
          cbv;try simp only[ArKc2]
          split
          ·rename_i q30;simp only [q30,cond_true] at ho28 ⊢
           cbv;try simp only[ArKc2]
           obtain rfl:=SI ho28
           simp only [Sum.elim_inr] at hs26
           obtain rfl:=SI hs26
           replace ho18:=congrArg some (es26 _ rfl)
           obtain rfl:=SI ho18
           simp only [Sum.elim_inr] at h
           obtain rfl:=SI h
           (try simp only [Z0]);exact LeV.to rfl (LeF.rfl' _)
          ·rename_i q30;simp only [q30,cond_false] at ho28 ⊢
           cbv;try simp only[ArKc2]
           obtain rfl:=SI ho28
           refine ⟨_,rfl,?_⟩;first|rfl|(simp only[Z0];rfl)
        ·rename_i q33;simp only [q33,cond_false] at ho28 ⊢
         cbv;try simp only[ArKc2]
         split
         ·rename_i q32;simp only [q32,cond_true] at ho28 ⊢
          cbv;try simp only[ArKc2]
          obtain rfl:=SI ho28
          simp only [Sum.elim_inr] at hs26
          obtain rfl:=SI hs26
          replace ho18:=congrArg some (es26 _ rfl)
          obtain rfl:=SI ho18
          simp only [Sum.elim_inr] at h
          obtain rfl:=SI h
          (try simp only [Z0]);exact LeV.to rfl (LeF.rfl' _)
         ·rename_i q32;simp only [q32,cond_false] at ho28 ⊢
          cbv;try simp only[ArKc2]
          obtain rfl:=SI ho28
          refine ⟨_,rfl,?_⟩;first|rfl|(simp only[Z0];rfl)
       ·rintro a29 rfl
        clear ho28
        simp only [Sum.elim_inl] at hs26
        cbv;try simp only[ArKc2]
        obtain rfl:=SI hs26
        replace ho18:=congrArg some (es26 _ rfl)
        obtain rfl:=SI ho18
        simp only [Sum.elim_inr] at h
        obtain rfl:=SI h
        (try simp only [Z0]);exact LeV.to rfl (LeF.rfl' _)
     ·rename_i q36;simp only [q36,cond_false] at hs26 ⊢
      cbv;try simp only[ArKc2]
      obtain rfl:=SI hs26
      replace ho18:=congrArg some (es26 _ rfl)
      obtain rfl:=SI ho18
      refine ⟨_,rfl,?_⟩;first|rfl|(simp only[Z0];rfl)
    ·rename_i q37;simp only [q37,cond_false] at hs26 ⊢
     cbv;try simp only[ArKc2]
     obtain rfl:=SI hs26
     replace ho18:=congrArg some (es26 _ rfl)
     obtain rfl:=SI ho18
     refine ⟨_,rfl,?_⟩;first|rfl|(simp only[Z0];rfl)
   ·rintro a19 rfl
    clear ho18
    simp only [Sum.elim_inl] at h
    cbv;try simp only[ArKc2]
    obtain rfl:=SI h
    (try simp only [Z0]);exact LeV.to rfl (LeF.rfl' _)
theorem r_iGetText{a0:List UInt8}{a1:Int}{r:(List UInt8) × Int × Bool}(h:iGetText a0 a1=some r):Ret pg 182 true [.sl .shr 1 (bys a0),.i .i64 a1] [] (.tu [.s r.1,.i .i64 r.2.1,.b r.2.2]):=by
  unfold iGetText at h
  refine retD 8 3 [] .o Tryz.func182 rfl (by decide +kernel) (by decide +kernel) rfl ⟨trivial,trivial,trivial,trivial⟩ ?_
  cbv;try simp only[ArKc2]
  repeat((first|refine R6 ?_|refine A6 ?_);cbv;try simp only[ArKc2])
  obtain⟨r2,hr2,h⟩:=bnd_out h
  refine CallK.introE rfl rfl (r_iGetNum hr2) ?_
  obtain⟨r2_0,r2_1,r2_2⟩:=r2
  try dsimp only at h
  clear hr2
  cbv;try simp only[ArKc2]
  repeat((first|refine R6 ?_|refine A6 ?_);cbv;try simp only[ArKc2])
  cases r2_2
  ·simp only [cond_false] at h
   cbv;try simp only[ArKc2]
   repeat((first|refine R6 ?_|refine A6 ?_);cbv;try simp only[ArKc2])
   obtain rfl:=SI h
   (try simp only [Z0]);exact LeV.to rfl (LeF.rfl' _)
  ·simp only [cond_true] at h
   cbv;try simp only[ArKc2]
   repeat((first|refine R6 ?_|refine A6 ?_);cbv;try simp only[ArKc2])
   split
   ·rename_i q4;simp only [q4,cond_true] at h ⊢
    cbv;try simp only[ArKc2]
    repeat((first|refine R6 ?_|refine A6 ?_);cbv;try simp only[ArKc2])
    obtain rfl:=SI h
    (try simp only [Z0]);exact LeV.to rfl (LeF.rfl' _)
   ·rename_i q4;simp only [q4,cond_false] at h ⊢
    cbv;try simp only[ArKc2]
    repeat((first|refine R6 ?_|refine A6 ?_);cbv;try simp only[ArKc2])
    obtain⟨c3,h⟩:=ck_out h
    refine ⟨c3,?_⟩
    repeat((first|refine R6 ?_|refine A6 ?_);cbv;try simp only[ArKc2])
    obtain rfl:=SI h
    (try simp only [Z0]);exact LeV.to rfl (LeF.rfl' _)
theorem r_iNameOk{a0:List UInt8}{r:Bool}(h:iNameOk a0=some r):Ret pg 126 true [.s a0] [] (.b r):=by
  unfold iNameOk at h
  refine retD 1000 1000 [] (.s .o (.s .o (.k .o .o))) Tryz.func126 rfl (by decide +kernel) (by decide +kernel) rfl trivial ?_
  cbv;try simp only[ArKc3]
  obtain⟨r3,hr3,h⟩:=bnd_out h
  refine CallK.introE rfl rfl (r_iwithin hr3) ?_
  clear hr3
  cbv;try simp only[ArKc3]
  cases r3
  ·simp only [cond_false] at h
   cbv;try simp only[ArKc3]
   obtain rfl:=SI h
   (try simp only [Z0]);exact LeV.to rfl (LeF.rfl' _)
  ·simp only [cond_true] at h
   cbv;try simp only[ArKc3]
   obtain⟨o5,ho5,h⟩:=bnd_out h
   refine CutK.intro (α:=Unit) [] [] (fun a=>[]) (fun a=>[]) (fun a=>(Sum.inl a:_ ⊕ _)=o5) ?_ ?_
   ·cbv;try simp only[ArKc3]
    refine LoopR (σ:=Int) ho5 [0,9,10] [] (fun a=>[(10,.i .i64 a)]) (fun a=>[]) (by first|rfl|(simp only[Z0];rfl)) fun _ s7 xs7 hs7 bs7 es7=>?_
    cbv;try simp only[ArKc3]
    split
    ·rename_i q20;simp only [q20,cond_true] at hs7 ⊢
     cbv;try simp only[ArKc3]
     obtain⟨c19,hs7⟩:=ck_out hs7
     refine ⟨c19,?_⟩
     split
     ·rename_i q18;simp only [q18,cond_true] at hs7 ⊢
      cbv;try simp only[ArKc3]
      obtain⟨c11,hs7⟩:=ck_out hs7
      refine ⟨c11,?_⟩
      split
      ·rename_i q10;simp only [q10,cond_true] at hs7 ⊢
       cbv;try simp only[ArKc3]
       obtain rfl:=SI hs7
       replace ho5:=congrArg some (es7 _ rfl)
       obtain rfl:=SI ho5
       simp only [Sum.elim_inr] at h
       obtain rfl:=SI h
       (try simp only [Z0]);exact LeV.to rfl (LeF.rfl' _)
      ·rename_i q10;simp only [q10,cond_false] at hs7 ⊢
       cbv;try simp only[ArKc3]
       obtain⟨c9,hs7⟩:=ck_out hs7
       refine ⟨c9,?_⟩
       split
       ·rename_i q8;simp only [q8,cond_true] at hs7 ⊢
        cbv;try simp only[ArKc3]
        obtain rfl:=SI hs7
        replace ho5:=congrArg some (es7 _ rfl)
        obtain rfl:=SI ho5
        simp only [Sum.elim_inr] at h
        obtain rfl:=SI h
        (try simp only [Z0]);exact LeV.to rfl (LeF.rfl' _)
       ·rename_i q8;simp only [q8,cond_false] at hs7 ⊢
        cbv;try simp only[ArKc3]
        obtain rfl:=SI hs7
        refine ⟨_,bs7 _ rfl,?_⟩;first|rfl|(simp only[Z0];rfl)
     ·rename_i q18;simp only [q18,cond_false] at hs7 ⊢
      cbv;try simp only[ArKc3]
      obtain⟨c17,hs7⟩:=ck_out hs7
      refine ⟨c17,?_⟩
      split
      ·rename_i q16;simp only [q16,cond_true] at hs7 ⊢
       cbv;try simp only[ArKc3]
       obtain⟨c15,hs7⟩:=ck_out hs7
       refine ⟨c15,?_⟩
       split
       ·rename_i q14;simp only [q14,cond_true] at hs7 ⊢
        cbv;try simp only[ArKc3]
        obtain rfl:=SI hs7
        replace ho5:=congrArg some (es7 _ rfl)
        obtain rfl:=SI ho5
        simp only [Sum.elim_inr] at h
        obtain rfl:=SI h
        (try simp only [Z0]);exact LeV.to rfl (LeF.rfl' _)
       ·rename_i q14;simp only [q14,cond_false] at hs7 ⊢
        cbv;try simp only[ArKc3]
        obtain⟨c13,hs7⟩:=ck_out hs7
        refine ⟨c13,?_⟩
        split
        ·rename_i q12;simp only [q12,cond_true] at hs7 ⊢
         cbv;try simp only[ArKc3]
         obtain rfl:=SI hs7
         replace ho5:=congrArg some (es7 _ rfl)
         obtain rfl:=SI ho5
         simp only [Sum.elim_inr] at h
         obtain rfl:=SI h
         (try simp only [Z0]);exact LeV.to rfl (LeF.rfl' _)
        ·rename_i q12;simp only [q12,cond_false] at hs7 ⊢
         cbv;try simp only[ArKc3]
         obtain rfl:=SI hs7
         refine ⟨_,bs7 _ rfl,?_⟩;first|rfl|(simp only[Z0];rfl)
      ·rename_i q16;simp only [q16,cond_false] at hs7 ⊢
       cbv;try simp only[ArKc3]
       obtain rfl:=SI hs7
       refine ⟨_,bs7 _ rfl,?_⟩;first|rfl|(simp only[Z0];rfl)
    ·rename_i q20;simp only [q20,cond_false] at hs7 ⊢
     cbv;try simp only[ArKc3]
     obtain rfl:=SI hs7
     replace ho5:=congrArg some (es7 _ rfl)
     obtain rfl:=SI ho5
     refine ⟨_,rfl,?_⟩;first|rfl|(simp only[Z0];rfl)
   ·rintro a6 rfl
    clear ho5
    simp only [Sum.elim_inl] at h
    cbv;try simp only[ArKc3]
    obtain rfl:=SI h
    (try simp only [Z0]);exact LeV.to rfl (LeF.rfl' _)
theorem r_iEntriesOk_1{a0:EntryD}{k1:List UInt8}{k2:Int}{r:Bool}(h:iEntriesOk_1 a0 k1 k2=some r):Ret pg 200 true [.ag (entryC a0),.pt ⟨.gl 0,[],0⟩] [[.s k1,.i .i64 k2]] (.b r):=by
  unfold iEntriesOk_1 at h
  refine retD 1000 1000 [] .o Tryz.func200 rfl (by decide +kernel) (by decide +kernel) rfl trivial ?_
  cbv;try simp only[ArKc3]
  obtain rfl:=SI h
  (try simp only [Z0]);exact LeV.to rfl (LeF.rfl' _)
theorem r_gslices_IndexFunc_Entry_iEntriesOk_1{a0:List EntryD}{k1:List UInt8}{k2:Int}{r:Int}(h:gslices_IndexFunc_Entry_iEntriesOk_1 a0 k1 k2=some r):Ret pg 185 true [.sl .shr 2 (rows entryR a0),.fn 200 [.pt ⟨.gl 0,[],0⟩]] [[.s k1,.i .i64 k2]] (.i .i64 r):=by
  unfold gslices_IndexFunc_Entry_iEntriesOk_1 at h
  refine retD 1000 1000 [] (.s .o (.k .o .o)) Tryz.func185 rfl (by decide +kernel) (by decide +kernel) rfl trivial ?_
  cbv;try simp only[ArKc4]
  obtain⟨o12,ho12,h⟩:=bnd_out h
  refine CutK.intro (α:=Unit) [] [] (fun a=>[]) (fun a=>[]) (fun a=>(Sum.inl a:_ ⊕ _)=o12) ?_ ?_
  ·cbv;try simp only[ArKc4]
   refine LoopR (σ:=Int) ho12 [0,1,7,8] [] (fun a=>[(8,.i .i64 a)]) (fun a=>[]) (by first|rfl|(simp only[Z0];rfl)) fun _ s18 xs18 hs18 bs18 es18=>?_
   cbv;try simp only[ArKc4]
   split
   ·rename_i q21;simp only [q21,cond_true] at hs18 ⊢
    cbv;try simp only[ArKc4]
    obtain⟨y19,hy19,hs18⟩:=bnd_out hs18
    refine ⟨gt_in hy19,?_⟩
    refine ⟨_,gt_at _ hy19,?_⟩
    cbv;try simp only[ArKc4]
    obtain⟨r20,hr20,hs18⟩:=bnd_out hs18
    refine CallK.introE rfl rfl (r_iEntriesOk_1 hr20) ?_
    clear hr20
    cbv;try simp only[ArKc4]
    cases r20
    ·simp only [cond_false] at hs18
     cbv;try simp only[ArKc4]
     obtain rfl:=SI hs18
     refine ⟨_,bs18 _ rfl,?_⟩;first|rfl|(simp only[Z0];rfl)
    ·simp only [cond_true] at hs18
     cbv;try simp only[ArKc4]
     obtain rfl:=SI hs18
     replace ho12:=congrArg some (es18 _ rfl)
     obtain rfl:=SI ho12
     simp only [Sum.elim_inr] at h
     obtain rfl:=SI h
     (try simp only [Z0]);exact LeV.to rfl (LeF.rfl' _)
   ·rename_i q21;simp only [q21,cond_false] at hs18 ⊢
    cbv;try simp only[ArKc4]
    obtain rfl:=SI hs18
    replace ho12:=congrArg some (es18 _ rfl)
    obtain rfl:=SI ho12
    refine ⟨_,rfl,?_⟩;first|rfl|(simp only[Z0];rfl)
  ·rintro a13 rfl
   clear ho12
   simp only [Sum.elim_inl] at h
   cbv;try simp only[ArKc4]
   obtain rfl:=SI h
   (try simp only [Z0]);exact LeV.to rfl (LeF.rfl' _)
theorem r_gslices_ContainsFunc_Entry_iEntriesOk_1{a0:List EntryD}{k1:List UInt8}{k2:Int}{r:Bool}(h:gslices_ContainsFunc_Entry_iEntriesOk_1 a0 k1 k2=some r):Ret pg 199 true [.sl .shr 2 (rows entryR a0),.fn 200 [.pt ⟨.gl 0,[],0⟩]] [[.s k1,.i .i64 k2]] (.b r):=by
  unfold gslices_ContainsFunc_Entry_iEntriesOk_1 at h
  refine retD 1000 1000 [] .o Tryz.func199 rfl (by decide +kernel) (by decide +kernel) rfl trivial ?_
  cbv;try simp only[ArKc4]
  obtain⟨r2,hr2,h⟩:=bnd_out h
  refine CallK.introE rfl rfl (r_gslices_IndexFunc_Entry_iEntriesOk_1 hr2) ?_
  clear hr2
  cbv;try simp only[ArKc4]
  obtain rfl:=SI h
  (try simp only [Z0]);exact LeV.to rfl (LeF.rfl' _)
theorem r_iPutNum{a0:Int}{r:(List UInt8)}(h:iPutNum a0=some r):Ret pg 208 true [.i .i64 a0] [] (.sl .own 1 (bys r)):=by
  unfold iPutNum at h
  refine retD 1000 1000 [] (.s .o (.s .o (.s .o (.k .o .o)))) Tryz.func208 rfl (by decide +kernel) (by decide +kernel) rfl ⟨rfl,own_bysS _⟩ ?_
  cbv;try simp only[ArKc2]
  obtain⟨r3,hr3,h⟩:=bnd_out h
  refine CallK.introE rfl rfl (r_iwithin hr3) ?_
  clear hr3
  cbv;try simp only[ArKc2]
  cases r3
  ·simp only [cond_false] at h
   cbv;try simp only[ArKc2]
   obtain rfl:=SI h
   first | exact LeV.to rfl (LeF.nb _ _) | (simp only [rows_nil,bys_n];exact LeV.to rfl (LeF.nb _ _))
  ·simp only [cond_true] at h
   cbv;try simp only[ArKc2]
   obtain⟨o5,ho5,h⟩:=bnd_out h
   refine CutK.intro (α:=Int × (List UInt8)) [0,3] [] (fun a=>[(0,.i .i64 a.1),(3,.sl .own 1 (bys a.2))]) (fun a=>[]) (fun a=>a=o5) ?_ ?_
   ·cbv;try simp only[ArKc2]
    refine LoopR (σ:=Int × (List UInt8)) ho5 [0,3] [] (fun a=>[(0,.i .i64 a.1),(3,.sl .own 1 (bys a.2))]) (fun a=>[]) (by first|rfl|(simp only[Z0];rfl)) fun _ s8 xs8 hs8 bs8 es8=>?_
    obtain⟨s8_0,s8_1⟩:=s8
    try dsimp only at hs8
    cbv;try simp only[ArKc2]
    split
    ·rename_i q10;simp only [q10,cond_true] at hs8 ⊢
     cbv;try simp only[ArKc2]
     obtain⟨c9,hs8⟩:=ck_out hs8
     refine ⟨c9,?_⟩
     refine ⟨by rw [icmp_geq];rfl,?_⟩
     obtain rfl:=SI hs8
     refine ⟨_,bs8 _ rfl,?_⟩;first|rfl|(simp only[Z0];rfl)
    ·rename_i q10;simp only [q10,cond_false] at hs8 ⊢
     cbv;try simp only[ArKc2]
     obtain rfl:=SI hs8
     replace ho5:=congrArg some (es8 _ rfl)
     obtain rfl:=SI ho5
     refine ⟨_,rfl,?_⟩;first|rfl|(simp only[Z0];rfl)
   ·rintro a6 rfl
    clear ho5
    obtain⟨a6_0,a6_1⟩:=a6
    try dsimp only at h
    cbv;try simp only[ArKc2]
    obtain⟨c7,h⟩:=ck_out h
    refine ⟨c7,?_⟩
    obtain rfl:=SI h
    (try simp only [Z0]);exact LeV.to rfl (LeF.rfl' _)
theorem r_iPutText{a0:List UInt8}{r:(List UInt8)}(h:iPutText a0=some r):Ret pg 207 true [.s a0] [] (.sl .own 1 (bys r)):=by
  unfold iPutText at h
  refine retD 1000 1000 [] .o Tryz.func207 rfl (by decide +kernel) (by decide +kernel) rfl ⟨rfl,own_bysS _⟩ ?_
  cbv;try simp only[ArKc2]
  obtain⟨r2,hr2,h⟩:=bnd_out h
  refine CallK.introE rfl rfl (r_iPutNum hr2) ?_
  clear hr2
  cbv;try simp only[ArKc2]
  obtain⟨c3,h⟩:=ck_out h
  refine ⟨c3,?_⟩
  obtain rfl:=SI h
  (try simp only [Z0]);exact LeV.to rfl (LeF.rfl' _)
theorem r_iDirText{a0:List EntryD}{r:(List UInt8)}(h:iDirText a0=some r):Ret pg 201 true [.sl .shr 2 (rows entryR a0)] [] (.s r):=by
  unfold iDirText at h
  refine retD 1000 1000 [] (.s .o (.s .o (.k .o .o))) Tryz.func201 rfl (by decide +kernel) (by decide +kernel) rfl trivial ?_
  cbv;try simp only[ArKc5]
  obtain⟨o16,ho16,h⟩:=bnd_out h
  refine CutK.intro (α:=(List UInt8)) [3] [] (fun a=>[(3,.sl .own 1 (bys a))]) (fun a=>[]) (fun a=>a=o16) ?_ ?_
  ·cbv;try simp only[ArKc5]
   refine LoopR (σ:=(List UInt8) × Int) ho16 [3,7,8,9] [] (fun a=>[(3,.sl .own 1 (bys a.1)),(9,.i .i64 a.2)]) (fun a=>[]) (by first|rfl|(simp only[Z0];rfl)) fun _ s24 xs24 hs24 bs24 es24=>?_
   obtain⟨s24_0,s24_1⟩:=s24
   try dsimp only at hs24
   cbv;try simp only[ArKc5]
   split
   ·rename_i q30;simp only [q30,cond_true] at hs24 ⊢
    cbv;try simp only[ArKc5]
    obtain⟨y25,hy25,hs24⟩:=bnd_out hs24
    refine ⟨gt_in hy25,?_⟩
    refine ⟨_,gt_at _ hy25,?_⟩
    cbv;try simp only[ArKc5]
    obtain⟨r26,hr26,hs24⟩:=bnd_out hs24
    refine CallK.introE rfl rfl (r_iPutText hr26) ?_
    clear hr26
    cbv;try simp only[ArKc5]
    obtain⟨c29,hs24⟩:=ck_out hs24
    refine ⟨c29,?_⟩
    obtain⟨r27,hr27,hs24⟩:=bnd_out hs24
    refine CallK.introE rfl rfl (r_iPutNum hr27) ?_
    clear hr27
    cbv;try simp only[ArKc5]
    obtain⟨c28,hs24⟩:=ck_out hs24
    refine ⟨c28,?_⟩
    obtain rfl:=SI hs24
    refine ⟨_,bs24 _ rfl,?_⟩;first|rfl|(simp only[Z0];rfl)
   ·rename_i q30;simp only [q30,cond_false] at hs24 ⊢
    cbv;try simp only[ArKc5]
    obtain rfl:=SI hs24
    replace ho16:=congrArg some (es24 _ rfl)
    obtain rfl:=SI ho16
    refine ⟨_,rfl,?_⟩;first|rfl|(simp only[Z0];rfl)
  ·rintro a17 rfl
   clear ho16
   cbv;try simp only[ArKc5]
   obtain rfl:=SI h
   (try simp only [Z0]);exact LeV.to rfl (LeF.rfl' _)
theorem r_iEntriesOk{a0:List EntryD}{r:Bool}(h:iEntriesOk a0=some r):Ret pg 184 true [.sl .shr 2 (rows entryR a0)] [] (.b r):=by
  unfold iEntriesOk at h
  refine retD 8 3 [(4,[⟨true,[],[12]⟩,⟨true,[],[13]⟩,⟨true,[],[14]⟩,⟨true,[],[15]⟩,⟨true,[],[15,16]⟩,⟨true,[],[17]⟩,⟨true,[],[18]⟩,⟨true,[],[19]⟩,⟨true,[],[20]⟩,⟨true,[],[20,21]⟩,⟨true,[],[22]⟩,⟨true,[],[23]⟩,⟨true,[],[24]⟩,⟨true,[],[25]⟩,⟨true,[],[26]⟩,⟨true,[],[26,27]⟩,⟨true,[],[28]⟩,⟨true,[],[29]⟩,⟨true,[],[29,30]⟩,⟨true,[],[31]⟩,⟨true,[],[32]⟩,⟨true,[],[33]⟩,⟨false,[37,38],[34]⟩,⟨false,[37,38],[35]⟩,⟨false,[37,38],[36]⟩,⟨false,[34,35,36],[37]⟩,⟨false,[34,35,36],[38]⟩,⟨true,[],[39]⟩,⟨true,[],[40]⟩,⟨true,[],[41]⟩])] (.s .o (.k (.s .o (.s (.s (.s .o (.s .o (.s (.s (.s .o (.k .o .o)) .o) .o))) .o) .o)) .o)) Tryz.func184 rfl (by decide +kernel) (by decide +kernel) rfl trivial ?_
  cbv;try simp only[ArKc4]
  repeat((first|refine R6 ?_|refine A6 ?_);cbv;try simp only[ArKc4])
  obtain⟨o50,ho50,h⟩:=bnd_out h
  refine CutK.intro (α:=Unit) [0] [] (fun a=>[]) (fun a=>[]) (fun a=>(Sum.inl a:_ ⊕ _)=o50) ?_ ?_
  ·cbv;try simp only[ArKc4]
   repeat((first|refine R6 ?_|refine A6 ?_);cbv;try simp only[ArKc4])
   refine LoopR (σ:=Int) ho50 [0,5,6,7] [] (fun a=>[(7,.i .i64 a)]) (fun a=>[]) (by first|rfl|(simp only[Z0];rfl)) fun _ s72 xs72 hs72 bs72 es72=>?_
   cbv;try simp only[ArKc4]
   repeat((first|refine R6 ?_|refine A6 ?_);cbv;try simp only[ArKc4])
   split
   ·rename_i q93;simp only [q93,cond_true] at hs72 ⊢
    cbv;try simp only[ArKc4]
    repeat((first|refine R6 ?_|refine A6 ?_);cbv;try simp only[ArKc4])
    obtain⟨y73,hy73,hs72⟩:=bnd_out hs72
    refine ⟨gt_in hy73,?_⟩
    repeat((first|refine R6 ?_|refine A6 ?_);cbv;try simp only[ArKc4])
    refine ⟨_,gt_at _ hy73,?_⟩
    cbv;try simp only[ArKc4]
    repeat((first|refine R6 ?_|refine A6 ?_);cbv;try simp only[ArKc4])
    obtain⟨o79,ho79,hs72⟩:=bnd_out hs72
    refine CutK.intro (α:=Bool × Bool) [0,3,4,5,6,7,22,23,24,25,28,29,30,40] [4] (fun a=>[(22,.pt ⟨.bx 4,[],1⟩),(23,.i .i64 y73.node),(24,.b true),(25,.b false),(28,.i .i64 s72),(29,.b a.1),(30,.b a.2),(40,.b false)]) (fun a=>[]) (fun a=>(Sum.inl a:_ ⊕ _)=o79) ?_ ?_
    ·cbv;try simp only[ArKc4]
     repeat((first|refine R6 ?_|refine A6 ?_);cbv;try simp only[ArKc4])
     obtain⟨r83,hr83,ho79⟩:=bnd_out ho79
     refine CallK.introE rfl rfl (r_iNameOk hr83) ?_
     clear hr83
     cbv;try simp only[ArKc4]
     repeat((first|refine R6 ?_|refine A6 ?_);cbv;try simp only[ArKc4])
     cases r83
     ·simp only [cond_false] at ho79
      cbv;try simp only[ArKc4]
      repeat((first|refine R6 ?_|refine A6 ?_);cbv;try simp only[ArKc4])
      split
      ·rename_i q92;simp only [q92,cond_true] at ho79 ⊢
       cbv;try simp only[ArKc4]
       repeat((first|refine R6 ?_|refine A6 ?_);cbv;try simp only[ArKc4])
       obtain rfl:=SI ho79
       simp only [Sum.elim_inr] at hs72
       obtain rfl:=SI hs72
       replace ho50:=congrArg some (es72 _ rfl)
       obtain rfl:=SI ho50
       simp only [Sum.elim_inr] at h
       obtain rfl:=SI h
       (try simp only [Z0]);exact LeV.to rfl (LeF.rfl' _)
      ·rename_i q92;simp only [q92,cond_false] at ho79 ⊢
       cbv;try simp only[ArKc4]
       repeat((first|refine R6 ?_|refine A6 ?_);cbv;try simp only[ArKc4])
       obtain⟨r88,hr88,ho79⟩:=bnd_out ho79
       refine CallK.introE rfl rfl (r_iwithin hr88) ?_
       clear hr88
       cbv;try simp only[ArKc4]
       repeat((first|refine R6 ?_|refine A6 ?_);cbv;try simp only[ArKc4])
       cases r88
       ·simp only [cond_false] at ho79
        cbv;try simp only[ArKc4]
        repeat((first|refine R6 ?_|refine A6 ?_);cbv;try simp only[ArKc4])
        obtain rfl:=SI ho79
        simp only [Sum.elim_inr] at hs72
        obtain rfl:=SI hs72
        replace ho50:=congrArg some (es72 _ rfl)
        obtain rfl:=SI ho50
        simp only [Sum.elim_inr] at h
        obtain rfl:=SI h
        (try simp only [Z0]);exact LeV.to rfl (LeF.rfl' _)
       ·simp only [cond_true] at ho79
        cbv;try simp only[ArKc4]
        repeat((first|refine R6 ?_|refine A6 ?_);cbv;try simp only[ArKc4])
        split
        ·rename_i q91;simp only [q91,cond_true] at ho79 ⊢
         cbv;try simp only[ArKc4]
         repeat((first|refine R6 ?_|refine A6 ?_);cbv;try simp only[ArKc4])
         obtain⟨y89,hy89,ho79⟩:=bnd_out ho79
         refine ⟨gt_in hy89,?_⟩
         repeat((first|refine R6 ?_|refine A6 ?_);cbv;try simp only[ArKc4])
         refine ⟨_,gt_at _ hy89,?_⟩
         cbv;try simp only[ArKc4]
         repeat((first|refine R6 ?_|refine A6 ?_);cbv;try simp only[ArKc4])
         split
         ·rename_i q90;simp only [q90,cond_true] at ho79 ⊢
          cbv;try simp only[ArKc4]
          repeat((first|refine R6 ?_|refine A6 ?_);cbv;try simp only[ArKc4])
          obtain rfl:=SI ho79
          simp only [Sum.elim_inr] at hs72
          obtain rfl:=SI hs72
          replace ho50:=congrArg some (es72 _ rfl)
          obtain rfl:=SI ho50
          simp only [Sum.elim_inr] at h
          obtain rfl:=SI h
          (try simp only [Z0]);exact LeV.to rfl (LeF.rfl' _)
         ·rename_i q90;simp only [q90,cond_false] at ho79 ⊢
          cbv;try simp only[ArKc4]
          repeat((first|refine R6 ?_|refine A6 ?_);cbv;try simp only[ArKc4])
          obtain rfl:=SI ho79
          refine ⟨_,rfl,?_⟩;first|rfl|(simp only[Z0];rfl)
        ·rename_i q91;simp only [q91,cond_false] at ho79 ⊢
         cbv;try simp only[ArKc4]
         repeat((first|refine R6 ?_|refine A6 ?_);cbv;try simp only[ArKc4])
         obtain rfl:=SI ho79
         refine ⟨_,rfl,?_⟩;first|rfl|(simp only[Z0];rfl)
     ·simp only [cond_true] at ho79
      cbv;try simp only[ArKc4]
      repeat((first|refine R6 ?_|refine A6 ?_);cbv;try simp only[ArKc4])
      obtain⟨r84,hr84,ho79⟩:=bnd_out ho79
      refine CallK.introE rfl rfl (r_iwithin hr84) ?_
      clear hr84
      cbv;try simp only[ArKc4]
      repeat((first|refine R6 ?_|refine A6 ?_);cbv;try simp only[ArKc4])
      cases r84
      ·simp only [cond_false] at ho79
       cbv;try simp only[ArKc4]
       repeat((first|refine R6 ?_|refine A6 ?_);cbv;try simp only[ArKc4])
       obtain rfl:=SI ho79
       simp only [Sum.elim_inr] at hs72
       obtain rfl:=SI hs72
       replace ho50:=congrArg some (es72 _ rfl)
       obtain rfl:=SI ho50
       simp only [Sum.elim_inr] at h
       obtain rfl:=SI h
       (try simp only [Z0]);exact LeV.to rfl (LeF.rfl' _)
      ·simp only [cond_true] at ho79
       cbv;try simp only[ArKc4]
       repeat((first|refine R6 ?_|refine A6 ?_);cbv;try simp only[ArKc4])
       split
       ·rename_i q87;simp only [q87,cond_true] at ho79 ⊢
        cbv;try simp only[ArKc4]
        repeat((first|refine R6 ?_|refine A6 ?_);cbv;try simp only[ArKc4])
        obtain⟨y85,hy85,ho79⟩:=bnd_out ho79
        refine ⟨gt_in hy85,?_⟩
        repeat((first|refine R6 ?_|refine A6 ?_);cbv;try simp only[ArKc4])
        refine ⟨_,gt_at _ hy85,?_⟩
        cbv;try simp only[ArKc4]
        repeat((first|refine R6 ?_|refine A6 ?_);cbv;try simp only[ArKc4])
        split
        ·rename_i q86;simp only [q86,cond_true] at ho79 ⊢
         cbv;try simp only[ArKc4]
         repeat((first|refine R6 ?_|refine A6 ?_);cbv;try simp only[ArKc4])
         obtain rfl:=SI ho79
         simp only [Sum.elim_inr] at hs72
         obtain rfl:=SI hs72
         replace ho50:=congrArg some (es72 _ rfl)
         obtain rfl:=SI ho50
         simp only [Sum.elim_inr] at h
         obtain rfl:=SI h
         (try simp only [Z0]);exact LeV.to rfl (LeF.rfl' _)
        ·rename_i q86;simp only [q86,cond_false] at ho79 ⊢
         cbv;try simp only[ArKc4]
         repeat((first|refine R6 ?_|refine A6 ?_);cbv;try simp only[ArKc4])
         obtain rfl:=SI ho79
         refine ⟨_,rfl,?_⟩;first|rfl|(simp only[Z0];rfl)
       ·rename_i q87;simp only [q87,cond_false] at ho79 ⊢
        cbv;try simp only[ArKc4]
        repeat((first|refine R6 ?_|refine A6 ?_);cbv;try simp only[ArKc4])
        obtain rfl:=SI ho79
        refine ⟨_,rfl,?_⟩;first|rfl|(simp only[Z0];rfl)
    ·rintro a80 rfl
     clear ho79
     simp only [Sum.elim_inl] at hs72
     obtain⟨a80_0,a80_1⟩:=a80
     try dsimp only at hs72
     cbv;try simp only[ArKc4]
     repeat((first|refine R6 ?_|refine A6 ?_);cbv;try simp only[ArKc4])
     obtain⟨c82,hs72⟩:=ck_out hs72
     refine ⟨c82,?_⟩
     repeat((first|refine R6 ?_|refine A6 ?_);cbv;try simp only[ArKc4])
     obtain⟨r81,hr81,hs72⟩:=bnd_out hs72
     refine CallK.introE rfl rfl (r_gslices_ContainsFunc_Entry_iEntriesOk_1 hr81) ?_
     clear hr81
     cbv;try simp only[ArKc4]
     repeat((first|refine R6 ?_|refine A6 ?_);cbv;try simp only[ArKc4])
     cases r81
     ·simp only [cond_false] at hs72
      cbv;try simp only[ArKc4]
      repeat((first|refine R6 ?_|refine A6 ?_);cbv;try simp only[ArKc4])
      obtain rfl:=SI hs72
      refine ⟨_,bs72 _ rfl,?_⟩;first|rfl|(simp only[Z0];rfl)
     ·simp only [cond_true] at hs72
      cbv;try simp only[ArKc4]
      repeat((first|refine R6 ?_|refine A6 ?_);cbv;try simp only[ArKc4])
      obtain rfl:=SI hs72
      replace ho50:=congrArg some (es72 _ rfl)
      obtain rfl:=SI ho50
      simp only [Sum.elim_inr] at h
      obtain rfl:=SI h
      (try simp only [Z0]);exact LeV.to rfl (LeF.rfl' _)
   ·rename_i q93;simp only [q93,cond_false] at hs72 ⊢
    cbv;try simp only[ArKc4]
    repeat((first|refine R6 ?_|refine A6 ?_);cbv;try simp only[ArKc4])
    obtain rfl:=SI hs72
    replace ho50:=congrArg some (es72 _ rfl)
    obtain rfl:=SI ho50
    refine ⟨_,rfl,?_⟩;first|rfl|(simp only[Z0];rfl)
  ·rintro a51 rfl
   clear ho50
   simp only [Sum.elim_inl] at h
   cbv;try simp only[ArKc4]
   repeat((first|refine R6 ?_|refine A6 ?_);cbv;try simp only[ArKc4])
   obtain⟨r53,hr53,h⟩:=bnd_out h
   refine CallK.introE rfl rfl (r_iDirText hr53) ?_
   clear hr53
   cbv;try simp only[ArKc4]
   repeat((first|refine R6 ?_|refine A6 ?_);cbv;try simp only[ArKc4])
   obtain rfl:=SI h
   (try simp only [Z0]);exact LeV.to rfl (LeF.rfl' _)
theorem r_iDirOf{a0:List UInt8}{r:(List EntryD) × Bool}(h:iDirOf a0=some r):Ret pg 153 true [.s a0] [] (.tu [.sl .own 2 (rows entryR r.1),.b r.2]):=by
  unfold iDirOf at h
  refine retD 8 3 [] (.s .o (.s .o (.s .o (.k .o .o)))) Tryz.func153 rfl (by decide +kernel) (by decide +kernel) rfl ⟨⟨rfl,own_entryS _⟩,trivial,trivial⟩ ?_
  cbv;try simp only[ArKc4]
  repeat((first|refine R6 ?_|refine A6 ?_);cbv;try simp only[ArKc4])
  obtain⟨c24,h⟩:=ck_out h
  refine ⟨c24,?_⟩
  repeat((first|refine R6 ?_|refine A6 ?_);cbv;try simp only[ArKc4])
  obtain⟨o10,ho10,h⟩:=bnd_out h
  refine CutK.intro (α:=(List EntryD)) [4] [] (fun a=>[(4,.sl .own 2 (rows entryR a))]) (fun a=>[]) (fun a=>(Sum.inl a:_ ⊕ _)=o10) ?_ ?_
  ·cbv;try simp only[ArKc4]
   repeat((first|refine R6 ?_|refine A6 ?_);cbv;try simp only[ArKc4])
   refine LoopR (σ:=(List EntryD) × Int) ho10 [4,5,6] [] (fun a=>[(4,.sl .own 2 (rows entryR a.1)),(6,.i .i64 a.2)]) (fun a=>[]) (by first|rfl|(simp only[Z0];rfl)) fun _ s19 xs19 hs19 bs19 es19=>?_
   obtain⟨s19_0,s19_1⟩:=s19
   try dsimp only at hs19
   cbv;try simp only[ArKc4]
   repeat((first|refine R6 ?_|refine A6 ?_);cbv;try simp only[ArKc4])
   split
   ·rename_i q23;simp only [q23,cond_true] at hs19 ⊢
    cbv;try simp only[ArKc4]
    repeat((first|refine R6 ?_|refine A6 ?_);cbv;try simp only[ArKc4])
    obtain⟨r20,hr20,hs19⟩:=bnd_out hs19
    refine CallK.introE rfl rfl (r_iGetText hr20) ?_
    obtain⟨r20_0,r20_1,r20_2⟩:=r20
    try dsimp only at hs19
    clear hr20
    cbv;try simp only[ArKc4]
    repeat((first|refine R6 ?_|refine A6 ?_);cbv;try simp only[ArKc4])
    obtain⟨r21,hr21,hs19⟩:=bnd_out hs19
    refine CallK.introE rfl rfl (r_iGetNum hr21) ?_
    obtain⟨r21_0,r21_1,r21_2⟩:=r21
    try dsimp only at hs19
    clear hr21
    cbv;try simp only[ArKc4]
    repeat((first|refine R6 ?_|refine A6 ?_);cbv;try simp only[ArKc4])
    cases r20_2
    ·simp only [cond_false] at hs19
     cbv;try simp only[ArKc4]
     repeat((first|refine R6 ?_|refine A6 ?_);cbv;try simp only[ArKc4])
     obtain rfl:=SI hs19
     replace ho10:=congrArg some (es19 _ rfl)
     obtain rfl:=SI ho10
     simp only [Sum.elim_inr] at h
     obtain rfl:=SI h
     first | exact LeV.to rfl (LeF.tu (LeFs.c (LeF.nr _ _ _) (LeFs.c (LeF.rfl' _) LeFs.n))) | (simp only [rows_nil,bys_n];exact LeV.to rfl (LeF.tu (LeFs.c (LeF.nr _ _ _) (LeFs.c (LeF.rfl' _) LeFs.n))))
    ·simp only [cond_true] at hs19
     cbv;try simp only[ArKc4]
     repeat((first|refine R6 ?_|refine A6 ?_);cbv;try simp only[ArKc4])
     cases r21_2
     ·simp only [cond_false] at hs19
      cbv;try simp only[ArKc4]
      repeat((first|refine R6 ?_|refine A6 ?_);cbv;try simp only[ArKc4])
      obtain rfl:=SI hs19
      replace ho10:=congrArg some (es19 _ rfl)
      obtain rfl:=SI ho10
      simp only [Sum.elim_inr] at h
      obtain rfl:=SI h
      first | exact LeV.to rfl (LeF.tu (LeFs.c (LeF.nr _ _ _) (LeFs.c (LeF.rfl' _) LeFs.n))) | (simp only [rows_nil,bys_n];exact LeV.to rfl (LeF.tu (LeFs.c (LeF.nr _ _ _) (LeFs.c (LeF.rfl' _) LeFs.n))))
     ·simp only [cond_true] at hs19
      cbv;try simp only[ArKc4]
      repeat((first|refine R6 ?_|refine A6 ?_);cbv;try simp only[ArKc4])
      obtain⟨c22,hs19⟩:=ck_out hs19
      refine ⟨c22,?_⟩
      repeat((first|refine R6 ?_|refine A6 ?_);cbv;try simp only[ArKc4])
      obtain rfl:=SI hs19
      refine ⟨_,bs19 _ rfl,?_⟩;first|rfl|(simp only[Z0];rfl)
   ·rename_i q23;simp only [q23,cond_false] at hs19 ⊢
    cbv;try simp only[ArKc4]
    repeat((first|refine R6 ?_|refine A6 ?_);cbv;try simp only[ArKc4])
    obtain rfl:=SI hs19
    replace ho10:=congrArg some (es19 _ rfl)
    obtain rfl:=SI ho10
    refine ⟨_,rfl,?_⟩;first|rfl|(simp only[Z0];rfl)
  ·rintro a11 rfl
   clear ho10
   simp only [Sum.elim_inl] at h
   cbv;try simp only[ArKc4]
   repeat((first|refine R6 ?_|refine A6 ?_);cbv;try simp only[ArKc4])
   obtain⟨r14,hr14,h⟩:=bnd_out h
   refine CallK.introE rfl rfl (r_iEntriesOk hr14) ?_
   clear hr14
   cbv;try simp only[ArKc4]
   repeat((first|refine R6 ?_|refine A6 ?_);cbv;try simp only[ArKc4])
   cases r14
   ·simp only [cond_false] at h
    cbv;try simp only[ArKc4]
    repeat((first|refine R6 ?_|refine A6 ?_);cbv;try simp only[ArKc4])
    obtain rfl:=SI h
    first | exact LeV.to rfl (LeF.tu (LeFs.c (LeF.nr _ _ _) (LeFs.c (LeF.rfl' _) LeFs.n))) | (simp only [rows_nil,bys_n];exact LeV.to rfl (LeF.tu (LeFs.c (LeF.nr _ _ _) (LeFs.c (LeF.rfl' _) LeFs.n))))
   ·simp only [cond_true] at h
    cbv;try simp only[ArKc4]
    repeat((first|refine R6 ?_|refine A6 ?_);cbv;try simp only[ArKc4])
    obtain rfl:=SI h
    (try simp only [Z0]);exact LeV.to rfl (LeF.rfl' _)
theorem r_ientries{a0:FsD}{a1:Int}{r:(List EntryD) × Bool}(h:ientries a0 a1=some r):Ret pg 117 true [.ag (fsC a0),.i .i64 a1] [] (.tu [.sl .own 2 (rows entryR r.1),.b r.2]):=by
  unfold ientries at h
  refine retD 1000 1000 [] .o Tryz.func117 rfl (by decide +kernel) (by decide +kernel) rfl ⟨⟨rfl,own_entryS _⟩,trivial,trivial⟩ ?_
  cbv;try simp only[ArKc6]
  obtain⟨r3,hr3,h⟩:=bnd_out h
  refine CallK.introE rfl rfl (r_icontent hr3) ?_
  clear hr3
  cbv;try simp only[ArKc6]
  obtain⟨r4,hr4,h⟩:=bnd_out h
  refine CallK.introE rfl rfl (r_iDirOf hr4) ?_
  obtain⟨r4_0,r4_1⟩:=r4
  try dsimp only at h
  clear hr4
  cbv;try simp only[ArKc6]
  obtain rfl:=SI h
  (try simp only [Z0]);exact LeV.to rfl (LeF.rfl' _)
theorem r_ivisit{a0:FsD}{a1:Int}{a2:Int}{a3:List Int}{r:Bool × (List Int)}(h0:ivisit a0 a1 a2 a3=some r)(hv0:Value):RetM pg 108 [hv0] [.ag (fsC a0),.i .i64 a1,.i .i64 a2,.rf ⟨.gl 0,[],0⟩ 1 none] [.sl .own 1 (rows intR a3)] (.b r.1) [.sl .own 1 (rows intR r.2)]:=by
  obtain⟨m,h0⟩:=rc_out h0
  have key:∀ (n:Nat) {a0:FsD} {a1:Int} {a2:Int} {a3:List Int} {r:Bool × (List Int)} (h:ivisitN n a0 a1 a2 a3=some r) (hv0:Value),RetM pg 108 [hv0] [.ag (fsC a0),.i .i64 a1,.i .i64 a2,.rf ⟨.gl 0,[],0⟩ 1 none] [.sl .own 1 (rows intR a3)] (.b r.1) [.sl .own 1 (rows intR r.2)]:=by
    intro n;clear h0;induction n with
    | zero=>intros;rename_i h _;cases h
    | succ n ih=>?_
    intro a0 a1 a2 a3 r h hv0
    rw [ivisitN] at h
    refine retDM 1000 1000 [] (.s .o (.s .o (.k .o (.k (.s .o (.s (.s (.s .o (.s .o (.s (.s (.s .o (.s .o (.s .o (.s .o (.k .o .o))))) .o) .o))) .o) .o)) .o)))) Tryz.func108 rfl (by decide +kernel) (by decide +kernel) rfl rfl ⟨⟨rfl,own_intS _⟩,trivial⟩ rfl ⟨⟨rfl,own_intS _⟩,trivial⟩ rfl rfl ?_
    cbv;try simp only[ArKc7]
    obtain⟨r2,hr2,h⟩:=bnd_out h
    refine CallK.introE rfl rfl (r_ientries hr2) ?_
    obtain⟨r2_0,r2_1⟩:=r2
    try dsimp only at h
    clear hr2
    cbv;try simp only[ArKc7]
    obtain⟨o3,ho3,h⟩:=bnd_out h
    refine CutK.introG (α:=Unit) [1,2,3,4,9] [4] (fun a=>[]) (fun a=>[]) (fun a=>[[.sl .own 1 (rows intR a3)]]) (fun a=>(Sum.inl a:_ ⊕ _)=o3) ?_ ?_
    ·cbv;try simp only[ArKc7]
     cases r2_1
     ·simp only [cond_false] at ho3
      cbv;try simp only[ArKc7]
      obtain rfl:=SI ho3
      simp only [Sum.elim_inr] at h
      obtain rfl:=SI h
      first | exact ⟨LeV.to rfl (LeF.rfl' _),rfl⟩ | (simp only [rows_nil,bys_n];exact ⟨LeV.to rfl (LeF.rfl' _),rfl⟩)
     ·simp only [cond_true] at ho3
      cbv;try simp only[ArKc7]
      split
      ·rename_i q66;simp only [q66,cond_true] at ho3 ⊢
       cbv;try simp only[ArKc7]
       split
       ·rename_i q65;simp only [q65,cond_true] at ho3 ⊢
        cbv;try simp only[ArKc7]
        obtain rfl:=SI ho3
        simp only [Sum.elim_inr] at h
        obtain rfl:=SI h
        first | exact ⟨LeV.to rfl (LeF.rfl' _),rfl⟩ | (simp only [rows_nil,bys_n];exact ⟨LeV.to rfl (LeF.rfl' _),rfl⟩)
       ·rename_i q65;simp only [q65,cond_false] at ho3 ⊢
        cbv;try simp only[ArKc7]
        obtain rfl:=SI ho3
        refine ⟨_,rfl,?_⟩;first|rfl|(simp only[Z0];rfl)
      ·rename_i q66;simp only [q66,cond_false] at ho3 ⊢
       cbv;try simp only[ArKc7]
       obtain rfl:=SI ho3
       refine ⟨_,rfl,?_⟩;first|rfl|(simp only[Z0];rfl)
    ·rintro a4 rfl
     clear ho3
     simp only [Sum.elim_inl] at h
     cbv;try simp only[ArKc7]
     obtain⟨o36,ho36,h⟩:=bnd_out h
     refine CutK.introG (α:=(List Int)) [] [] (fun a=>[]) (fun a=>[]) (fun a=>[[.sl .own 1 (rows intR a)]]) (fun a=>(Sum.inl a:_ ⊕ _)=o36) ?_ ?_
     ·cbv;try simp only[ArKc7]
      refine LoopRG (σ:=Int × (List Int)) ho36 [1,2,3,4,9,31,32,33] [4] (fun a=>[(33,.i .i64 a.1)]) (fun a=>[]) (fun a=>[[.sl .own 1 (rows intR a.2)]]) (by first|rfl|(simp only[Z0];rfl)) fun _ s50 xs50 hs50 bs50 es50=>?_
      obtain⟨s50_0,s50_1⟩:=s50
      try dsimp only at hs50
      cbv;try simp only[ArKc7]
      split
      ·rename_i q64;simp only [q64,cond_true] at hs50 ⊢
       cbv;try simp only[ArKc7]
       obtain⟨y51,hy51,hs50⟩:=bnd_out hs50
       refine ⟨gt_in hy51,?_⟩
       refine ⟨_,gt_at _ hy51,?_⟩
       cbv;try simp only[ArKc7]
       split
       ·rename_i q63;simp only [q63,cond_true] at hs50 ⊢
        cbv;try simp only[ArKc7]
        obtain rfl:=SI hs50
        replace ho36:=congrArg some (es50 _ rfl)
        obtain rfl:=SI ho36
        simp only [Sum.elim_inr] at h
        obtain rfl:=SI h
        first | exact ⟨LeV.to rfl (LeF.rfl' _),rfl⟩ | (simp only [rows_nil,bys_n];exact ⟨LeV.to rfl (LeF.rfl' _),rfl⟩)
       ·rename_i q63;simp only [q63,cond_false] at hs50 ⊢
        cbv;try simp only[ArKc7]
        obtain⟨y52,hy52,hs50⟩:=bnd_out hs50
        refine ⟨gt_in hy52,?_⟩
        refine ⟨_,gt_at _ hy52,?_⟩
        cbv;try simp only[ArKc7]
        split
        ·rename_i q62;simp only [q62,cond_true] at hs50 ⊢
         cbv;try simp only[ArKc7]
         obtain rfl:=SI hs50
         replace ho36:=congrArg some (es50 _ rfl)
         obtain rfl:=SI ho36
         simp only [Sum.elim_inr] at h
         obtain rfl:=SI h
         first | exact ⟨LeV.to rfl (LeF.rfl' _),rfl⟩ | (simp only [rows_nil,bys_n];exact ⟨LeV.to rfl (LeF.rfl' _),rfl⟩)
        ·rename_i q62;simp only [q62,cond_false] at hs50 ⊢
         cbv;try simp only[ArKc7]
         obtain⟨y53,hy53,hs50⟩:=bnd_out hs50
         refine ⟨gt_in hy53,?_⟩
         refine ⟨_,gt_at _ hy53,?_⟩
         cbv;try simp only[ArKc7]
         split
         ·rename_i q61;simp only [q61,cond_true] at hs50 ⊢
          cbv;try simp only[ArKc7]
          obtain rfl:=SI hs50
          replace ho36:=congrArg some (es50 _ rfl)
          obtain rfl:=SI ho36
          simp only [Sum.elim_inr] at h
          obtain rfl:=SI h
          first | exact ⟨LeV.to rfl (LeF.rfl' _),rfl⟩ | (simp only [rows_nil,bys_n];exact ⟨LeV.to rfl (LeF.rfl' _),rfl⟩)
         ·rename_i q61;simp only [q61,cond_false] at hs50 ⊢
          cbv;try simp only[ArKc7]
          refine ⟨gt_in hy53,?_⟩
          refine ⟨_,gt_at _ hy53,?_⟩
          cbv;try simp only[ArKc7]
          refine ⟨gt_in hy53,?_⟩
          refine ⟨_,gt_at _ hy53,?_⟩
          cbv;try simp only[ArKc7]
          refine ⟨gt_in hy52,?_⟩
          refine ⟨_,gt_at _ hy52,?_⟩
          cbv;try simp only[ArKc7]
          obtain⟨o54,ho54,hs50⟩:=bnd_out hs50
          refine CutK.introG (α:=Unit) [1,2,3,4,9,12,13,31,32,33,44,45,46,47,48,49,50,51,54,55,56,57,58,59] [4,12] (fun a=>[]) (fun a=>[]) (fun a=>[[.sl .own 1 (rows intR (sl s50_1 y51.node (iop .add .i64 y53 1)))]]) (fun a=>(Sum.inl a:_ ⊕ _)=o54) ?_ ?_
          ·cbv;try simp only[ArKc7]
           split
           ·rename_i q60;simp only [q60,cond_true] at ho54 ⊢
            cbv;try simp only[ArKc7]
            split
            ·rename_i q59;simp only [q59,cond_true] at ho54 ⊢
             cbv;try simp only[ArKc7]
             obtain rfl:=SI ho54
             simp only [Sum.elim_inr] at hs50
             obtain rfl:=SI hs50
             replace ho36:=congrArg some (es50 _ rfl)
             obtain rfl:=SI ho36
             simp only [Sum.elim_inr] at h
             obtain rfl:=SI h
             first | exact ⟨LeV.to rfl (LeF.rfl' _),rfl⟩ | (simp only [rows_nil,bys_n];exact ⟨LeV.to rfl (LeF.rfl' _),rfl⟩)
            ·rename_i q59;simp only [q59,cond_false] at ho54 ⊢
             cbv;try simp only[ArKc7]
             split
             ·rename_i q58;simp only [q58,cond_true] at ho54 ⊢
              cbv;try simp only[ArKc7]
              obtain rfl:=SI ho54
              simp only [Sum.elim_inr] at hs50
              obtain rfl:=SI hs50
              replace ho36:=congrArg some (es50 _ rfl)
              obtain rfl:=SI ho36
              simp only [Sum.elim_inr] at h
              obtain rfl:=SI h
              first | exact ⟨LeV.to rfl (LeF.rfl' _),rfl⟩ | (simp only [rows_nil,bys_n];exact ⟨LeV.to rfl (LeF.rfl' _),rfl⟩)
             ·rename_i q58;simp only [q58,cond_false] at ho54 ⊢
              cbv;try simp only[ArKc7]
              obtain rfl:=SI ho54
              refine ⟨_,rfl,?_⟩;first|rfl|(simp only[Z0];rfl)
           ·rename_i q60;simp only [q60,cond_false] at ho54 ⊢
            cbv;try simp only[ArKc7]
            obtain rfl:=SI ho54
            refine ⟨_,rfl,?_⟩;first|rfl|(simp only[Z0];rfl)
          ·rintro a55 rfl
           clear ho54
           simp only [Sum.elim_inl] at hs50
           cbv;try simp only[ArKc7]
           split
           ·rename_i q57;simp only [q57,cond_true] at hs50 ⊢
            cbv;try simp only[ArKc7]
            obtain⟨r56,hr56,hs50⟩:=bnd_out hs50
            refine CallMK.intro (ih hr56 hv0) ?_
            obtain⟨r56_0,r56_1⟩:=r56
            try dsimp only at hs50
            clear hr56
            cbv;try simp only[ArKc7]
            cases r56_0
            ·simp only [cond_false] at hs50
             cbv;try simp only[ArKc7]
             obtain rfl:=SI hs50
             replace ho36:=congrArg some (es50 _ rfl)
             obtain rfl:=SI ho36
             simp only [Sum.elim_inr] at h
             obtain rfl:=SI h
             first | exact ⟨LeV.to rfl (LeF.rfl' _),rfl⟩ | (simp only [rows_nil,bys_n];exact ⟨LeV.to rfl (LeF.rfl' _),rfl⟩)
            ·simp only [cond_true] at hs50
             cbv;try simp only[ArKc7]
             obtain rfl:=SI hs50
             refine ⟨_,bs50 _ rfl,?_⟩;first|rfl|(simp only[Z0];rfl)
           ·rename_i q57;simp only [q57,cond_false] at hs50 ⊢
            cbv;try simp only[ArKc7]
            obtain rfl:=SI hs50
            refine ⟨_,bs50 _ rfl,?_⟩;first|rfl|(simp only[Z0];rfl)
      ·rename_i q64;simp only [q64,cond_false] at hs50 ⊢
       cbv;try simp only[ArKc7]
       obtain rfl:=SI hs50
       replace ho36:=congrArg some (es50 _ rfl)
       obtain rfl:=SI ho36
       refine ⟨_,rfl,?_⟩;first|rfl|(simp only[Z0];rfl)
     ·rintro a37 rfl
      clear ho36
      simp only [Sum.elim_inl] at h
      cbv;try simp only[ArKc7]
      obtain rfl:=SI h
      first | exact ⟨LeV.to rfl (LeF.rfl' _),rfl⟩ | (simp only [rows_nil,bys_n];exact ⟨LeV.to rfl (LeF.rfl' _),rfl⟩)
  exact key m h0 hv0
theorem r_iFsOk{a0:FsD}{r:Bool}(h:iFsOk a0=some r):Ret pg 73 true [.ag (fsC a0)] [] (.b r):=by
  unfold iFsOk at h
  refine retD 1000 1000 [] (.s .o (.s .o (.s .o (.s .o (.k .o .o))))) Tryz.func73 rfl (by decide +kernel) (by decide +kernel) rfl trivial ?_
  cbv;try simp only[ArKc1]
  obtain⟨r3,hr3,h⟩:=bnd_out h
  refine CallK.introE rfl rfl (r_iShapeOk hr3) ?_
  clear hr3
  cbv;try simp only[ArKc1]
  cases r3
  ·simp only [cond_false] at h
   cbv;try simp only[ArKc1]
   obtain rfl:=SI h
   (try simp only [Z0]);exact LeV.to rfl (LeF.rfl' _)
  ·simp only [cond_true] at h
   cbv;try simp only[ArKc1]
   obtain⟨c35,h⟩:=ck_out h
   refine ⟨c35,?_⟩
   obtain⟨c34,h⟩:=ck_out h
   refine ⟨c34,?_⟩
   intro v8
   cbv;try simp only[ArKc1]
   obtain⟨r9,hr9,h⟩:=bnd_out h
   refine CallMK.intro (r_ivisit hr9 v8) ?_
   obtain⟨r9_0,r9_1⟩:=r9
   try dsimp only at h
   clear hr9
   cbv;try simp only[ArKc1]
   cases r9_0
   ·simp only [cond_false] at h
    cbv;try simp only[ArKc1]
    obtain rfl:=SI h
    (try simp only [Z0]);exact LeV.to rfl (LeF.rfl' _)
   ·simp only [cond_true] at h
    cbv;try simp only[ArKc1]
    obtain⟨o21,ho21,h⟩:=bnd_out h
    refine CutK.intro (α:=Unit) [] [] (fun a=>[]) (fun a=>[]) (fun a=>(Sum.inl a:_ ⊕ _)=o21) ?_ ?_
    ·cbv;try simp only[ArKc1]
     refine LoopR (σ:=Int) ho21 [3,18,19,20] [] (fun a=>[(20,.i .i64 a)]) (fun a=>[]) (by first|rfl|(simp only[Z0];rfl)) fun _ s27 xs27 hs27 bs27 es27=>?_
     cbv;try simp only[ArKc1]
     split
     ·rename_i q33;simp only [q33,cond_true] at hs27 ⊢
      cbv;try simp only[ArKc1]
      obtain⟨y28,hy28,hs27⟩:=bnd_out hs27
      refine ⟨gt_in hy28,?_⟩
      refine ⟨_,gt_at _ hy28,?_⟩
      cbv;try simp only[ArKc1]
      split
      ·rename_i q32;simp only [q32,cond_true] at hs27 ⊢
       cbv;try simp only[ArKc1]
       split
       ·rename_i q31;simp only [q31,cond_true] at hs27 ⊢
        cbv;try simp only[ArKc1]
        obtain⟨y29,hy29,hs27⟩:=bnd_out hs27
        refine ⟨gt_in hy29,?_⟩
        refine ⟨_,gt_at _ hy29,?_⟩
        cbv;try simp only[ArKc1]
        split
        ·rename_i q30;simp only [q30,cond_true] at hs27 ⊢
         cbv;try simp only[ArKc1]
         obtain rfl:=SI hs27
         replace ho21:=congrArg some (es27 _ rfl)
         obtain rfl:=SI ho21
         simp only [Sum.elim_inr] at h
         obtain rfl:=SI h
         (try simp only [Z0]);exact LeV.to rfl (LeF.rfl' _)
        ·rename_i q30;simp only [q30,cond_false] at hs27 ⊢
         cbv;try simp only[ArKc1]
         obtain rfl:=SI hs27
         refine ⟨_,bs27 _ rfl,?_⟩;first|rfl|(simp only[Z0];rfl)
       ·rename_i q31;simp only [q31,cond_false] at hs27 ⊢
        cbv;try simp only[ArKc1]
        obtain rfl:=SI hs27
        refine ⟨_,bs27 _ rfl,?_⟩;first|rfl|(simp only[Z0];rfl)
      ·rename_i q32;simp only [q32,cond_false] at hs27 ⊢
       cbv;try simp only[ArKc1]
       obtain rfl:=SI hs27
       refine ⟨_,bs27 _ rfl,?_⟩;first|rfl|(simp only[Z0];rfl)
     ·rename_i q33;simp only [q33,cond_false] at hs27 ⊢
      cbv;try simp only[ArKc1]
      obtain rfl:=SI hs27
      replace ho21:=congrArg some (es27 _ rfl)
      obtain rfl:=SI ho21
      refine ⟨_,rfl,?_⟩;first|rfl|(simp only[Z0];rfl)
    ·rintro a22 rfl
     clear ho21
     simp only [Sum.elim_inl] at h
     cbv;try simp only[ArKc1]
     obtain rfl:=SI h
     (try simp only [Z0]);exact LeV.to rfl (LeF.rfl' _)
theorem r_sl7Read{a0:FsD}{a1:Int}{r:(List UInt8)}(h:sl7Read a0 a1=some r):Ret pg 80 true [.ag (fsC a0),.i .i64 a1] [] (.s r):=by
  unfold sl7Read at h
  refine retD 8 3 [(5,[⟨true,[],[5,18]⟩,⟨true,[],[19]⟩,⟨false,[21,22,23,24,25,26,27,28,29],[20]⟩,⟨false,[20],[21]⟩,⟨false,[20,23,27],[22]⟩,⟨false,[20,22],[23]⟩,⟨false,[20,27],[24]⟩,⟨false,[20,27],[25]⟩,⟨false,[20,27],[26]⟩,⟨false,[20,22,24,25,26],[27]⟩,⟨false,[20],[28]⟩,⟨false,[20],[29]⟩,⟨true,[],[30]⟩,⟨true,[],[31]⟩,⟨true,[],[32]⟩,⟨true,[],[5]⟩])] (.s .o (.s .o (.k .o .o))) Tryz.func80 rfl (by decide +kernel) (by decide +kernel) rfl trivial ?_
  cbv;try simp only[ArKc1]
  repeat((first|refine R6 ?_|refine A6 ?_);cbv;try simp only[ArKc1])
  obtain⟨o15,ho15,h⟩:=bnd_out h
  refine CutK.intro (α:=(List UInt8)) [5] [] (fun a=>[(5,.s a)]) (fun a=>[]) (fun a=>a=o15) ?_ ?_
  ·cbv;try simp only[ArKc1]
   repeat((first|refine R6 ?_|refine A6 ?_);cbv;try simp only[ArKc1])
   refine LoopR (σ:=(List UInt8) × Int) ho15 [1,2,5,6] [2] (fun a=>[(5,.s a.1),(6,.i .i64 a.2)]) (fun a=>[]) (by first|rfl|(simp only[Z0];rfl)) fun _ s23 xs23 hs23 bs23 es23=>?_
   obtain⟨s23_0,s23_1⟩:=s23
   try dsimp only at hs23
   cbv;try simp only[ArKc1]
   repeat((first|refine R6 ?_|refine A6 ?_);cbv;try simp only[ArKc1])
   obtain⟨y24,hy24,hs23⟩:=bnd_out hs23
   refine ⟨gt_in hy24,?_⟩
   repeat((first|refine R6 ?_|refine A6 ?_);cbv;try simp only[ArKc1])
   refine ⟨_,gt_at _ hy24,?_⟩
   cbv;try simp only[ArKc1]
   repeat((first|refine R6 ?_|refine A6 ?_);cbv;try simp only[ArKc1])
   split
   ·rename_i q28;simp only [q28,cond_true] at hs23 ⊢
    cbv;try simp only[ArKc1]
    repeat((first|refine R6 ?_|refine A6 ?_);cbv;try simp only[ArKc1])
    refine ⟨gt_in hy24,?_⟩
    repeat((first|refine R6 ?_|refine A6 ?_);cbv;try simp only[ArKc1])
    refine ⟨_,gt_at _ hy24,?_⟩
    cbv;try simp only[ArKc1]
    repeat((first|refine R6 ?_|refine A6 ?_);cbv;try simp only[ArKc1])
    obtain⟨y25,hy25,hs23⟩:=bnd_out hs23
    refine ⟨gt_in hy25,?_⟩
    repeat((first|refine R6 ?_|refine A6 ?_);cbv;try simp only[ArKc1])
    refine ⟨_,gt_at _ hy25,?_⟩
    cbv;try simp only[ArKc1]
    repeat((first|refine R6 ?_|refine A6 ?_);cbv;try simp only[ArKc1])
    obtain⟨y26,hy26,hs23⟩:=bnd_out hs23
    refine ⟨gt_in hy26,?_⟩
    repeat((first|refine R6 ?_|refine A6 ?_);cbv;try simp only[ArKc1])
    refine ⟨_,gt_at _ hy26,?_⟩
    cbv;try simp only[ArKc1]
    repeat((first|refine R6 ?_|refine A6 ?_);cbv;try simp only[ArKc1])
    obtain⟨c27,hs23⟩:=ck_out hs23
    refine ⟨c27,?_⟩
    repeat((first|refine R6 ?_|refine A6 ?_);cbv;try simp only[ArKc1])
    obtain rfl:=SI hs23
    refine ⟨_,bs23 _ rfl,?_⟩;first|rfl|(simp only[Z0];rfl)
   ·rename_i q28;simp only [q28,cond_false] at hs23 ⊢
    cbv;try simp only[ArKc1]
    repeat((first|refine R6 ?_|refine A6 ?_);cbv;try simp only[ArKc1])
    obtain rfl:=SI hs23
    replace ho15:=congrArg some (es23 _ rfl)
    obtain rfl:=SI ho15
    refine ⟨_,rfl,?_⟩;first|rfl|(simp only[Z0];rfl)
  ·rintro a16 rfl
   clear ho15
   cbv;try simp only[ArKc1]
   repeat((first|refine R6 ?_|refine A6 ?_);cbv;try simp only[ArKc1])
   obtain rfl:=SI h
   (try simp only [Z0]);exact LeV.to rfl (LeF.rfl' _)
theorem r_sGetNum{a0:List UInt8}{a1:Int}{r:Int × Int × Bool}(h:sGetNum a0 a1=some r):Ret pg 180 true [.sl .shr 1 (bys a0),.i .i64 a1] [] (.tu [.i .i64 r.1,.i .i64 r.2.1,.b r.2.2]):=by
  unfold sGetNum at h
  refine retD 1000 1000 [] (.s .o (.s .o (.k (.s .o (.s (.s (.s .o (.s (.s (.s .o (.s .o (.s .o (.s .o (.s (.k .o .o) .o))))) .o) .o)) .o) .o)) .o))) Tryz.func180 rfl (by decide +kernel) (by decide +kernel) rfl ⟨trivial,trivial,trivial,trivial⟩ ?_
  cbv;try simp only[ArKc2]
  obtain⟨o15,ho15,h⟩:=bnd_out h
  refine CutK.intro (α:=Unit) [] [] (fun a=>[]) (fun a=>[]) (fun a=>(Sum.inl a:_ ⊕ _)=o15) ?_ ?_
  ·cbv;try simp only[ArKc2]
   refine LoopR (σ:=Int × Int) ho15 [0,1,7,8] [] (fun a=>[(7,.i .i64 a.1),(8,.i .i64 a.2)]) (fun a=>[]) (by first|rfl|(simp only[Z0];rfl)) fun _ s23 xs23 hs23 bs23 es23=>?_
   obtain⟨s23_0,s23_1⟩:=s23
   try dsimp only at hs23
   cbv;try simp only[ArKc2]
   split
   ·rename_i q35;simp only [q35,cond_true] at hs23 ⊢
    cbv;try simp only[ArKc2]
    split
    ·rename_i q34;simp only [q34,cond_true] at hs23 ⊢
     cbv;try simp only[ArKc2]
     obtain rfl:=SI hs23
     replace ho15:=congrArg some (es23 _ rfl)
     obtain rfl:=SI ho15
     simp only [Sum.elim_inr] at h
     obtain rfl:=SI h
     (try simp only [Z0]);exact LeV.to rfl (LeF.rfl' _)
    ·rename_i q34;simp only [q34,cond_false] at hs23 ⊢
     cbv;try simp only[ArKc2]
     split
     ·rename_i q33;simp only [q33,cond_true] at hs23 ⊢
      cbv;try simp only[ArKc2]
      obtain rfl:=SI hs23
      replace ho15:=congrArg some (es23 _ rfl)
      obtain rfl:=SI ho15
      simp only [Sum.elim_inr] at h
      obtain rfl:=SI h
      (try simp only [Z0]);exact LeV.to rfl (LeF.rfl' _)
     ·rename_i q33;simp only [q33,cond_false] at hs23 ⊢
      cbv;try simp only[ArKc2]
      obtain⟨y24,hy24,hs23⟩:=bnd_out hs23
      refine ⟨gt_in hy24,?_⟩
      refine ⟨_,gt_ab hy24,?_⟩
      cbv;try simp only[ArKc2]
      refine ⟨by rw [icmp_neq];rfl,?_⟩
      obtain⟨c32,hs23⟩:=ck_out hs23
      refine ⟨c32,?_⟩
      split
      ·rename_i q31;simp only [q31,cond_true] at hs23 ⊢
       cbv;try simp only[ArKc2]
       obtain⟨o25,ho25,hs23⟩:=bnd_out hs23
       refine CutK.intro (α:=Unit) [1,7,8] [] (fun a=>[]) (fun a=>[]) (fun a=>(Sum.inl a:_ ⊕ _)=o25) ?_ ?_
       ·cbv;try simp only[ArKc2]
        split
        ·rename_i q30;simp only [q30,cond_true] at ho25 ⊢
         cbv;try simp only[ArKc2]
         split
         ·rename_i q28;simp only [q28,cond_true] at ho25 ⊢
          cbv;try simp only[ArKc2]
          obtain rfl:=SI ho25
          simp only [Sum.elim_inr] at hs23
          obtain rfl:=SI hs23
          replace ho15:=congrArg some (es23 _ rfl)
          obtain rfl:=SI ho15
          simp only [Sum.elim_inr] at h
          obtain rfl:=SI h
          (try simp only [Z0]);exact LeV.to rfl (LeF.rfl' _)
         ·rename_i q28;simp only [q28,cond_false] at ho25 ⊢
          cbv;try simp only[ArKc2]
          split
          ·rename_i q27;simp only [q27,cond_true] at ho25 ⊢
           cbv;try simp only[ArKc2]
           obtain rfl:=SI ho25
           simp only [Sum.elim_inr] at hs23
           obtain rfl:=SI hs23
           replace ho15:=congrArg some (es23 _ rfl)
           obtain rfl:=SI ho15
           simp only [Sum.elim_inr] at h
           obtain rfl:=SI h
           (try simp only [Z0]);exact LeV.to rfl (LeF.rfl' _)
          ·rename_i q27;simp only [q27,cond_false] at ho25 ⊢
           cbv;try simp only[ArKc2]
           obtain rfl:=SI ho25
           refine ⟨_,rfl,?_⟩;first|rfl|(simp only[Z0];rfl)
        ·rename_i q30;simp only [q30,cond_false] at ho25 ⊢
         cbv;try simp only[ArKc2]
         split
         ·rename_i q29;simp only [q29,cond_true] at ho25 ⊢
          cbv;try simp only[ArKc2]
          obtain rfl:=SI ho25
          simp only [Sum.elim_inr] at hs23
          obtain rfl:=SI hs23
          replace ho15:=congrArg some (es23 _ rfl)
          obtain rfl:=SI ho15
          simp only [Sum.elim_inr] at h
          obtain rfl:=SI h
          (try simp only [Z0]);exact LeV.to rfl (LeF.rfl' _)
         ·rename_i q29;simp only [q29,cond_false] at ho25 ⊢
          cbv;try simp only[ArKc2]
          obtain rfl:=SI ho25
          refine ⟨_,rfl,?_⟩;first|rfl|(simp only[Z0];rfl)
       ·rintro a26 rfl
        clear ho25
        simp only [Sum.elim_inl] at hs23
        cbv;try simp only[ArKc2]
        obtain rfl:=SI hs23
        replace ho15:=congrArg some (es23 _ rfl)
        obtain rfl:=SI ho15
        simp only [Sum.elim_inr] at h
        obtain rfl:=SI h
        (try simp only [Z0]);exact LeV.to rfl (LeF.rfl' _)
      ·rename_i q31;simp only [q31,cond_false] at hs23 ⊢
       cbv;try simp only[ArKc2]
       obtain rfl:=SI hs23
       refine ⟨_,bs23 _ rfl,?_⟩;first|rfl|(simp only[Z0];rfl)
   ·rename_i q35;simp only [q35,cond_false] at hs23 ⊢
    cbv;try simp only[ArKc2]
    obtain rfl:=SI hs23
    replace ho15:=congrArg some (es23 _ rfl)
    obtain rfl:=SI ho15
    refine ⟨_,rfl,?_⟩;first|rfl|(simp only[Z0];rfl)
  ·rintro a16 rfl
   clear ho15
   simp only [Sum.elim_inl] at h
   cbv;try simp only[ArKc2]
   obtain rfl:=SI h
   (try simp only [Z0]);exact LeV.to rfl (LeF.rfl' _)
theorem r_sGetText{a0:List UInt8}{a1:Int}{r:(List UInt8) × Int × Bool}(h:sGetText a0 a1=some r):Ret pg 179 true [.sl .shr 1 (bys a0),.i .i64 a1] [] (.tu [.s r.1,.i .i64 r.2.1,.b r.2.2]):=by
  unfold sGetText at h
  refine retD 8 3 [] .o Tryz.func179 rfl (by decide +kernel) (by decide +kernel) rfl ⟨trivial,trivial,trivial,trivial⟩ ?_
  cbv;try simp only[ArKc2]
  repeat((first|refine R6 ?_|refine A6 ?_);cbv;try simp only[ArKc2])
  obtain⟨r2,hr2,h⟩:=bnd_out h
  refine CallK.introE rfl rfl (r_sGetNum hr2) ?_
  obtain⟨r2_0,r2_1,r2_2⟩:=r2
  try dsimp only at h
  clear hr2
  cbv;try simp only[ArKc2]
  repeat((first|refine R6 ?_|refine A6 ?_);cbv;try simp only[ArKc2])
  cases r2_2
  ·simp only [cond_false] at h
   cbv;try simp only[ArKc2]
   repeat((first|refine R6 ?_|refine A6 ?_);cbv;try simp only[ArKc2])
   obtain rfl:=SI h
   (try simp only [Z0]);exact LeV.to rfl (LeF.rfl' _)
  ·simp only [cond_true] at h
   cbv;try simp only[ArKc2]
   repeat((first|refine R6 ?_|refine A6 ?_);cbv;try simp only[ArKc2])
   split
   ·rename_i q4;simp only [q4,cond_true] at h ⊢
    cbv;try simp only[ArKc2]
    repeat((first|refine R6 ?_|refine A6 ?_);cbv;try simp only[ArKc2])
    obtain rfl:=SI h
    (try simp only [Z0]);exact LeV.to rfl (LeF.rfl' _)
   ·rename_i q4;simp only [q4,cond_false] at h ⊢
    cbv;try simp only[ArKc2]
    repeat((first|refine R6 ?_|refine A6 ?_);cbv;try simp only[ArKc2])
    obtain⟨c3,h⟩:=ck_out h
    refine ⟨c3,?_⟩
    repeat((first|refine R6 ?_|refine A6 ?_);cbv;try simp only[ArKc2])
    obtain rfl:=SI h
    (try simp only [Z0]);exact LeV.to rfl (LeF.rfl' _)
theorem r_sNameOk{a0:List UInt8}{r:Bool}(h:sNameOk a0=some r):Ret pg 140 true [.s a0] [] (.b r):=by
  unfold sNameOk at h
  refine retD 1000 1000 [] (.s .o (.s .o (.k .o .o))) Tryz.func140 rfl (by decide +kernel) (by decide +kernel) rfl trivial ?_
  cbv;try simp only[ArKc3]
  obtain⟨r3,hr3,h⟩:=bnd_out h
  refine CallK.introE rfl rfl (r_sl1In hr3) ?_
  clear hr3
  cbv;try simp only[ArKc3]
  cases r3
  ·simp only [cond_false] at h
   cbv;try simp only[ArKc3]
   obtain rfl:=SI h
   (try simp only [Z0]);exact LeV.to rfl (LeF.rfl' _)
  ·simp only [cond_true] at h
   cbv;try simp only[ArKc3]
   obtain⟨o5,ho5,h⟩:=bnd_out h
   refine CutK.intro (α:=Unit) [] [] (fun a=>[]) (fun a=>[]) (fun a=>(Sum.inl a:_ ⊕ _)=o5) ?_ ?_
   ·cbv;try simp only[ArKc3]
    refine LoopR (σ:=Int) ho5 [0,3] [] (fun a=>[(3,.i .i64 a)]) (fun a=>[]) (by first|rfl|(simp only[Z0];rfl)) fun _ s7 xs7 hs7 bs7 es7=>?_
    cbv;try simp only[ArKc3]
    split
    ·rename_i q20;simp only [q20,cond_true] at hs7 ⊢
     cbv;try simp only[ArKc3]
     obtain⟨c19,hs7⟩:=ck_out hs7
     refine ⟨c19,?_⟩
     split
     ·rename_i q18;simp only [q18,cond_true] at hs7 ⊢
      cbv;try simp only[ArKc3]
      obtain⟨c13,hs7⟩:=ck_out hs7
      refine ⟨c13,?_⟩
      split
      ·rename_i q12;simp only [q12,cond_true] at hs7 ⊢
       cbv;try simp only[ArKc3]
       obtain rfl:=SI hs7
       refine ⟨_,bs7 _ rfl,?_⟩;first|rfl|(simp only[Z0];rfl)
      ·rename_i q12;simp only [q12,cond_false] at hs7 ⊢
       cbv;try simp only[ArKc3]
       obtain⟨c11,hs7⟩:=ck_out hs7
       refine ⟨c11,?_⟩
       split
       ·rename_i q10;simp only [q10,cond_true] at hs7 ⊢
        cbv;try simp only[ArKc3]
        obtain⟨c9,hs7⟩:=ck_out hs7
        refine ⟨c9,?_⟩
        split
        ·rename_i q8;replace q8:=mnt q8;simp only [q8,cond_false] at hs7 ⊢
         cbv;try simp only[ArKc3]
         obtain rfl:=SI hs7
         replace ho5:=congrArg some (es7 _ rfl)
         obtain rfl:=SI ho5
         simp only [Sum.elim_inr] at h
         obtain rfl:=SI h
         (try simp only [Z0]);exact LeV.to rfl (LeF.rfl' _)
        ·rename_i q8;replace q8:=mnf q8;simp only [q8,cond_true] at hs7 ⊢
         cbv;try simp only[ArKc3]
         obtain rfl:=SI hs7
         refine ⟨_,bs7 _ rfl,?_⟩;first|rfl|(simp only[Z0];rfl)
       ·rename_i q10;simp only [q10,cond_false] at hs7 ⊢
        cbv;try simp only[ArKc3]
        obtain rfl:=SI hs7
        replace ho5:=congrArg some (es7 _ rfl)
        obtain rfl:=SI ho5
        simp only [Sum.elim_inr] at h
        obtain rfl:=SI h
        (try simp only [Z0]);exact LeV.to rfl (LeF.rfl' _)
     ·rename_i q18;simp only [q18,cond_false] at hs7 ⊢
      cbv;try simp only[ArKc3]
      obtain⟨c17,hs7⟩:=ck_out hs7
      refine ⟨c17,?_⟩
      split
      ·rename_i q16;simp only [q16,cond_true] at hs7 ⊢
       cbv;try simp only[ArKc3]
       obtain⟨c15,hs7⟩:=ck_out hs7
       refine ⟨c15,?_⟩
       split
       ·rename_i q14;replace q14:=mnt q14;simp only [q14,cond_false] at hs7 ⊢
        cbv;try simp only[ArKc3]
        obtain rfl:=SI hs7
        replace ho5:=congrArg some (es7 _ rfl)
        obtain rfl:=SI ho5
        simp only [Sum.elim_inr] at h
        obtain rfl:=SI h
        (try simp only [Z0]);exact LeV.to rfl (LeF.rfl' _)
       ·rename_i q14;replace q14:=mnf q14;simp only [q14,cond_true] at hs7 ⊢
        cbv;try simp only[ArKc3]
        obtain rfl:=SI hs7
        refine ⟨_,bs7 _ rfl,?_⟩;first|rfl|(simp only[Z0];rfl)
      ·rename_i q16;simp only [q16,cond_false] at hs7 ⊢
       cbv;try simp only[ArKc3]
       obtain rfl:=SI hs7
       replace ho5:=congrArg some (es7 _ rfl)
       obtain rfl:=SI ho5
       simp only [Sum.elim_inr] at h
       obtain rfl:=SI h
       (try simp only [Z0]);exact LeV.to rfl (LeF.rfl' _)
    ·rename_i q20;simp only [q20,cond_false] at hs7 ⊢
     cbv;try simp only[ArKc3]
     obtain rfl:=SI hs7
     replace ho5:=congrArg some (es7 _ rfl)
     obtain rfl:=SI ho5
     refine ⟨_,rfl,?_⟩;first|rfl|(simp only[Z0];rfl)
   ·rintro a6 rfl
    clear ho5
    simp only [Sum.elim_inl] at h
    cbv;try simp only[ArKc3]
    obtain rfl:=SI h
    (try simp only [Z0]);exact LeV.to rfl (LeF.rfl' _)
theorem r_sl8Name{a0:List UInt8}{r:Bool}(h:sl8Name a0=some r):Ret pg 197 true [.s a0] [] (.b r):=by
  unfold sl8Name at h
  refine retD 1000 1000 [] .o Tryz.func197 rfl (by decide +kernel) (by decide +kernel) rfl trivial ?_
  cbv;try simp only[ArKc3]
  split
  ·rename_i q3;simp only [q3,cond_true] at h ⊢
   cbv;try simp only[ArKc3]
   obtain rfl:=SI h
   (try simp only [Z0]);exact LeV.to rfl (LeF.rfl' _)
  ·rename_i q3;simp only [q3,cond_false] at h ⊢
   cbv;try simp only[ArKc3]
   obtain⟨r2,hr2,h⟩:=bnd_out h
   refine CallK.introE rfl rfl (r_sNameOk hr2) ?_
   clear hr2
   cbv;try simp only[ArKc3]
   obtain rfl:=SI h
   (try simp only [Z0]);exact LeV.to rfl (LeF.rfl' _)
theorem r_sPutNum{a0:Int}{r:(List UInt8)}(h:sPutNum a0=some r):Ret pg 206 true [.i .i64 a0] [] (.sl .own 1 (bys r)):=by
  unfold sPutNum at h
  refine retD 1000 1000 [] (.s .o (.s .o (.s .o (.k .o .o)))) Tryz.func206 rfl (by decide +kernel) (by decide +kernel) rfl ⟨rfl,own_bysS _⟩ ?_
  cbv;try simp only[ArKc2]
  obtain⟨r3,hr3,h⟩:=bnd_out h
  refine CallK.introE rfl rfl (r_sl1In hr3) ?_
  clear hr3
  cbv;try simp only[ArKc2]
  cases r3
  ·simp only [cond_false] at h
   cbv;try simp only[ArKc2]
   obtain rfl:=SI h
   (try simp only [Z0]);exact LeV.to rfl (LeF.rfl' _)
  ·simp only [cond_true] at h
   cbv;try simp only[ArKc2]
   obtain⟨o5,ho5,h⟩:=bnd_out h
   refine CutK.intro (α:=Int × (List UInt8)) [0,3] [] (fun a=>[(0,.i .i64 a.1),(3,.sl .own 1 (bys a.2))]) (fun a=>[]) (fun a=>a=o5) ?_ ?_
   ·cbv;try simp only[ArKc2]
    refine LoopR (σ:=Int × (List UInt8)) ho5 [0,3] [] (fun a=>[(0,.i .i64 a.1),(3,.sl .own 1 (bys a.2))]) (fun a=>[]) (by first|rfl|(simp only[Z0];rfl)) fun _ s8 xs8 hs8 bs8 es8=>?_
    obtain⟨s8_0,s8_1⟩:=s8
    try dsimp only at hs8
    cbv;try simp only[ArKc2]
    split
    ·rename_i q10;simp only [q10,cond_true] at hs8 ⊢
     cbv;try simp only[ArKc2]
     refine ⟨by rw [icmp_neq];rfl,?_⟩
     obtain⟨c9,hs8⟩:=ck_out hs8
     refine ⟨c9,?_⟩
     refine ⟨by rw [icmp_neq];rfl,?_⟩
     obtain rfl:=SI hs8
     refine ⟨_,bs8 _ rfl,?_⟩;first|rfl|(simp only[Z0];rfl)
    ·rename_i q10;simp only [q10,cond_false] at hs8 ⊢
     cbv;try simp only[ArKc2]
     obtain rfl:=SI hs8
     replace ho5:=congrArg some (es8 _ rfl)
     obtain rfl:=SI ho5
     refine ⟨_,rfl,?_⟩;first|rfl|(simp only[Z0];rfl)
   ·rintro a6 rfl
    clear ho5
    obtain⟨a6_0,a6_1⟩:=a6
    try dsimp only at h
    cbv;try simp only[ArKc2]
    obtain⟨c7,h⟩:=ck_out h
    refine ⟨c7,?_⟩
    obtain rfl:=SI h
    (try simp only [Z0]);exact LeV.to rfl (LeF.rfl' _)
theorem r_sPutText{a0:List UInt8}{r:(List UInt8)}(h:sPutText a0=some r):Ret pg 205 true [.s a0] [] (.sl .own 1 (bys r)):=by
  unfold sPutText at h
  refine retD 1000 1000 [] .o Tryz.func205 rfl (by decide +kernel) (by decide +kernel) rfl ⟨rfl,own_bysS _⟩ ?_
  cbv;try simp only[ArKc2]
  obtain⟨r2,hr2,h⟩:=bnd_out h
  refine CallK.introE rfl rfl (r_sPutNum hr2) ?_
  clear hr2
  cbv;try simp only[ArKc2]
  obtain⟨c4,h⟩:=ck_out h
  refine ⟨c4,?_⟩
  obtain⟨c3,h⟩:=ck_out h
  refine ⟨c3,?_⟩
  obtain rfl:=SI h
  (try simp only [Z0]);exact LeV.to rfl (LeF.rfl' _)
theorem r_sDirText{a0:List EntryD}{r:(List UInt8)}(h:sDirText a0=some r):Ret pg 198 true [.sl .shr 2 (rows entryR a0)] [] (.s r):=by
  unfold sDirText at h
  refine retD 1000 1000 [] (.s .o (.s .o (.k .o .o))) Tryz.func198 rfl (by decide +kernel) (by decide +kernel) rfl trivial ?_
  cbv;try simp only[ArKc5]
  obtain⟨o16,ho16,h⟩:=bnd_out h
  refine CutK.intro (α:=(List UInt8)) [3] [] (fun a=>[(3,.sl .own 1 (bys a))]) (fun a=>[]) (fun a=>a=o16) ?_ ?_
  ·cbv;try simp only[ArKc5]
   refine LoopR (σ:=(List UInt8) × Int) ho16 [0,3,4] [] (fun a=>[(3,.sl .own 1 (bys a.1)),(4,.i .i64 a.2)]) (fun a=>[]) (by first|rfl|(simp only[Z0];rfl)) fun _ s24 xs24 hs24 bs24 es24=>?_
   obtain⟨s24_0,s24_1⟩:=s24
   try dsimp only at hs24
   cbv;try simp only[ArKc5]
   split
   ·rename_i q30;simp only [q30,cond_true] at hs24 ⊢
    cbv;try simp only[ArKc5]
    obtain⟨y25,hy25,hs24⟩:=bnd_out hs24
    refine ⟨gt_in hy25,?_⟩
    refine ⟨_,gt_at _ hy25,?_⟩
    cbv;try simp only[ArKc5]
    obtain⟨r26,hr26,hs24⟩:=bnd_out hs24
    refine CallK.introE rfl rfl (r_sPutText hr26) ?_
    clear hr26
    cbv;try simp only[ArKc5]
    obtain⟨c29,hs24⟩:=ck_out hs24
    refine ⟨c29,?_⟩
    refine ⟨gt_in hy25,?_⟩
    refine ⟨_,gt_at _ hy25,?_⟩
    cbv;try simp only[ArKc5]
    obtain⟨r27,hr27,hs24⟩:=bnd_out hs24
    refine CallK.introE rfl rfl (r_sPutNum hr27) ?_
    clear hr27
    cbv;try simp only[ArKc5]
    obtain⟨c28,hs24⟩:=ck_out hs24
    refine ⟨c28,?_⟩
    obtain rfl:=SI hs24
    refine ⟨_,bs24 _ rfl,?_⟩;first|rfl|(simp only[Z0];rfl)
   ·rename_i q30;simp only [q30,cond_false] at hs24 ⊢
    cbv;try simp only[ArKc5]
    obtain rfl:=SI hs24
    replace ho16:=congrArg some (es24 _ rfl)
    obtain rfl:=SI ho16
    refine ⟨_,rfl,?_⟩;first|rfl|(simp only[Z0];rfl)
  ·rintro a17 rfl
   clear ho16
   cbv;try simp only[ArKc5]
   obtain rfl:=SI h
   (try simp only [Z0]);exact LeV.to rfl (LeF.rfl' _)
theorem r_sEntriesOk{a0:List EntryD}{r:Bool}(h:sEntriesOk a0=some r):Ret pg 181 true [.sl .shr 2 (rows entryR a0)] [] (.b r):=by
  unfold sEntriesOk at h
  refine retD 8 3 [(4,[⟨true,[],[11]⟩,⟨true,[],[12]⟩,⟨true,[],[13]⟩,⟨true,[],[14]⟩,⟨true,[],[15]⟩,⟨true,[],[16]⟩,⟨true,[],[17]⟩,⟨true,[],[17,18]⟩,⟨true,[],[19]⟩,⟨true,[],[20]⟩,⟨true,[],[21]⟩,⟨true,[],[22]⟩,⟨true,[],[23]⟩,⟨true,[],[24]⟩,⟨true,[],[25]⟩,⟨true,[],[26]⟩,⟨true,[],[26,27]⟩,⟨true,[],[28]⟩,⟨true,[],[29]⟩,⟨true,[],[29,30]⟩,⟨true,[],[31]⟩,⟨true,[],[32]⟩,⟨false,[36,37,38,39,40,41],[33]⟩,⟨false,[36,37,38,39,40,41],[34]⟩,⟨false,[36,37,38,39,40,41],[35]⟩,⟨false,[33,34,35],[36]⟩,⟨false,[33,34,35],[37]⟩,⟨false,[33,34,35],[38]⟩,⟨false,[33,34,35],[39]⟩,⟨false,[33,34,35],[40]⟩,⟨false,[33,34,35],[41]⟩,⟨true,[],[42]⟩,⟨true,[],[43]⟩,⟨true,[],[44]⟩]),(9,[⟨true,[],[50]⟩,⟨true,[],[51]⟩,⟨false,[55,56,57,58,59],[52]⟩,⟨false,[55,56,57,58,59],[53]⟩,⟨false,[55,56,57,58,59],[54]⟩,⟨false,[52,53,54],[55]⟩,⟨false,[52,53,54],[56]⟩,⟨false,[52,53,54],[57]⟩,⟨false,[52,53,54],[58]⟩,⟨false,[52,53,54],[59]⟩,⟨true,[],[60]⟩])] (.s .o (.k (.s .o (.s (.s (.s .o (.k (.s (.k .o .o) .o) .o)) .o) .o)) .o)) Tryz.func181 rfl (by decide +kernel) (by decide +kernel) rfl trivial ?_
  cbv;try simp only[ArKc4]
  repeat((first|refine R6 ?_|refine A6 ?_);cbv;try simp only[ArKc4])
  obtain⟨o56,ho56,h⟩:=bnd_out h
  refine CutK.intro (α:=Unit) [0] [] (fun a=>[]) (fun a=>[]) (fun a=>(Sum.inl a:_ ⊕ _)=o56) ?_ ?_
  ·cbv;try simp only[ArKc4]
   repeat((first|refine R6 ?_|refine A6 ?_);cbv;try simp only[ArKc4])
   refine LoopR (σ:=Int) ho56 [0,3] [] (fun a=>[(3,.i .i64 a)]) (fun a=>[]) (by first|rfl|(simp only[Z0];rfl)) fun _ s89 xs89 hs89 bs89 es89=>?_
   cbv;try simp only[ArKc4]
   repeat((first|refine R6 ?_|refine A6 ?_);cbv;try simp only[ArKc4])
   split
   ·rename_i q126;simp only [q126,cond_true] at hs89 ⊢
    cbv;try simp only[ArKc4]
    repeat((first|refine R6 ?_|refine A6 ?_);cbv;try simp only[ArKc4])
    obtain⟨o103,ho103,hs89⟩:=bnd_out hs89
    refine CutK.intro (α:=Int × Bool × Bool) [0,3,19,20,21,22,23,24,25,28,29,30,43] [] (fun a=>[(19,.sl .shr 2 (rows entryR a0)),(20,.i .i64 s89),(21,.pt ⟨.tp 19,[(0,s89,2)],0⟩),(22,.pt ⟨.tp 19,[(0,s89,2)],1⟩),(23,.i .i64 a.1),(24,.b true),(25,.b false),(28,.i .i64 s89),(29,.b a.2.1),(30,.b a.2.2),(43,.b false)]) (fun a=>[]) (fun a=>(Sum.inl a:_ ⊕ _)=o103) ?_ ?_
    ·cbv;try simp only[ArKc4]
     repeat((first|refine R6 ?_|refine A6 ?_);cbv;try simp only[ArKc4])
     obtain⟨o109,ho109,ho103⟩:=bnd_out ho103
     refine CutK.intro (α:=Int × Bool × Bool) [0,3,19,20,21,22,23,24,25,28,29,30,43] [] (fun a=>[(19,.sl .shr 2 (rows entryR a0)),(20,.i .i64 s89),(21,.pt ⟨.tp 19,[(0,s89,2)],0⟩),(22,.pt ⟨.tp 19,[(0,s89,2)],1⟩),(23,.i .i64 a.1),(24,.b true),(25,.b false),(28,.i .i64 s89),(29,.b a.2.1),(30,.b a.2.2),(43,.b false)]) (fun a=>[]) (fun a=>(Sum.inl a:_ ⊕ _)=o109) ?_ ?_
     ·cbv;try simp only[ArKc4]
      repeat((first|refine R6 ?_|refine A6 ?_);cbv;try simp only[ArKc4])
      obtain⟨y120,hy120,ho109⟩:=bnd_out ho109
      refine ⟨gt_in hy120,?_⟩
      repeat((first|refine R6 ?_|refine A6 ?_);cbv;try simp only[ArKc4])
      refine ⟨_,gt_at _ hy120,?_⟩
      cbv;try simp only[ArKc4]
      repeat((first|refine R6 ?_|refine A6 ?_);cbv;try simp only[ArKc4])
      obtain⟨r121,hr121,ho109⟩:=bnd_out ho109
      refine CallK.introE rfl rfl (r_sl8Name hr121) ?_
      clear hr121
      cbv;try simp only[ArKc4]
      repeat((first|refine R6 ?_|refine A6 ?_);cbv;try simp only[ArKc4])
      cases r121
      ·simp only [cond_false] at ho109
       cbv;try simp only[ArKc4]
       repeat((first|refine R6 ?_|refine A6 ?_);cbv;try simp only[ArKc4])
       obtain rfl:=SI ho109
       simp only [Sum.elim_inr] at ho103
       obtain rfl:=SI ho103
       simp only [Sum.elim_inr] at hs89
       obtain rfl:=SI hs89
       replace ho56:=congrArg some (es89 _ rfl)
       obtain rfl:=SI ho56
       simp only [Sum.elim_inr] at h
       obtain rfl:=SI h
       (try simp only [Z0]);exact LeV.to rfl (LeF.rfl' _)
      ·simp only [cond_true] at ho109
       cbv;try simp only[ArKc4]
       repeat((first|refine R6 ?_|refine A6 ?_);cbv;try simp only[ArKc4])
       refine ⟨gt_in hy120,?_⟩
       repeat((first|refine R6 ?_|refine A6 ?_);cbv;try simp only[ArKc4])
       refine ⟨_,gt_at _ hy120,?_⟩
       cbv;try simp only[ArKc4]
       repeat((first|refine R6 ?_|refine A6 ?_);cbv;try simp only[ArKc4])
       obtain⟨r122,hr122,ho109⟩:=bnd_out ho109
       refine CallK.introE rfl rfl (r_sl1In hr122) ?_
       clear hr122
       cbv;try simp only[ArKc4]
       repeat((first|refine R6 ?_|refine A6 ?_);cbv;try simp only[ArKc4])
       cases r122
       ·simp only [cond_false] at ho109
        cbv;try simp only[ArKc4]
        repeat((first|refine R6 ?_|refine A6 ?_);cbv;try simp only[ArKc4])
        obtain rfl:=SI ho109
        simp only [Sum.elim_inr] at ho103
        obtain rfl:=SI ho103
        simp only [Sum.elim_inr] at hs89
        obtain rfl:=SI hs89
        replace ho56:=congrArg some (es89 _ rfl)
        obtain rfl:=SI ho56
        simp only [Sum.elim_inr] at h
        obtain rfl:=SI h
        (try simp only [Z0]);exact LeV.to rfl (LeF.rfl' _)
       ·simp only [cond_true] at ho109
        cbv;try simp only[ArKc4]
        repeat((first|refine R6 ?_|refine A6 ?_);cbv;try simp only[ArKc4])
        split
        ·rename_i q125;simp only [q125,cond_true] at ho109 ⊢
         cbv;try simp only[ArKc4]
         repeat((first|refine R6 ?_|refine A6 ?_);cbv;try simp only[ArKc4])
         refine ⟨gt_in hy120,?_⟩
         repeat((first|refine R6 ?_|refine A6 ?_);cbv;try simp only[ArKc4])
         refine ⟨_,gt_at _ hy120,?_⟩
         cbv;try simp only[ArKc4]
         repeat((first|refine R6 ?_|refine A6 ?_);cbv;try simp only[ArKc4])
         obtain⟨y123,hy123,ho109⟩:=bnd_out ho109
         refine ⟨gt_in hy123,?_⟩
         repeat((first|refine R6 ?_|refine A6 ?_);cbv;try simp only[ArKc4])
         refine ⟨_,gt_at _ hy123,?_⟩
         cbv;try simp only[ArKc4]
         repeat((first|refine R6 ?_|refine A6 ?_);cbv;try simp only[ArKc4])
         split
         ·rename_i q124;simp only [q124,cond_true] at ho109 ⊢
          cbv;try simp only[ArKc4]
          repeat((first|refine R6 ?_|refine A6 ?_);cbv;try simp only[ArKc4])
          obtain rfl:=SI ho109
          simp only [Sum.elim_inr] at ho103
          obtain rfl:=SI ho103
          simp only [Sum.elim_inr] at hs89
          obtain rfl:=SI hs89
          replace ho56:=congrArg some (es89 _ rfl)
          obtain rfl:=SI ho56
          simp only [Sum.elim_inr] at h
          obtain rfl:=SI h
          (try simp only [Z0]);exact LeV.to rfl (LeF.rfl' _)
         ·rename_i q124;simp only [q124,cond_false] at ho109 ⊢
          cbv;try simp only[ArKc4]
          repeat((first|refine R6 ?_|refine A6 ?_);cbv;try simp only[ArKc4])
          obtain rfl:=SI ho109
          refine ⟨_,rfl,?_⟩;first|rfl|(simp only[Z0];rfl)
        ·rename_i q125;simp only [q125,cond_false] at ho109 ⊢
         cbv;try simp only[ArKc4]
         repeat((first|refine R6 ?_|refine A6 ?_);cbv;try simp only[ArKc4])
         obtain rfl:=SI ho109
         refine ⟨_,rfl,?_⟩;first|rfl|(simp only[Z0];rfl)
     ·rintro a110 rfl
      clear ho109
      simp only [Sum.elim_inl] at ho103
      obtain⟨a110_0,a110_1,a110_2⟩:=a110
      try dsimp only at ho103
      cbv;try simp only[ArKc4]
      repeat((first|refine R6 ?_|refine A6 ?_);cbv;try simp only[ArKc4])
      refine LoopR (σ:=Int) ho103 [0,3,4,19,20,21,22,23,24,25,28,29,30,43] [] (fun a=>[(4,.i .i64 a)]) (fun a=>[]) (by first|rfl|(simp only[Z0];rfl)) fun _ s115 xs115 hs115 bs115 es115=>?_
      cbv;try simp only[ArKc4]
      repeat((first|refine R6 ?_|refine A6 ?_);cbv;try simp only[ArKc4])
      split
      ·rename_i q119;simp only [q119,cond_true] at hs115 ⊢
       cbv;try simp only[ArKc4]
       repeat((first|refine R6 ?_|refine A6 ?_);cbv;try simp only[ArKc4])
       obtain⟨y116,hy116,hs115⟩:=bnd_out hs115
       refine ⟨gt_in hy116,?_⟩
       repeat((first|refine R6 ?_|refine A6 ?_);cbv;try simp only[ArKc4])
       refine ⟨_,gt_at _ hy116,?_⟩
       cbv;try simp only[ArKc4]
       repeat((first|refine R6 ?_|refine A6 ?_);cbv;try simp only[ArKc4])
       obtain⟨y117,hy117,hs115⟩:=bnd_out hs115
       refine ⟨gt_in hy117,?_⟩
       repeat((first|refine R6 ?_|refine A6 ?_);cbv;try simp only[ArKc4])
       refine ⟨_,gt_at _ hy117,?_⟩
       cbv;try simp only[ArKc4]
       repeat((first|refine R6 ?_|refine A6 ?_);cbv;try simp only[ArKc4])
       split
       ·rename_i q118;simp only [q118,cond_true] at hs115 ⊢
        cbv;try simp only[ArKc4]
        repeat((first|refine R6 ?_|refine A6 ?_);cbv;try simp only[ArKc4])
        obtain rfl:=SI hs115
        replace ho103:=congrArg some (es115 _ rfl)
        obtain rfl:=SI ho103
        simp only [Sum.elim_inr] at hs89
        obtain rfl:=SI hs89
        replace ho56:=congrArg some (es89 _ rfl)
        obtain rfl:=SI ho56
        simp only [Sum.elim_inr] at h
        obtain rfl:=SI h
        (try simp only [Z0]);exact LeV.to rfl (LeF.rfl' _)
       ·rename_i q118;simp only [q118,cond_false] at hs115 ⊢
        cbv;try simp only[ArKc4]
        repeat((first|refine R6 ?_|refine A6 ?_);cbv;try simp only[ArKc4])
        obtain rfl:=SI hs115
        refine ⟨_,bs115 _ rfl,?_⟩;first|rfl|(simp only[Z0];rfl)
      ·rename_i q119;simp only [q119,cond_false] at hs115 ⊢
       cbv;try simp only[ArKc4]
       repeat((first|refine R6 ?_|refine A6 ?_);cbv;try simp only[ArKc4])
       obtain rfl:=SI hs115
       replace ho103:=congrArg some (es115 _ rfl)
       obtain rfl:=SI ho103
       refine ⟨_,rfl,?_⟩;first|rfl|(simp only[Z0];rfl)
    ·rintro a104 rfl
     clear ho103
     simp only [Sum.elim_inl] at hs89
     obtain⟨a104_0,a104_1,a104_2⟩:=a104
     try dsimp only at hs89
     cbv;try simp only[ArKc4]
     repeat((first|refine R6 ?_|refine A6 ?_);cbv;try simp only[ArKc4])
     obtain rfl:=SI hs89
     refine ⟨_,bs89 _ rfl,?_⟩;first|rfl|(simp only[Z0];rfl)
   ·rename_i q126;simp only [q126,cond_false] at hs89 ⊢
    cbv;try simp only[ArKc4]
    repeat((first|refine R6 ?_|refine A6 ?_);cbv;try simp only[ArKc4])
    obtain rfl:=SI hs89
    replace ho56:=congrArg some (es89 _ rfl)
    obtain rfl:=SI ho56
    refine ⟨_,rfl,?_⟩;first|rfl|(simp only[Z0];rfl)
  ·rintro a57 rfl
   clear ho56
   simp only [Sum.elim_inl] at h
   cbv;try simp only[ArKc4]
   repeat((first|refine R6 ?_|refine A6 ?_);cbv;try simp only[ArKc4])
   obtain⟨r59,hr59,h⟩:=bnd_out h
   refine CallK.introE rfl rfl (r_sDirText hr59) ?_
   clear hr59
   cbv;try simp only[ArKc4]
   repeat((first|refine R6 ?_|refine A6 ?_);cbv;try simp only[ArKc4])
   obtain rfl:=SI h
   (try simp only [Z0]);exact LeV.to rfl (LeF.rfl' _)
theorem r_sDirOf{a0:List UInt8}{r:(List EntryD) × Bool}(h:sDirOf a0=some r):Ret pg 152 true [.s a0] [] (.tu [.sl .own 2 (rows entryR r.1),.b r.2]):=by
  unfold sDirOf at h
  refine retD 8 3 [] (.s .o (.s .o (.s .o (.s .o (.k .o .o))))) Tryz.func152 rfl (by decide +kernel) (by decide +kernel) rfl ⟨⟨rfl,own_entryS _⟩,trivial,trivial⟩ ?_
  cbv;try simp only[ArKc4]
  repeat((first|refine R6 ?_|refine A6 ?_);cbv;try simp only[ArKc4])
  obtain⟨c24,h⟩:=ck_out h
  refine ⟨c24,?_⟩
  repeat((first|refine R6 ?_|refine A6 ?_);cbv;try simp only[ArKc4])
  obtain⟨o10,ho10,h⟩:=bnd_out h
  refine CutK.intro (α:=(List EntryD)) [4] [] (fun a=>[(4,.sl .own 2 (rows entryR a))]) (fun a=>[]) (fun a=>(Sum.inl a:_ ⊕ _)=o10) ?_ ?_
  ·cbv;try simp only[ArKc4]
   repeat((first|refine R6 ?_|refine A6 ?_);cbv;try simp only[ArKc4])
   refine LoopR (σ:=(List EntryD) × Int) ho10 [4,5,6] [] (fun a=>[(4,.sl .own 2 (rows entryR a.1)),(6,.i .i64 a.2)]) (fun a=>[]) (by first|rfl|(simp only[Z0];rfl)) fun _ s19 xs19 hs19 bs19 es19=>?_
   obtain⟨s19_0,s19_1⟩:=s19
   try dsimp only at hs19
   cbv;try simp only[ArKc4]
   repeat((first|refine R6 ?_|refine A6 ?_);cbv;try simp only[ArKc4])
   split
   ·rename_i q23;simp only [q23,cond_true] at hs19 ⊢
    cbv;try simp only[ArKc4]
    repeat((first|refine R6 ?_|refine A6 ?_);cbv;try simp only[ArKc4])
    obtain⟨r20,hr20,hs19⟩:=bnd_out hs19
    refine CallK.introE rfl rfl (r_sGetText hr20) ?_
    obtain⟨r20_0,r20_1,r20_2⟩:=r20
    try dsimp only at hs19
    clear hr20
    cbv;try simp only[ArKc4]
    repeat((first|refine R6 ?_|refine A6 ?_);cbv;try simp only[ArKc4])
    cases r20_2
    ·simp only [cond_false] at hs19
     cbv;try simp only[ArKc4]
     repeat((first|refine R6 ?_|refine A6 ?_);cbv;try simp only[ArKc4])
     obtain rfl:=SI hs19
     replace ho10:=congrArg some (es19 _ rfl)
     obtain rfl:=SI ho10
     simp only [Sum.elim_inr] at h
     obtain rfl:=SI h
     (try simp only [Z0]);exact LeV.to rfl (LeF.rfl' _)
    ·simp only [cond_true] at hs19
     cbv;try simp only[ArKc4]
     repeat((first|refine R6 ?_|refine A6 ?_);cbv;try simp only[ArKc4])
     obtain⟨r21,hr21,hs19⟩:=bnd_out hs19
     refine CallK.introE rfl rfl (r_sGetNum hr21) ?_
     obtain⟨r21_0,r21_1,r21_2⟩:=r21
     try dsimp only at hs19
     clear hr21
     cbv;try simp only[ArKc4]
     repeat((first|refine R6 ?_|refine A6 ?_);cbv;try simp only[ArKc4])
     cases r21_2
     ·simp only [cond_false] at hs19
      cbv;try simp only[ArKc4]
      repeat((first|refine R6 ?_|refine A6 ?_);cbv;try simp only[ArKc4])
      obtain rfl:=SI hs19
      replace ho10:=congrArg some (es19 _ rfl)
      obtain rfl:=SI ho10
      simp only [Sum.elim_inr] at h
      obtain rfl:=SI h
      (try simp only [Z0]);exact LeV.to rfl (LeF.rfl' _)
     ·simp only [cond_true] at hs19
      cbv;try simp only[ArKc4]
      repeat((first|refine R6 ?_|refine A6 ?_);cbv;try simp only[ArKc4])
      obtain⟨c22,hs19⟩:=ck_out hs19
      refine ⟨c22,?_⟩
      repeat((first|refine R6 ?_|refine A6 ?_);cbv;try simp only[ArKc4])
      obtain rfl:=SI hs19
      refine ⟨_,bs19 _ rfl,?_⟩;first|rfl|(simp only[Z0];rfl)
   ·rename_i q23;simp only [q23,cond_false] at hs19 ⊢
    cbv;try simp only[ArKc4]
    repeat((first|refine R6 ?_|refine A6 ?_);cbv;try simp only[ArKc4])
    obtain rfl:=SI hs19
    replace ho10:=congrArg some (es19 _ rfl)
    obtain rfl:=SI ho10
    refine ⟨_,rfl,?_⟩;first|rfl|(simp only[Z0];rfl)
  ·rintro a11 rfl
   clear ho10
   simp only [Sum.elim_inl] at h
   cbv;try simp only[ArKc4]
   repeat((first|refine R6 ?_|refine A6 ?_);cbv;try simp only[ArKc4])
   obtain⟨r14,hr14,h⟩:=bnd_out h
   refine CallK.introE rfl rfl (r_sEntriesOk hr14) ?_
   clear hr14
   cbv;try simp only[ArKc4]
   repeat((first|refine R6 ?_|refine A6 ?_);cbv;try simp only[ArKc4])
   cases r14
   ·simp only [cond_false] at h
    cbv;try simp only[ArKc4]
    repeat((first|refine R6 ?_|refine A6 ?_);cbv;try simp only[ArKc4])
    obtain rfl:=SI h
    (try simp only [Z0]);exact LeV.to rfl (LeF.rfl' _)
   ·simp only [cond_true] at h
    cbv;try simp only[ArKc4]
    repeat((first|refine R6 ?_|refine A6 ?_);cbv;try simp only[ArKc4])
    obtain rfl:=SI h
    (try simp only [Z0]);exact LeV.to rfl (LeF.rfl' _)
theorem r_sl9Dir{a0:FsD}{a1:Int}{r:(List EntryD) × Bool}(h:sl9Dir a0 a1=some r):Ret pg 115 true [.ag (fsC a0),.i .i64 a1] [] (.tu [.sl .own 2 (rows entryR r.1),.b r.2]):=by
  unfold sl9Dir at h
  refine retD 1000 1000 [] .o Tryz.func115 rfl (by decide +kernel) (by decide +kernel) rfl ⟨⟨rfl,own_entryS _⟩,trivial,trivial⟩ ?_
  cbv;try simp only[ArKc7]
  obtain⟨y3,hy3,h⟩:=bnd_out h
  refine ⟨gt_in hy3,?_⟩
  refine ⟨_,gt_at _ hy3,?_⟩
  cbv;try simp only[ArKc7]
  split
  ·rename_i q8;simp only [q8,cond_true] at h ⊢
   cbv;try simp only[ArKc7]
   obtain rfl:=SI h
   (try simp only [Z0]);exact LeV.to rfl (LeF.rfl' _)
  ·rename_i q8;simp only [q8,cond_false] at h ⊢
   cbv;try simp only[ArKc7]
   obtain⟨r6,hr6,h⟩:=bnd_out h
   refine CallK.introE rfl rfl (r_sl7Read hr6) ?_
   clear hr6
   cbv;try simp only[ArKc7]
   obtain⟨r7,hr7,h⟩:=bnd_out h
   refine CallK.introE rfl rfl (r_sDirOf hr7) ?_
   obtain⟨r7_0,r7_1⟩:=r7
   try dsimp only at h
   clear hr7
   cbv;try simp only[ArKc7]
   obtain rfl:=SI h
   (try simp only [Z0]);exact LeV.to rfl (LeF.rfl' _)
theorem r_sl9Seen{a0:FsD}{a1:Int}{a2:Int}{a3:List Int}{r:(List Int) × Bool}(h0:sl9Seen a0 a1 a2 a3=some r):Ret pg 103 true [.ag (fsC a0),.i .i64 a1,.i .i64 a2,.sl .shr 1 (rows intR a3)] [] (.tu [.sl .own 1 (rows intR r.1),.b r.2]):=by
  obtain⟨m,h0⟩:=rc_out h0
  have key:∀ (n:Nat) {a0:FsD} {a1:Int} {a2:Int} {a3:List Int} {r:(List Int) × Bool} (h:sl9SeenN n a0 a1 a2 a3=some r),Ret pg 103 true [.ag (fsC a0),.i .i64 a1,.i .i64 a2,.sl .shr 1 (rows intR a3)] [] (.tu [.sl .own 1 (rows intR r.1),.b r.2]):=by
    intro n;clear h0;induction n with
    | zero=>intros;rename_i h;cases h
    | succ n ih=>?_
    intro a0 a1 a2 a3 r h
    rw [sl9SeenN] at h
    refine retD 1000 1000 [] (.s .o (.s .o (.s .o (.s .o (.s .o (.s .o (.s .o (.k (.s .o (.s (.s (.s .o (.s (.s (.s .o (.s .o (.k .o .o))) .o) .o)) .o) .o)) .o)))))))) Tryz.func103 rfl (by decide +kernel) (by decide +kernel) rfl ⟨⟨rfl,own_intS _⟩,trivial,trivial⟩ ?_
    cbv;try simp only[ArKc7]
    obtain⟨c60,h⟩:=ck_out h
    refine ⟨c60,?_⟩
    obtain⟨y2,hy2,h⟩:=bnd_out h
    refine ⟨gt_in hy2,?_⟩
    refine ⟨_,gt_at _ hy2,?_⟩
    cbv;try simp only[ArKc7]
    refine ⟨gt_in hy2,?_⟩
    refine ⟨_,gt_at _ hy2,?_⟩
    cbv;try simp only[ArKc7]
    refine ⟨gt_in (gt_sl hy2),?_⟩
    refine ⟨_,gt_at _ (gt_sl hy2),?_⟩
    cbv;try simp only[ArKc7]
    split
    ·rename_i q59;simp only [q59,cond_true] at h ⊢
     cbv;try simp only[ArKc7]
     obtain rfl:=SI h
     (try simp only [Z0]);exact LeV.to rfl (LeF.rfl' _)
    ·rename_i q59;simp only [q59,cond_false] at h ⊢
     cbv;try simp only[ArKc7]
     split
     ·rename_i q58;simp only [q58,cond_true] at h ⊢
      cbv;try simp only[ArKc7]
      obtain rfl:=SI h
      (try simp only [Z0]);exact LeV.to rfl (LeF.rfl' _)
     ·rename_i q58;simp only [q58,cond_false] at h ⊢
      cbv;try simp only[ArKc7]
      obtain⟨y5,hy5,h⟩:=bnd_out h
      refine ⟨gt_in hy5,?_⟩
      refine ⟨_,gt_at _ hy5,?_⟩
      cbv;try simp only[ArKc7]
      split
      ·rename_i q57;simp only [q57,cond_true] at h ⊢
       cbv;try simp only[ArKc7]
       obtain rfl:=SI h
       (try simp only [Z0]);exact LeV.to rfl (LeF.rfl' _)
      ·rename_i q57;simp only [q57,cond_false] at h ⊢
       cbv;try simp only[ArKc7]
       obtain⟨r7,hr7,h⟩:=bnd_out h
       refine CallK.introE rfl rfl (r_sl9Dir hr7) ?_
       obtain⟨r7_0,r7_1⟩:=r7
       try dsimp only at h
       clear hr7
       cbv;try simp only[ArKc7]
       cases r7_1
       ·simp only [cond_false] at h
        cbv;try simp only[ArKc7]
        obtain rfl:=SI h
        (try simp only [Z0]);exact LeV.to rfl (LeF.rfl' _)
       ·simp only [cond_true] at h
        cbv;try simp only[ArKc7]
        obtain⟨o33,ho33,h⟩:=bnd_out h
        refine CutK.intro (α:=(List Int)) [10] [] (fun a=>[(10,.sl .own 1 (rows intR a))]) (fun a=>[]) (fun a=>(Sum.inl a:_ ⊕ _)=o33) ?_ ?_
        ·cbv;try simp only[ArKc7]
         refine LoopR (σ:=(List Int) × Int) ho33 [1,2,4,10,11,13] [4] (fun a=>[(10,.sl .own 1 (rows intR a.1)),(13,.i .i64 a.2)]) (fun a=>[]) (by first|rfl|(simp only[Z0];rfl)) fun _ s45 xs45 hs45 bs45 es45=>?_
         obtain⟨s45_0,s45_1⟩:=s45
         try dsimp only at hs45
         cbv;try simp only[ArKc7]
         split
         ·rename_i q56;simp only [q56,cond_true] at hs45 ⊢
          cbv;try simp only[ArKc7]
          obtain⟨y46,hy46,hs45⟩:=bnd_out hs45
          refine ⟨gt_in hy46,?_⟩
          refine ⟨_,gt_at _ hy46,?_⟩
          cbv;try simp only[ArKc7]
          split
          ·rename_i q55;simp only [q55,cond_true] at hs45 ⊢
           cbv;try simp only[ArKc7]
           obtain rfl:=SI hs45
           replace ho33:=congrArg some (es45 _ rfl)
           obtain rfl:=SI ho33
           simp only [Sum.elim_inr] at h
           obtain rfl:=SI h
           (try simp only [Z0]);exact LeV.to rfl (LeF.rfl' _)
          ·rename_i q55;simp only [q55,cond_false] at hs45 ⊢
           cbv;try simp only[ArKc7]
           obtain⟨y47,hy47,hs45⟩:=bnd_out hs45
           refine ⟨gt_in hy47,?_⟩
           refine ⟨_,gt_at _ hy47,?_⟩
           cbv;try simp only[ArKc7]
           split
           ·rename_i q54;simp only [q54,cond_true] at hs45 ⊢
            cbv;try simp only[ArKc7]
            obtain rfl:=SI hs45
            replace ho33:=congrArg some (es45 _ rfl)
            obtain rfl:=SI ho33
            simp only [Sum.elim_inr] at h
            obtain rfl:=SI h
            (try simp only [Z0]);exact LeV.to rfl (LeF.rfl' _)
           ·rename_i q54;simp only [q54,cond_false] at hs45 ⊢
            cbv;try simp only[ArKc7]
            obtain⟨o48,ho48,hs45⟩:=bnd_out hs45
            refine CutK.intro (α:=Unit) [1,2,4,10,11,13,14,72,73,74,75,76,77,78] [4] (fun a=>[]) (fun a=>[]) (fun a=>(Sum.inl a:_ ⊕ _)=o48) ?_ ?_
            ·cbv;try simp only[ArKc7]
             refine ⟨gt_in hy46,?_⟩
             refine ⟨_,gt_at _ hy46,?_⟩
             cbv;try simp only[ArKc7]
             split
             ·rename_i q53;simp only [q53,cond_true] at ho48 ⊢
              cbv;try simp only[ArKc7]
              split
              ·rename_i q52;simp only [q52,cond_true] at ho48 ⊢
               cbv;try simp only[ArKc7]
               obtain rfl:=SI ho48
               simp only [Sum.elim_inr] at hs45
               obtain rfl:=SI hs45
               replace ho33:=congrArg some (es45 _ rfl)
               obtain rfl:=SI ho33
               simp only [Sum.elim_inr] at h
               obtain rfl:=SI h
               (try simp only [Z0]);exact LeV.to rfl (LeF.rfl' _)
              ·rename_i q52;simp only [q52,cond_false] at ho48 ⊢
               cbv;try simp only[ArKc7]
               refine ⟨gt_in hy47,?_⟩
               refine ⟨_,gt_at _ hy47,?_⟩
               cbv;try simp only[ArKc7]
               split
               ·rename_i q51;simp only [q51,cond_true] at ho48 ⊢
                cbv;try simp only[ArKc7]
                obtain rfl:=SI ho48
                simp only [Sum.elim_inr] at hs45
                obtain rfl:=SI hs45
                replace ho33:=congrArg some (es45 _ rfl)
                obtain rfl:=SI ho33
                simp only [Sum.elim_inr] at h
                obtain rfl:=SI h
                (try simp only [Z0]);exact LeV.to rfl (LeF.rfl' _)
               ·rename_i q51;simp only [q51,cond_false] at ho48 ⊢
                cbv;try simp only[ArKc7]
                obtain rfl:=SI ho48
                refine ⟨_,rfl,?_⟩;first|rfl|(simp only[Z0];rfl)
             ·rename_i q53;simp only [q53,cond_false] at ho48 ⊢
              cbv;try simp only[ArKc7]
              obtain rfl:=SI ho48
              refine ⟨_,rfl,?_⟩;first|rfl|(simp only[Z0];rfl)
            ·rintro a49 rfl
             clear ho48
             simp only [Sum.elim_inl] at hs45
             cbv;try simp only[ArKc7]
             obtain⟨r50,hr50,hs45⟩:=bnd_out hs45
             refine CallK.introE rfl rfl (ih hr50) ?_
             obtain⟨r50_0,r50_1⟩:=r50
             try dsimp only at hs45
             clear hr50
             cbv;try simp only[ArKc7]
             cases r50_1
             ·simp only [cond_false] at hs45
              cbv;try simp only[ArKc7]
              obtain rfl:=SI hs45
              replace ho33:=congrArg some (es45 _ rfl)
              obtain rfl:=SI ho33
              simp only [Sum.elim_inr] at h
              obtain rfl:=SI h
              (try simp only [Z0]);exact LeV.to rfl (LeF.rfl' _)
             ·simp only [cond_true] at hs45
              cbv;try simp only[ArKc7]
              obtain rfl:=SI hs45
              refine ⟨_,bs45 _ rfl,?_⟩;first|rfl|(simp only[Z0];rfl)
         ·rename_i q56;simp only [q56,cond_false] at hs45 ⊢
          cbv;try simp only[ArKc7]
          obtain rfl:=SI hs45
          replace ho33:=congrArg some (es45 _ rfl)
          obtain rfl:=SI ho33
          refine ⟨_,rfl,?_⟩;first|rfl|(simp only[Z0];rfl)
        ·rintro a34 rfl
         clear ho33
         simp only [Sum.elim_inl] at h
         cbv;try simp only[ArKc7]
         obtain rfl:=SI h
         (try simp only [Z0]);exact LeV.to rfl (LeF.rfl' _)
  exact key m h0
theorem r_sFsOk{a0:FsD}{r:Bool}(h:sFsOk a0=some r):Ret pg 65 true [.ag (fsC a0)] [] (.b r):=by
  unfold sFsOk at h
  refine retD 8 3 [(3,[⟨false,[11,12,13,14],[10]⟩,⟨false,[10],[11]⟩,⟨false,[10],[12]⟩,⟨false,[10],[13]⟩,⟨false,[10],[14]⟩,⟨true,[],[15]⟩,⟨true,[],[15,9]⟩,⟨true,[],[9,16]⟩,⟨true,[],[9,17]⟩,⟨true,[],[3]⟩,⟨true,[],[4]⟩]),(9,[⟨true,[],[27]⟩,⟨true,[],[28]⟩,⟨false,[32,33,34,35,36,37,38],[29]⟩,⟨false,[32,33,34,35,36,37,38],[30]⟩,⟨false,[32,33,34,35,36,37,38],[31]⟩,⟨false,[29,30,31],[32]⟩,⟨false,[29,30,31,34],[33]⟩,⟨false,[29,30,31,33],[34]⟩,⟨false,[29,30,31],[35]⟩,⟨false,[29,30,31],[36]⟩,⟨false,[29,30,31],[37]⟩,⟨false,[29,30,31],[38]⟩,⟨true,[],[39]⟩])] (.s .o (.s .o (.s .o (.s .o (.k .o .o))))) Tryz.func65 rfl (by decide +kernel) (by decide +kernel) rfl trivial ?_
  cbv;try simp only[ArKc1]
  repeat((first|refine R6 ?_|refine A6 ?_);cbv;try simp only[ArKc1])
  obtain⟨r3,hr3,h⟩:=bnd_out h
  refine CallK.introE rfl rfl (r_sShapeOk hr3) ?_
  clear hr3
  cbv;try simp only[ArKc1]
  repeat((first|refine R6 ?_|refine A6 ?_);cbv;try simp only[ArKc1])
  cases r3
  ·simp only [cond_false] at h
   cbv;try simp only[ArKc1]
   repeat((first|refine R6 ?_|refine A6 ?_);cbv;try simp only[ArKc1])
   obtain rfl:=SI h
   (try simp only [Z0]);exact LeV.to rfl (LeF.rfl' _)
  ·simp only [cond_true] at h
   cbv;try simp only[ArKc1]
   repeat((first|refine R6 ?_|refine A6 ?_);cbv;try simp only[ArKc1])
   obtain⟨c31,h⟩:=ck_out h
   refine ⟨c31,?_⟩
   repeat((first|refine R6 ?_|refine A6 ?_);cbv;try simp only[ArKc1])
   obtain⟨c30,h⟩:=ck_out h
   refine ⟨c30,?_⟩
   repeat((first|refine R6 ?_|refine A6 ?_);cbv;try simp only[ArKc1])
   obtain⟨r5,hr5,h⟩:=bnd_out h
   refine CallK.introE rfl rfl (r_sl9Seen hr5) ?_
   obtain⟨r5_0,r5_1⟩:=r5
   try dsimp only at h
   clear hr5
   cbv;try simp only[ArKc1]
   repeat((first|refine R6 ?_|refine A6 ?_);cbv;try simp only[ArKc1])
   cases r5_1
   ·simp only [cond_false] at h
    cbv;try simp only[ArKc1]
    repeat((first|refine R6 ?_|refine A6 ?_);cbv;try simp only[ArKc1])
    obtain rfl:=SI h
    (try simp only [Z0]);exact LeV.to rfl (LeF.rfl' _)
   ·simp only [cond_true] at h
    cbv;try simp only[ArKc1]
    repeat((first|refine R6 ?_|refine A6 ?_);cbv;try simp only[ArKc1])
    obtain⟨o17,ho17,h⟩:=bnd_out h
    refine CutK.intro (α:=Unit) [] [] (fun a=>[]) (fun a=>[]) (fun a=>(Sum.inl a:_ ⊕ _)=o17) ?_ ?_
    ·cbv;try simp only[ArKc1]
     repeat((first|refine R6 ?_|refine A6 ?_);cbv;try simp only[ArKc1])
     refine LoopR (σ:=Int) ho17 [1,3,5] [1] (fun a=>[(5,.i .i64 a)]) (fun a=>[]) (by first|rfl|(simp only[Z0];rfl)) fun _ s23 xs23 hs23 bs23 es23=>?_
     cbv;try simp only[ArKc1]
     repeat((first|refine R6 ?_|refine A6 ?_);cbv;try simp only[ArKc1])
     split
     ·rename_i q29;simp only [q29,cond_true] at hs23 ⊢
      cbv;try simp only[ArKc1]
      repeat((first|refine R6 ?_|refine A6 ?_);cbv;try simp only[ArKc1])
      obtain⟨y24,hy24,hs23⟩:=bnd_out hs23
      refine ⟨gt_in hy24,?_⟩
      repeat((first|refine R6 ?_|refine A6 ?_);cbv;try simp only[ArKc1])
      refine ⟨_,gt_at _ hy24,?_⟩
      cbv;try simp only[ArKc1]
      repeat((first|refine R6 ?_|refine A6 ?_);cbv;try simp only[ArKc1])
      obtain⟨y25,hy25,hs23⟩:=bnd_out hs23
      refine ⟨gt_in hy25,?_⟩
      repeat((first|refine R6 ?_|refine A6 ?_);cbv;try simp only[ArKc1])
      refine ⟨_,gt_at _ hy25,?_⟩
      cbv;try simp only[ArKc1]
      repeat((first|refine R6 ?_|refine A6 ?_);cbv;try simp only[ArKc1])
      rcases beq (icmp .eql y24 1) with q28 | q28
      ·simp only [q28,cond_true] at hs23 ⊢
       cbv;try simp only[ArKc1]
       repeat((first|refine R6 ?_|refine A6 ?_);cbv;try simp only[ArKc1])
       rcases beq (icmp .neq y25.kind 0) with q26 | q26
       ·simp only [q26,cond_true] at hs23 ⊢
        cbv;try simp only[ArKc1]
        repeat((first|refine R6 ?_|refine A6 ?_);cbv;try simp only[ArKc1])
        obtain rfl:=SI hs23
        refine ⟨_,bs23 _ rfl,?_⟩;first|rfl|(simp only[Z0];rfl)
       ·simp only [q26,cond_false] at hs23 ⊢
        cbv;try simp only[ArKc1]
        repeat((first|refine R6 ?_|refine A6 ?_);cbv;try simp only[ArKc1])
        obtain rfl:=SI hs23
        replace ho17:=congrArg some (es23 _ rfl)
        obtain rfl:=SI ho17
        simp only [Sum.elim_inr] at h
        obtain rfl:=SI h
        (try simp only [Z0]);exact LeV.to rfl (LeF.rfl' _)
      ·simp only [q28,cond_false] at hs23 ⊢
       cbv;try simp only[ArKc1]
       repeat((first|refine R6 ?_|refine A6 ?_);cbv;try simp only[ArKc1])
       rcases beq (icmp .neq y25.kind 0) with q27 | q27
       ·simp only [q27,cond_true] at hs23 ⊢
        cbv;try simp only[ArKc1]
        repeat((first|refine R6 ?_|refine A6 ?_);cbv;try simp only[ArKc1])
        obtain rfl:=SI hs23
        replace ho17:=congrArg some (es23 _ rfl)
        obtain rfl:=SI ho17
        simp only [Sum.elim_inr] at h
        obtain rfl:=SI h
        (try simp only [Z0]);exact LeV.to rfl (LeF.rfl' _)
       ·simp only [q27,cond_false] at hs23 ⊢
        cbv;try simp only[ArKc1]
        repeat((first|refine R6 ?_|refine A6 ?_);cbv;try simp only[ArKc1])
        obtain rfl:=SI hs23
        refine ⟨_,bs23 _ rfl,?_⟩;first|rfl|(simp only[Z0];rfl)
     ·rename_i q29;simp only [q29,cond_false] at hs23 ⊢
      cbv;try simp only[ArKc1]
      repeat((first|refine R6 ?_|refine A6 ?_);cbv;try simp only[ArKc1])
      obtain rfl:=SI hs23
      replace ho17:=congrArg some (es23 _ rfl)
      obtain rfl:=SI ho17
      refine ⟨_,rfl,?_⟩;first|rfl|(simp only[Z0];rfl)
    ·rintro a18 rfl
     clear ho17
     simp only [Sum.elim_inl] at h
     cbv;try simp only[ArKc1]
     repeat((first|refine R6 ?_|refine A6 ?_);cbv;try simp only[ArKc1])
     obtain rfl:=SI h
     (try simp only [Z0]);exact LeV.to rfl (LeF.rfl' _)
end Go.Ar
