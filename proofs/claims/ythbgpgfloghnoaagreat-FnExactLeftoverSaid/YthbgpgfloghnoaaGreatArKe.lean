import Derived.Test.YthbgpgfloghnoaaGreatArKD
import Derived.Test.YthbgpgfloghnoaaGreatArDcN
import Derived.Test.YthbgpgfloghnoaaGreatArDcO
import Derived.Test.YthbgpgfloghnoaaGreatArSf
import Derived.Test.YthbgpgfloghnoaaGreatArKa
import Derived.Test.YthbgpgfloghnoaaGreatArKc
namespace Go.Ar
open Go.Proofs
set_option linter.unusedVariables false
set_option linter.unusedSimpArgs false
set_option maxRecDepth 20000
set_option maxHeartbeats 40000000
theorem ArKe1:type_of% (And.intro @F (And.intro @F2 @N0)):=⟨@F,@F2,@N0⟩
theorem ArKe2:type_of% (And.intro @F (And.intro @F2 (And.intro @N0 @N_Entry))):=⟨@F,@F2,@N0,@N_Entry⟩
theorem ArKe3:type_of% (And.intro @F (And.intro @F2 (And.intro @N0 (And.intro @N_Entry (And.intro @N_Node @N_String))))):=⟨@F,@F2,@N0,@N_Entry,@N_Node,@N_String⟩
theorem ArKe4:type_of% (And.intro @F (And.intro @F2 (And.intro @N0 (And.intro @N_Node @N_String)))):=⟨@F,@F2,@N0,@N_Node,@N_String⟩
theorem ArKe5:type_of% (And.intro @F (And.intro @F2 (And.intro @N0 @N_String))):=⟨@F,@F2,@N0,@N_String⟩
theorem ArKe6:type_of% (And.intro @F (And.intro @F2 (And.intro @N0 (And.intro @N_Entry (And.intro @N_Int (And.intro @N_Item (And.intro @N_Node @N_String))))))):=⟨@F,@F2,@N0,@N_Entry,@N_Int,@N_Item,@N_Node,@N_String⟩
theorem ArKe7:type_of% (And.intro @F (And.intro @F2 (And.intro @N0 (And.intro @N_Item (And.intro @N_Node @N_String))))):=⟨@F,@F2,@N0,@N_Item,@N_Node,@N_String⟩
theorem ArKe8:type_of% (And.intro @F (And.intro @F2 (And.intro @N0 @N_Item))):=⟨@F,@F2,@N0,@N_Item⟩
theorem r_iplaceOf_1{a0:EntryD}{k1:List UInt8}{r:Bool}(h:iplaceOf_1 a0 k1=some r):Ret pg 186 true [.ag (entryC a0),.pt ⟨.gl 0,[],0⟩] [[.s k1]] (.b r):=by
  unfold iplaceOf_1 at h
  refine retD 1000 1000 [] .o Tryz.func186 rfl (by decide +kernel) (by decide +kernel) rfl trivial ?_
  cbv;try simp only[ArKe1]
  obtain rfl:=SI h
  (try simp only [Z0]);exact LeV.to rfl (LeF.rfl' _)
theorem r_gslices_IndexFunc_Entry_iplaceOf_1{a0:List EntryD}{k1:List UInt8}{r:Int}(h:gslices_IndexFunc_Entry_iplaceOf_1 a0 k1=some r):Ret pg 185 true [.sl .shr 2 (rows entryR a0),.fn 186 [.pt ⟨.gl 0,[],0⟩]] [[.s k1]] (.i .i64 r):=by
  unfold gslices_IndexFunc_Entry_iplaceOf_1 at h
  refine retD 1000 1000 [] (.s .o (.k .o .o)) Tryz.func185 rfl (by decide +kernel) (by decide +kernel) rfl trivial ?_
  cbv;try simp only[ArKe2]
  obtain⟨o12,ho12,h⟩:=bnd_out h
  refine CutK.intro (α:=Unit) [] [] (fun a=>[]) (fun a=>[]) (fun a=>(Sum.inl a:_ ⊕ _)=o12) ?_ ?_
  ·cbv;try simp only[ArKe2]
   refine LoopR (σ:=Int) ho12 [0,1,7,8] [] (fun a=>[(8,.i .i64 a)]) (fun a=>[]) (by first|rfl|(simp only[Z0];rfl)) fun _ s18 xs18 hs18 bs18 es18=>?_
   cbv;try simp only[ArKe2]
   split
   ·rename_i q21;simp only [q21,cond_true] at hs18 ⊢
    cbv;try simp only[ArKe2]
    obtain⟨y19,hy19,hs18⟩:=bnd_out hs18
    refine ⟨gt_in hy19,?_⟩
    refine ⟨_,gt_at _ hy19,?_⟩
    cbv;try simp only[ArKe2]
    obtain⟨r20,hr20,hs18⟩:=bnd_out hs18
    refine CallK.introE rfl rfl (r_iplaceOf_1 hr20) ?_
    clear hr20
    cbv;try simp only[ArKe2]
    cases r20
    ·simp only [cond_false] at hs18
     cbv;try simp only[ArKe2]
     obtain rfl:=SI hs18
     refine ⟨_,bs18 _ rfl,?_⟩;first|rfl|(simp only[Z0];rfl)
    ·simp only [cond_true] at hs18
     cbv;try simp only[ArKe2]
     obtain rfl:=SI hs18
     replace ho12:=congrArg some (es18 _ rfl)
     obtain rfl:=SI ho12
     simp only [Sum.elim_inr] at h
     obtain rfl:=SI h
     (try simp only [Z0]);exact LeV.to rfl (LeF.rfl' _)
   ·rename_i q21;simp only [q21,cond_false] at hs18 ⊢
    cbv;try simp only[ArKe2]
    obtain rfl:=SI hs18
    replace ho12:=congrArg some (es18 _ rfl)
    obtain rfl:=SI ho12
    refine ⟨_,rfl,?_⟩;first|rfl|(simp only[Z0];rfl)
  ·rintro a13 rfl
   clear ho12
   simp only [Sum.elim_inl] at h
   cbv;try simp only[ArKe2]
   obtain rfl:=SI h
   (try simp only [Z0]);exact LeV.to rfl (LeF.rfl' _)
theorem r_iplaceOf{a0:List EntryD}{a1:List UInt8}{r:Int}(h:iplaceOf a0 a1=some r):Ret pg 154 true [.sl .shr 2 (rows entryR a0),.s a1] [] (.i .i64 r):=by
  unfold iplaceOf at h
  refine retD 1000 1000 [] .o Tryz.func154 rfl (by decide +kernel) (by decide +kernel) rfl trivial ?_
  cbv;try simp only[ArKe2]
  obtain⟨r2,hr2,h⟩:=bnd_out h
  refine CallK.introE rfl rfl (r_gslices_IndexFunc_Entry_iplaceOf_1 hr2) ?_
  clear hr2
  cbv;try simp only[ArKe2]
  obtain rfl:=SI h
  (try simp only [Z0]);exact LeV.to rfl (LeF.rfl' _)
theorem r_iDirFind{a0:List EntryD}{a1:List UInt8}{r:Int}(h:iDirFind a0 a1=some r):Ret pg 118 true [.sl .shr 2 (rows entryR a0),.s a1] [] (.i .i64 r):=by
  unfold iDirFind at h
  refine retD 1000 1000 [] .o Tryz.func118 rfl (by decide +kernel) (by decide +kernel) rfl trivial ?_
  cbv;try simp only[ArKe2]
  obtain⟨r2,hr2,h⟩:=bnd_out h
  refine CallK.introE rfl rfl (r_iplaceOf hr2) ?_
  clear hr2
  cbv;try simp only[ArKe2]
  split
  ·rename_i q5;simp only [q5,cond_true] at h ⊢
   cbv;try simp only[ArKe2]
   obtain rfl:=SI h
   (try simp only [Z0]);exact LeV.to rfl (LeF.rfl' _)
  ·rename_i q5;simp only [q5,cond_false] at h ⊢
   cbv;try simp only[ArKe2]
   obtain⟨y4,hy4,h⟩:=bnd_out h
   refine ⟨gt_in hy4,?_⟩
   refine ⟨_,gt_at _ hy4,?_⟩
   cbv;try simp only[ArKe2]
   obtain rfl:=SI h
   (try simp only [Z0]);exact LeV.to rfl (LeF.rfl' _)
theorem r_ihiddenNode{a0:FsD}{r:Int}(h:ihiddenNode a0=some r):Ret pg 81 true [.ag (fsC a0)] [] (.i .i64 r):=by
  unfold ihiddenNode at h
  refine retD 1000 1000 [] .o Tryz.func81 rfl (by decide +kernel) (by decide +kernel) rfl trivial ?_
  cbv;try simp only[ArKe3]
  obtain⟨r3,hr3,h⟩:=bnd_out h
  refine CallK.introE rfl rfl (r_iFsOk hr3) ?_
  clear hr3
  cbv;try simp only[ArKe3]
  cases r3
  ·simp only [cond_false] at h
   cbv;try simp only[ArKe3]
   obtain rfl:=SI h
   (try simp only [Z0]);exact LeV.to rfl (LeF.rfl' _)
  ·simp only [cond_true] at h
   cbv;try simp only[ArKe3]
   obtain⟨r5,hr5,h⟩:=bnd_out h
   refine CallK.introE rfl rfl (r_ientries hr5) ?_
   obtain⟨r5_0,r5_1⟩:=r5
   try dsimp only at h
   clear hr5
   cbv;try simp only[ArKe3]
   obtain⟨r7,hr7,h⟩:=bnd_out h
   refine CallK.introE rfl rfl (r_iDirFind hr7) ?_
   clear hr7
   cbv;try simp only[ArKe3]
   obtain rfl:=SI h
   (try simp only [Z0]);exact LeV.to rfl (LeF.rfl' _)
theorem r_iHiddenOf{a0:FsD}{r:(List UInt8) × Bool}(h:iHiddenOf a0=some r):Ret pg 47 true [.ag (fsC a0)] [] (.tu [.s r.1,.b r.2]):=by
  unfold iHiddenOf at h
  refine retD 1000 1000 [] .o Tryz.func47 rfl (by decide +kernel) (by decide +kernel) rfl ⟨trivial,trivial,trivial⟩ ?_
  cbv;try simp only[ArKe4]
  obtain⟨r2,hr2,h⟩:=bnd_out h
  refine CallK.introE rfl rfl (r_ihiddenNode hr2) ?_
  clear hr2
  cbv;try simp only[ArKe4]
  split
  ·rename_i q5;simp only [q5,cond_true] at h ⊢
   cbv;try simp only[ArKe4]
   obtain rfl:=SI h
   (try simp only [Z0]);exact LeV.to rfl (LeF.rfl' _)
  ·rename_i q5;simp only [q5,cond_false] at h ⊢
   cbv;try simp only[ArKe4]
   obtain⟨r4,hr4,h⟩:=bnd_out h
   refine CallK.introE rfl rfl (r_icontent hr4) ?_
   clear hr4
   cbv;try simp only[ArKe4]
   obtain rfl:=SI h
   (try simp only [Z0]);exact LeV.to rfl (LeF.rfl' _)
theorem r_sDirFind{a0:List EntryD}{a1:List UInt8}{r:Int}(h:sDirFind a0 a1=some r):Ret pg 116 true [.sl .shr 2 (rows entryR a0),.s a1] [] (.i .i64 r):=by
  unfold sDirFind at h
  refine retD 1000 1000 [] (.s .o (.k .o .o)) Tryz.func116 rfl (by decide +kernel) (by decide +kernel) rfl trivial ?_
  cbv;try simp only[ArKe2]
  obtain⟨o7,ho7,h⟩:=bnd_out h
  refine CutK.intro (α:=Unit) [] [] (fun a=>[]) (fun a=>[]) (fun a=>(Sum.inl a:_ ⊕ _)=o7) ?_ ?_
  ·cbv;try simp only[ArKe2]
   refine LoopR (σ:=Int) ho7 [0,1,5] [] (fun a=>[(5,.i .i64 a)]) (fun a=>[]) (by first|rfl|(simp only[Z0];rfl)) fun _ s11 xs11 hs11 bs11 es11=>?_
   cbv;try simp only[ArKe2]
   split
   ·rename_i q14;simp only [q14,cond_true] at hs11 ⊢
    cbv;try simp only[ArKe2]
    obtain⟨y12,hy12,hs11⟩:=bnd_out hs11
    refine ⟨gt_in hy12,?_⟩
    refine ⟨_,gt_at _ hy12,?_⟩
    cbv;try simp only[ArKe2]
    split
    ·rename_i q13;simp only [q13,cond_true] at hs11 ⊢
     cbv;try simp only[ArKe2]
     refine ⟨gt_in hy12,?_⟩
     refine ⟨_,gt_at _ hy12,?_⟩
     cbv;try simp only[ArKe2]
     obtain rfl:=SI hs11
     replace ho7:=congrArg some (es11 _ rfl)
     obtain rfl:=SI ho7
     simp only [Sum.elim_inr] at h
     obtain rfl:=SI h
     (try simp only [Z0]);exact LeV.to rfl (LeF.rfl' _)
    ·rename_i q13;simp only [q13,cond_false] at hs11 ⊢
     cbv;try simp only[ArKe2]
     obtain rfl:=SI hs11
     refine ⟨_,bs11 _ rfl,?_⟩;first|rfl|(simp only[Z0];rfl)
   ·rename_i q14;simp only [q14,cond_false] at hs11 ⊢
    cbv;try simp only[ArKe2]
    obtain rfl:=SI hs11
    replace ho7:=congrArg some (es11 _ rfl)
    obtain rfl:=SI ho7
    refine ⟨_,rfl,?_⟩;first|rfl|(simp only[Z0];rfl)
  ·rintro a8 rfl
   clear ho7
   simp only [Sum.elim_inl] at h
   cbv;try simp only[ArKe2]
   obtain rfl:=SI h
   (try simp only [Z0]);exact LeV.to rfl (LeF.rfl' _)
theorem r_sl9Walk{a0:FsD}{a1:List (List UInt8)}{r:Int}(h:sl9Walk a0 a1=some r):Ret pg 79 true [.ag (fsC a0),.sl .shr 1 (rows strR a1)] [] (.i .i64 r):=by
  unfold sl9Walk at h
  refine retD 1000 1000 [] (.s .o (.s .o (.k .o .o))) Tryz.func79 rfl (by decide +kernel) (by decide +kernel) rfl trivial ?_
  cbv;try simp only[ArKe3]
  obtain⟨o17,ho17,h⟩:=bnd_out h
  refine CutK.intro (α:=Int) [5] [] (fun a=>[(5,.i .i64 a)]) (fun a=>[]) (fun a=>(Sum.inl a:_ ⊕ _)=o17) ?_ ?_
  ·cbv;try simp only[ArKe3]
   refine LoopR (σ:=Int × Int) ho17 [1,2,5,6] [2] (fun a=>[(5,.i .i64 a.1),(6,.i .i64 a.2)]) (fun a=>[]) (by first|rfl|(simp only[Z0];rfl)) fun _ s25 xs25 hs25 bs25 es25=>?_
   obtain⟨s25_0,s25_1⟩:=s25
   try dsimp only at hs25
   cbv;try simp only[ArKe3]
   split
   ·rename_i q30;simp only [q30,cond_true] at hs25 ⊢
    cbv;try simp only[ArKe3]
    obtain⟨r26,hr26,hs25⟩:=bnd_out hs25
    refine CallK.introE rfl rfl (r_sl9Dir hr26) ?_
    obtain⟨r26_0,r26_1⟩:=r26
    try dsimp only at hs25
    clear hr26
    cbv;try simp only[ArKe3]
    cases r26_1
    ·simp only [cond_false] at hs25
     cbv;try simp only[ArKe3]
     obtain rfl:=SI hs25
     replace ho17:=congrArg some (es25 _ rfl)
     obtain rfl:=SI ho17
     simp only [Sum.elim_inr] at h
     obtain rfl:=SI h
     (try simp only [Z0]);exact LeV.to rfl (LeF.rfl' _)
    ·simp only [cond_true] at hs25
     cbv;try simp only[ArKe3]
     obtain⟨y27,hy27,hs25⟩:=bnd_out hs25
     refine ⟨gt_in hy27,?_⟩
     refine ⟨_,gt_at _ hy27,?_⟩
     cbv;try simp only[ArKe3]
     obtain⟨r28,hr28,hs25⟩:=bnd_out hs25
     refine CallK.introE rfl rfl (r_sDirFind hr28) ?_
     clear hr28
     cbv;try simp only[ArKe3]
     split
     ·rename_i q29;simp only [q29,cond_true] at hs25 ⊢
      cbv;try simp only[ArKe3]
      obtain rfl:=SI hs25
      replace ho17:=congrArg some (es25 _ rfl)
      obtain rfl:=SI ho17
      simp only [Sum.elim_inr] at h
      obtain rfl:=SI h
      (try simp only [Z0]);exact LeV.to rfl (LeF.rfl' _)
     ·rename_i q29;simp only [q29,cond_false] at hs25 ⊢
      cbv;try simp only[ArKe3]
      obtain rfl:=SI hs25
      refine ⟨_,bs25 _ rfl,?_⟩;first|rfl|(simp only[Z0];rfl)
   ·rename_i q30;simp only [q30,cond_false] at hs25 ⊢
    cbv;try simp only[ArKe3]
    obtain rfl:=SI hs25
    replace ho17:=congrArg some (es25 _ rfl)
    obtain rfl:=SI ho17
    refine ⟨_,rfl,?_⟩;first|rfl|(simp only[Z0];rfl)
  ·rintro a18 rfl
   clear ho17
   simp only [Sum.elim_inl] at h
   cbv;try simp only[ArKe3]
   obtain rfl:=SI h
   (try simp only [Z0]);exact LeV.to rfl (LeF.rfl' _)
theorem r_sHiddenOf{a0:FsD}{r:(List UInt8) × Bool}(h:sHiddenOf a0=some r):Ret pg 45 true [.ag (fsC a0)] [] (.tu [.s r.1,.b r.2]):=by
  unfold sHiddenOf at h
  refine retD 1000 1000 [] .o Tryz.func45 rfl (by decide +kernel) (by decide +kernel) rfl ⟨trivial,trivial,trivial⟩ ?_
  cbv;try simp only[ArKe4]
  obtain⟨r3,hr3,h⟩:=bnd_out h
  refine CallK.introE rfl rfl (r_sFsOk hr3) ?_
  clear hr3
  cbv;try simp only[ArKe4]
  cases r3
  ·simp only [cond_false] at h
   cbv;try simp only[ArKe4]
   obtain rfl:=SI h
   (try simp only [Z0]);exact LeV.to rfl (LeF.rfl' _)
  ·simp only [cond_true] at h
   cbv;try simp only[ArKe4]
   obtain⟨r5,hr5,h⟩:=bnd_out h
   refine CallK.introE rfl rfl (r_sl9Walk hr5) ?_
   clear hr5
   cbv;try simp only[ArKe4]
   split
   ·rename_i q8;simp only [q8,cond_true] at h ⊢
    cbv;try simp only[ArKe4]
    obtain rfl:=SI h
    (try simp only [Z0]);exact LeV.to rfl (LeF.rfl' _)
   ·rename_i q8;simp only [q8,cond_false] at h ⊢
    cbv;try simp only[ArKe4]
    obtain⟨r7,hr7,h⟩:=bnd_out h
    refine CallK.introE rfl rfl (r_sl7Read hr7) ?_
    clear hr7
    cbv;try simp only[ArKe4]
    obtain rfl:=SI h
    (try simp only [Z0]);exact LeV.to rfl (LeF.rfl' _)
theorem r_iParts{a0:List UInt8}{a1:Int}{r:(List (List UInt8))}(h:iParts a0 a1=some r):Ret pg 123 true [.s a0,.i .u8 a1] [] (.sl .own 1 (rows strR r)):=by
  unfold iParts at h
  refine retD 1000 1000 [] (.s .o (.s .o (.s .o (.k .o .o)))) Tryz.func123 rfl (by decide +kernel) (by decide +kernel) rfl ⟨rfl,own_stringS _⟩ ?_
  cbv;try simp only[ArKe5]
  obtain⟨o2,ho2,h⟩:=bnd_out h
  refine CutK.intro (α:=(List (List UInt8)) × Int) [0,5,6] [] (fun a=>[(5,.sl .own 1 (rows strR a.1)),(6,.i .i64 a.2)]) (fun a=>[]) (fun a=>a=o2) ?_ ?_
  ·cbv;try simp only[ArKe5]
   refine LoopR (σ:=(List (List UInt8)) × Int × Int) ho2 [0,1,5,6,7] [] (fun a=>[(5,.sl .own 1 (rows strR a.1)),(6,.i .i64 a.2.1),(7,.i .i64 a.2.2)]) (fun a=>[]) (by first|rfl|(simp only[Z0];rfl)) fun _ s6 xs6 hs6 bs6 es6=>?_
   obtain⟨s6_0,s6_1,s6_2⟩:=s6
   try dsimp only at hs6
   cbv;try simp only[ArKe5]
   split
   ·rename_i q11;simp only [q11,cond_true] at hs6 ⊢
    cbv;try simp only[ArKe5]
    obtain⟨c10,hs6⟩:=ck_out hs6
    refine ⟨c10,?_⟩
    split
    ·rename_i q9;simp only [q9,cond_true] at hs6 ⊢
     cbv;try simp only[ArKe5]
     obtain⟨c8,hs6⟩:=ck_out hs6
     refine ⟨c8,?_⟩
     obtain⟨c7,hs6⟩:=ck_out hs6
     refine ⟨c7,?_⟩
     obtain rfl:=SI hs6
     refine ⟨_,bs6 _ rfl,?_⟩;first|rfl|(simp only[Z0];rfl)
    ·rename_i q9;simp only [q9,cond_false] at hs6 ⊢
     cbv;try simp only[ArKe5]
     obtain rfl:=SI hs6
     refine ⟨_,bs6 _ rfl,?_⟩;first|rfl|(simp only[Z0];rfl)
   ·rename_i q11;simp only [q11,cond_false] at hs6 ⊢
    cbv;try simp only[ArKe5]
    obtain rfl:=SI hs6
    replace ho2:=congrArg some (es6 _ rfl)
    obtain rfl:=SI ho2
    refine ⟨_,rfl,?_⟩;first|rfl|(simp only[Z0];rfl)
  ·rintro a3 rfl
   clear ho2
   obtain⟨a3_0,a3_1⟩:=a3
   try dsimp only at h
   cbv;try simp only[ArKe5]
   obtain⟨c5,h⟩:=ck_out h
   refine ⟨c5,?_⟩
   obtain⟨c4,h⟩:=ck_out h
   refine ⟨c4,?_⟩
   obtain rfl:=SI h
   (try simp only [Z0]);exact LeV.to rfl (LeF.rfl' _)
theorem r_ireadPath_1{a0:List UInt8}{r:Bool}(h:ireadPath_1 a0=some r):Ret pg 125 true [.s a0] [] (.b r):=by
  unfold ireadPath_1 at h
  refine retD 1000 1000 [] .o Tryz.func125 rfl (by decide +kernel) (by decide +kernel) rfl trivial ?_
  cbv;try simp only[ArKe1]
  obtain⟨r2,hr2,h⟩:=bnd_out h
  refine CallK.introE rfl rfl (r_iNameOk hr2) ?_
  clear hr2
  cbv;try simp only[ArKe1]
  obtain rfl:=SI h
  (try simp only [Z0]);exact LeV.to rfl (LeF.rfl' _)
theorem r_gslices_IndexFunc_string_ireadPath_1{a0:List (List UInt8)}{r:Int}(h:gslices_IndexFunc_string_ireadPath_1 a0=some r):Ret pg 155 true [.sl .shr 1 (rows strR a0),.fn 125 []] [] (.i .i64 r):=by
  unfold gslices_IndexFunc_string_ireadPath_1 at h
  refine retD 1000 1000 [] (.s .o (.k .o .o)) Tryz.func155 rfl (by decide +kernel) (by decide +kernel) rfl trivial ?_
  cbv;try simp only[ArKe5]
  obtain⟨o12,ho12,h⟩:=bnd_out h
  refine CutK.intro (α:=Unit) [] [] (fun a=>[]) (fun a=>[]) (fun a=>(Sum.inl a:_ ⊕ _)=o12) ?_ ?_
  ·cbv;try simp only[ArKe5]
   refine LoopR (σ:=Int) ho12 [0,1,7,8] [] (fun a=>[(8,.i .i64 a)]) (fun a=>[]) (by first|rfl|(simp only[Z0];rfl)) fun _ s18 xs18 hs18 bs18 es18=>?_
   cbv;try simp only[ArKe5]
   split
   ·rename_i q21;simp only [q21,cond_true] at hs18 ⊢
    cbv;try simp only[ArKe5]
    obtain⟨y19,hy19,hs18⟩:=bnd_out hs18
    refine ⟨gt_in hy19,?_⟩
    refine ⟨_,gt_at _ hy19,?_⟩
    cbv;try simp only[ArKe5]
    obtain⟨r20,hr20,hs18⟩:=bnd_out hs18
    refine CallK.introE rfl rfl (r_ireadPath_1 hr20) ?_
    clear hr20
    cbv;try simp only[ArKe5]
    cases r20
    ·simp only [cond_false] at hs18
     cbv;try simp only[ArKe5]
     obtain rfl:=SI hs18
     refine ⟨_,bs18 _ rfl,?_⟩;first|rfl|(simp only[Z0];rfl)
    ·simp only [cond_true] at hs18
     cbv;try simp only[ArKe5]
     obtain rfl:=SI hs18
     replace ho12:=congrArg some (es18 _ rfl)
     obtain rfl:=SI ho12
     simp only [Sum.elim_inr] at h
     obtain rfl:=SI h
     (try simp only [Z0]);exact LeV.to rfl (LeF.rfl' _)
   ·rename_i q21;simp only [q21,cond_false] at hs18 ⊢
    cbv;try simp only[ArKe5]
    obtain rfl:=SI hs18
    replace ho12:=congrArg some (es18 _ rfl)
    obtain rfl:=SI ho12
    refine ⟨_,rfl,?_⟩;first|rfl|(simp only[Z0];rfl)
  ·rintro a13 rfl
   clear ho12
   simp only [Sum.elim_inl] at h
   cbv;try simp only[ArKe5]
   obtain rfl:=SI h
   (try simp only [Z0]);exact LeV.to rfl (LeF.rfl' _)
theorem r_gslices_ContainsFunc_string_ireadPath_1{a0:List (List UInt8)}{r:Bool}(h:gslices_ContainsFunc_string_ireadPath_1 a0=some r):Ret pg 124 true [.sl .shr 1 (rows strR a0),.fn 125 []] [] (.b r):=by
  unfold gslices_ContainsFunc_string_ireadPath_1 at h
  refine retD 1000 1000 [] .o Tryz.func124 rfl (by decide +kernel) (by decide +kernel) rfl trivial ?_
  cbv;try simp only[ArKe5]
  obtain⟨r2,hr2,h⟩:=bnd_out h
  refine CallK.introE rfl rfl (r_gslices_IndexFunc_string_ireadPath_1 hr2) ?_
  clear hr2
  cbv;try simp only[ArKe5]
  obtain rfl:=SI h
  (try simp only [Z0]);exact LeV.to rfl (LeF.rfl' _)
theorem r_ireadPath{a0:List UInt8}{r:(List (List UInt8)) × Bool}(h:ireadPath a0=some r):Ret pg 87 true [.s a0] [] (.tu [.sl .own 1 (rows strR r.1),.b r.2]):=by
  unfold ireadPath at h
  refine retD 1000 1000 [] .o Tryz.func87 rfl (by decide +kernel) (by decide +kernel) rfl ⟨⟨rfl,own_stringS _⟩,trivial,trivial⟩ ?_
  cbv;try simp only[ArKe5]
  split
  ·rename_i q15;simp only [q15,cond_true] at h ⊢
   cbv;try simp only[ArKe5]
   obtain rfl:=SI h
   first | exact LeV.to rfl (LeF.tu (LeFs.c (LeF.nr _ _ _) (LeFs.c (LeF.rfl' _) LeFs.n))) | (simp only [rows_nil,bys_n];exact LeV.to rfl (LeF.tu (LeFs.c (LeF.nr _ _ _) (LeFs.c (LeF.rfl' _) LeFs.n))))
  ·rename_i q15;simp only [q15,cond_false] at h ⊢
   cbv;try simp only[ArKe5]
   obtain⟨r2,hr2,h⟩:=bnd_out h
   refine CallK.introE rfl rfl (r_iParts hr2) ?_
   clear hr2
   cbv;try simp only[ArKe5]
   obtain⟨y7,hy7,h⟩:=bnd_out h
   refine ⟨gt_in hy7,?_⟩
   refine ⟨_,gt_at _ hy7,?_⟩
   cbv;try simp only[ArKe5]
   split
   ·rename_i q14;simp only [q14,cond_true] at h ⊢
    cbv;try simp only[ArKe5]
    obtain rfl:=SI h
    first | exact LeV.to rfl (LeF.tu (LeFs.c (LeF.nr _ _ _) (LeFs.c (LeF.rfl' _) LeFs.n))) | (simp only [rows_nil,bys_n];exact LeV.to rfl (LeF.tu (LeFs.c (LeF.nr _ _ _) (LeFs.c (LeF.rfl' _) LeFs.n))))
   ·rename_i q14;simp only [q14,cond_false] at h ⊢
    cbv;try simp only[ArKe5]
    obtain⟨r8,hr8,h⟩:=bnd_out h
    refine CallK.introE rfl rfl (r_iwithin hr8) ?_
    clear hr8
    cbv;try simp only[ArKe5]
    cases r8
    ·simp only [cond_false] at h
     cbv;try simp only[ArKe5]
     obtain rfl:=SI h
     first | exact LeV.to rfl (LeF.tu (LeFs.c (LeF.nr _ _ _) (LeFs.c (LeF.rfl' _) LeFs.n))) | (simp only [rows_nil,bys_n];exact LeV.to rfl (LeF.tu (LeFs.c (LeF.nr _ _ _) (LeFs.c (LeF.rfl' _) LeFs.n))))
    ·simp only [cond_true] at h
     cbv;try simp only[ArKe5]
     obtain⟨c13,h⟩:=ck_out h
     refine ⟨c13,?_⟩
     obtain⟨r11,hr11,h⟩:=bnd_out h
     refine CallK.introE rfl rfl (r_gslices_ContainsFunc_string_ireadPath_1 hr11) ?_
     clear hr11
     cbv;try simp only[ArKe5]
     cases r11
     ·simp only [cond_false] at h
      cbv;try simp only[ArKe5]
      obtain⟨c12,h⟩:=ck_out h
      refine ⟨c12,?_⟩
      obtain rfl:=SI h
      (try simp only [Z0]);exact LeV.to rfl (LeF.rfl' _)
     ·simp only [cond_true] at h
      cbv;try simp only[ArKe5]
      obtain rfl:=SI h
      first | exact LeV.to rfl (LeF.tu (LeFs.c (LeF.nr _ _ _) (LeFs.c (LeF.rfl' _) LeFs.n))) | (simp only [rows_nil,bys_n];exact LeV.to rfl (LeF.tu (LeFs.c (LeF.nr _ _ _) (LeFs.c (LeF.rfl' _) LeFs.n))))
theorem r_iPathOf_1{a0:List UInt8}{r:Bool}(h:iPathOf_1 a0=some r):Ret pg 128 true [.s a0] [] (.b r):=by
  unfold iPathOf_1 at h
  refine retD 1000 1000 [] .o Tryz.func128 rfl (by decide +kernel) (by decide +kernel) rfl trivial ?_
  cbv;try simp only[ArKe1]
  obtain⟨r2,hr2,h⟩:=bnd_out h
  refine CallK.introE rfl rfl (r_iNameOk hr2) ?_
  clear hr2
  cbv;try simp only[ArKe1]
  obtain rfl:=SI h
  (try simp only [Z0]);exact LeV.to rfl (LeF.rfl' _)
theorem r_gslices_IndexFunc_string_iPathOf_1{a0:List (List UInt8)}{r:Int}(h:gslices_IndexFunc_string_iPathOf_1 a0=some r):Ret pg 155 true [.sl .shr 1 (rows strR a0),.fn 128 []] [] (.i .i64 r):=by
  unfold gslices_IndexFunc_string_iPathOf_1 at h
  refine retD 1000 1000 [] (.s .o (.k .o .o)) Tryz.func155 rfl (by decide +kernel) (by decide +kernel) rfl trivial ?_
  cbv;try simp only[ArKe5]
  obtain⟨o12,ho12,h⟩:=bnd_out h
  refine CutK.intro (α:=Unit) [] [] (fun a=>[]) (fun a=>[]) (fun a=>(Sum.inl a:_ ⊕ _)=o12) ?_ ?_
  ·cbv;try simp only[ArKe5]
   refine LoopR (σ:=Int) ho12 [0,1,7,8] [] (fun a=>[(8,.i .i64 a)]) (fun a=>[]) (by first|rfl|(simp only[Z0];rfl)) fun _ s18 xs18 hs18 bs18 es18=>?_
   cbv;try simp only[ArKe5]
   split
   ·rename_i q21;simp only [q21,cond_true] at hs18 ⊢
    cbv;try simp only[ArKe5]
    obtain⟨y19,hy19,hs18⟩:=bnd_out hs18
    refine ⟨gt_in hy19,?_⟩
    refine ⟨_,gt_at _ hy19,?_⟩
    cbv;try simp only[ArKe5]
    obtain⟨r20,hr20,hs18⟩:=bnd_out hs18
    refine CallK.introE rfl rfl (r_iPathOf_1 hr20) ?_
    clear hr20
    cbv;try simp only[ArKe5]
    cases r20
    ·simp only [cond_false] at hs18
     cbv;try simp only[ArKe5]
     obtain rfl:=SI hs18
     refine ⟨_,bs18 _ rfl,?_⟩;first|rfl|(simp only[Z0];rfl)
    ·simp only [cond_true] at hs18
     cbv;try simp only[ArKe5]
     obtain rfl:=SI hs18
     replace ho12:=congrArg some (es18 _ rfl)
     obtain rfl:=SI ho12
     simp only [Sum.elim_inr] at h
     obtain rfl:=SI h
     (try simp only [Z0]);exact LeV.to rfl (LeF.rfl' _)
   ·rename_i q21;simp only [q21,cond_false] at hs18 ⊢
    cbv;try simp only[ArKe5]
    obtain rfl:=SI hs18
    replace ho12:=congrArg some (es18 _ rfl)
    obtain rfl:=SI ho12
    refine ⟨_,rfl,?_⟩;first|rfl|(simp only[Z0];rfl)
  ·rintro a13 rfl
   clear ho12
   simp only [Sum.elim_inl] at h
   cbv;try simp only[ArKe5]
   obtain rfl:=SI h
   (try simp only [Z0]);exact LeV.to rfl (LeF.rfl' _)
theorem r_gslices_ContainsFunc_string_iPathOf_1{a0:List (List UInt8)}{r:Bool}(h:gslices_ContainsFunc_string_iPathOf_1 a0=some r):Ret pg 124 true [.sl .shr 1 (rows strR a0),.fn 128 []] [] (.b r):=by
  unfold gslices_ContainsFunc_string_iPathOf_1 at h
  refine retD 1000 1000 [] .o Tryz.func124 rfl (by decide +kernel) (by decide +kernel) rfl trivial ?_
  cbv;try simp only[ArKe5]
  obtain⟨r2,hr2,h⟩:=bnd_out h
  refine CallK.introE rfl rfl (r_gslices_IndexFunc_string_iPathOf_1 hr2) ?_
  clear hr2
  cbv;try simp only[ArKe5]
  obtain rfl:=SI h
  (try simp only [Z0]);exact LeV.to rfl (LeF.rfl' _)
theorem r_iPathOf{a0:List (List UInt8)}{r:(List UInt8)}(h:iPathOf a0=some r):Ret pg 88 true [.sl .shr 1 (rows strR a0)] [] (.s r):=by
  unfold iPathOf at h
  refine retD 1000 1000 [] .o Tryz.func88 rfl (by decide +kernel) (by decide +kernel) rfl trivial ?_
  cbv;try simp only[ArKe5]
  obtain⟨r2,hr2,h⟩:=bnd_out h
  refine CallK.introE rfl rfl (r_gstrings_Join hr2) ?_
  clear hr2
  cbv;try simp only[ArKe5]
  obtain⟨c7,h⟩:=ck_out h
  refine ⟨c7,?_⟩
  split
  ·rename_i q6;simp only [q6,cond_true] at h ⊢
   cbv;try simp only[ArKe5]
   obtain rfl:=SI h
   (try simp only [Z0]);exact LeV.to rfl (LeF.rfl' _)
  ·rename_i q6;simp only [q6,cond_false] at h ⊢
   cbv;try simp only[ArKe5]
   obtain⟨r5,hr5,h⟩:=bnd_out h
   refine CallK.introE rfl rfl (r_gslices_ContainsFunc_string_iPathOf_1 hr5) ?_
   clear hr5
   cbv;try simp only[ArKe5]
   cases r5
   ·simp only [cond_false] at h
    cbv;try simp only[ArKe5]
    obtain rfl:=SI h
    (try simp only [Z0]);exact LeV.to rfl (LeF.rfl' _)
   ·simp only [cond_true] at h
    cbv;try simp only[ArKe5]
    obtain rfl:=SI h
    (try simp only [Z0]);exact LeV.to rfl (LeF.rfl' _)
theorem r_iPathJoin{a0:List UInt8}{a1:List UInt8}{r:(List UInt8)}(h:iPathJoin a0 a1=some r):Ret pg 131 true [.s a0,.s a1] [] (.s r):=by
  unfold iPathJoin at h
  refine retD 1000 1000 [] .o Tryz.func131 rfl (by decide +kernel) (by decide +kernel) rfl trivial ?_
  cbv;try simp only[ArKe5]
  obtain⟨r2,hr2,h⟩:=bnd_out h
  refine CallK.introE rfl rfl (r_ireadPath hr2) ?_
  obtain⟨r2_0,r2_1⟩:=r2
  try dsimp only at h
  clear hr2
  cbv;try simp only[ArKe5]
  cases r2_1
  ·simp only [cond_false] at h
   cbv;try simp only[ArKe5]
   obtain rfl:=SI h
   (try simp only [Z0]);exact LeV.to rfl (LeF.rfl' _)
  ·simp only [cond_true] at h
   cbv;try simp only[ArKe5]
   obtain⟨c5,h⟩:=ck_out h
   refine ⟨c5,?_⟩
   obtain⟨r4,hr4,h⟩:=bnd_out h
   refine CallK.introE rfl rfl (r_iPathOf hr4) ?_
   clear hr4
   cbv;try simp only[ArKe5]
   obtain rfl:=SI h
   (try simp only [Z0]);exact LeV.to rfl (LeF.rfl' _)
theorem r_igather{a0:FsD}{a1:Int}{a2:List UInt8}{a3:List ItemD}{r:(List ItemD)}(h0:igather a0 a1 a2 a3=some r):Ret pg 92 true [.ag (fsC a0),.i .i64 a1,.s a2,.sl .own 4 (rows itemR a3)] [] (.sl .own 4 (rows itemR r)):=by
  obtain⟨m,h0⟩:=rc_out h0
  have key:∀ (n:Nat) {a0:FsD} {a1:Int} {a2:List UInt8} {a3:List ItemD} {r:(List ItemD)} (h:igatherN n a0 a1 a2 a3=some r),Ret pg 92 true [.ag (fsC a0),.i .i64 a1,.s a2,.sl .own 4 (rows itemR a3)] [] (.sl .own 4 (rows itemR r)):=by
    intro n;clear h0;induction n with
    | zero=>intros;rename_i h;cases h
    | succ n ih=>?_
    intro a0 a1 a2 a3 r h
    rw [igatherN] at h
    refine retD 8 3 [(7,[⟨true,[],[36]⟩,⟨true,[],[37]⟩,⟨false,[40,41,14],[38]⟩,⟨false,[40,41,14],[39]⟩,⟨false,[38,39],[40]⟩,⟨false,[38,39,14],[41]⟩,⟨false,[14],[39,41,42]⟩,⟨false,[38,39,41,39,41,42],[14]⟩,⟨true,[],[14]⟩]),(9,[⟨false,[47,48,49,50,3,51,52,52,53,3,53,900,54],[46]⟩,⟨false,[46],[47]⟩,⟨false,[46,49,50,3,51,52,52,53,3,53,900,54],[48]⟩,⟨false,[46,48],[49]⟩,⟨false,[46,48,3,51,52,52,53,3,53,900,54],[50]⟩,⟨false,[46,48,50],[3,51]⟩,⟨false,[46,48,50],[52]⟩,⟨false,[46,48,50],[52,53]⟩,⟨false,[46,48,50],[3,53,900,54]⟩,⟨true,[],[55]⟩,⟨true,[],[3]⟩]),(10,[⟨false,[57,58,60,61],[56]⟩,⟨false,[56],[57]⟩,⟨false,[56,60,61],[58]⟩,⟨false,[60,61],[59]⟩,⟨false,[56,58,59],[60]⟩,⟨false,[56,58,59,62,14],[61]⟩,⟨false,[61],[62]⟩,⟨false,[61],[14]⟩,⟨true,[],[63]⟩,⟨true,[],[14]⟩])] (.s .o (.s .o (.k .o .o))) Tryz.func92 rfl (by decide +kernel) (by decide +kernel) rfl ⟨rfl,own_itemS _⟩ ?_
    cbv;try simp only[ArKe6]
    repeat((first|refine R6 ?_|refine A6 ?_);cbv;try simp only[ArKe6])
    obtain⟨r2,hr2,h⟩:=bnd_out h
    refine CallK.introE rfl rfl (r_ientries hr2) ?_
    obtain⟨r2_0,r2_1⟩:=r2
    try dsimp only at h
    clear hr2
    cbv;try simp only[ArKe6]
    repeat((first|refine R6 ?_|refine A6 ?_);cbv;try simp only[ArKe6])
    obtain⟨o30,ho30,h⟩:=bnd_out h
    refine CutK.intro (α:=(List ItemD)) [3] [] (fun a=>[(3,.sl .own 4 (rows itemR a))]) (fun a=>[]) (fun a=>a=o30) ?_ ?_
    ·cbv;try simp only[ArKe6]
     repeat((first|refine R6 ?_|refine A6 ?_);cbv;try simp only[ArKe6])
     refine LoopR (σ:=(List ItemD) × Int) ho30 [2,3,4,9,21,22,23] [4] (fun a=>[(3,.sl .own 4 (rows itemR a.1)),(23,.i .i64 a.2)]) (fun a=>[]) (by first|rfl|(simp only[Z0];rfl)) fun _ s42 xs42 hs42 bs42 es42=>?_
     obtain⟨s42_0,s42_1⟩:=s42
     try dsimp only at hs42
     cbv;try simp only[ArKe6]
     repeat((first|refine R6 ?_|refine A6 ?_);cbv;try simp only[ArKe6])
     split
     ·rename_i q52;simp only [q52,cond_true] at hs42 ⊢
      cbv;try simp only[ArKe6]
      repeat((first|refine R6 ?_|refine A6 ?_);cbv;try simp only[ArKe6])
      obtain⟨y43,hy43,hs42⟩:=bnd_out hs42
      refine ⟨gt_in hy43,?_⟩
      repeat((first|refine R6 ?_|refine A6 ?_);cbv;try simp only[ArKe6])
      refine ⟨_,gt_at _ hy43,?_⟩
      cbv;try simp only[ArKe6]
      repeat((first|refine R6 ?_|refine A6 ?_);cbv;try simp only[ArKe6])
      split
      ·rename_i q51;simp only [q51,cond_true] at hs42 ⊢
       cbv;try simp only[ArKe6]
       repeat((first|refine R6 ?_|refine A6 ?_);cbv;try simp only[ArKe6])
       obtain rfl:=SI hs42
       refine ⟨_,bs42 _ rfl,?_⟩;first|rfl|(simp only[Z0];rfl)
      ·rename_i q51;simp only [q51,cond_false] at hs42 ⊢
       cbv;try simp only[ArKe6]
       repeat((first|refine R6 ?_|refine A6 ?_);cbv;try simp only[ArKe6])
       obtain⟨y44,hy44,hs42⟩:=bnd_out hs42
       refine ⟨gt_in hy44,?_⟩
       repeat((first|refine R6 ?_|refine A6 ?_);cbv;try simp only[ArKe6])
       refine ⟨_,gt_at _ hy44,?_⟩
       cbv;try simp only[ArKe6]
       repeat((first|refine R6 ?_|refine A6 ?_);cbv;try simp only[ArKe6])
       obtain⟨r45,hr45,hs42⟩:=bnd_out hs42
       refine CallK.introE rfl rfl (r_iPathJoin hr45) ?_
       clear hr45
       cbv;try simp only[ArKe6]
       repeat((first|refine R6 ?_|refine A6 ?_);cbv;try simp only[ArKe6])
       split
       ·rename_i q50;simp only [q50,cond_true] at hs42 ⊢
        cbv;try simp only[ArKe6]
        repeat((first|refine R6 ?_|refine A6 ?_);cbv;try simp only[ArKe6])
        obtain⟨c47,hs42⟩:=ck_out hs42
        refine ⟨c47,?_⟩
        repeat((first|refine R6 ?_|refine A6 ?_);cbv;try simp only[ArKe6])
        refine ⟨by rw [OwnK_eq];exact ⟨⟨rfl,own_itemS _⟩,trivial⟩,?_⟩
        obtain⟨r46,hr46,hs42⟩:=bnd_out hs42
        refine CallK.introE rfl rfl (ih hr46) ?_
        clear hr46
        cbv;try simp only[ArKe6]
        repeat((first|refine R6 ?_|refine A6 ?_);cbv;try simp only[ArKe6])
        obtain rfl:=SI hs42
        refine ⟨_,bs42 _ rfl,?_⟩;first|rfl|(simp only[Z0];rfl)
       ·rename_i q50;simp only [q50,cond_false] at hs42 ⊢
        cbv;try simp only[ArKe6]
        repeat((first|refine R6 ?_|refine A6 ?_);cbv;try simp only[ArKe6])
        obtain⟨r48,hr48,hs42⟩:=bnd_out hs42
        refine CallK.introE rfl rfl (r_icontent hr48) ?_
        clear hr48
        cbv;try simp only[ArKe6]
        repeat((first|refine R6 ?_|refine A6 ?_);cbv;try simp only[ArKe6])
        obtain⟨c49,hs42⟩:=ck_out hs42
        refine ⟨c49,?_⟩
        repeat((first|refine R6 ?_|refine A6 ?_);cbv;try simp only[ArKe6])
        obtain rfl:=SI hs42
        refine ⟨_,bs42 _ rfl,?_⟩;first|rfl|(simp only[Z0];rfl)
     ·rename_i q52;simp only [q52,cond_false] at hs42 ⊢
      cbv;try simp only[ArKe6]
      repeat((first|refine R6 ?_|refine A6 ?_);cbv;try simp only[ArKe6])
      obtain rfl:=SI hs42
      replace ho30:=congrArg some (es42 _ rfl)
      obtain rfl:=SI ho30
      refine ⟨_,rfl,?_⟩;first|rfl|(simp only[Z0];rfl)
    ·rintro a31 rfl
     clear ho30
     cbv;try simp only[ArKe6]
     repeat((first|refine R6 ?_|refine A6 ?_);cbv;try simp only[ArKe6])
     obtain rfl:=SI h
     (try simp only [Z0]);exact LeV.to rfl (LeF.rfl' _)
  exact key m h0
theorem r_iTreeOf{a0:FsD}{r:TreeD}(h:iTreeOf a0=some r):Ret pg 55 true [.ag (fsC a0)] [] (.ag (treeR r)):=by
  unfold iTreeOf at h
  refine retD 1000 1000 [] .o Tryz.func55 rfl (by decide +kernel) (by decide +kernel) rfl (own_treeR _) ?_
  cbv;try simp only[ArKe7]
  obtain⟨r3,hr3,h⟩:=bnd_out h
  refine CallK.introE rfl rfl (r_iFsOk hr3) ?_
  clear hr3
  cbv;try simp only[ArKe7]
  cases r3
  ·simp only [cond_false] at h
   cbv;try simp only[ArKe7]
   obtain rfl:=SI h
   (try simp only [Z0]);exact LeV.to rfl (LeF.rfl' _)
  ·simp only [cond_true] at h
   cbv;try simp only[ArKe7]
   refine ⟨by rw [OwnK_eq];exact ⟨trivial,trivial⟩,?_⟩
   obtain⟨r5,hr5,h⟩:=bnd_out h
   refine CallK.introL (LeFs.c (LeF.rfl' _) (LeFs.c (LeF.rfl' _) (LeFs.c (LeF.rfl' _) (LeFs.c (LeF.nr _ _ _) LeFs.n)))) rfl (r_igather hr5) ?_
   clear hr5
   cbv;try simp only[ArKe7]
   intro v8
   cbv;try simp only[ArKe7]
   obtain⟨r9,hr9,h⟩:=bnd_out h
   refine CallMK.intro (r_gslices_SortFunc_Item_ibyPath hr9 v8) ?_
   clear hr9
   cbv;try simp only[ArKe7]
   obtain rfl:=SI h
   (try simp only [Z0]);exact LeV.to rfl (LeF.rfl' _)
theorem r_sl1Copy{a0:List (List UInt8)}{r:(List (List UInt8))}(h:sl1Copy a0=some r):Ret pg 129 true [.sl .shr 1 (rows strR a0)] [] (.sl .own 1 (rows strR r)):=by
  unfold sl1Copy at h
  refine retD 1000 1000 [] .o Tryz.func129 rfl (by decide +kernel) (by decide +kernel) rfl ⟨rfl,own_stringS _⟩ ?_
  cbv;try simp only[ArKe5]
  obtain⟨c1,h⟩:=ck_out h
  refine ⟨c1,?_⟩
  obtain rfl:=SI h
  (try simp only [Z0]);exact LeV.to rfl (LeF.rfl' _)
theorem r_sParts{a0:List UInt8}{a1:Int}{r:(List (List UInt8))}(h:sParts a0 a1=some r):Ret pg 139 true [.s a0,.i .u8 a1] [] (.sl .own 1 (rows strR r)):=by
  unfold sParts at h
  refine retD 1000 1000 [] (.s .o (.s .o (.s .o (.k (.s .o (.s (.s (.s .o (.s (.s (.k .o .o) .o) .o)) .o) .o)) .o)))) Tryz.func139 rfl (by decide +kernel) (by decide +kernel) rfl ⟨rfl,own_stringS _⟩ ?_
  cbv;try simp only[ArKe5]
  obtain⟨o10,ho10,h⟩:=bnd_out h
  refine CutK.intro (α:=(List (List UInt8))) [5] [] (fun a=>[(5,.sl .own 1 (rows strR a))]) (fun a=>[]) (fun a=>a=o10) ?_ ?_
  ·cbv;try simp only[ArKe5]
   refine LoopR (σ:=(List (List UInt8)) × Int × Int) ho10 [0,1,5,6,7] [] (fun a=>[(5,.sl .own 1 (rows strR a.1)),(6,.i .i64 a.2.1),(7,.i .i64 a.2.2)]) (fun a=>[]) (by first|rfl|(simp only[Z0];rfl)) fun _ s16 xs16 hs16 bs16 es16=>?_
   obtain⟨s16_0,s16_1,s16_2⟩:=s16
   try dsimp only at hs16
   cbv;try simp only[ArKe5]
   split
   ·rename_i q23;simp only [q23,cond_true] at hs16 ⊢
    cbv;try simp only[ArKe5]
    obtain⟨o17,ho17,hs16⟩:=bnd_out hs16
    refine CutK.intro (α:=Bool) [0,1,5,6,7,25] [] (fun a=>[(25,.b a)]) (fun a=>[]) (fun a=>a=o17) ?_ ?_
    ·cbv;try simp only[ArKe5]
     split
     ·rename_i q22;simp only [q22,cond_true] at ho17 ⊢
      cbv;try simp only[ArKe5]
      obtain rfl:=SI ho17
      refine ⟨_,rfl,?_⟩;first|rfl|(simp only[Z0];rfl)
     ·rename_i q22;simp only [q22,cond_false] at ho17 ⊢
      cbv;try simp only[ArKe5]
      obtain⟨c21,ho17⟩:=ck_out ho17
      refine ⟨c21,?_⟩
      obtain rfl:=SI ho17
      refine ⟨_,rfl,?_⟩;first|rfl|(simp only[Z0];rfl)
    ·rintro a18 rfl
     clear ho17
     cbv;try simp only[ArKe5]
     cases a18
     ·simp only [cond_false] at hs16
      cbv;try simp only[ArKe5]
      obtain rfl:=SI hs16
      refine ⟨_,bs16 _ rfl,?_⟩;first|rfl|(simp only[Z0];rfl)
     ·simp only [cond_true] at hs16
      cbv;try simp only[ArKe5]
      obtain⟨c20,hs16⟩:=ck_out hs16
      refine ⟨c20,?_⟩
      obtain⟨c19,hs16⟩:=ck_out hs16
      refine ⟨c19,?_⟩
      obtain rfl:=SI hs16
      refine ⟨_,bs16 _ rfl,?_⟩;first|rfl|(simp only[Z0];rfl)
   ·rename_i q23;simp only [q23,cond_false] at hs16 ⊢
    cbv;try simp only[ArKe5]
    obtain rfl:=SI hs16
    replace ho10:=congrArg some (es16 _ rfl)
    obtain rfl:=SI ho10
    refine ⟨_,rfl,?_⟩;first|rfl|(simp only[Z0];rfl)
  ·rintro a11 rfl
   clear ho10
   cbv;try simp only[ArKe5]
   obtain rfl:=SI h
   (try simp only [Z0]);exact LeV.to rfl (LeF.rfl' _)
theorem r_sPathOk{a0:List UInt8}{r:Bool}(h:sPathOk a0=some r):Ret pg 101 true [.s a0] [] (.b r):=by
  unfold sPathOk at h
  refine retD 1000 1000 [] (.s .o (.s .o (.s .o (.s .o (.k .o .o))))) Tryz.func101 rfl (by decide +kernel) (by decide +kernel) rfl trivial ?_
  cbv;try simp only[ArKe5]
  split
  ·rename_i q31;simp only [q31,cond_true] at h ⊢
   cbv;try simp only[ArKe5]
   obtain rfl:=SI h
   (try simp only [Z0]);exact LeV.to rfl (LeF.rfl' _)
  ·rename_i q31;simp only [q31,cond_false] at h ⊢
   cbv;try simp only[ArKe5]
   obtain⟨r2,hr2,h⟩:=bnd_out h
   refine CallK.introE rfl rfl (r_sParts hr2) ?_
   clear hr2
   cbv;try simp only[ArKe5]
   obtain⟨r7,hr7,h⟩:=bnd_out h
   refine CallK.introE rfl rfl (r_sl1In hr7) ?_
   clear hr7
   cbv;try simp only[ArKe5]
   cases r7
   ·simp only [cond_false] at h
    cbv;try simp only[ArKe5]
    obtain rfl:=SI h
    (try simp only [Z0]);exact LeV.to rfl (LeF.rfl' _)
   ·simp only [cond_true] at h
    cbv;try simp only[ArKe5]
    obtain⟨y8,hy8,h⟩:=bnd_out h
    refine ⟨gt_in hy8,?_⟩
    refine ⟨_,gt_at _ hy8,?_⟩
    cbv;try simp only[ArKe5]
    split
    ·rename_i q30;simp only [q30,cond_true] at h ⊢
     cbv;try simp only[ArKe5]
     obtain rfl:=SI h
     (try simp only [Z0]);exact LeV.to rfl (LeF.rfl' _)
    ·rename_i q30;simp only [q30,cond_false] at h ⊢
     cbv;try simp only[ArKe5]
     obtain⟨o20,ho20,h⟩:=bnd_out h
     refine CutK.intro (α:=Unit) [] [] (fun a=>[]) (fun a=>[]) (fun a=>(Sum.inl a:_ ⊕ _)=o20) ?_ ?_
     ·cbv;try simp only[ArKe5]
      refine LoopR (σ:=Int) ho20 [3,4] [] (fun a=>[(4,.i .i64 a)]) (fun a=>[]) (by first|rfl|(simp only[Z0];rfl)) fun _ s26 xs26 hs26 bs26 es26=>?_
      cbv;try simp only[ArKe5]
      split
      ·rename_i q29;simp only [q29,cond_true] at hs26 ⊢
       cbv;try simp only[ArKe5]
       obtain⟨y27,hy27,hs26⟩:=bnd_out hs26
       refine ⟨gt_in hy27,?_⟩
       refine ⟨_,gt_at _ hy27,?_⟩
       cbv;try simp only[ArKe5]
       obtain⟨r28,hr28,hs26⟩:=bnd_out hs26
       refine CallK.introE rfl rfl (r_sNameOk hr28) ?_
       clear hr28
       cbv;try simp only[ArKe5]
       cases r28
       ·simp only [cond_false] at hs26
        cbv;try simp only[ArKe5]
        obtain rfl:=SI hs26
        replace ho20:=congrArg some (es26 _ rfl)
        obtain rfl:=SI ho20
        simp only [Sum.elim_inr] at h
        obtain rfl:=SI h
        (try simp only [Z0]);exact LeV.to rfl (LeF.rfl' _)
       ·simp only [cond_true] at hs26
        cbv;try simp only[ArKe5]
        obtain rfl:=SI hs26
        refine ⟨_,bs26 _ rfl,?_⟩;first|rfl|(simp only[Z0];rfl)
      ·rename_i q29;simp only [q29,cond_false] at hs26 ⊢
       cbv;try simp only[ArKe5]
       obtain rfl:=SI hs26
       replace ho20:=congrArg some (es26 _ rfl)
       obtain rfl:=SI ho20
       refine ⟨_,rfl,?_⟩;first|rfl|(simp only[Z0];rfl)
     ·rintro a21 rfl
      clear ho20
      simp only [Sum.elim_inl] at h
      cbv;try simp only[ArKe5]
      obtain rfl:=SI h
      (try simp only [Z0]);exact LeV.to rfl (LeF.rfl' _)
theorem r_sNames{a0:List UInt8}{r:(List (List UInt8))}(h:sNames a0=some r):Ret pg 120 true [.s a0] [] (.sl .own 1 (rows strR r)):=by
  unfold sNames at h
  refine retD 1000 1000 [] .o Tryz.func120 rfl (by decide +kernel) (by decide +kernel) rfl ⟨rfl,own_stringS _⟩ ?_
  cbv;try simp only[ArKe5]
  obtain⟨r3,hr3,h⟩:=bnd_out h
  refine CallK.introE rfl rfl (r_sPathOk hr3) ?_
  clear hr3
  cbv;try simp only[ArKe5]
  cases r3
  ·simp only [cond_false] at h
   cbv;try simp only[ArKe5]
   obtain rfl:=SI h
   (try simp only [Z0]);exact LeV.to rfl (LeF.rfl' _)
  ·simp only [cond_true] at h
   cbv;try simp only[ArKe5]
   split
   ·rename_i q9;simp only [q9,cond_true] at h ⊢
    cbv;try simp only[ArKe5]
    obtain rfl:=SI h
    (try simp only [Z0]);exact LeV.to rfl (LeF.rfl' _)
   ·rename_i q9;simp only [q9,cond_false] at h ⊢
    cbv;try simp only[ArKe5]
    obtain⟨r6,hr6,h⟩:=bnd_out h
    refine CallK.introE rfl rfl (r_sParts hr6) ?_
    clear hr6
    cbv;try simp only[ArKe5]
    obtain⟨c8,h⟩:=ck_out h
    refine ⟨c8,?_⟩
    obtain⟨r7,hr7,h⟩:=bnd_out h
    refine CallK.introE rfl rfl (r_sl1Copy hr7) ?_
    clear hr7
    cbv;try simp only[ArKe5]
    obtain rfl:=SI h
    (try simp only [Z0]);exact LeV.to rfl (LeF.rfl' _)
theorem r_sPathOf{a0:List (List UInt8)}{r:(List UInt8)}(h:sPathOf a0=some r):Ret pg 121 true [.sl .shr 1 (rows strR a0)] [] (.s r):=by
  unfold sPathOf at h
  refine retD 1000 1000 [] (.s .o (.s .o (.k .o (.k .o .o)))) Tryz.func121 rfl (by decide +kernel) (by decide +kernel) rfl trivial ?_
  cbv;try simp only[ArKe5]
  obtain⟨o6,ho6,h⟩:=bnd_out h
  refine CutK.intro (α:=(List UInt8)) [0,3] [] (fun a=>[(3,.s a)]) (fun a=>[]) (fun a=>a=o6) ?_ ?_
  ·cbv;try simp only[ArKe5]
   refine LoopR (σ:=(List UInt8) × Int) ho6 [0,3,4] [] (fun a=>[(3,.s a.1),(4,.i .i64 a.2)]) (fun a=>[]) (by first|rfl|(simp only[Z0];rfl)) fun _ s20 xs20 hs20 bs20 es20=>?_
   obtain⟨s20_0,s20_1⟩:=s20
   try dsimp only at hs20
   cbv;try simp only[ArKe5]
   split
   ·rename_i q24;simp only [q24,cond_true] at hs20 ⊢
    cbv;try simp only[ArKe5]
    obtain⟨c23,hs20⟩:=ck_out hs20
    refine ⟨c23,?_⟩
    obtain⟨y21,hy21,hs20⟩:=bnd_out hs20
    refine ⟨gt_in hy21,?_⟩
    refine ⟨_,gt_at _ hy21,?_⟩
    cbv;try simp only[ArKe5]
    obtain⟨c22,hs20⟩:=ck_out hs20
    refine ⟨c22,?_⟩
    obtain rfl:=SI hs20
    refine ⟨_,bs20 _ rfl,?_⟩;first|rfl|(simp only[Z0];rfl)
   ·rename_i q24;simp only [q24,cond_false] at hs20 ⊢
    cbv;try simp only[ArKe5]
    obtain rfl:=SI hs20
    replace ho6:=congrArg some (es20 _ rfl)
    obtain rfl:=SI ho6
    refine ⟨_,rfl,?_⟩;first|rfl|(simp only[Z0];rfl)
  ·rintro a7 rfl
   clear ho6
   cbv;try simp only[ArKe5]
   obtain⟨o8,ho8,h⟩:=bnd_out h
   refine CutK.intro (α:=(List UInt8)) [0,3] [] (fun a=>[(3,.s a)]) (fun a=>[]) (fun a=>a=o8) ?_ ?_
   ·cbv;try simp only[ArKe5]
    split
    ·rename_i q17;simp only [q17,cond_true] at ho8 ⊢
     cbv;try simp only[ArKe5]
     obtain rfl:=SI ho8
     refine ⟨_,rfl,?_⟩;first|rfl|(simp only[Z0];rfl)
    ·rename_i q17;simp only [q17,cond_false] at ho8 ⊢
     cbv;try simp only[ArKe5]
     obtain rfl:=SI ho8
     refine ⟨_,rfl,?_⟩;first|rfl|(simp only[Z0];rfl)
   ·rintro a9 rfl
    clear ho8
    cbv;try simp only[ArKe5]
    obtain⟨r14,hr14,h⟩:=bnd_out h
    refine CallK.introE rfl rfl (r_sPathOk hr14) ?_
    clear hr14
    cbv;try simp only[ArKe5]
    cases r14
    ·simp only [cond_false] at h
     cbv;try simp only[ArKe5]
     obtain rfl:=SI h
     (try simp only [Z0]);exact LeV.to rfl (LeF.rfl' _)
    ·simp only [cond_true] at h
     cbv;try simp only[ArKe5]
     obtain⟨r15,hr15,h⟩:=bnd_out h
     refine CallK.introE rfl rfl (r_sNames hr15) ?_
     clear hr15
     cbv;try simp only[ArKe5]
     split
     ·rename_i q16;simp only [q16,cond_true] at h ⊢
      cbv;try simp only[ArKe5]
      obtain rfl:=SI h
      (try simp only [Z0]);exact LeV.to rfl (LeF.rfl' _)
     ·rename_i q16;simp only [q16,cond_false] at h ⊢
      cbv;try simp only[ArKe5]
      obtain rfl:=SI h
      (try simp only [Z0]);exact LeV.to rfl (LeF.rfl' _)
theorem r_sl10Put{a0:List ItemD}{a1:ItemD}{r:(List ItemD)}(h:sl10Put a0 a1=some r):Ret pg 130 true [.sl .shr 4 (rows itemR a0),.ag (itemC a1)] [] (.sl .own 4 (rows itemR r)):=by
  unfold sl10Put at h
  refine retD 8 3 [(6,[⟨true,[],[15]⟩,⟨true,[],[16]⟩,⟨true,[],[16,17]⟩,⟨true,[],[18]⟩,⟨false,[20,21,22,23,24],[19]⟩,⟨false,[19],[20]⟩,⟨false,[19],[21]⟩,⟨false,[19],[22]⟩,⟨false,[19],[23]⟩,⟨false,[19],[24]⟩,⟨true,[],[25]⟩,⟨true,[],[26]⟩]),(9,[⟨true,[],[31]⟩,⟨true,[],[32]⟩,⟨false,[36,37],[33]⟩,⟨false,[36,37],[34]⟩,⟨false,[36,37],[35]⟩,⟨false,[33,34,35],[36]⟩,⟨false,[33,34,35],[37]⟩,⟨true,[],[38]⟩])] (.s .o (.s .o (.s .o (.k (.s .o (.s (.s (.s .o (.s (.s (.k .o .o) .o) .o)) .o) .o)) .o)))) Tryz.func130 rfl (by decide +kernel) (by decide +kernel) rfl ⟨rfl,own_itemS _⟩ ?_
  cbv;try simp only[ArKe8]
  repeat((first|refine R6 ?_|refine A6 ?_);cbv;try simp only[ArKe8])
  obtain⟨o21,ho21,h⟩:=bnd_out h
  refine CutK.intro (α:=(List ItemD) × Bool) [3,5,6] [3] (fun a=>[(5,.sl .own 4 (rows itemR a.1)),(6,.b a.2)]) (fun a=>[]) (fun a=>a=o21) ?_ ?_
  ·cbv;try simp only[ArKe8]
   repeat((first|refine R6 ?_|refine A6 ?_);cbv;try simp only[ArKe8])
   refine LoopR (σ:=(List ItemD) × Bool × Int) ho21 [0,3,5,6,7] [3] (fun a=>[(5,.sl .own 4 (rows itemR a.1)),(6,.b a.2.1),(7,.i .i64 a.2.2)]) (fun a=>[]) (by first|rfl|(simp only[Z0];rfl)) fun _ s32 xs32 hs32 bs32 es32=>?_
   obtain⟨s32_0,s32_1,s32_2⟩:=s32
   try dsimp only at hs32
   cbv;try simp only[ArKe8]
   repeat((first|refine R6 ?_|refine A6 ?_);cbv;try simp only[ArKe8])
   split
   ·rename_i q42;simp only [q42,cond_true] at hs32 ⊢
    cbv;try simp only[ArKe8]
    repeat((first|refine R6 ?_|refine A6 ?_);cbv;try simp only[ArKe8])
    obtain⟨o34,ho34,hs32⟩:=bnd_out hs32
    refine CutK.intro (α:=(List ItemD) × Bool) [0,3,5,6,7] [3] (fun a=>[(5,.sl .own 4 (rows itemR a.1)),(6,.b a.2)]) (fun a=>[]) (fun a=>a=o34) ?_ ?_
    ·cbv;try simp only[ArKe8]
     repeat((first|refine R6 ?_|refine A6 ?_);cbv;try simp only[ArKe8])
     cases s32_1
     ·simp only [cond_false] at ho34
      cbv;try simp only[ArKe8]
      repeat((first|refine R6 ?_|refine A6 ?_);cbv;try simp only[ArKe8])
      obtain⟨y39,hy39,ho34⟩:=bnd_out ho34
      refine ⟨gt_in hy39,?_⟩
      repeat((first|refine R6 ?_|refine A6 ?_);cbv;try simp only[ArKe8])
      refine ⟨_,gt_at _ hy39,?_⟩
      cbv;try simp only[ArKe8]
      repeat((first|refine R6 ?_|refine A6 ?_);cbv;try simp only[ArKe8])
      split
      ·rename_i q41;simp only [q41,cond_true] at ho34 ⊢
       cbv;try simp only[ArKe8]
       repeat((first|refine R6 ?_|refine A6 ?_);cbv;try simp only[ArKe8])
       obtain⟨c40,ho34⟩:=ck_out ho34
       refine ⟨c40,?_⟩
       repeat((first|refine R6 ?_|refine A6 ?_);cbv;try simp only[ArKe8])
       obtain rfl:=SI ho34
       refine ⟨_,rfl,?_⟩;first|rfl|(simp only[Z0];rfl)
      ·rename_i q41;simp only [q41,cond_false] at ho34 ⊢
       cbv;try simp only[ArKe8]
       repeat((first|refine R6 ?_|refine A6 ?_);cbv;try simp only[ArKe8])
       obtain rfl:=SI ho34
       refine ⟨_,rfl,?_⟩;first|rfl|(simp only[Z0];rfl)
     ·simp only [cond_true] at ho34
      cbv;try simp only[ArKe8]
      repeat((first|refine R6 ?_|refine A6 ?_);cbv;try simp only[ArKe8])
      obtain rfl:=SI ho34
      refine ⟨_,rfl,?_⟩;first|rfl|(simp only[Z0];rfl)
    ·rintro a35 rfl
     clear ho34
     obtain⟨a35_0,a35_1⟩:=a35
     try dsimp only at hs32
     cbv;try simp only[ArKe8]
     repeat((first|refine R6 ?_|refine A6 ?_);cbv;try simp only[ArKe8])
     obtain⟨y36,hy36,hs32⟩:=bnd_out hs32
     refine ⟨gt_in hy36,?_⟩
     repeat((first|refine R6 ?_|refine A6 ?_);cbv;try simp only[ArKe8])
     refine ⟨_,gt_at _ hy36,?_⟩
     cbv;try simp only[ArKe8]
     repeat((first|refine R6 ?_|refine A6 ?_);cbv;try simp only[ArKe8])
     split
     ·rename_i q38;simp only [q38,cond_true] at hs32 ⊢
      cbv;try simp only[ArKe8]
      repeat((first|refine R6 ?_|refine A6 ?_);cbv;try simp only[ArKe8])
      refine ⟨gt_in hy36,?_⟩
      repeat((first|refine R6 ?_|refine A6 ?_);cbv;try simp only[ArKe8])
      refine ⟨_,gt_at _ hy36,?_⟩
      cbv;try simp only[ArKe8]
      repeat((first|refine R6 ?_|refine A6 ?_);cbv;try simp only[ArKe8])
      obtain⟨c37,hs32⟩:=ck_out hs32
      refine ⟨c37,?_⟩
      repeat((first|refine R6 ?_|refine A6 ?_);cbv;try simp only[ArKe8])
      obtain rfl:=SI hs32
      refine ⟨_,bs32 _ rfl,?_⟩;first|rfl|(simp only[Z0];rfl)
     ·rename_i q38;simp only [q38,cond_false] at hs32 ⊢
      cbv;try simp only[ArKe8]
      repeat((first|refine R6 ?_|refine A6 ?_);cbv;try simp only[ArKe8])
      obtain rfl:=SI hs32
      refine ⟨_,bs32 _ rfl,?_⟩;first|rfl|(simp only[Z0];rfl)
   ·rename_i q42;simp only [q42,cond_false] at hs32 ⊢
    cbv;try simp only[ArKe8]
    repeat((first|refine R6 ?_|refine A6 ?_);cbv;try simp only[ArKe8])
    obtain rfl:=SI hs32
    replace ho21:=congrArg some (es32 _ rfl)
    obtain rfl:=SI ho21
    refine ⟨_,rfl,?_⟩;first|rfl|(simp only[Z0];rfl)
  ·rintro a22 rfl
   clear ho21
   obtain⟨a22_0,a22_1⟩:=a22
   try dsimp only at h
   cbv;try simp only[ArKe8]
   repeat((first|refine R6 ?_|refine A6 ?_);cbv;try simp only[ArKe8])
   cases a22_1
   ·simp only [cond_false] at h
    cbv;try simp only[ArKe8]
    repeat((first|refine R6 ?_|refine A6 ?_);cbv;try simp only[ArKe8])
    obtain⟨c23,h⟩:=ck_out h
    refine ⟨c23,?_⟩
    repeat((first|refine R6 ?_|refine A6 ?_);cbv;try simp only[ArKe8])
    obtain rfl:=SI h
    (try simp only [Z0]);exact LeV.to rfl (LeF.rfl' _)
   ·simp only [cond_true] at h
    cbv;try simp only[ArKe8]
    repeat((first|refine R6 ?_|refine A6 ?_);cbv;try simp only[ArKe8])
    obtain rfl:=SI h
    (try simp only [Z0]);exact LeV.to rfl (LeF.rfl' _)
theorem r_sl10Below{a0:FsD}{a1:Int}{a2:List (List UInt8)}{a3:List ItemD}{r:(List ItemD)}(h0:sl10Below a0 a1 a2 a3=some r):Ret pg 89 true [.ag (fsC a0),.i .i64 a1,.sl .shr 1 (rows strR a2),.sl .own 4 (rows itemR a3)] [] (.sl .own 4 (rows itemR r)):=by
  obtain⟨m,h0⟩:=rc_out h0
  have key:∀ (n:Nat) {a0:FsD} {a1:Int} {a2:List (List UInt8)} {a3:List ItemD} {r:(List ItemD)} (h:sl10BelowN n a0 a1 a2 a3=some r),Ret pg 89 true [.ag (fsC a0),.i .i64 a1,.sl .shr 1 (rows strR a2),.sl .own 4 (rows itemR a3)] [] (.sl .own 4 (rows itemR r)):=by
    intro n;clear h0;induction n with
    | zero=>intros;rename_i h;cases h
    | succ n ih=>?_
    intro a0 a1 a2 a3 r h
    rw [sl10BelowN] at h
    refine retD 8 3 [(6,[⟨true,[],[33]⟩,⟨false,[35,36,37,38,39,12],[34]⟩,⟨false,[34],[35]⟩,⟨false,[34],[36]⟩,⟨false,[34,12],[37]⟩,⟨false,[34,12],[38]⟩,⟨false,[34,12],[39]⟩,⟨false,[12],[40]⟩,⟨false,[12],[41]⟩,⟨false,[34,37,38,39,40,41],[12]⟩,⟨true,[],[12]⟩]),(7,[⟨true,[],[42]⟩,⟨false,[44,45,46,47,48,48,49],[43]⟩,⟨false,[43],[44]⟩,⟨false,[43],[45]⟩,⟨false,[43],[46]⟩,⟨false,[43],[47]⟩,⟨false,[43],[48]⟩,⟨false,[43],[48,49]⟩,⟨true,[],[49,900,50]⟩,⟨true,[],[13]⟩]),(8,[⟨true,[],[51]⟩,⟨false,[53,54,14],[52]⟩,⟨false,[52],[53]⟩,⟨false,[52,14],[54]⟩,⟨false,[14],[52,54,55]⟩,⟨false,[52,54,52,54,55],[14]⟩,⟨true,[],[14]⟩]),(10,[⟨false,[60,61,62,63,64,65,3,66,67,68],[59]⟩,⟨false,[59],[60]⟩,⟨false,[59],[61]⟩,⟨false,[59,65,3,66,67,68],[62]⟩,⟨false,[59,65,3,66,67,68],[63]⟩,⟨false,[59,65,3,66,67,68],[64]⟩,⟨false,[59,62,63,64],[65]⟩,⟨false,[59,62,63,64],[3,66]⟩,⟨false,[59,62,63,64],[67]⟩,⟨false,[59,62,63,64],[68]⟩,⟨true,[],[69]⟩,⟨true,[],[3]⟩]),(11,[⟨false,[71,72,73,74,75],[70]⟩,⟨false,[70],[71]⟩,⟨false,[70],[72]⟩,⟨false,[70],[73]⟩,⟨false,[70],[74]⟩,⟨false,[70],[75]⟩,⟨true,[],[76]⟩,⟨true,[],[77]⟩,⟨true,[],[14]⟩])] (.s .o (.s .o (.k .o .o))) Tryz.func89 rfl (by decide +kernel) (by decide +kernel) rfl ⟨rfl,own_itemS _⟩ ?_
    cbv;try simp only[ArKe6]
    repeat((first|refine R6 ?_|refine A6 ?_);cbv;try simp only[ArKe6])
    obtain⟨r2,hr2,h⟩:=bnd_out h
    refine CallK.introE rfl rfl (r_sl9Dir hr2) ?_
    obtain⟨r2_0,r2_1⟩:=r2
    try dsimp only at h
    clear hr2
    cbv;try simp only[ArKe6]
    repeat((first|refine R6 ?_|refine A6 ?_);cbv;try simp only[ArKe6])
    obtain⟨o46,ho46,h⟩:=bnd_out h
    refine CutK.intro (α:=(List ItemD)) [3] [] (fun a=>[(3,.sl .own 4 (rows itemR a))]) (fun a=>[]) (fun a=>a=o46) ?_ ?_
    ·cbv;try simp only[ArKe6]
     repeat((first|refine R6 ?_|refine A6 ?_);cbv;try simp only[ArKe6])
     refine LoopR (σ:=(List ItemD) × Int) ho46 [2,3,4,9,11] [4] (fun a=>[(3,.sl .own 4 (rows itemR a.1)),(11,.i .i64 a.2)]) (fun a=>[]) (by first|rfl|(simp only[Z0];rfl)) fun _ s64 xs64 hs64 bs64 es64=>?_
     obtain⟨s64_0,s64_1⟩:=s64
     try dsimp only at hs64
     cbv;try simp only[ArKe6]
     repeat((first|refine R6 ?_|refine A6 ?_);cbv;try simp only[ArKe6])
     split
     ·rename_i q76;simp only [q76,cond_true] at hs64 ⊢
      cbv;try simp only[ArKe6]
      repeat((first|refine R6 ?_|refine A6 ?_);cbv;try simp only[ArKe6])
      obtain⟨y65,hy65,hs64⟩:=bnd_out hs64
      refine ⟨gt_in hy65,?_⟩
      repeat((first|refine R6 ?_|refine A6 ?_);cbv;try simp only[ArKe6])
      refine ⟨_,gt_at _ hy65,?_⟩
      cbv;try simp only[ArKe6]
      repeat((first|refine R6 ?_|refine A6 ?_);cbv;try simp only[ArKe6])
      split
      ·rename_i q75;simp only [q75,cond_true] at hs64 ⊢
       cbv;try simp only[ArKe6]
       repeat((first|refine R6 ?_|refine A6 ?_);cbv;try simp only[ArKe6])
       obtain rfl:=SI hs64
       refine ⟨_,bs64 _ rfl,?_⟩;first|rfl|(simp only[Z0];rfl)
      ·rename_i q75;simp only [q75,cond_false] at hs64 ⊢
       cbv;try simp only[ArKe6]
       repeat((first|refine R6 ?_|refine A6 ?_);cbv;try simp only[ArKe6])
       refine ⟨gt_in hy65,?_⟩
       repeat((first|refine R6 ?_|refine A6 ?_);cbv;try simp only[ArKe6])
       refine ⟨_,gt_at _ hy65,?_⟩
       cbv;try simp only[ArKe6]
       repeat((first|refine R6 ?_|refine A6 ?_);cbv;try simp only[ArKe6])
       obtain⟨y66,hy66,hs64⟩:=bnd_out hs64
       refine ⟨gt_in hy66,?_⟩
       repeat((first|refine R6 ?_|refine A6 ?_);cbv;try simp only[ArKe6])
       refine ⟨_,gt_at _ hy66,?_⟩
       cbv;try simp only[ArKe6]
       repeat((first|refine R6 ?_|refine A6 ?_);cbv;try simp only[ArKe6])
       obtain⟨r67,hr67,hs64⟩:=bnd_out hs64
       refine CallK.introE rfl rfl (r_sl1Copy hr67) ?_
       clear hr67
       cbv;try simp only[ArKe6]
       repeat((first|refine R6 ?_|refine A6 ?_);cbv;try simp only[ArKe6])
       refine ⟨gt_in hy65,?_⟩
       repeat((first|refine R6 ?_|refine A6 ?_);cbv;try simp only[ArKe6])
       refine ⟨_,gt_at _ hy65,?_⟩
       cbv;try simp only[ArKe6]
       repeat((first|refine R6 ?_|refine A6 ?_);cbv;try simp only[ArKe6])
       obtain⟨c74,hs64⟩:=ck_out hs64
       refine ⟨c74,?_⟩
       repeat((first|refine R6 ?_|refine A6 ?_);cbv;try simp only[ArKe6])
       obtain⟨r68,hr68,hs64⟩:=bnd_out hs64
       refine CallK.introE rfl rfl (r_sPathOf hr68) ?_
       clear hr68
       cbv;try simp only[ArKe6]
       repeat((first|refine R6 ?_|refine A6 ?_);cbv;try simp only[ArKe6])
       split
       ·rename_i q73;simp only [q73,cond_true] at hs64 ⊢
        cbv;try simp only[ArKe6]
        repeat((first|refine R6 ?_|refine A6 ?_);cbv;try simp only[ArKe6])
        refine ⟨gt_in hy65,?_⟩
        repeat((first|refine R6 ?_|refine A6 ?_);cbv;try simp only[ArKe6])
        refine ⟨_,gt_at _ hy65,?_⟩
        cbv;try simp only[ArKe6]
        repeat((first|refine R6 ?_|refine A6 ?_);cbv;try simp only[ArKe6])
        obtain⟨r69,hr69,hs64⟩:=bnd_out hs64
        refine CallK.introE rfl rfl (r_sl10Put hr69) ?_
        clear hr69
        cbv;try simp only[ArKe6]
        repeat((first|refine R6 ?_|refine A6 ?_);cbv;try simp only[ArKe6])
        refine ⟨by rw [OwnK_eq];exact ⟨⟨rfl,own_itemS _⟩,trivial⟩,?_⟩
        obtain⟨r70,hr70,hs64⟩:=bnd_out hs64
        refine CallK.introE rfl rfl (ih hr70) ?_
        clear hr70
        cbv;try simp only[ArKe6]
        repeat((first|refine R6 ?_|refine A6 ?_);cbv;try simp only[ArKe6])
        obtain rfl:=SI hs64
        refine ⟨_,bs64 _ rfl,?_⟩;first|rfl|(simp only[Z0];rfl)
       ·rename_i q73;simp only [q73,cond_false] at hs64 ⊢
        cbv;try simp only[ArKe6]
        repeat((first|refine R6 ?_|refine A6 ?_);cbv;try simp only[ArKe6])
        refine ⟨gt_in hy65,?_⟩
        repeat((first|refine R6 ?_|refine A6 ?_);cbv;try simp only[ArKe6])
        refine ⟨_,gt_at _ hy65,?_⟩
        cbv;try simp only[ArKe6]
        repeat((first|refine R6 ?_|refine A6 ?_);cbv;try simp only[ArKe6])
        obtain⟨r71,hr71,hs64⟩:=bnd_out hs64
        refine CallK.introE rfl rfl (r_sl7Read hr71) ?_
        clear hr71
        cbv;try simp only[ArKe6]
        repeat((first|refine R6 ?_|refine A6 ?_);cbv;try simp only[ArKe6])
        obtain⟨r72,hr72,hs64⟩:=bnd_out hs64
        refine CallK.introE rfl rfl (r_sl10Put hr72) ?_
        clear hr72
        cbv;try simp only[ArKe6]
        repeat((first|refine R6 ?_|refine A6 ?_);cbv;try simp only[ArKe6])
        obtain rfl:=SI hs64
        refine ⟨_,bs64 _ rfl,?_⟩;first|rfl|(simp only[Z0];rfl)
     ·rename_i q76;simp only [q76,cond_false] at hs64 ⊢
      cbv;try simp only[ArKe6]
      repeat((first|refine R6 ?_|refine A6 ?_);cbv;try simp only[ArKe6])
      obtain rfl:=SI hs64
      replace ho46:=congrArg some (es64 _ rfl)
      obtain rfl:=SI ho46
      refine ⟨_,rfl,?_⟩;first|rfl|(simp only[Z0];rfl)
    ·rintro a47 rfl
     clear ho46
     cbv;try simp only[ArKe6]
     repeat((first|refine R6 ?_|refine A6 ?_);cbv;try simp only[ArKe6])
     obtain rfl:=SI h
     (try simp only [Z0]);exact LeV.to rfl (LeF.rfl' _)
  exact key m h0
theorem r_sTreeOf{a0:FsD}{r:TreeD}(h:sTreeOf a0=some r):Ret pg 52 true [.ag (fsC a0)] [] (.ag (treeR r)):=by
  unfold sTreeOf at h
  refine retD 1000 1000 [] .o Tryz.func52 rfl (by decide +kernel) (by decide +kernel) rfl (own_treeR _) ?_
  cbv;try simp only[ArKe7]
  obtain⟨r3,hr3,h⟩:=bnd_out h
  refine CallK.introE rfl rfl (r_sFsOk hr3) ?_
  clear hr3
  cbv;try simp only[ArKe7]
  cases r3
  ·simp only [cond_false] at h
   cbv;try simp only[ArKe7]
   obtain rfl:=SI h
   (try simp only [Z0]);exact LeV.to rfl (LeF.rfl' _)
  ·simp only [cond_true] at h
   cbv;try simp only[ArKe7]
   refine ⟨by rw [OwnK_eq];exact ⟨⟨rfl,trivial⟩,trivial⟩,?_⟩
   obtain⟨r5,hr5,h⟩:=bnd_out h
   refine CallK.introE (by simp only [rows_nil,bys_n];rfl) rfl (r_sl10Below hr5) ?_
   clear hr5
   cbv;try simp only[ArKe7]
   obtain rfl:=SI h
   (try simp only [Z0]);exact LeV.to rfl (LeF.rfl' _)
end Go.Ar
