import Derived.Test.YthbgpgfloghnoaaGreatArKD
import Derived.Test.YthbgpgfloghnoaaGreatArDcN
import Derived.Test.YthbgpgfloghnoaaGreatArDcO
import Derived.Test.YthbgpgfloghnoaaGreatArSf
import Derived.Test.YthbgpgfloghnoaaGreatArKa
import Derived.Test.YthbgpgfloghnoaaGreatArKc
import Derived.Test.YthbgpgfloghnoaaGreatArKe
namespace Go.Ar
open Go.Proofs
set_option linter.unusedVariables false
set_option linter.unusedSimpArgs false
set_option maxRecDepth 20000
set_option maxHeartbeats 40000000
theorem ArKf1:type_of% (And.intro @F (And.intro @F2 (And.intro @N0 @N_String))):=⟨@F,@F2,@N0,@N_String⟩
theorem ArKf2:type_of% (And.intro @F (And.intro @F2 (And.intro @N0 (And.intro @N_Branch @N_Move)))):=⟨@F,@F2,@N0,@N_Branch,@N_Move⟩
theorem ArKf3:type_of% (And.intro @F (And.intro @F2 @N0)):=⟨@F,@F2,@N0⟩
theorem ArKf4:type_of% (And.intro @F (And.intro @F2 (And.intro @N0 @N_Item))):=⟨@F,@F2,@N0,@N_Item⟩
theorem ArKf5:type_of% (And.intro @F (And.intro @F2 (And.intro @N0 (And.intro @N_Branch (And.intro @N_Item (And.intro @N_Node @N_String)))))):=⟨@F,@F2,@N0,@N_Branch,@N_Item,@N_Node,@N_String⟩
theorem ArKf6:type_of% (And.intro @F (And.intro @F2 (And.intro @N0 @N_Move))):=⟨@F,@F2,@N0,@N_Move⟩
theorem r_iPathOk{a0:List UInt8}{r:Bool}(h:iPathOk a0=some r):Ret pg 107 true [.s a0] [] (.b r):=by
  unfold iPathOk at h
  refine retD 1000 1000 [] .o Tryz.func107 rfl (by decide +kernel) (by decide +kernel) rfl trivial ?_
  cbv;try simp only[ArKf1]
  obtain⟨r2,hr2,h⟩:=bnd_out h
  refine CallK.introE rfl rfl (r_ireadPath hr2) ?_
  obtain⟨r2_0,r2_1⟩:=r2
  try dsimp only at h
  clear hr2
  cbv;try simp only[ArKf1]
  obtain rfl:=SI h
  (try simp only [Z0]);exact LeV.to rfl (LeF.rfl' _)
theorem r_imoveOk{a0:PoolD}{r:Bool}(h:imoveOk a0=some r):Ret pg 71 true [.ag (poolC a0)] [] (.b r):=by
  unfold imoveOk at h
  refine retD 1000 1000 [] .o Tryz.func71 rfl (by decide +kernel) (by decide +kernel) rfl trivial ?_
  cbv;try simp only[ArKf2]
  split
  ·rename_i q13;replace q13:=mnt q13;simp only [q13,cond_false] at h ⊢
   cbv;try simp only[ArKf2]
   obtain rfl:=SI h
   (try simp only [Z0]);exact LeV.to rfl (LeF.rfl' _)
  ·rename_i q13;replace q13:=mnf q13;simp only [q13,cond_true] at h ⊢
   cbv;try simp only[ArKf2]
   obtain⟨r6,hr6,h⟩:=bnd_out h
   refine CallK.introE rfl rfl (r_iwithin hr6) ?_
   clear hr6
   cbv;try simp only[ArKf2]
   cases r6
   ·simp only [cond_false] at h
    cbv;try simp only[ArKf2]
    obtain rfl:=SI h
    (try simp only [Z0]);exact LeV.to rfl (LeF.rfl' _)
   ·simp only [cond_true] at h
    cbv;try simp only[ArKf2]
    obtain⟨r7,hr7,h⟩:=bnd_out h
    refine CallK.introE rfl rfl (r_iwithin hr7) ?_
    clear hr7
    cbv;try simp only[ArKf2]
    cases r7
    ·simp only [cond_false] at h
     cbv;try simp only[ArKf2]
     obtain rfl:=SI h
     (try simp only [Z0]);exact LeV.to rfl (LeF.rfl' _)
    ·simp only [cond_true] at h
     cbv;try simp only[ArKf2]
     split
     ·rename_i q12;simp only [q12,cond_true] at h ⊢
      cbv;try simp only[ArKf2]
      obtain⟨r8,hr8,h⟩:=bnd_out h
      refine CallK.introE rfl rfl (r_iPathOk hr8) ?_
      clear hr8
      cbv;try simp only[ArKf2]
      cases r8
      ·simp only [cond_false] at h
       cbv;try simp only[ArKf2]
       obtain rfl:=SI h
       (try simp only [Z0]);exact LeV.to rfl (LeF.rfl' _)
      ·simp only [cond_true] at h
       cbv;try simp only[ArKf2]
       split
       ·rename_i q11;simp only [q11,cond_true] at h ⊢
        cbv;try simp only[ArKf2]
        obtain⟨r9,hr9,h⟩:=bnd_out h
        refine CallK.introE rfl rfl (r_iwithin hr9) ?_
        clear hr9
        cbv;try simp only[ArKf2]
        cases r9
        ·simp only [cond_false] at h
         cbv;try simp only[ArKf2]
         obtain rfl:=SI h
         (try simp only [Z0]);exact LeV.to rfl (LeF.rfl' _)
        ·simp only [cond_true] at h
         cbv;try simp only[ArKf2]
         obtain⟨r10,hr10,h⟩:=bnd_out h
         refine CallK.introE rfl rfl (r_iwithin hr10) ?_
         clear hr10
         cbv;try simp only[ArKf2]
         obtain rfl:=SI h
         (try simp only [Z0]);exact LeV.to rfl (LeF.rfl' _)
       ·rename_i q11;simp only [q11,cond_false] at h ⊢
        cbv;try simp only[ArKf2]
        obtain rfl:=SI h
        (try simp only [Z0]);exact LeV.to rfl (LeF.rfl' _)
     ·rename_i q12;simp only [q12,cond_false] at h ⊢
      cbv;try simp only[ArKf2]
      obtain rfl:=SI h
      (try simp only [Z0]);exact LeV.to rfl (LeF.rfl' _)
theorem r_iisMode{a0:Int}{r:Bool}(h:iisMode a0=some r):Ret pg 72 true [.i .i64 a0] [] (.b r):=by
  unfold iisMode at h
  refine retD 1000 1000 [] .o Tryz.func72 rfl (by decide +kernel) (by decide +kernel) rfl trivial ?_
  cbv;try simp only[ArKf3]
  obtain⟨r2,hr2,h⟩:=bnd_out h
  refine CallK.introE rfl rfl (r_iwithin hr2) ?_
  clear hr2
  cbv;try simp only[ArKf3]
  obtain rfl:=SI h
  (try simp only [Z0]);exact LeV.to rfl (LeF.rfl' _)
theorem r_iitemAt_1{a0:ItemD}{k1:List UInt8}{r:Bool}(h:iitemAt_1 a0 k1=some r):Ret pg 146 true [.ag (itemC a0),.pt ⟨.gl 0,[],0⟩] [[.s k1]] (.b r):=by
  unfold iitemAt_1 at h
  refine retD 1000 1000 [] .o Tryz.func146 rfl (by decide +kernel) (by decide +kernel) rfl trivial ?_
  cbv;try simp only[ArKf3]
  obtain rfl:=SI h
  (try simp only [Z0]);exact LeV.to rfl (LeF.rfl' _)
theorem r_gslices_IndexFunc_Item_iitemAt_1{a0:List ItemD}{k1:List UInt8}{r:Int}(h:gslices_IndexFunc_Item_iitemAt_1 a0 k1=some r):Ret pg 145 true [.sl .shr 4 (rows itemR a0),.fn 146 [.pt ⟨.gl 0,[],0⟩]] [[.s k1]] (.i .i64 r):=by
  unfold gslices_IndexFunc_Item_iitemAt_1 at h
  refine retD 1000 1000 [] (.s .o (.k .o .o)) Tryz.func145 rfl (by decide +kernel) (by decide +kernel) rfl trivial ?_
  cbv;try simp only[ArKf4]
  obtain⟨o12,ho12,h⟩:=bnd_out h
  refine CutK.intro (α:=Unit) [] [] (fun a=>[]) (fun a=>[]) (fun a=>(Sum.inl a:_ ⊕ _)=o12) ?_ ?_
  ·cbv;try simp only[ArKf4]
   refine LoopR (σ:=Int) ho12 [0,1,7,8] [] (fun a=>[(8,.i .i64 a)]) (fun a=>[]) (by first|rfl|(simp only[Z0];rfl)) fun _ s18 xs18 hs18 bs18 es18=>?_
   cbv;try simp only[ArKf4]
   split
   ·rename_i q21;simp only [q21,cond_true] at hs18 ⊢
    cbv;try simp only[ArKf4]
    obtain⟨y19,hy19,hs18⟩:=bnd_out hs18
    refine ⟨gt_in hy19,?_⟩
    refine ⟨_,gt_at _ hy19,?_⟩
    cbv;try simp only[ArKf4]
    obtain⟨r20,hr20,hs18⟩:=bnd_out hs18
    refine CallK.introE rfl rfl (r_iitemAt_1 hr20) ?_
    clear hr20
    cbv;try simp only[ArKf4]
    cases r20
    ·simp only [cond_false] at hs18
     cbv;try simp only[ArKf4]
     obtain rfl:=SI hs18
     refine ⟨_,bs18 _ rfl,?_⟩;first|rfl|(simp only[Z0];rfl)
    ·simp only [cond_true] at hs18
     cbv;try simp only[ArKf4]
     obtain rfl:=SI hs18
     replace ho12:=congrArg some (es18 _ rfl)
     obtain rfl:=SI ho12
     simp only [Sum.elim_inr] at h
     obtain rfl:=SI h
     (try simp only [Z0]);exact LeV.to rfl (LeF.rfl' _)
   ·rename_i q21;simp only [q21,cond_false] at hs18 ⊢
    cbv;try simp only[ArKf4]
    obtain rfl:=SI hs18
    replace ho12:=congrArg some (es18 _ rfl)
    obtain rfl:=SI ho12
    refine ⟨_,rfl,?_⟩;first|rfl|(simp only[Z0];rfl)
  ·rintro a13 rfl
   clear ho12
   simp only [Sum.elim_inl] at h
   cbv;try simp only[ArKf4]
   obtain rfl:=SI h
   (try simp only [Z0]);exact LeV.to rfl (LeF.rfl' _)
theorem r_iitemAt{a0:TreeD}{a1:List UInt8}{r:Int}(h:iitemAt a0 a1=some r):Ret pg 109 true [.ag (treeC a0),.s a1] [] (.i .i64 r):=by
  unfold iitemAt at h
  refine retD 1000 1000 [] .o Tryz.func109 rfl (by decide +kernel) (by decide +kernel) rfl trivial ?_
  cbv;try simp only[ArKf4]
  obtain⟨r2,hr2,h⟩:=bnd_out h
  refine CallK.introE rfl rfl (r_gslices_IndexFunc_Item_iitemAt_1 hr2) ?_
  clear hr2
  cbv;try simp only[ArKf4]
  obtain rfl:=SI h
  (try simp only [Z0]);exact LeV.to rfl (LeF.rfl' _)
theorem r_iTreeGet{a0:TreeD}{a1:List UInt8}{r:ItemD × Bool}(h:iTreeGet a0 a1=some r):Ret pg 74 true [.ag (treeC a0),.s a1] [] (.tu [.ag (itemR r.1),.b r.2]):=by
  unfold iTreeGet at h
  refine retD 1000 1000 [] .o Tryz.func74 rfl (by decide +kernel) (by decide +kernel) rfl ⟨own_itemR _,trivial,trivial⟩ ?_
  cbv;try simp only[ArKf4]
  split
  ·rename_i q6;simp only [q6,cond_true] at h ⊢
   cbv;try simp only[ArKf4]
   obtain rfl:=SI h
   (try simp only [Z0]);exact LeV.to rfl (LeF.rfl' _)
  ·rename_i q6;simp only [q6,cond_false] at h ⊢
   cbv;try simp only[ArKf4]
   obtain⟨r2,hr2,h⟩:=bnd_out h
   refine CallK.introE rfl rfl (r_iitemAt hr2) ?_
   clear hr2
   cbv;try simp only[ArKf4]
   split
   ·rename_i q5;simp only [q5,cond_true] at h ⊢
    cbv;try simp only[ArKf4]
    obtain rfl:=SI h
    (try simp only [Z0]);exact LeV.to rfl (LeF.rfl' _)
   ·rename_i q5;simp only [q5,cond_false] at h ⊢
    cbv;try simp only[ArKf4]
    obtain⟨y4,hy4,h⟩:=bnd_out h
    refine ⟨gt_in hy4,?_⟩
    refine ⟨_,gt_at _ hy4,?_⟩
    cbv;try simp only[ArKf4]
    obtain rfl:=SI h
    (try simp only [Z0]);exact LeV.to rfl (LeF.rfl' _)
theorem r_iPoolOk{a0:PoolD}{r:Bool}(h:iPoolOk a0=some r):Ret pg 38 true [.ag (poolC a0)] [] (.b r):=by
  unfold iPoolOk at h
  refine retD 1000 1000 [] (.s .o (.s .o (.s .o (.k (.s .o (.s (.s (.s .o (.s .o (.k (.s (.s .o (.s .o (.s .o (.s (.s (.s .o (.s .o (.s (.s (.s .o (.k .o .o)) .o) .o))) .o) .o)))) .o) .o))) .o) .o)) .o)))) Tryz.func38 rfl (by decide +kernel) (by decide +kernel) rfl trivial ?_
  cbv;try simp only[ArKf5]
  obtain⟨r9,hr9,h⟩:=bnd_out h
  refine CallK.introE rfl rfl (r_iwithin hr9) ?_
  clear hr9
  cbv;try simp only[ArKf5]
  cases r9
  ·simp only [cond_false] at h
   cbv;try simp only[ArKf5]
   obtain rfl:=SI h
   (try simp only [Z0]);exact LeV.to rfl (LeF.rfl' _)
  ·simp only [cond_true] at h
   cbv;try simp only[ArKf5]
   obtain⟨r10,hr10,h⟩:=bnd_out h
   refine CallK.introE rfl rfl (r_iwithin hr10) ?_
   clear hr10
   cbv;try simp only[ArKf5]
   cases r10
   ·simp only [cond_false] at h
    cbv;try simp only[ArKf5]
    obtain rfl:=SI h
    (try simp only [Z0]);exact LeV.to rfl (LeF.rfl' _)
   ·simp only [cond_true] at h
    cbv;try simp only[ArKf5]
    obtain⟨r11,hr11,h⟩:=bnd_out h
    refine CallK.introE rfl rfl (r_iwithin hr11) ?_
    clear hr11
    cbv;try simp only[ArKf5]
    cases r11
    ·simp only [cond_false] at h
     cbv;try simp only[ArKf5]
     obtain rfl:=SI h
     (try simp only [Z0]);exact LeV.to rfl (LeF.rfl' _)
    ·simp only [cond_true] at h
     cbv;try simp only[ArKf5]
     obtain⟨r12,hr12,h⟩:=bnd_out h
     refine CallK.introE rfl rfl (r_imoveOk hr12) ?_
     clear hr12
     cbv;try simp only[ArKf5]
     cases r12
     ·simp only [cond_false] at h
      cbv;try simp only[ArKf5]
      obtain rfl:=SI h
      (try simp only [Z0]);exact LeV.to rfl (LeF.rfl' _)
     ·simp only [cond_true] at h
      cbv;try simp only[ArKf5]
      obtain⟨o84,ho84,h⟩:=bnd_out h
      refine CutK.intro (α:=Unit) [] [] (fun a=>[]) (fun a=>[]) (fun a=>(Sum.inl a:_ ⊕ _)=o84) ?_ ?_
      ·cbv;try simp only[ArKf5]
       refine LoopR (σ:=Int × (List ItemD)) ho84 [3,34,35,36] [3] (fun a=>[(36,.i .i64 a.1)]) (fun a=>[(3,[.sl .own 4 (rows itemR a.2)])]) (by first|rfl|(simp only[Z0];rfl)) fun _ s124 xs124 hs124 bs124 es124=>?_
       obtain⟨s124_0,s124_1⟩:=s124
       try dsimp only at hs124
       cbv;try simp only[ArKf5]
       split
       ·rename_i q165;simp only [q165,cond_true] at hs124 ⊢
        cbv;try simp only[ArKf5]
        obtain⟨o142,ho142,hs124⟩:=bnd_out hs124
        refine CutK.intro (α:=(List NodeD) × (List (List UInt8)) × (List ItemD) × Int × (List NodeD) × (List (List UInt8))) [3,34,35,36,45,46,47,48] [3,5] (fun a=>[(45,.pt ⟨.bx 5,[],1⟩),(46,.ag [.sl .shr 5 (rows nodeR a.1),.sl .shr 1 (rows strR a.2.1)]),(47,.b true),(48,.b false)]) (fun a=>[(3,[.sl .own 4 (rows itemR a.2.2.1)]),(5,[.i .i64 a.2.2.2.1,.sl .shr 5 (rows nodeR a.2.2.2.2.1),.sl .shr 1 (rows strR a.2.2.2.2.2)])]) (fun a=>(Sum.inl a:_ ⊕ _)=o142) ?_ ?_
        ·cbv;try simp only[ArKf5]
         obtain⟨y144,hy144,ho142⟩:=bnd_out ho142
         refine ⟨gt_in hy144,?_⟩
         refine ⟨_,gt_at _ hy144,?_⟩
         cbv;try simp only[ArKf5]
         obtain⟨r145,hr145,ho142⟩:=bnd_out ho142
         refine CallK.introE rfl rfl (r_iisMode hr145) ?_
         clear hr145
         cbv;try simp only[ArKf5]
         cases r145
         ·simp only [cond_false] at ho142
          cbv;try simp only[ArKf5]
          obtain rfl:=SI ho142
          simp only [Sum.elim_inr] at hs124
          obtain rfl:=SI hs124
          replace ho84:=congrArg some (es124 _ rfl)
          obtain rfl:=SI ho84
          simp only [Sum.elim_inr] at h
          obtain rfl:=SI h
          (try simp only [Z0]);exact LeV.to rfl (LeF.rfl' _)
         ·simp only [cond_true] at ho142
          cbv;try simp only[ArKf5]
          obtain⟨r146,hr146,ho142⟩:=bnd_out ho142
          refine CallK.introE rfl rfl (r_iFsOk hr146) ?_
          clear hr146
          cbv;try simp only[ArKf5]
          cases r146
          ·simp only [cond_false] at ho142
           cbv;try simp only[ArKf5]
           obtain rfl:=SI ho142
           simp only [Sum.elim_inr] at hs124
           obtain rfl:=SI hs124
           replace ho84:=congrArg some (es124 _ rfl)
           obtain rfl:=SI ho84
           simp only [Sum.elim_inr] at h
           obtain rfl:=SI h
           (try simp only [Z0]);exact LeV.to rfl (LeF.rfl' _)
          ·simp only [cond_true] at ho142
           cbv;try simp only[ArKf5]
           obtain⟨r147,hr147,ho142⟩:=bnd_out ho142
           refine CallK.introE rfl rfl (r_iTreeOf hr147) ?_
           clear hr147
           cbv;try simp only[ArKf5]
           refine LoopR (σ:=Int × (List ItemD)) ho142 [3,34,35,36,45,46,47,48,53,54,55] [3,5] (fun a=>[(55,.i .i64 a.1)]) (fun a=>[(3,[.sl .own 4 (rows itemR a.2)])]) (by first|rfl|(simp only[Z0];rfl)) fun _ s156 xs156 hs156 bs156 es156=>?_
           obtain⟨s156_0,s156_1⟩:=s156
           try dsimp only at hs156
           cbv;try simp only[ArKf5]
           split
           ·rename_i q164;simp only [q164,cond_true] at hs156 ⊢
            cbv;try simp only[ArKf5]
            obtain⟨y157,hy157,hs156⟩:=bnd_out hs156
            refine ⟨gt_in hy157,?_⟩
            refine ⟨_,gt_at _ hy157,?_⟩
            cbv;try simp only[ArKf5]
            obtain⟨o159,ho159,hs156⟩:=bnd_out hs156
            refine CutK.intro (α:=Unit) [3,7,34,35,36,45,46,47,48,53,54,55] [3,5,7] (fun a=>[]) (fun a=>[]) (fun a=>(Sum.inl a:_ ⊕ _)=o159) ?_ ?_
            ·cbv;try simp only[ArKf5]
             obtain⟨r162,hr162,ho159⟩:=bnd_out ho159
             refine CallK.introE rfl rfl (r_iTreeGet hr162) ?_
             obtain⟨r162_0,r162_1⟩:=r162
             try dsimp only at ho159
             clear hr162
             cbv;try simp only[ArKf5]
             cases r162_1
             ·simp only [cond_false] at ho159
              cbv;try simp only[ArKf5]
              obtain rfl:=SI ho159
              refine ⟨_,rfl,?_⟩;first|rfl|(simp only[Z0];rfl)
             ·simp only [cond_true] at ho159
              cbv;try simp only[ArKf5]
              split
              ·rename_i q163;simp only [q163,cond_true] at ho159 ⊢
               cbv;try simp only[ArKf5]
               obtain rfl:=SI ho159
               simp only [Sum.elim_inr] at hs156
               obtain rfl:=SI hs156
               replace ho142:=congrArg some (es156 _ rfl)
               obtain rfl:=SI ho142
               simp only [Sum.elim_inr] at hs124
               obtain rfl:=SI hs124
               replace ho84:=congrArg some (es124 _ rfl)
               obtain rfl:=SI ho84
               simp only [Sum.elim_inr] at h
               obtain rfl:=SI h
               (try simp only [Z0]);exact LeV.to rfl (LeF.rfl' _)
              ·rename_i q163;simp only [q163,cond_false] at ho159 ⊢
               cbv;try simp only[ArKf5]
               obtain rfl:=SI ho159
               refine ⟨_,rfl,?_⟩;first|rfl|(simp only[Z0];rfl)
            ·rintro a160 rfl
             clear ho159
             simp only [Sum.elim_inl] at hs156
             cbv;try simp only[ArKf5]
             obtain⟨c161,hs156⟩:=ck_out hs156
             refine ⟨c161,?_⟩
             obtain rfl:=SI hs156
             refine ⟨_,bs156 _ rfl,?_⟩;first|rfl|(simp only[Z0];rfl)
           ·rename_i q164;simp only [q164,cond_false] at hs156 ⊢
            cbv;try simp only[ArKf5]
            obtain rfl:=SI hs156
            replace ho142:=congrArg some (es156 _ rfl)
            obtain rfl:=SI ho142
            refine ⟨_,rfl,?_⟩;first|rfl|(simp only[Z0];rfl)
        ·rintro a143 rfl
         clear ho142
         simp only [Sum.elim_inl] at hs124
         obtain⟨a143_0,a143_1,a143_2,a143_3,a143_4,a143_5⟩:=a143
         try dsimp only at hs124
         cbv;try simp only[ArKf5]
         obtain rfl:=SI hs124
         refine ⟨_,bs124 _ rfl,?_⟩;first|rfl|(simp only[Z0];rfl)
       ·rename_i q165;simp only [q165,cond_false] at hs124 ⊢
        cbv;try simp only[ArKf5]
        obtain rfl:=SI hs124
        replace ho84:=congrArg some (es124 _ rfl)
        obtain rfl:=SI ho84
        refine ⟨_,rfl,?_⟩;first|rfl|(simp only[Z0];rfl)
      ·rintro a85 rfl
       clear ho84
       simp only [Sum.elim_inl] at h
       cbv;try simp only[ArKf5]
       obtain rfl:=SI h
       (try simp only [Z0]);exact LeV.to rfl (LeF.rfl' _)
theorem r_sl12MoveOk{a0:MoveD}{a1:Int}{r:Bool}(h:sl12MoveOk a0 a1=some r):Ret pg 64 true [.ag (moveC a0),.i .i64 a1] [] (.b r):=by
  unfold sl12MoveOk at h
  refine retD 1000 1000 [] .o Tryz.func64 rfl (by decide +kernel) (by decide +kernel) rfl trivial ?_
  cbv;try simp only[ArKf6]
  split
  ·rename_i q13;replace q13:=mnt q13;simp only [q13,cond_false] at h ⊢
   cbv;try simp only[ArKf6]
   obtain rfl:=SI h
   (try simp only [Z0]);exact LeV.to rfl (LeF.rfl' _)
  ·rename_i q13;replace q13:=mnf q13;simp only [q13,cond_true] at h ⊢
   cbv;try simp only[ArKf6]
   obtain⟨r6,hr6,h⟩:=bnd_out h
   refine CallK.introE rfl rfl (r_sl1In hr6) ?_
   clear hr6
   cbv;try simp only[ArKf6]
   cases r6
   ·simp only [cond_false] at h
    cbv;try simp only[ArKf6]
    obtain rfl:=SI h
    (try simp only [Z0]);exact LeV.to rfl (LeF.rfl' _)
   ·simp only [cond_true] at h
    cbv;try simp only[ArKf6]
    obtain⟨r7,hr7,h⟩:=bnd_out h
    refine CallK.introE rfl rfl (r_sl1In hr7) ?_
    clear hr7
    cbv;try simp only[ArKf6]
    cases r7
    ·simp only [cond_false] at h
     cbv;try simp only[ArKf6]
     obtain rfl:=SI h
     (try simp only [Z0]);exact LeV.to rfl (LeF.rfl' _)
    ·simp only [cond_true] at h
     cbv;try simp only[ArKf6]
     split
     ·rename_i q12;simp only [q12,cond_true] at h ⊢
      cbv;try simp only[ArKf6]
      obtain⟨r8,hr8,h⟩:=bnd_out h
      refine CallK.introE rfl rfl (r_sPathOk hr8) ?_
      clear hr8
      cbv;try simp only[ArKf6]
      cases r8
      ·simp only [cond_false] at h
       cbv;try simp only[ArKf6]
       obtain rfl:=SI h
       (try simp only [Z0]);exact LeV.to rfl (LeF.rfl' _)
      ·simp only [cond_true] at h
       cbv;try simp only[ArKf6]
       split
       ·rename_i q11;simp only [q11,cond_true] at h ⊢
        cbv;try simp only[ArKf6]
        obtain⟨r9,hr9,h⟩:=bnd_out h
        refine CallK.introE rfl rfl (r_sl1In hr9) ?_
        clear hr9
        cbv;try simp only[ArKf6]
        cases r9
        ·simp only [cond_false] at h
         cbv;try simp only[ArKf6]
         obtain rfl:=SI h
         (try simp only [Z0]);exact LeV.to rfl (LeF.rfl' _)
        ·simp only [cond_true] at h
         cbv;try simp only[ArKf6]
         obtain⟨r10,hr10,h⟩:=bnd_out h
         refine CallK.introE rfl rfl (r_sl1In hr10) ?_
         clear hr10
         cbv;try simp only[ArKf6]
         obtain rfl:=SI h
         (try simp only [Z0]);exact LeV.to rfl (LeF.rfl' _)
       ·rename_i q11;simp only [q11,cond_false] at h ⊢
        cbv;try simp only[ArKf6]
        obtain rfl:=SI h
        (try simp only [Z0]);exact LeV.to rfl (LeF.rfl' _)
     ·rename_i q12;simp only [q12,cond_false] at h ⊢
      cbv;try simp only[ArKf6]
      obtain rfl:=SI h
      (try simp only [Z0]);exact LeV.to rfl (LeF.rfl' _)
theorem r_sTreeGet{a0:TreeD}{a1:List UInt8}{r:ItemD × Bool}(h:sTreeGet a0 a1=some r):Ret pg 104 true [.ag (treeC a0),.s a1] [] (.tu [.ag (itemR r.1),.b r.2]):=by
  unfold sTreeGet at h
  refine retD 1000 1000 [] (.s .o (.s .o (.k .o .o))) Tryz.func104 rfl (by decide +kernel) (by decide +kernel) rfl ⟨own_itemR _,trivial,trivial⟩ ?_
  cbv;try simp only[ArKf4]
  split
  ·rename_i q15;simp only [q15,cond_true] at h ⊢
   cbv;try simp only[ArKf4]
   obtain rfl:=SI h
   (try simp only [Z0]);exact LeV.to rfl (LeF.rfl' _)
  ·rename_i q15;simp only [q15,cond_false] at h ⊢
   cbv;try simp only[ArKf4]
   obtain⟨o7,ho7,h⟩:=bnd_out h
   refine CutK.intro (α:=Unit) [4] [4] (fun a=>[]) (fun a=>[]) (fun a=>(Sum.inl a:_ ⊕ _)=o7) ?_ ?_
   ·cbv;try simp only[ArKf4]
    refine LoopR (σ:=Int) ho7 [1,2,4,6] [2,4] (fun a=>[(6,.i .i64 a)]) (fun a=>[]) (by first|rfl|(simp only[Z0];rfl)) fun _ s11 xs11 hs11 bs11 es11=>?_
    cbv;try simp only[ArKf4]
    split
    ·rename_i q14;simp only [q14,cond_true] at hs11 ⊢
     cbv;try simp only[ArKf4]
     obtain⟨y12,hy12,hs11⟩:=bnd_out hs11
     refine ⟨gt_in hy12,?_⟩
     refine ⟨_,gt_at _ hy12,?_⟩
     cbv;try simp only[ArKf4]
     split
     ·rename_i q13;simp only [q13,cond_true] at hs11 ⊢
      cbv;try simp only[ArKf4]
      refine ⟨gt_in hy12,?_⟩
      refine ⟨_,gt_at _ hy12,?_⟩
      cbv;try simp only[ArKf4]
      obtain rfl:=SI hs11
      replace ho7:=congrArg some (es11 _ rfl)
      obtain rfl:=SI ho7
      simp only [Sum.elim_inr] at h
      obtain rfl:=SI h
      (try simp only [Z0]);exact LeV.to rfl (LeF.rfl' _)
     ·rename_i q13;simp only [q13,cond_false] at hs11 ⊢
      cbv;try simp only[ArKf4]
      obtain rfl:=SI hs11
      refine ⟨_,bs11 _ rfl,?_⟩;first|rfl|(simp only[Z0];rfl)
    ·rename_i q14;simp only [q14,cond_false] at hs11 ⊢
     cbv;try simp only[ArKf4]
     obtain rfl:=SI hs11
     replace ho7:=congrArg some (es11 _ rfl)
     obtain rfl:=SI ho7
     refine ⟨_,rfl,?_⟩;first|rfl|(simp only[Z0];rfl)
   ·rintro a8 rfl
    clear ho7
    simp only [Sum.elim_inl] at h
    cbv;try simp only[ArKf4]
    obtain rfl:=SI h
    (try simp only [Z0]);exact LeV.to rfl (LeF.rfl' _)
theorem r_sl12Agree{a0:TreeD}{a1:TreeD}{r:Bool}(h:sl12Agree a0 a1=some r):Ret pg 66 true [.ag (treeC a0),.ag (treeC a1)] [] (.b r):=by
  unfold sl12Agree at h
  refine retD 8 3 [(4,[⟨false,[17,18,19,20,21,22,6],[16]⟩,⟨false,[16],[17]⟩,⟨false,[16,19,6],[18]⟩,⟨false,[16,18],[19]⟩,⟨false,[16,6],[20]⟩,⟨false,[16,6],[21]⟩,⟨false,[16,6],[22]⟩,⟨false,[6],[23]⟩,⟨false,[6],[23,15]⟩,⟨false,[6],[15,24]⟩,⟨false,[6],[15,25]⟩,⟨false,[16,18,20,21,22,23,23,15,15,24,15,25],[6]⟩,⟨true,[],[6]⟩,⟨true,[],[7]⟩]),(5,[⟨true,[],[26]⟩,⟨true,[],[26,27]⟩,⟨true,[],[28]⟩,⟨false,[30,31,32,33,34,35],[29]⟩,⟨false,[29],[30]⟩,⟨false,[29,32],[31]⟩,⟨false,[29,31],[32]⟩,⟨false,[29],[33]⟩,⟨false,[29],[34]⟩,⟨false,[29],[35]⟩,⟨true,[],[36]⟩,⟨true,[],[37]⟩])] (.s .o (.k .o .o)) Tryz.func66 rfl (by decide +kernel) (by decide +kernel) rfl trivial ?_
  cbv;try simp only[ArKf4]
  repeat((first|refine R6 ?_|refine A6 ?_);cbv;try simp only[ArKf4])
  obtain⟨o12,ho12,h⟩:=bnd_out h
  refine CutK.intro (α:=Unit) [] [] (fun a=>[]) (fun a=>[]) (fun a=>(Sum.inl a:_ ⊕ _)=o12) ?_ ?_
  ·cbv;try simp only[ArKf4]
   repeat((first|refine R6 ?_|refine A6 ?_);cbv;try simp only[ArKf4])
   refine LoopR (σ:=Int) ho12 [2,3,5] [2,3] (fun a=>[(5,.i .i64 a)]) (fun a=>[]) (by first|rfl|(simp only[Z0];rfl)) fun _ s18 xs18 hs18 bs18 es18=>?_
   cbv;try simp only[ArKf4]
   repeat((first|refine R6 ?_|refine A6 ?_);cbv;try simp only[ArKf4])
   split
   ·rename_i q22;simp only [q22,cond_true] at hs18 ⊢
    cbv;try simp only[ArKf4]
    repeat((first|refine R6 ?_|refine A6 ?_);cbv;try simp only[ArKf4])
    obtain⟨y19,hy19,hs18⟩:=bnd_out hs18
    refine ⟨gt_in hy19,?_⟩
    repeat((first|refine R6 ?_|refine A6 ?_);cbv;try simp only[ArKf4])
    refine ⟨_,gt_at _ hy19,?_⟩
    cbv;try simp only[ArKf4]
    repeat((first|refine R6 ?_|refine A6 ?_);cbv;try simp only[ArKf4])
    obtain⟨r20,hr20,hs18⟩:=bnd_out hs18
    refine CallK.introE rfl rfl (r_sTreeGet hr20) ?_
    obtain⟨r20_0,r20_1⟩:=r20
    try dsimp only at hs18
    clear hr20
    cbv;try simp only[ArKf4]
    repeat((first|refine R6 ?_|refine A6 ?_);cbv;try simp only[ArKf4])
    cases r20_1
    ·simp only [cond_false] at hs18
     cbv;try simp only[ArKf4]
     repeat((first|refine R6 ?_|refine A6 ?_);cbv;try simp only[ArKf4])
     obtain rfl:=SI hs18
     refine ⟨_,bs18 _ rfl,?_⟩;first|rfl|(simp only[Z0];rfl)
    ·simp only [cond_true] at hs18
     cbv;try simp only[ArKf4]
     repeat((first|refine R6 ?_|refine A6 ?_);cbv;try simp only[ArKf4])
     refine ⟨gt_in hy19,?_⟩
     repeat((first|refine R6 ?_|refine A6 ?_);cbv;try simp only[ArKf4])
     refine ⟨_,gt_at _ hy19,?_⟩
     cbv;try simp only[ArKf4]
     repeat((first|refine R6 ?_|refine A6 ?_);cbv;try simp only[ArKf4])
     split
     ·rename_i q21;simp only [q21,cond_true] at hs18 ⊢
      cbv;try simp only[ArKf4]
      repeat((first|refine R6 ?_|refine A6 ?_);cbv;try simp only[ArKf4])
      obtain rfl:=SI hs18
      replace ho12:=congrArg some (es18 _ rfl)
      obtain rfl:=SI ho12
      simp only [Sum.elim_inr] at h
      obtain rfl:=SI h
      (try simp only [Z0]);exact LeV.to rfl (LeF.rfl' _)
     ·rename_i q21;simp only [q21,cond_false] at hs18 ⊢
      cbv;try simp only[ArKf4]
      repeat((first|refine R6 ?_|refine A6 ?_);cbv;try simp only[ArKf4])
      obtain rfl:=SI hs18
      refine ⟨_,bs18 _ rfl,?_⟩;first|rfl|(simp only[Z0];rfl)
   ·rename_i q22;simp only [q22,cond_false] at hs18 ⊢
    cbv;try simp only[ArKf4]
    repeat((first|refine R6 ?_|refine A6 ?_);cbv;try simp only[ArKf4])
    obtain rfl:=SI hs18
    replace ho12:=congrArg some (es18 _ rfl)
    obtain rfl:=SI ho12
    refine ⟨_,rfl,?_⟩;first|rfl|(simp only[Z0];rfl)
  ·rintro a13 rfl
   clear ho12
   simp only [Sum.elim_inl] at h
   cbv;try simp only[ArKf4]
   repeat((first|refine R6 ?_|refine A6 ?_);cbv;try simp only[ArKf4])
   obtain rfl:=SI h
   (try simp only [Z0]);exact LeV.to rfl (LeF.rfl' _)
theorem r_sPoolOk{a0:PoolD}{r:Bool}(h:sPoolOk a0=some r):Ret pg 34 true [.ag (poolC a0)] [] (.b r):=by
  unfold sPoolOk at h
  refine retD 8 3 [(15,[⟨true,[],[65]⟩,⟨false,[67,72,73,74,75,76,77],[66]⟩,⟨false,[66],[67]⟩,⟨false,[72,73,74,75,76,77],[68]⟩,⟨false,[72,73,74,75,76,77],[69]⟩,⟨false,[72,73,74,75,76,77],[70]⟩,⟨false,[72,73,74,75,76,77],[71]⟩,⟨false,[66,68,69,70,71],[72]⟩,⟨false,[66,68,69,70,71,74],[73]⟩,⟨false,[66,68,69,70,71,73],[74]⟩,⟨false,[66,68,69,70,71],[75]⟩,⟨false,[66,68,69,70,71],[76]⟩,⟨false,[66,68,69,70,71],[77]⟩,⟨true,[],[78]⟩,⟨true,[],[79]⟩,⟨true,[],[80]⟩])] (.s .o (.s .o (.s .o (.k .o (.k (.s .o (.s (.s (.s .o (.k .o .o)) .o) .o)) .o))))) Tryz.func34 rfl (by decide +kernel) (by decide +kernel) rfl trivial ?_
  cbv;try simp only[ArKf5]
  repeat((first|refine R6 ?_|refine A6 ?_);cbv;try simp only[ArKf5])
  obtain⟨r9,hr9,h⟩:=bnd_out h
  refine CallK.introE rfl rfl (r_sl1In hr9) ?_
  clear hr9
  cbv;try simp only[ArKf5]
  repeat((first|refine R6 ?_|refine A6 ?_);cbv;try simp only[ArKf5])
  cases r9
  ·simp only [cond_false] at h
   cbv;try simp only[ArKf5]
   repeat((first|refine R6 ?_|refine A6 ?_);cbv;try simp only[ArKf5])
   obtain rfl:=SI h
   (try simp only [Z0]);exact LeV.to rfl (LeF.rfl' _)
  ·simp only [cond_true] at h
   cbv;try simp only[ArKf5]
   repeat((first|refine R6 ?_|refine A6 ?_);cbv;try simp only[ArKf5])
   obtain⟨r10,hr10,h⟩:=bnd_out h
   refine CallK.introE rfl rfl (r_sl1In hr10) ?_
   clear hr10
   cbv;try simp only[ArKf5]
   repeat((first|refine R6 ?_|refine A6 ?_);cbv;try simp only[ArKf5])
   cases r10
   ·simp only [cond_false] at h
    cbv;try simp only[ArKf5]
    repeat((first|refine R6 ?_|refine A6 ?_);cbv;try simp only[ArKf5])
    obtain rfl:=SI h
    (try simp only [Z0]);exact LeV.to rfl (LeF.rfl' _)
   ·simp only [cond_true] at h
    cbv;try simp only[ArKf5]
    repeat((first|refine R6 ?_|refine A6 ?_);cbv;try simp only[ArKf5])
    obtain⟨r11,hr11,h⟩:=bnd_out h
    refine CallK.introE rfl rfl (r_sl1In hr11) ?_
    clear hr11
    cbv;try simp only[ArKf5]
    repeat((first|refine R6 ?_|refine A6 ?_);cbv;try simp only[ArKf5])
    cases r11
    ·simp only [cond_false] at h
     cbv;try simp only[ArKf5]
     repeat((first|refine R6 ?_|refine A6 ?_);cbv;try simp only[ArKf5])
     obtain rfl:=SI h
     (try simp only [Z0]);exact LeV.to rfl (LeF.rfl' _)
    ·simp only [cond_true] at h
     cbv;try simp only[ArKf5]
     repeat((first|refine R6 ?_|refine A6 ?_);cbv;try simp only[ArKf5])
     obtain⟨r12,hr12,h⟩:=bnd_out h
     refine CallK.introE rfl rfl (r_sl12MoveOk hr12) ?_
     clear hr12
     cbv;try simp only[ArKf5]
     repeat((first|refine R6 ?_|refine A6 ?_);cbv;try simp only[ArKf5])
     cases r12
     ·simp only [cond_false] at h
      cbv;try simp only[ArKf5]
      repeat((first|refine R6 ?_|refine A6 ?_);cbv;try simp only[ArKf5])
      obtain rfl:=SI h
      (try simp only [Z0]);exact LeV.to rfl (LeF.rfl' _)
     ·simp only [cond_true] at h
      cbv;try simp only[ArKf5]
      repeat((first|refine R6 ?_|refine A6 ?_);cbv;try simp only[ArKf5])
      obtain⟨o29,ho29,h⟩:=bnd_out h
      refine CutK.intro (α:=Unit) [1,3] [1] (fun a=>[]) (fun a=>[]) (fun a=>(Sum.inl a:_ ⊕ _)=o29) ?_ ?_
      ·cbv;try simp only[ArKf5]
       repeat((first|refine R6 ?_|refine A6 ?_);cbv;try simp only[ArKf5])
       refine LoopR (σ:=Int) ho29 [1,3,4] [1] (fun a=>[(4,.i .i64 a)]) (fun a=>[]) (by first|rfl|(simp only[Z0];rfl)) fun _ s177 xs177 hs177 bs177 es177=>?_
       cbv;try simp only[ArKf5]
       repeat((first|refine R6 ?_|refine A6 ?_);cbv;try simp only[ArKf5])
       split
       ·rename_i q181;simp only [q181,cond_true] at hs177 ⊢
        cbv;try simp only[ArKf5]
        repeat((first|refine R6 ?_|refine A6 ?_);cbv;try simp only[ArKf5])
        obtain⟨y178,hy178,hs177⟩:=bnd_out hs177
        refine ⟨gt_in hy178,?_⟩
        repeat((first|refine R6 ?_|refine A6 ?_);cbv;try simp only[ArKf5])
        refine ⟨_,gt_at _ hy178,?_⟩
        cbv;try simp only[ArKf5]
        repeat((first|refine R6 ?_|refine A6 ?_);cbv;try simp only[ArKf5])
        obtain⟨r179,hr179,hs177⟩:=bnd_out hs177
        refine CallK.introE rfl rfl (r_sl1In hr179) ?_
        clear hr179
        cbv;try simp only[ArKf5]
        repeat((first|refine R6 ?_|refine A6 ?_);cbv;try simp only[ArKf5])
        cases r179
        ·simp only [cond_false] at hs177
         cbv;try simp only[ArKf5]
         repeat((first|refine R6 ?_|refine A6 ?_);cbv;try simp only[ArKf5])
         obtain rfl:=SI hs177
         replace ho29:=congrArg some (es177 _ rfl)
         obtain rfl:=SI ho29
         simp only [Sum.elim_inr] at h
         obtain rfl:=SI h
         (try simp only [Z0]);exact LeV.to rfl (LeF.rfl' _)
        ·simp only [cond_true] at hs177
         cbv;try simp only[ArKf5]
         repeat((first|refine R6 ?_|refine A6 ?_);cbv;try simp only[ArKf5])
         refine ⟨gt_in hy178,?_⟩
         repeat((first|refine R6 ?_|refine A6 ?_);cbv;try simp only[ArKf5])
         refine ⟨_,gt_at _ hy178,?_⟩
         cbv;try simp only[ArKf5]
         repeat((first|refine R6 ?_|refine A6 ?_);cbv;try simp only[ArKf5])
         obtain⟨r180,hr180,hs177⟩:=bnd_out hs177
         refine CallK.introE rfl rfl (r_sFsOk hr180) ?_
         clear hr180
         cbv;try simp only[ArKf5]
         repeat((first|refine R6 ?_|refine A6 ?_);cbv;try simp only[ArKf5])
         cases r180
         ·simp only [cond_false] at hs177
          cbv;try simp only[ArKf5]
          repeat((first|refine R6 ?_|refine A6 ?_);cbv;try simp only[ArKf5])
          obtain rfl:=SI hs177
          replace ho29:=congrArg some (es177 _ rfl)
          obtain rfl:=SI ho29
          simp only [Sum.elim_inr] at h
          obtain rfl:=SI h
          (try simp only [Z0]);exact LeV.to rfl (LeF.rfl' _)
         ·simp only [cond_true] at hs177
          cbv;try simp only[ArKf5]
          repeat((first|refine R6 ?_|refine A6 ?_);cbv;try simp only[ArKf5])
          obtain rfl:=SI hs177
          refine ⟨_,bs177 _ rfl,?_⟩;first|rfl|(simp only[Z0];rfl)
       ·rename_i q181;simp only [q181,cond_false] at hs177 ⊢
        cbv;try simp only[ArKf5]
        repeat((first|refine R6 ?_|refine A6 ?_);cbv;try simp only[ArKf5])
        obtain rfl:=SI hs177
        replace ho29:=congrArg some (es177 _ rfl)
        obtain rfl:=SI ho29
        refine ⟨_,rfl,?_⟩;first|rfl|(simp only[Z0];rfl)
      ·rintro a30 rfl
       clear ho29
       simp only [Sum.elim_inl] at h
       cbv;try simp only[ArKf5]
       repeat((first|refine R6 ?_|refine A6 ?_);cbv;try simp only[ArKf5])
       obtain⟨o96,ho96,h⟩:=bnd_out h
       refine CutK.intro (α:=Unit) [] [] (fun a=>[]) (fun a=>[]) (fun a=>(Sum.inl a:_ ⊕ _)=o96) ?_ ?_
       ·cbv;try simp only[ArKf5]
        repeat((first|refine R6 ?_|refine A6 ?_);cbv;try simp only[ArKf5])
        refine LoopR (σ:=Int) ho96 [1,3,5] [1] (fun a=>[(5,.i .i64 a)]) (fun a=>[]) (by first|rfl|(simp only[Z0];rfl)) fun _ s134 xs134 hs134 bs134 es134=>?_
        cbv;try simp only[ArKf5]
        repeat((first|refine R6 ?_|refine A6 ?_);cbv;try simp only[ArKf5])
        split
        ·rename_i q170;simp only [q170,cond_true] at hs134 ⊢
         cbv;try simp only[ArKf5]
         repeat((first|refine R6 ?_|refine A6 ?_);cbv;try simp only[ArKf5])
         obtain⟨o151,ho151,hs134⟩:=bnd_out hs134
         refine CutK.intro (α:=Unit) [1,3,5] [1] (fun a=>[]) (fun a=>[]) (fun a=>(Sum.inl a:_ ⊕ _)=o151) ?_ ?_
         ·cbv;try simp only[ArKf5]
          repeat((first|refine R6 ?_|refine A6 ?_);cbv;try simp only[ArKf5])
          refine LoopR (σ:=Int) ho151 [1,3,5,6] [1] (fun a=>[(6,.i .i64 a)]) (fun a=>[]) (by first|rfl|(simp only[Z0];rfl)) fun _ s163 xs163 hs163 bs163 es163=>?_
          cbv;try simp only[ArKf5]
          repeat((first|refine R6 ?_|refine A6 ?_);cbv;try simp only[ArKf5])
          split
          ·rename_i q169;simp only [q169,cond_true] at hs163 ⊢
           cbv;try simp only[ArKf5]
           repeat((first|refine R6 ?_|refine A6 ?_);cbv;try simp only[ArKf5])
           obtain⟨y164,hy164,hs163⟩:=bnd_out hs163
           refine ⟨gt_in hy164,?_⟩
           repeat((first|refine R6 ?_|refine A6 ?_);cbv;try simp only[ArKf5])
           refine ⟨_,gt_at _ hy164,?_⟩
           cbv;try simp only[ArKf5]
           repeat((first|refine R6 ?_|refine A6 ?_);cbv;try simp only[ArKf5])
           obtain⟨r165,hr165,hs163⟩:=bnd_out hs163
           refine CallK.introE rfl rfl (r_sTreeOf hr165) ?_
           clear hr165
           cbv;try simp only[ArKf5]
           repeat((first|refine R6 ?_|refine A6 ?_);cbv;try simp only[ArKf5])
           obtain⟨y166,hy166,hs163⟩:=bnd_out hs163
           refine ⟨gt_in hy166,?_⟩
           repeat((first|refine R6 ?_|refine A6 ?_);cbv;try simp only[ArKf5])
           refine ⟨_,gt_at _ hy166,?_⟩
           cbv;try simp only[ArKf5]
           repeat((first|refine R6 ?_|refine A6 ?_);cbv;try simp only[ArKf5])
           obtain⟨r167,hr167,hs163⟩:=bnd_out hs163
           refine CallK.introE rfl rfl (r_sTreeOf hr167) ?_
           clear hr167
           cbv;try simp only[ArKf5]
           repeat((first|refine R6 ?_|refine A6 ?_);cbv;try simp only[ArKf5])
           obtain⟨r168,hr168,hs163⟩:=bnd_out hs163
           refine CallK.introE rfl rfl (r_sl12Agree hr168) ?_
           clear hr168
           cbv;try simp only[ArKf5]
           repeat((first|refine R6 ?_|refine A6 ?_);cbv;try simp only[ArKf5])
           cases r168
           ·simp only [cond_false] at hs163
            cbv;try simp only[ArKf5]
            repeat((first|refine R6 ?_|refine A6 ?_);cbv;try simp only[ArKf5])
            obtain rfl:=SI hs163
            replace ho151:=congrArg some (es163 _ rfl)
            obtain rfl:=SI ho151
            simp only [Sum.elim_inr] at hs134
            obtain rfl:=SI hs134
            replace ho96:=congrArg some (es134 _ rfl)
            obtain rfl:=SI ho96
            simp only [Sum.elim_inr] at h
            obtain rfl:=SI h
            (try simp only [Z0]);exact LeV.to rfl (LeF.rfl' _)
           ·simp only [cond_true] at hs163
            cbv;try simp only[ArKf5]
            repeat((first|refine R6 ?_|refine A6 ?_);cbv;try simp only[ArKf5])
            obtain rfl:=SI hs163
            refine ⟨_,bs163 _ rfl,?_⟩;first|rfl|(simp only[Z0];rfl)
          ·rename_i q169;simp only [q169,cond_false] at hs163 ⊢
           cbv;try simp only[ArKf5]
           repeat((first|refine R6 ?_|refine A6 ?_);cbv;try simp only[ArKf5])
           obtain rfl:=SI hs163
           replace ho151:=congrArg some (es163 _ rfl)
           obtain rfl:=SI ho151
           refine ⟨_,rfl,?_⟩;first|rfl|(simp only[Z0];rfl)
         ·rintro a152 rfl
          clear ho151
          simp only [Sum.elim_inl] at hs134
          cbv;try simp only[ArKf5]
          repeat((first|refine R6 ?_|refine A6 ?_);cbv;try simp only[ArKf5])
          obtain rfl:=SI hs134
          refine ⟨_,bs134 _ rfl,?_⟩;first|rfl|(simp only[Z0];rfl)
        ·rename_i q170;simp only [q170,cond_false] at hs134 ⊢
         cbv;try simp only[ArKf5]
         repeat((first|refine R6 ?_|refine A6 ?_);cbv;try simp only[ArKf5])
         obtain rfl:=SI hs134
         replace ho96:=congrArg some (es134 _ rfl)
         obtain rfl:=SI ho96
         refine ⟨_,rfl,?_⟩;first|rfl|(simp only[Z0];rfl)
       ·rintro a97 rfl
        clear ho96
        simp only [Sum.elim_inl] at h
        cbv;try simp only[ArKf5]
        repeat((first|refine R6 ?_|refine A6 ?_);cbv;try simp only[ArKf5])
        obtain rfl:=SI h
        (try simp only [Z0]);exact LeV.to rfl (LeF.rfl' _)
end Go.Ar
