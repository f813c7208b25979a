import Derived.Test.YtogidplgdeghgaaGreatArKD
import Derived.Test.YtogidplgdeghgaaGreatArDcN
import Derived.Test.YtogidplgdeghgaaGreatArKa
import Derived.Test.YtogidplgdeghgaaGreatArKb
import Derived.Test.YtogidplgdeghgaaGreatArKc
namespace Go.Ar
open Go.Proofs
set_option linter.unusedVariables false
set_option linter.unusedSimpArgs false
set_option maxRecDepth 20000
set_option maxHeartbeats 40000000
theorem ArKm1 : type_of% (And.intro @F (And.intro @F2 (And.intro @N0 (And.intro @N_Put @N_String)))) := ⟨@F, @F2, @N0, @N_Put, @N_String⟩
theorem ArKm2 : type_of% (And.intro @F (And.intro @F2 (And.intro @N0 @N_String))) := ⟨@F, @F2, @N0, @N_String⟩
theorem ArKm3 : type_of% (And.intro @F (And.intro @F2 (And.intro @N0 @N_Int))) := ⟨@F, @F2, @N0, @N_Int⟩
theorem ArKm4 : type_of% (And.intro @F (And.intro @F2 (And.intro @N0 (And.intro @N_Int (And.intro @N_Node @N_String))))) := ⟨@F, @F2, @N0, @N_Int, @N_Node, @N_String⟩
theorem ArKm5 : type_of% (And.intro @F (And.intro @F2 (And.intro @N0 (And.intro @N_Node (And.intro @N_Put @N_String))))) := ⟨@F, @F2, @N0, @N_Node, @N_Put, @N_String⟩
theorem r_iSectorRead {a0 : DiskD} {a1 : Int} {r : (List UInt8) × Bool} (h : iSectorRead a0 a1 = some r) : Ret pg 141 true [.ag (diskC a0), .i .i64 a1] [] (.tu [.s r.1, .b r.2]) := by
  unfold iSectorRead at h
  refine retD 1000 1000 [] (.s .o (.s .o (.s .o (.k .o .o)))) Tryz.func141 rfl (by decide +kernel) (by decide +kernel) rfl ⟨trivial, trivial, trivial⟩ ?_
  cbv;try simp only[ArKm1]
  obtain ⟨r5, hr5, h⟩ := bnd_out h
  refine CallK.introE rfl rfl (r_iDiskOk hr5) ?_
  clear hr5
  cbv;try simp only[ArKm1]
  cases r5
  ·simp only [cond_false] at h
   cbv;try simp only[ArKm1]
   obtain rfl:=SI h
   (try simp only [Z0]); exact LeV.to rfl (LeF.rfl' _)
  ·simp only [cond_true] at h
   cbv;try simp only[ArKm1]
   obtain ⟨r6, hr6, h⟩ := bnd_out h
   refine CallK.introE rfl rfl (r_iwithin hr6) ?_
   clear hr6
   cbv;try simp only[ArKm1]
   cases r6
   ·simp only [cond_false] at h
    cbv;try simp only[ArKm1]
    obtain rfl:=SI h
    (try simp only [Z0]); exact LeV.to rfl (LeF.rfl' _)
   ·simp only [cond_true] at h
    cbv;try simp only[ArKm1]
    obtain ⟨y8, hy8, h⟩ := bnd_out h
    refine ⟨gt_in hy8, ?_⟩
    refine ⟨_, gt_at _ hy8, ?_⟩
    cbv;try simp only[ArKm1]
    obtain ⟨o15, ho15, h⟩ := bnd_out h
    refine CutK.intro (α := (List UInt8)) [6] [] (fun a => [(6, .s a)]) (fun a => []) (fun a => a = o15) ?_ ?_
    ·cbv;try simp only[ArKm1]
     refine LoopR (σ := (List UInt8) × Int) ho15 [1, 6, 27, 28, 29] [] (fun a => [(6, .s a.1), (29, .i .i64 a.2)]) (fun a => []) (by first | rfl | (simp only [rows_nil, bys_n]; rfl)) fun _ s19 xs19 hs19 bs19 es19 => ?_
     obtain ⟨s19_0, s19_1⟩ := s19
     try dsimp only at hs19
     cbv;try simp only[ArKm1]
     split
     ·rename_i q22; simp only [q22, cond_true] at hs19 ⊢
      cbv;try simp only[ArKm1]
      obtain ⟨y20, hy20, hs19⟩ := bnd_out hs19
      refine ⟨gt_in hy20, ?_⟩
      refine ⟨_, gt_at _ hy20, ?_⟩
      cbv;try simp only[ArKm1]
      split
      ·rename_i q21; simp only [q21, cond_true] at hs19 ⊢
       cbv;try simp only[ArKm1]
       obtain rfl:=SI hs19
       refine ⟨_,bs19 _ rfl,?_⟩;first|rfl|(simp only[Z0];rfl)
      ·rename_i q21; simp only [q21, cond_false] at hs19 ⊢
       cbv;try simp only[ArKm1]
       obtain rfl:=SI hs19
       refine ⟨_,bs19 _ rfl,?_⟩;first|rfl|(simp only[Z0];rfl)
     ·rename_i q22; simp only [q22, cond_false] at hs19 ⊢
      cbv;try simp only[ArKm1]
      obtain rfl:=SI hs19
      replace ho15 := congrArg some (es19 _ rfl)
      obtain rfl:=SI ho15
      refine ⟨_,rfl,?_⟩;first|rfl|(simp only[Z0];rfl)
    ·rintro a16 rfl
     clear ho15
     cbv;try simp only[ArKm1]
     obtain rfl:=SI h
     (try simp only [Z0]); exact LeV.to rfl (LeF.rfl' _)
theorem r_gslices_Clip_string {a0 : List (List UInt8)} {r : (List (List UInt8))} (h : gslices_Clip_string a0 = some r) : Ret pg 142 true [.sl .own 1 (rows strR a0)] [] (.sl .own 1 (rows strR r)) := by
  unfold gslices_Clip_string at h
  refine retD 1000 1000 [] .o Tryz.func142 rfl (by decide +kernel) (by decide +kernel) rfl ⟨rfl, own_stringS _⟩ ?_
  cbv;try simp only[ArKm2]
  obtain ⟨c2, h⟩ := ck_out h
  refine ⟨c2, ?_⟩
  obtain ⟨c1, h⟩ := ck_out h
  refine ⟨c1, ?_⟩
  obtain rfl:=SI h
  (try simp only [Z0]); exact LeV.to rfl (LeF.rfl' _)
theorem r_iHomeOf {a0 : DiskD} {a1 : Int} {r : (List (List UInt8))} (h : iHomeOf a0 a1 = some r) : Ret pg 64 true [.ag (diskC a0), .i .i64 a1] [] (.sl .own 1 (rows strR r)) := by
  unfold iHomeOf at h
  refine retD 1000 1000 [] (.s .o (.s .o (.s .o (.k .o .o)))) Tryz.func64 rfl (by decide +kernel) (by decide +kernel) rfl ⟨rfl, own_stringS _⟩ ?_
  cbv;try simp only[ArKm1]
  obtain ⟨r3, hr3, h⟩ := bnd_out h
  refine CallK.introE rfl rfl (r_ihomed hr3) ?_
  clear hr3
  cbv;try simp only[ArKm1]
  cases r3
  ·simp only [cond_false] at h
   cbv;try simp only[ArKm1]
   obtain rfl:=SI h
   first | exact LeV.to rfl (LeF.nr _ _ _) | (simp only [rows_nil, bys_n]; exact LeV.to rfl (LeF.nr _ _ _))
  ·simp only [cond_true] at h
   cbv;try simp only[ArKm1]
   obtain ⟨o10, ho10, h⟩ := bnd_out h
   refine CutK.intro (α := (List (List UInt8))) [5] [] (fun a => [(5, .sl .own 1 (rows strR a))]) (fun a => []) (fun a => a = o10) ?_ ?_
   ·cbv;try simp only[ArKm1]
    refine LoopR (σ := (List (List UInt8)) × Int) ho10 [1, 2, 5, 14, 15] [2] (fun a => [(5, .sl .own 1 (rows strR a.1)), (15, .i .i64 a.2)]) (fun a => []) (by first | rfl | (simp only [rows_nil, bys_n]; rfl)) fun _ s16 xs16 hs16 bs16 es16 => ?_
    obtain ⟨s16_0, s16_1⟩ := s16
    try dsimp only at hs16
    cbv;try simp only[ArKm1]
    split
    ·rename_i q19; simp only [q19, cond_true] at hs16 ⊢
     cbv;try simp only[ArKm1]
     obtain ⟨r17, hr17, hs16⟩ := bnd_out hs16
     refine CallK.introE rfl rfl (r_iSectorRead hr17) ?_
     obtain ⟨r17_0, r17_1⟩ := r17
     try dsimp only at hs16
     clear hr17
     cbv;try simp only[ArKm1]
     obtain ⟨c18, hs16⟩ := ck_out hs16
     refine ⟨c18, ?_⟩
     obtain rfl:=SI hs16
     refine ⟨_,bs16 _ rfl,?_⟩;first|rfl|(simp only[Z0];rfl)
    ·rename_i q19; simp only [q19, cond_false] at hs16 ⊢
     cbv;try simp only[ArKm1]
     obtain rfl:=SI hs16
     replace ho10 := congrArg some (es16 _ rfl)
     obtain rfl:=SI ho10
     refine ⟨_,rfl,?_⟩;first|rfl|(simp only[Z0];rfl)
   ·rintro a11 rfl
    clear ho10
    cbv;try simp only[ArKm1]
    refine ⟨by rw [OwnK_eq]; exact ⟨⟨rfl, own_stringS _⟩, trivial⟩, ?_⟩
    obtain ⟨r13, hr13, h⟩ := bnd_out h
    refine CallK.introE rfl rfl (r_gslices_Clip_string hr13) ?_
    clear hr13
    cbv;try simp only[ArKm1]
    obtain rfl:=SI h
    (try simp only [Z0]); exact LeV.to rfl (LeF.rfl' _)
theorem r_iNodeOf {a0 : List UInt8} {r : NodeD × Bool} (h : iNodeOf a0 = some r) : Ret pg 137 true [.s a0] [] (.tu [.ag (nodeR r.1), .b r.2]) := by
  unfold iNodeOf at h
  refine retD 8 3 [(14, [⟨true, [], [44]⟩, ⟨false, [47, 48, 49, 50, 51, 52], [45]⟩, ⟨false, [47, 48, 49, 50, 51, 52], [46]⟩, ⟨false, [45, 46], [47]⟩, ⟨false, [45, 46, 50, 51, 52, 53, 10], [48]⟩, ⟨false, [45, 46, 50, 51, 52, 53, 10], [49]⟩, ⟨false, [45, 46, 48, 49], [50]⟩, ⟨false, [45, 46, 48, 49, 53, 10, 54, 10], [51]⟩, ⟨false, [45, 46, 48, 49, 53, 10, 54, 10], [52]⟩, ⟨false, [48, 49, 51, 52], [53]⟩, ⟨false, [48, 49, 51, 52], [10]⟩, ⟨false, [51, 52], [54]⟩, ⟨false, [51, 52], [10]⟩, ⟨true, [], [55]⟩, ⟨true, [], [10]⟩])] (.s .o (.s .o (.s .o (.s .o (.k .o (.s .o (.k .o .o))))))) Tryz.func137 rfl (by decide +kernel) (by decide +kernel) rfl ⟨own_nodeR _, trivial, trivial⟩ ?_
  cbv;try simp only[ArKm3]
  repeat((first|refine R6 ?_|refine A6 ?_);cbv;try simp only[ArKm3])
  split
  ·rename_i q37; simp only [q37, cond_true] at h ⊢
   cbv;try simp only[ArKm3]
   repeat((first|refine R6 ?_|refine A6 ?_);cbv;try simp only[ArKm3])
   obtain rfl:=SI h
   (try simp only [Z0]); exact LeV.to rfl (LeF.rfl' _)
  ·rename_i q37; simp only [q37, cond_false] at h ⊢
   cbv;try simp only[ArKm3]
   repeat((first|refine R6 ?_|refine A6 ?_);cbv;try simp only[ArKm3])
   obtain ⟨c36, h⟩ := ck_out h
   refine ⟨c36, ?_⟩
   repeat((first|refine R6 ?_|refine A6 ?_);cbv;try simp only[ArKm3])
   obtain ⟨o6, ho6, h⟩ := bnd_out h
   refine CutK.intro (α := (List Int)) [0, 2, 4, 5] [2] (fun a => [(4, .sl .own 1 (rows intR a))]) (fun a => []) (fun a => (Sum.inl a : _ ⊕ _) = o6) ?_ ?_
   ·cbv;try simp only[ArKm3]
    repeat((first|refine R6 ?_|refine A6 ?_);cbv;try simp only[ArKm3])
    refine LoopR (σ := (List Int) × Int) ho6 [0, 2, 4, 5, 6] [2] (fun a => [(4, .sl .own 1 (rows intR a.1)), (6, .i .i64 a.2)]) (fun a => []) (by first | rfl | (simp only [rows_nil, bys_n]; rfl)) fun _ s32 xs32 hs32 bs32 es32 => ?_
    obtain ⟨s32_0, s32_1⟩ := s32
    try dsimp only at hs32
    cbv;try simp only[ArKm3]
    repeat((first|refine R6 ?_|refine A6 ?_);cbv;try simp only[ArKm3])
    split
    ·rename_i q35; simp only [q35, cond_true] at hs32 ⊢
     cbv;try simp only[ArKm3]
     repeat((first|refine R6 ?_|refine A6 ?_);cbv;try simp only[ArKm3])
     obtain ⟨r33, hr33, hs32⟩ := bnd_out hs32
     refine CallK.introE rfl rfl (r_iGetNum hr33) ?_
     obtain ⟨r33_0, r33_1, r33_2⟩ := r33
     try dsimp only at hs32
     clear hr33
     cbv;try simp only[ArKm3]
     repeat((first|refine R6 ?_|refine A6 ?_);cbv;try simp only[ArKm3])
     cases r33_2
     ·simp only [cond_false] at hs32
      cbv;try simp only[ArKm3]
      repeat((first|refine R6 ?_|refine A6 ?_);cbv;try simp only[ArKm3])
      obtain rfl:=SI hs32
      replace ho6 := congrArg some (es32 _ rfl)
      obtain rfl:=SI ho6
      simp only [Sum.elim_inr] at h
      obtain rfl:=SI h
      (try simp only [Z0]); exact LeV.to rfl (LeF.rfl' _)
     ·simp only [cond_true] at hs32
      cbv;try simp only[ArKm3]
      repeat((first|refine R6 ?_|refine A6 ?_);cbv;try simp only[ArKm3])
      obtain ⟨c34, hs32⟩ := ck_out hs32
      refine ⟨c34, ?_⟩
      repeat((first|refine R6 ?_|refine A6 ?_);cbv;try simp only[ArKm3])
      obtain rfl:=SI hs32
      refine ⟨_,bs32 _ rfl,?_⟩;first|rfl|(simp only[Z0];rfl)
    ·rename_i q35; simp only [q35, cond_false] at hs32 ⊢
     cbv;try simp only[ArKm3]
     repeat((first|refine R6 ?_|refine A6 ?_);cbv;try simp only[ArKm3])
     obtain rfl:=SI hs32
     replace ho6 := congrArg some (es32 _ rfl)
     obtain rfl:=SI ho6
     refine ⟨_,rfl,?_⟩;first|rfl|(simp only[Z0];rfl)
   ·rintro a7 rfl
    clear ho6
    simp only [Sum.elim_inl] at h
    cbv;try simp only[ArKm3]
    repeat((first|refine R6 ?_|refine A6 ?_);cbv;try simp only[ArKm3])
    obtain ⟨y9, hy9, h⟩ := bnd_out h
    refine ⟨gt_in hy9, ?_⟩
    repeat((first|refine R6 ?_|refine A6 ?_);cbv;try simp only[ArKm3])
    refine ⟨_, gt_ab hy9, ?_⟩
    cbv;try simp only[ArKm3]
    repeat((first|refine R6 ?_|refine A6 ?_);cbv;try simp only[ArKm3])
    obtain ⟨o19, ho19, h⟩ := bnd_out h
    refine CutK.intro (α := Int × Int × Int × (List Int)) [0, 2, 10] [2, 10] (fun a => []) (fun a => [(10, [.i .i64 (wrp .i64 (b2i y9)), .i .i64 a.1, .i .i64 a.2.1, .i .i64 a.2.2.1, .sl .own 1 (rows intR a.2.2.2)])]) (fun a => a = o19) ?_ ?_
    ·cbv;try simp only[ArKm3]
     repeat((first|refine R6 ?_|refine A6 ?_);cbv;try simp only[ArKm3])
     split
     ·rename_i q29; simp only [q29, cond_true] at ho19 ⊢
      cbv;try simp only[ArKm3]
      repeat((first|refine R6 ?_|refine A6 ?_);cbv;try simp only[ArKm3])
      obtain ⟨y25, hy25, ho19⟩ := bnd_out ho19
      refine ⟨gt_in hy25, ?_⟩
      repeat((first|refine R6 ?_|refine A6 ?_);cbv;try simp only[ArKm3])
      refine ⟨_, gt_at _ hy25, ?_⟩
      cbv;try simp only[ArKm3]
      repeat((first|refine R6 ?_|refine A6 ?_);cbv;try simp only[ArKm3])
      obtain ⟨y26, hy26, ho19⟩ := bnd_out ho19
      refine ⟨gt_in hy26, ?_⟩
      repeat((first|refine R6 ?_|refine A6 ?_);cbv;try simp only[ArKm3])
      refine ⟨_, gt_at _ hy26, ?_⟩
      cbv;try simp only[ArKm3]
      repeat((first|refine R6 ?_|refine A6 ?_);cbv;try simp only[ArKm3])
      obtain ⟨y27, hy27, ho19⟩ := bnd_out ho19
      refine ⟨gt_in hy27, ?_⟩
      repeat((first|refine R6 ?_|refine A6 ?_);cbv;try simp only[ArKm3])
      refine ⟨_, gt_at _ hy27, ?_⟩
      cbv;try simp only[ArKm3]
      repeat((first|refine R6 ?_|refine A6 ?_);cbv;try simp only[ArKm3])
      obtain ⟨c28, ho19⟩ := ck_out ho19
      refine ⟨c28, ?_⟩
      repeat((first|refine R6 ?_|refine A6 ?_);cbv;try simp only[ArKm3])
      obtain rfl:=SI ho19
      refine ⟨_,rfl,?_⟩;first|rfl|(simp only[Z0];rfl)
     ·rename_i q29; simp only [q29, cond_false] at ho19 ⊢
      cbv;try simp only[ArKm3]
      repeat((first|refine R6 ?_|refine A6 ?_);cbv;try simp only[ArKm3])
      obtain rfl:=SI ho19
      refine ⟨_,rfl,?_⟩;first|rfl|(simp only[Z0];rfl)
    ·rintro a20 rfl
     clear ho19
     obtain ⟨a20_0, a20_1, a20_2, a20_3⟩ := a20
     try dsimp only at h
     cbv;try simp only[ArKm3]
     repeat((first|refine R6 ?_|refine A6 ?_);cbv;try simp only[ArKm3])
     obtain ⟨r23, hr23, h⟩ := bnd_out h
     refine CallK.introE rfl rfl (r_iNodeText hr23) ?_
     clear hr23
     cbv;try simp only[ArKm3]
     repeat((first|refine R6 ?_|refine A6 ?_);cbv;try simp only[ArKm3])
     split
     ·rename_i q24; simp only [q24, cond_true] at h ⊢
      cbv;try simp only[ArKm3]
      repeat((first|refine R6 ?_|refine A6 ?_);cbv;try simp only[ArKm3])
      obtain rfl:=SI h
      (try simp only [Z0]); exact LeV.to rfl (LeF.rfl' _)
     ·rename_i q24; simp only [q24, cond_false] at h ⊢
      cbv;try simp only[ArKm3]
      repeat((first|refine R6 ?_|refine A6 ?_);cbv;try simp only[ArKm3])
      obtain rfl:=SI h
      (try simp only [Z0]); exact LeV.to rfl (LeF.rfl' _)
theorem r_gslices_Equal_string {a0 : List (List UInt8)} {a1 : List (List UInt8)} {r : Bool} (h : gslices_Equal_string a0 a1 = some r) : Ret pg 139 true [.sl .shr 1 (rows strR a0), .sl .shr 1 (rows strR a1)] [] (.b r) := by
  unfold gslices_Equal_string at h
  refine retD 8 3 [(6, [⟨true, [], [16]⟩, ⟨true, [], [17]⟩, ⟨false, [20, 21, 22, 23], [18]⟩, ⟨false, [20, 21, 22, 23], [19]⟩, ⟨false, [18, 19], [20]⟩, ⟨false, [18, 19], [21]⟩, ⟨false, [18, 19], [22]⟩, ⟨false, [18, 19], [23]⟩, ⟨true, [], [24]⟩])] (.s .o (.s .o (.k .o .o))) Tryz.func139 rfl (by decide +kernel) (by decide +kernel) rfl trivial ?_
  cbv;try simp only[ArKm2]
  repeat((first|refine R6 ?_|refine A6 ?_);cbv;try simp only[ArKm2])
  split
  ·rename_i q23; simp only [q23, cond_true] at h ⊢
   cbv;try simp only[ArKm2]
   repeat((first|refine R6 ?_|refine A6 ?_);cbv;try simp only[ArKm2])
   obtain rfl:=SI h
   (try simp only [Z0]); exact LeV.to rfl (LeF.rfl' _)
  ·rename_i q23; simp only [q23, cond_false] at h ⊢
   cbv;try simp only[ArKm2]
   repeat((first|refine R6 ?_|refine A6 ?_);cbv;try simp only[ArKm2])
   obtain ⟨o12, ho12, h⟩ := bnd_out h
   refine CutK.intro (α := Unit) [] [] (fun a => []) (fun a => []) (fun a => (Sum.inl a : _ ⊕ _) = o12) ?_ ?_
   ·cbv;try simp only[ArKm2]
    repeat((first|refine R6 ?_|refine A6 ?_);cbv;try simp only[ArKm2])
    refine LoopR (σ := Int) ho12 [0, 1, 12, 13] [] (fun a => [(13, .i .i64 a)]) (fun a => []) (by first | rfl | (simp only [rows_nil, bys_n]; rfl)) fun _ s18 xs18 hs18 bs18 es18 => ?_
    cbv;try simp only[ArKm2]
    repeat((first|refine R6 ?_|refine A6 ?_);cbv;try simp only[ArKm2])
    split
    ·rename_i q22; simp only [q22, cond_true] at hs18 ⊢
     cbv;try simp only[ArKm2]
     repeat((first|refine R6 ?_|refine A6 ?_);cbv;try simp only[ArKm2])
     obtain ⟨y19, hy19, hs18⟩ := bnd_out hs18
     refine ⟨gt_in hy19, ?_⟩
     repeat((first|refine R6 ?_|refine A6 ?_);cbv;try simp only[ArKm2])
     refine ⟨_, gt_at _ hy19, ?_⟩
     cbv;try simp only[ArKm2]
     repeat((first|refine R6 ?_|refine A6 ?_);cbv;try simp only[ArKm2])
     obtain ⟨y20, hy20, hs18⟩ := bnd_out hs18
     refine ⟨gt_in hy20, ?_⟩
     repeat((first|refine R6 ?_|refine A6 ?_);cbv;try simp only[ArKm2])
     refine ⟨_, gt_at _ hy20, ?_⟩
     cbv;try simp only[ArKm2]
     repeat((first|refine R6 ?_|refine A6 ?_);cbv;try simp only[ArKm2])
     split
     ·rename_i q21; simp only [q21, cond_true] at hs18 ⊢
      cbv;try simp only[ArKm2]
      repeat((first|refine R6 ?_|refine A6 ?_);cbv;try simp only[ArKm2])
      obtain rfl:=SI hs18
      replace ho12 := congrArg some (es18 _ rfl)
      obtain rfl:=SI ho12
      simp only [Sum.elim_inr] at h
      obtain rfl:=SI h
      (try simp only [Z0]); exact LeV.to rfl (LeF.rfl' _)
     ·rename_i q21; simp only [q21, cond_false] at hs18 ⊢
      cbv;try simp only[ArKm2]
      repeat((first|refine R6 ?_|refine A6 ?_);cbv;try simp only[ArKm2])
      obtain rfl:=SI hs18
      refine ⟨_,bs18 _ rfl,?_⟩;first|rfl|(simp only[Z0];rfl)
    ·rename_i q22; simp only [q22, cond_false] at hs18 ⊢
     cbv;try simp only[ArKm2]
     repeat((first|refine R6 ?_|refine A6 ?_);cbv;try simp only[ArKm2])
     obtain rfl:=SI hs18
     replace ho12 := congrArg some (es18 _ rfl)
     obtain rfl:=SI ho12
     refine ⟨_,rfl,?_⟩;first|rfl|(simp only[Z0];rfl)
   ·rintro a13 rfl
    clear ho12
    simp only [Sum.elim_inl] at h
    cbv;try simp only[ArKm2]
    repeat((first|refine R6 ?_|refine A6 ?_);cbv;try simp only[ArKm2])
    obtain rfl:=SI h
    (try simp only [Z0]); exact LeV.to rfl (LeF.rfl' _)
theorem r_iFsOf {a0 : List (List UInt8)} {r : FsD × Bool} (h : iFsOf a0 = some r) : Ret pg 63 true [.sl .shr 1 (rows strR a0)] [] (.tu [.ag (fsR r.1), .b r.2]) := by
  unfold iFsOf at h
  refine retD 1000 1000 [] (.s .o (.s .o (.s .o (.s .o (.s .o (.s .o (.s .o (.k .o .o)))))))) Tryz.func63 rfl (by decide +kernel) (by decide +kernel) rfl ⟨own_fsR _, trivial, trivial⟩ ?_
  cbv;try simp only[ArKm4]
  split
  ·rename_i q50; simp only [q50, cond_true] at h ⊢
   cbv;try simp only[ArKm4]
   obtain rfl:=SI h
   (try simp only [Z0]); exact LeV.to rfl (LeF.rfl' _)
  ·rename_i q50; simp only [q50, cond_false] at h ⊢
   cbv;try simp only[ArKm4]
   obtain ⟨y3, hy3, h⟩ := bnd_out h
   refine ⟨gt_in hy3, ?_⟩
   refine ⟨_, gt_at _ hy3, ?_⟩
   cbv;try simp only[ArKm4]
   split
   ·rename_i q49; simp only [q49, cond_true] at h ⊢
    cbv;try simp only[ArKm4]
    obtain rfl:=SI h
    (try simp only [Z0]); exact LeV.to rfl (LeF.rfl' _)
   ·rename_i q49; simp only [q49, cond_false] at h ⊢
    cbv;try simp only[ArKm4]
    refine ⟨gt_in hy3, ?_⟩
    refine ⟨_, gt_at _ hy3, ?_⟩
    cbv;try simp only[ArKm4]
    obtain ⟨c48, h⟩ := ck_out h
    refine ⟨c48, ?_⟩
    obtain ⟨r5, hr5, h⟩ := bnd_out h
    refine CallK.introE rfl rfl (r_iGetNum hr5) ?_
    obtain ⟨r5_0, r5_1, r5_2⟩ := r5
    try dsimp only at h
    clear hr5
    cbv;try simp only[ArKm4]
    obtain ⟨r7, hr7, h⟩ := bnd_out h
    refine CallK.introE rfl rfl (r_iGetNum hr7) ?_
    obtain ⟨r7_0, r7_1, r7_2⟩ := r7
    try dsimp only at h
    clear hr7
    cbv;try simp only[ArKm4]
    cases r5_2
    ·simp only [cond_false] at h
     cbv;try simp only[ArKm4]
     obtain rfl:=SI h
     (try simp only [Z0]); exact LeV.to rfl (LeF.rfl' _)
    ·simp only [cond_true] at h
     cbv;try simp only[ArKm4]
     cases r7_2
     ·simp only [cond_false] at h
      cbv;try simp only[ArKm4]
      obtain rfl:=SI h
      (try simp only [Z0]); exact LeV.to rfl (LeF.rfl' _)
     ·simp only [cond_true] at h
      cbv;try simp only[ArKm4]
      split
      ·rename_i q47; simp only [q47, cond_true] at h ⊢
       cbv;try simp only[ArKm4]
       obtain rfl:=SI h
       (try simp only [Z0]); exact LeV.to rfl (LeF.rfl' _)
      ·rename_i q47; simp only [q47, cond_false] at h ⊢
       cbv;try simp only[ArKm4]
       split
       ·rename_i q46; simp only [q46, cond_true] at h ⊢
        cbv;try simp only[ArKm4]
        obtain rfl:=SI h
        (try simp only [Z0]); exact LeV.to rfl (LeF.rfl' _)
       ·rename_i q46; simp only [q46, cond_false] at h ⊢
        cbv;try simp only[ArKm4]
        obtain ⟨c45, h⟩ := ck_out h
        refine ⟨c45, ?_⟩
        obtain ⟨r9, hr9, h⟩ := bnd_out h
        refine CallK.introE rfl rfl (r_gslices_Clone_string hr9) ?_
        clear hr9
        cbv;try simp only[ArKm4]
        obtain ⟨o21, ho21, h⟩ := bnd_out h
        refine CutK.intro (α := (List NodeD)) [0, 2, 11] [2, 11] (fun a => []) (fun a => [(11, [.sl .own 5 (rows nodeR a), .sl .own 1 (rows strR r9)])]) (fun a => (Sum.inl a : _ ⊕ _) = o21) ?_ ?_
        ·cbv;try simp only[ArKm4]
         obtain ⟨c44, ho21⟩ := ck_out ho21
         refine ⟨c44, ?_⟩
         refine LoopR (σ := Int × (List NodeD)) ho21 [0, 2, 11, 73, 74, 75] [2, 11] (fun a => [(75, .i .i64 a.1)]) (fun a => [(11, [.sl .own 5 (rows nodeR a.2), .sl .own 1 (rows strR r9)])]) (by first | rfl | (simp only [rows_nil, bys_n]; rfl)) fun _ s39 xs39 hs39 bs39 es39 => ?_
         obtain ⟨s39_0, s39_1⟩ := s39
         try dsimp only at hs39
         cbv;try simp only[ArKm4]
         split
         ·rename_i q43; simp only [q43, cond_true] at hs39 ⊢
          cbv;try simp only[ArKm4]
          obtain ⟨y40, hy40, hs39⟩ := bnd_out hs39
          refine ⟨gt_in hy40, ?_⟩
          refine ⟨_, gt_at _ hy40, ?_⟩
          cbv;try simp only[ArKm4]
          obtain ⟨r41, hr41, hs39⟩ := bnd_out hs39
          refine CallK.introE rfl rfl (r_iNodeOf hr41) ?_
          obtain ⟨r41_0, r41_1⟩ := r41
          try dsimp only at hs39
          clear hr41
          cbv;try simp only[ArKm4]
          cases r41_1
          ·simp only [cond_false] at hs39
           cbv;try simp only[ArKm4]
           obtain rfl:=SI hs39
           replace ho21 := congrArg some (es39 _ rfl)
           obtain rfl:=SI ho21
           simp only [Sum.elim_inr] at h
           obtain rfl:=SI h
           (try simp only [Z0]); exact LeV.to rfl (LeF.rfl' _)
          ·simp only [cond_true] at hs39
           cbv;try simp only[ArKm4]
           obtain ⟨c42, hs39⟩ := ck_out hs39
           refine ⟨c42, ?_⟩
           obtain rfl:=SI hs39
           refine ⟨_,bs39 _ rfl,?_⟩;first|rfl|(simp only[Z0];rfl)
         ·rename_i q43; simp only [q43, cond_false] at hs39 ⊢
          cbv;try simp only[ArKm4]
          obtain rfl:=SI hs39
          replace ho21 := congrArg some (es39 _ rfl)
          obtain rfl:=SI ho21
          refine ⟨_,rfl,?_⟩;first|rfl|(simp only[Z0];rfl)
        ·rintro a22 rfl
         clear ho21
         simp only [Sum.elim_inl] at h
         cbv;try simp only[ArKm4]
         obtain ⟨r31, hr31, h⟩ := bnd_out h
         refine CallK.introE rfl rfl (r_iShapeOk hr31) ?_
         clear hr31
         cbv;try simp only[ArKm4]
         cases r31
         ·simp only [cond_false] at h
          cbv;try simp only[ArKm4]
          obtain rfl:=SI h
          (try simp only [Z0]); exact LeV.to rfl (LeF.rfl' _)
         ·simp only [cond_true] at h
          cbv;try simp only[ArKm4]
          obtain ⟨r32, hr32, h⟩ := bnd_out h
          rcases r32 with _ | r32
          ·rw [oc_n] at h
           refine CallK.introE rfl rfl (r_iFsBlocks hr32) ?_
           clear hr32
           cbv;try simp only[ArKm4]
           obtain ⟨r33, hr33, h⟩ := bnd_out h
           refine CallK.introL (LeFs.c (LeF.nr _ _ _) (LeFs.c (LeF.rfl' _) LeFs.n)) rfl (r_gslices_Equal_string hr33) ?_
           clear hr33
           cbv;try simp only[ArKm4]
           cases r33
           ·simp only [cond_false] at h
            cbv;try simp only[ArKm4]
            obtain rfl:=SI h
            (try simp only [Z0]); exact LeV.to rfl (LeF.rfl' _)
           ·simp only [cond_true] at h
            cbv;try simp only[ArKm4]
            obtain rfl:=SI h
            (try simp only [Z0]); exact LeV.to rfl (LeF.rfl' _)
          ·rw [oc_s] at h
           refine CallK.introE rfl rfl (r_iFsBlocks hr32) ?_
           clear hr32
           cbv;try simp only[ArKm4]
           obtain ⟨r34, hr34, h⟩ := bnd_out h
           refine CallK.introE rfl rfl (r_gslices_Equal_string hr34) ?_
           clear hr34
           cbv;try simp only[ArKm4]
           cases r34
           ·simp only [cond_false] at h
            cbv;try simp only[ArKm4]
            obtain rfl:=SI h
            (try simp only [Z0]); exact LeV.to rfl (LeF.rfl' _)
           ·simp only [cond_true] at h
            cbv;try simp only[ArKm4]
            obtain rfl:=SI h
            (try simp only [Z0]); exact LeV.to rfl (LeF.rfl' _)
theorem r_iMount {a0 : DiskD} {r : FsD × Bool} (h : iMount a0 = some r) : Ret pg 18 true [.ag (diskC a0)] [] (.tu [.ag (fsR r.1), .b r.2]) := by
  unfold iMount at h
  refine retD 1000 1000 [] .o Tryz.func18 rfl (by decide +kernel) (by decide +kernel) rfl ⟨own_fsR _, trivial, trivial⟩ ?_
  cbv;try simp only[ArKm5]
  refine ⟨by rw [icmp_neq]; rfl, ?_⟩
  obtain ⟨r3, hr3, h⟩ := bnd_out h
  refine CallK.introE rfl rfl (r_ihomed hr3) ?_
  clear hr3
  cbv;try simp only[ArKm5]
  cases r3
  ·simp only [cond_false] at h
   cbv;try simp only[ArKm5]
   obtain rfl:=SI h
   (try simp only [Z0]); exact LeV.to rfl (LeF.rfl' _)
  ·simp only [cond_true] at h
   cbv;try simp only[ArKm5]
   obtain ⟨r7, hr7, h⟩ := bnd_out h
   refine CallK.introE rfl rfl (r_iRecover hr7) ?_
   clear hr7
   cbv;try simp only[ArKm5]
   obtain ⟨r8, hr8, h⟩ := bnd_out h
   refine CallK.introE rfl rfl (r_iHomeOf hr8) ?_
   clear hr8
   cbv;try simp only[ArKm5]
   obtain ⟨r9, hr9, h⟩ := bnd_out h
   refine CallK.introE rfl rfl (r_iFsOf hr9) ?_
   obtain ⟨r9_0, r9_1⟩ := r9
   try dsimp only at h
   clear hr9
   cbv;try simp only[ArKm5]
   cases r9_1
   ·simp only [cond_false] at h
    cbv;try simp only[ArKm5]
    obtain rfl:=SI h
    (try simp only [Z0]); exact LeV.to rfl (LeF.rfl' _)
   ·simp only [cond_true] at h
    cbv;try simp only[ArKm5]
    obtain ⟨r12, hr12, h⟩ := bnd_out h
    refine CallK.introE rfl rfl (r_iFsOk hr12) ?_
    clear hr12
    cbv;try simp only[ArKm5]
    cases r12
    ·simp only [cond_false] at h
     cbv;try simp only[ArKm5]
     obtain rfl:=SI h
     (try simp only [Z0]); exact LeV.to rfl (LeF.rfl' _)
    ·simp only [cond_true] at h
     cbv;try simp only[ArKm5]
     obtain rfl:=SI h
     (try simp only [Z0]); exact LeV.to rfl (LeF.rfl' _)
theorem r_sSectorRead {a0 : DiskD} {a1 : Int} {r : (List UInt8) × Bool} (h : sSectorRead a0 a1 = some r) : Ret pg 127 true [.ag (diskC a0), .i .i64 a1] [] (.tu [.s r.1, .b r.2]) := by
  unfold sSectorRead at h
  refine retD 1000 1000 [] (.s .o (.s .o (.k .o .o))) Tryz.func127 rfl (by decide +kernel) (by decide +kernel) rfl ⟨trivial, trivial, trivial⟩ ?_
  cbv;try simp only[ArKm1]
  obtain ⟨r5, hr5, h⟩ := bnd_out h
  refine CallK.introE rfl rfl (r_sDiskOk hr5) ?_
  clear hr5
  cbv;try simp only[ArKm1]
  cases r5
  ·simp only [cond_false] at h
   cbv;try simp only[ArKm1]
   obtain rfl:=SI h
   (try simp only [Z0]); exact LeV.to rfl (LeF.rfl' _)
  ·simp only [cond_true] at h
   cbv;try simp only[ArKm1]
   obtain ⟨r6, hr6, h⟩ := bnd_out h
   refine CallK.introE rfl rfl (r_sl1In hr6) ?_
   clear hr6
   cbv;try simp only[ArKm1]
   cases r6
   ·simp only [cond_false] at h
    cbv;try simp only[ArKm1]
    obtain rfl:=SI h
    (try simp only [Z0]); exact LeV.to rfl (LeF.rfl' _)
   ·simp only [cond_true] at h
    cbv;try simp only[ArKm1]
    obtain ⟨o13, ho13, h⟩ := bnd_out h
    refine CutK.intro (α := Unit) [1, 2] [2] (fun a => []) (fun a => []) (fun a => (Sum.inl a : _ ⊕ _) = o13) ?_ ?_
    ·cbv;try simp only[ArKm1]
     refine LoopR (σ := Int) ho13 [1, 2, 6] [2] (fun a => [(6, .i .i64 a)]) (fun a => []) (by first | rfl | (simp only [rows_nil, bys_n]; rfl)) fun _ s19 xs19 hs19 bs19 es19 => ?_
     cbv;try simp only[ArKm1]
     split
     ·rename_i q22; simp only [q22, cond_true] at hs19 ⊢
      cbv;try simp only[ArKm1]
      obtain ⟨y20, hy20, hs19⟩ := bnd_out hs19
      refine ⟨gt_in hy20, ?_⟩
      refine ⟨_, gt_at _ hy20, ?_⟩
      cbv;try simp only[ArKm1]
      split
      ·rename_i q21; simp only [q21, cond_true] at hs19 ⊢
       cbv;try simp only[ArKm1]
       refine ⟨gt_in hy20, ?_⟩
       refine ⟨_, gt_at _ hy20, ?_⟩
       cbv;try simp only[ArKm1]
       obtain rfl:=SI hs19
       replace ho13 := congrArg some (es19 _ rfl)
       obtain rfl:=SI ho13
       simp only [Sum.elim_inr] at h
       obtain rfl:=SI h
       (try simp only [Z0]); exact LeV.to rfl (LeF.rfl' _)
      ·rename_i q21; simp only [q21, cond_false] at hs19 ⊢
       cbv;try simp only[ArKm1]
       obtain rfl:=SI hs19
       refine ⟨_,bs19 _ rfl,?_⟩;first|rfl|(simp only[Z0];rfl)
     ·rename_i q22; simp only [q22, cond_false] at hs19 ⊢
      cbv;try simp only[ArKm1]
      obtain rfl:=SI hs19
      replace ho13 := congrArg some (es19 _ rfl)
      obtain rfl:=SI ho13
      refine ⟨_,rfl,?_⟩;first|rfl|(simp only[Z0];rfl)
    ·rintro a14 rfl
     clear ho13
     simp only [Sum.elim_inl] at h
     cbv;try simp only[ArKm1]
     obtain ⟨y16, hy16, h⟩ := bnd_out h
     refine ⟨gt_in hy16, ?_⟩
     refine ⟨_, gt_at _ hy16, ?_⟩
     cbv;try simp only[ArKm1]
     obtain rfl:=SI h
     (try simp only [Z0]); exact LeV.to rfl (LeF.rfl' _)
theorem r_sHomeOf {a0 : DiskD} {a1 : Int} {r : (List (List UInt8))} (h : sHomeOf a0 a1 = some r) : Ret pg 57 true [.ag (diskC a0), .i .i64 a1] [] (.sl .own 1 (rows strR r)) := by
  unfold sHomeOf at h
  refine retD 8 3 [] (.s .o (.s .o (.s .o (.k .o .o)))) Tryz.func57 rfl (by decide +kernel) (by decide +kernel) rfl ⟨rfl, own_stringS _⟩ ?_
  cbv;try simp only[ArKm1]
  repeat((first|refine R6 ?_|refine A6 ?_);cbv;try simp only[ArKm1])
  obtain ⟨r3, hr3, h⟩ := bnd_out h
  refine CallK.introE rfl rfl (r_sl4Ok hr3) ?_
  clear hr3
  cbv;try simp only[ArKm1]
  repeat((first|refine R6 ?_|refine A6 ?_);cbv;try simp only[ArKm1])
  cases r3
  ·simp only [cond_false] at h
   cbv;try simp only[ArKm1]
   repeat((first|refine R6 ?_|refine A6 ?_);cbv;try simp only[ArKm1])
   obtain rfl:=SI h
   (try simp only [Z0]); exact LeV.to rfl (LeF.rfl' _)
  ·simp only [cond_true] at h
   cbv;try simp only[ArKm1]
   repeat((first|refine R6 ?_|refine A6 ?_);cbv;try simp only[ArKm1])
   obtain ⟨o10, ho10, h⟩ := bnd_out h
   refine CutK.intro (α := (List (List UInt8))) [5] [] (fun a => [(5, .sl .own 1 (rows strR a))]) (fun a => []) (fun a => a = o10) ?_ ?_
   ·cbv;try simp only[ArKm1]
    repeat((first|refine R6 ?_|refine A6 ?_);cbv;try simp only[ArKm1])
    refine LoopR (σ := (List (List UInt8)) × Int) ho10 [1, 2, 5, 6] [2] (fun a => [(5, .sl .own 1 (rows strR a.1)), (6, .i .i64 a.2)]) (fun a => []) (by first | rfl | (simp only [rows_nil, bys_n]; rfl)) fun _ s14 xs14 hs14 bs14 es14 => ?_
    obtain ⟨s14_0, s14_1⟩ := s14
    try dsimp only at hs14
    cbv;try simp only[ArKm1]
    repeat((first|refine R6 ?_|refine A6 ?_);cbv;try simp only[ArKm1])
    split
    ·rename_i q17; simp only [q17, cond_true] at hs14 ⊢
     cbv;try simp only[ArKm1]
     repeat((first|refine R6 ?_|refine A6 ?_);cbv;try simp only[ArKm1])
     obtain ⟨r15, hr15, hs14⟩ := bnd_out hs14
     refine CallK.introE rfl rfl (r_sSectorRead hr15) ?_
     obtain ⟨r15_0, r15_1⟩ := r15
     try dsimp only at hs14
     clear hr15
     cbv;try simp only[ArKm1]
     repeat((first|refine R6 ?_|refine A6 ?_);cbv;try simp only[ArKm1])
     obtain ⟨c16, hs14⟩ := ck_out hs14
     refine ⟨c16, ?_⟩
     repeat((first|refine R6 ?_|refine A6 ?_);cbv;try simp only[ArKm1])
     obtain rfl:=SI hs14
     refine ⟨_,bs14 _ rfl,?_⟩;first|rfl|(simp only[Z0];rfl)
    ·rename_i q17; simp only [q17, cond_false] at hs14 ⊢
     cbv;try simp only[ArKm1]
     repeat((first|refine R6 ?_|refine A6 ?_);cbv;try simp only[ArKm1])
     obtain rfl:=SI hs14
     replace ho10 := congrArg some (es14 _ rfl)
     obtain rfl:=SI ho10
     refine ⟨_,rfl,?_⟩;first|rfl|(simp only[Z0];rfl)
   ·rintro a11 rfl
    clear ho10
    cbv;try simp only[ArKm1]
    repeat((first|refine R6 ?_|refine A6 ?_);cbv;try simp only[ArKm1])
    obtain rfl:=SI h
    (try simp only [Z0]); exact LeV.to rfl (LeF.rfl' _)
theorem r_sNodeOf {a0 : List UInt8} {r : NodeD × Bool} (h : sNodeOf a0 = some r) : Ret pg 124 true [.s a0] [] (.tu [.ag (nodeR r.1), .b r.2]) := by
  unfold sNodeOf at h
  refine retD 8 3 [] (.s .o (.s .o (.s .o (.s .o (.s .o (.s .o (.s .o (.k .o .o)))))))) Tryz.func124 rfl (by decide +kernel) (by decide +kernel) rfl ⟨own_nodeR _, trivial, trivial⟩ ?_
  cbv;try simp only[ArKm3]
  repeat((first|refine R6 ?_|refine A6 ?_);cbv;try simp only[ArKm3])
  obtain ⟨c30, h⟩ := ck_out h
  refine ⟨c30, ?_⟩
  repeat((first|refine R6 ?_|refine A6 ?_);cbv;try simp only[ArKm3])
  split
  ·rename_i q29; simp only [q29, cond_true] at h ⊢
   cbv;try simp only[ArKm3]
   repeat((first|refine R6 ?_|refine A6 ?_);cbv;try simp only[ArKm3])
   obtain rfl:=SI h
   (try simp only [Z0]); exact LeV.to rfl (LeF.rfl' _)
  ·rename_i q29; simp only [q29, cond_false] at h ⊢
   cbv;try simp only[ArKm3]
   repeat((first|refine R6 ?_|refine A6 ?_);cbv;try simp only[ArKm3])
   obtain ⟨y2, hy2, h⟩ := bnd_out h
   refine ⟨gt_in hy2, ?_⟩
   repeat((first|refine R6 ?_|refine A6 ?_);cbv;try simp only[ArKm3])
   refine ⟨_, gt_ab hy2, ?_⟩
   cbv;try simp only[ArKm3]
   repeat((first|refine R6 ?_|refine A6 ?_);cbv;try simp only[ArKm3])
   split
   ·rename_i q28; simp only [q28, cond_true] at h ⊢
    cbv;try simp only[ArKm3]
    repeat((first|refine R6 ?_|refine A6 ?_);cbv;try simp only[ArKm3])
    obtain rfl:=SI h
    (try simp only [Z0]); exact LeV.to rfl (LeF.rfl' _)
   ·rename_i q28; simp only [q28, cond_false] at h ⊢
    cbv;try simp only[ArKm3]
    repeat((first|refine R6 ?_|refine A6 ?_);cbv;try simp only[ArKm3])
    obtain ⟨o8, ho8, h⟩ := bnd_out h
    refine CutK.intro (α := (List Int)) [2, 5, 6] [2, 5] (fun a => [(6, .sl .own 1 (rows intR a))]) (fun a => []) (fun a => (Sum.inl a : _ ⊕ _) = o8) ?_ ?_
    ·cbv;try simp only[ArKm3]
     repeat((first|refine R6 ?_|refine A6 ?_);cbv;try simp only[ArKm3])
     refine LoopR (σ := (List Int) × Int) ho8 [2, 4, 5, 6, 7] [2, 5] (fun a => [(6, .sl .own 1 (rows intR a.1)), (7, .i .i64 a.2)]) (fun a => []) (by first | rfl | (simp only [rows_nil, bys_n]; rfl)) fun _ s24 xs24 hs24 bs24 es24 => ?_
     obtain ⟨s24_0, s24_1⟩ := s24
     try dsimp only at hs24
     cbv;try simp only[ArKm3]
     repeat((first|refine R6 ?_|refine A6 ?_);cbv;try simp only[ArKm3])
     split
     ·rename_i q27; simp only [q27, cond_true] at hs24 ⊢
      cbv;try simp only[ArKm3]
      repeat((first|refine R6 ?_|refine A6 ?_);cbv;try simp only[ArKm3])
      obtain ⟨r25, hr25, hs24⟩ := bnd_out hs24
      refine CallK.introE rfl rfl (r_sGetNum hr25) ?_
      obtain ⟨r25_0, r25_1, r25_2⟩ := r25
      try dsimp only at hs24
      clear hr25
      cbv;try simp only[ArKm3]
      repeat((first|refine R6 ?_|refine A6 ?_);cbv;try simp only[ArKm3])
      cases r25_2
      ·simp only [cond_false] at hs24
       cbv;try simp only[ArKm3]
       repeat((first|refine R6 ?_|refine A6 ?_);cbv;try simp only[ArKm3])
       obtain rfl:=SI hs24
       replace ho8 := congrArg some (es24 _ rfl)
       obtain rfl:=SI ho8
       simp only [Sum.elim_inr] at h
       obtain rfl:=SI h
       (try simp only [Z0]); exact LeV.to rfl (LeF.rfl' _)
      ·simp only [cond_true] at hs24
       cbv;try simp only[ArKm3]
       repeat((first|refine R6 ?_|refine A6 ?_);cbv;try simp only[ArKm3])
       obtain ⟨c26, hs24⟩ := ck_out hs24
       refine ⟨c26, ?_⟩
       repeat((first|refine R6 ?_|refine A6 ?_);cbv;try simp only[ArKm3])
       obtain rfl:=SI hs24
       refine ⟨_,bs24 _ rfl,?_⟩;first|rfl|(simp only[Z0];rfl)
     ·rename_i q27; simp only [q27, cond_false] at hs24 ⊢
      cbv;try simp only[ArKm3]
      repeat((first|refine R6 ?_|refine A6 ?_);cbv;try simp only[ArKm3])
      obtain rfl:=SI hs24
      replace ho8 := congrArg some (es24 _ rfl)
      obtain rfl:=SI ho8
      refine ⟨_,rfl,?_⟩;first|rfl|(simp only[Z0];rfl)
    ·rintro a9 rfl
     clear ho8
     simp only [Sum.elim_inl] at h
     cbv;try simp only[ArKm3]
     repeat((first|refine R6 ?_|refine A6 ?_);cbv;try simp only[ArKm3])
     split
     ·rename_i q21; simp only [q21, cond_true] at h ⊢
      cbv;try simp only[ArKm3]
      repeat((first|refine R6 ?_|refine A6 ?_);cbv;try simp only[ArKm3])
      obtain rfl:=SI h
      (try simp only [Z0]); exact LeV.to rfl (LeF.rfl' _)
     ·rename_i q21; simp only [q21, cond_false] at h ⊢
      cbv;try simp only[ArKm3]
      repeat((first|refine R6 ?_|refine A6 ?_);cbv;try simp only[ArKm3])
      obtain ⟨y11, hy11, h⟩ := bnd_out h
      refine ⟨gt_in hy11, ?_⟩
      repeat((first|refine R6 ?_|refine A6 ?_);cbv;try simp only[ArKm3])
      refine ⟨_, gt_at _ hy11, ?_⟩
      cbv;try simp only[ArKm3]
      repeat((first|refine R6 ?_|refine A6 ?_);cbv;try simp only[ArKm3])
      obtain ⟨y13, hy13, h⟩ := bnd_out h
      refine ⟨gt_in hy13, ?_⟩
      repeat((first|refine R6 ?_|refine A6 ?_);cbv;try simp only[ArKm3])
      refine ⟨_, gt_at _ hy13, ?_⟩
      cbv;try simp only[ArKm3]
      repeat((first|refine R6 ?_|refine A6 ?_);cbv;try simp only[ArKm3])
      obtain ⟨y15, hy15, h⟩ := bnd_out h
      refine ⟨gt_in hy15, ?_⟩
      repeat((first|refine R6 ?_|refine A6 ?_);cbv;try simp only[ArKm3])
      refine ⟨_, gt_at _ hy15, ?_⟩
      cbv;try simp only[ArKm3]
      repeat((first|refine R6 ?_|refine A6 ?_);cbv;try simp only[ArKm3])
      obtain ⟨c20, h⟩ := ck_out h
      refine ⟨c20, ?_⟩
      repeat((first|refine R6 ?_|refine A6 ?_);cbv;try simp only[ArKm3])
      obtain ⟨c19, h⟩ := ck_out h
      refine ⟨c19, ?_⟩
      repeat((first|refine R6 ?_|refine A6 ?_);cbv;try simp only[ArKm3])
      obtain ⟨r18, hr18, h⟩ := bnd_out h
      refine CallK.introE rfl rfl (r_sNodeOk hr18) ?_
      clear hr18
      cbv;try simp only[ArKm3]
      repeat((first|refine R6 ?_|refine A6 ?_);cbv;try simp only[ArKm3])
      cases r18
      ·simp only [cond_false] at h
       cbv;try simp only[ArKm3]
       repeat((first|refine R6 ?_|refine A6 ?_);cbv;try simp only[ArKm3])
       obtain rfl:=SI h
       (try simp only [Z0]); exact LeV.to rfl (LeF.rfl' _)
      ·simp only [cond_true] at h
       cbv;try simp only[ArKm3]
       repeat((first|refine R6 ?_|refine A6 ?_);cbv;try simp only[ArKm3])
       obtain rfl:=SI h
       (try simp only [Z0]); exact LeV.to rfl (LeF.rfl' _)
theorem r_sl1Texts {a0 : List (List UInt8)} {a1 : List (List UInt8)} {r : Bool} (h : sl1Texts a0 a1 = some r) : Ret pg 99 true [.sl .shr 1 (rows strR a0), .sl .shr 1 (rows strR a1)] [] (.b r) := by
  unfold sl1Texts at h
  refine retD 8 3 [(6, [⟨true, [], [17]⟩, ⟨true, [], [18]⟩, ⟨false, [21, 22, 23, 24], [19]⟩, ⟨false, [21, 22, 23, 24], [20]⟩, ⟨false, [19, 20], [21]⟩, ⟨false, [19, 20], [22]⟩, ⟨false, [19, 20], [23]⟩, ⟨false, [19, 20], [24]⟩, ⟨true, [], [25]⟩])] (.s .o (.s .o (.k .o .o))) Tryz.func99 rfl (by decide +kernel) (by decide +kernel) rfl trivial ?_
  cbv;try simp only[ArKm2]
  repeat((first|refine R6 ?_|refine A6 ?_);cbv;try simp only[ArKm2])
  split
  ·rename_i q23; simp only [q23, cond_true] at h ⊢
   cbv;try simp only[ArKm2]
   repeat((first|refine R6 ?_|refine A6 ?_);cbv;try simp only[ArKm2])
   obtain rfl:=SI h
   (try simp only [Z0]); exact LeV.to rfl (LeF.rfl' _)
  ·rename_i q23; simp only [q23, cond_false] at h ⊢
   cbv;try simp only[ArKm2]
   repeat((first|refine R6 ?_|refine A6 ?_);cbv;try simp only[ArKm2])
   obtain ⟨o12, ho12, h⟩ := bnd_out h
   refine CutK.intro (α := Unit) [] [] (fun a => []) (fun a => []) (fun a => (Sum.inl a : _ ⊕ _) = o12) ?_ ?_
   ·cbv;try simp only[ArKm2]
    repeat((first|refine R6 ?_|refine A6 ?_);cbv;try simp only[ArKm2])
    refine LoopR (σ := Int) ho12 [0, 1, 5] [] (fun a => [(5, .i .i64 a)]) (fun a => []) (by first | rfl | (simp only [rows_nil, bys_n]; rfl)) fun _ s18 xs18 hs18 bs18 es18 => ?_
    cbv;try simp only[ArKm2]
    repeat((first|refine R6 ?_|refine A6 ?_);cbv;try simp only[ArKm2])
    split
    ·rename_i q22; simp only [q22, cond_true] at hs18 ⊢
     cbv;try simp only[ArKm2]
     repeat((first|refine R6 ?_|refine A6 ?_);cbv;try simp only[ArKm2])
     obtain ⟨y19, hy19, hs18⟩ := bnd_out hs18
     refine ⟨gt_in hy19, ?_⟩
     repeat((first|refine R6 ?_|refine A6 ?_);cbv;try simp only[ArKm2])
     refine ⟨_, gt_at _ hy19, ?_⟩
     cbv;try simp only[ArKm2]
     repeat((first|refine R6 ?_|refine A6 ?_);cbv;try simp only[ArKm2])
     obtain ⟨y20, hy20, hs18⟩ := bnd_out hs18
     refine ⟨gt_in hy20, ?_⟩
     repeat((first|refine R6 ?_|refine A6 ?_);cbv;try simp only[ArKm2])
     refine ⟨_, gt_at _ hy20, ?_⟩
     cbv;try simp only[ArKm2]
     repeat((first|refine R6 ?_|refine A6 ?_);cbv;try simp only[ArKm2])
     split
     ·rename_i q21; simp only [q21, cond_true] at hs18 ⊢
      cbv;try simp only[ArKm2]
      repeat((first|refine R6 ?_|refine A6 ?_);cbv;try simp only[ArKm2])
      obtain rfl:=SI hs18
      replace ho12 := congrArg some (es18 _ rfl)
      obtain rfl:=SI ho12
      simp only [Sum.elim_inr] at h
      obtain rfl:=SI h
      (try simp only [Z0]); exact LeV.to rfl (LeF.rfl' _)
     ·rename_i q21; simp only [q21, cond_false] at hs18 ⊢
      cbv;try simp only[ArKm2]
      repeat((first|refine R6 ?_|refine A6 ?_);cbv;try simp only[ArKm2])
      obtain rfl:=SI hs18
      refine ⟨_,bs18 _ rfl,?_⟩;first|rfl|(simp only[Z0];rfl)
    ·rename_i q22; simp only [q22, cond_false] at hs18 ⊢
     cbv;try simp only[ArKm2]
     repeat((first|refine R6 ?_|refine A6 ?_);cbv;try simp only[ArKm2])
     obtain rfl:=SI hs18
     replace ho12 := congrArg some (es18 _ rfl)
     obtain rfl:=SI ho12
     refine ⟨_,rfl,?_⟩;first|rfl|(simp only[Z0];rfl)
   ·rintro a13 rfl
    clear ho12
    simp only [Sum.elim_inl] at h
    cbv;try simp only[ArKm2]
    repeat((first|refine R6 ?_|refine A6 ?_);cbv;try simp only[ArKm2])
    obtain rfl:=SI h
    (try simp only [Z0]); exact LeV.to rfl (LeF.rfl' _)
theorem r_sFsOf {a0 : List (List UInt8)} {r : FsD × Bool} (h : sFsOf a0 = some r) : Ret pg 56 true [.sl .shr 1 (rows strR a0)] [] (.tu [.ag (fsR r.1), .b r.2]) := by
  unfold sFsOf at h
  refine retD 1000 1000 [] (.s .o (.s .o (.s .o (.s .o (.s .o (.s .o (.k .o .o))))))) Tryz.func56 rfl (by decide +kernel) (by decide +kernel) rfl ⟨own_fsR _, trivial, trivial⟩ ?_
  cbv;try simp only[ArKm4]
  split
  ·rename_i q42; simp only [q42, cond_true] at h ⊢
   cbv;try simp only[ArKm4]
   obtain rfl:=SI h
   (try simp only [Z0]); exact LeV.to rfl (LeF.rfl' _)
  ·rename_i q42; simp only [q42, cond_false] at h ⊢
   cbv;try simp only[ArKm4]
   obtain ⟨y3, hy3, h⟩ := bnd_out h
   refine ⟨gt_in hy3, ?_⟩
   refine ⟨_, gt_at _ hy3, ?_⟩
   cbv;try simp only[ArKm4]
   split
   ·rename_i q41; simp only [q41, cond_true] at h ⊢
    cbv;try simp only[ArKm4]
    obtain rfl:=SI h
    (try simp only [Z0]); exact LeV.to rfl (LeF.rfl' _)
   ·rename_i q41; simp only [q41, cond_false] at h ⊢
    cbv;try simp only[ArKm4]
    refine ⟨gt_in hy3, ?_⟩
    refine ⟨_, gt_at _ hy3, ?_⟩
    cbv;try simp only[ArKm4]
    obtain ⟨c40, h⟩ := ck_out h
    refine ⟨c40, ?_⟩
    refine ⟨gt_in hy3, ?_⟩
    refine ⟨_, gt_at _ hy3, ?_⟩
    cbv;try simp only[ArKm4]
    obtain ⟨c39, h⟩ := ck_out h
    refine ⟨c39, ?_⟩
    split
    ·rename_i q38; simp only [q38, cond_true] at h ⊢
     cbv;try simp only[ArKm4]
     obtain rfl:=SI h
     (try simp only [Z0]); exact LeV.to rfl (LeF.rfl' _)
    ·rename_i q38; simp only [q38, cond_false] at h ⊢
     cbv;try simp only[ArKm4]
     obtain ⟨c37, h⟩ := ck_out h
     refine ⟨c37, ?_⟩
     obtain ⟨r5, hr5, h⟩ := bnd_out h
     refine CallK.introE rfl rfl (r_sl1Copy hr5) ?_
     clear hr5
     cbv;try simp only[ArKm4]
     obtain ⟨o17, ho17, h⟩ := bnd_out h
     refine CutK.intro (α := (List NodeD)) [0, 2, 6] [2, 6] (fun a => []) (fun a => [(6, [.sl .own 5 (rows nodeR a), .sl .own 1 (rows strR r5)])]) (fun a => (Sum.inl a : _ ⊕ _) = o17) ?_ ?_
     ·cbv;try simp only[ArKm4]
      refine LoopR (σ := Int × (List NodeD)) ho17 [0, 2, 4, 6, 7] [2, 6] (fun a => [(7, .i .i64 a.1)]) (fun a => [(6, [.sl .own 5 (rows nodeR a.2), .sl .own 1 (rows strR r5)])]) (by first | rfl | (simp only [rows_nil, bys_n]; rfl)) fun _ s32 xs32 hs32 bs32 es32 => ?_
      obtain ⟨s32_0, s32_1⟩ := s32
      try dsimp only at hs32
      cbv;try simp only[ArKm4]
      split
      ·rename_i q36; simp only [q36, cond_true] at hs32 ⊢
       cbv;try simp only[ArKm4]
       obtain ⟨y33, hy33, hs32⟩ := bnd_out hs32
       refine ⟨gt_in hy33, ?_⟩
       refine ⟨_, gt_at _ hy33, ?_⟩
       cbv;try simp only[ArKm4]
       obtain ⟨r34, hr34, hs32⟩ := bnd_out hs32
       refine CallK.introE rfl rfl (r_sNodeOf hr34) ?_
       obtain ⟨r34_0, r34_1⟩ := r34
       try dsimp only at hs32
       clear hr34
       cbv;try simp only[ArKm4]
       cases r34_1
       ·simp only [cond_false] at hs32
        cbv;try simp only[ArKm4]
        obtain rfl:=SI hs32
        replace ho17 := congrArg some (es32 _ rfl)
        obtain rfl:=SI ho17
        simp only [Sum.elim_inr] at h
        obtain rfl:=SI h
        (try simp only [Z0]); exact LeV.to rfl (LeF.rfl' _)
       ·simp only [cond_true] at hs32
        cbv;try simp only[ArKm4]
        obtain ⟨c35, hs32⟩ := ck_out hs32
        refine ⟨c35, ?_⟩
        obtain rfl:=SI hs32
        refine ⟨_,bs32 _ rfl,?_⟩;first|rfl|(simp only[Z0];rfl)
      ·rename_i q36; simp only [q36, cond_false] at hs32 ⊢
       cbv;try simp only[ArKm4]
       obtain rfl:=SI hs32
       replace ho17 := congrArg some (es32 _ rfl)
       obtain rfl:=SI ho17
       refine ⟨_,rfl,?_⟩;first|rfl|(simp only[Z0];rfl)
     ·rintro a18 rfl
      clear ho17
      simp only [Sum.elim_inl] at h
      cbv;try simp only[ArKm4]
      obtain ⟨r25, hr25, h⟩ := bnd_out h
      refine CallK.introE rfl rfl (r_sShapeOk hr25) ?_
      clear hr25
      cbv;try simp only[ArKm4]
      cases r25
      ·simp only [cond_false] at h
       cbv;try simp only[ArKm4]
       obtain rfl:=SI h
       (try simp only [Z0]); exact LeV.to rfl (LeF.rfl' _)
      ·simp only [cond_true] at h
       cbv;try simp only[ArKm4]
       obtain ⟨r26, hr26, h⟩ := bnd_out h
       refine CallK.introE rfl rfl (r_sFsBlocks hr26) ?_
       clear hr26
       cbv;try simp only[ArKm4]
       obtain ⟨r27, hr27, h⟩ := bnd_out h
       refine CallK.introE rfl rfl (r_sl1Texts hr27) ?_
       clear hr27
       cbv;try simp only[ArKm4]
       cases r27
       ·simp only [cond_false] at h
        cbv;try simp only[ArKm4]
        obtain rfl:=SI h
        (try simp only [Z0]); exact LeV.to rfl (LeF.rfl' _)
       ·simp only [cond_true] at h
        cbv;try simp only[ArKm4]
        obtain rfl:=SI h
        (try simp only [Z0]); exact LeV.to rfl (LeF.rfl' _)
theorem r_sMount {a0 : DiskD} {r : FsD × Bool} (h : sMount a0 = some r) : Ret pg 16 true [.ag (diskC a0)] [] (.tu [.ag (fsR r.1), .b r.2]) := by
  unfold sMount at h
  refine retD 1000 1000 [] .o Tryz.func16 rfl (by decide +kernel) (by decide +kernel) rfl ⟨own_fsR _, trivial, trivial⟩ ?_
  cbv;try simp only[ArKm5]
  refine ⟨by rw [icmp_neq]; rfl, ?_⟩
  obtain ⟨r3, hr3, h⟩ := bnd_out h
  refine CallK.introE rfl rfl (r_sl4Ok hr3) ?_
  clear hr3
  cbv;try simp only[ArKm5]
  cases r3
  ·simp only [cond_false] at h
   cbv;try simp only[ArKm5]
   obtain rfl:=SI h
   (try simp only [Z0]); exact LeV.to rfl (LeF.rfl' _)
  ·simp only [cond_true] at h
   cbv;try simp only[ArKm5]
   obtain ⟨r7, hr7, h⟩ := bnd_out h
   refine CallK.introE rfl rfl (r_sRecover hr7) ?_
   clear hr7
   cbv;try simp only[ArKm5]
   obtain ⟨r8, hr8, h⟩ := bnd_out h
   refine CallK.introE rfl rfl (r_sHomeOf hr8) ?_
   clear hr8
   cbv;try simp only[ArKm5]
   obtain ⟨r9, hr9, h⟩ := bnd_out h
   refine CallK.introE rfl rfl (r_sFsOf hr9) ?_
   obtain ⟨r9_0, r9_1⟩ := r9
   try dsimp only at h
   clear hr9
   cbv;try simp only[ArKm5]
   cases r9_1
   ·simp only [cond_false] at h
    cbv;try simp only[ArKm5]
    obtain rfl:=SI h
    (try simp only [Z0]); exact LeV.to rfl (LeF.rfl' _)
   ·simp only [cond_true] at h
    cbv;try simp only[ArKm5]
    obtain ⟨r12, hr12, h⟩ := bnd_out h
    refine CallK.introE rfl rfl (r_sFsOk hr12) ?_
    clear hr12
    cbv;try simp only[ArKm5]
    cases r12
    ·simp only [cond_false] at h
     cbv;try simp only[ArKm5]
     obtain rfl:=SI h
     (try simp only [Z0]); exact LeV.to rfl (LeF.rfl' _)
    ·simp only [cond_true] at h
     cbv;try simp only[ArKm5]
     obtain rfl:=SI h
     (try simp only [Z0]); exact LeV.to rfl (LeF.rfl' _)
end Go.Ar
