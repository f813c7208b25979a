import Derived.Test.YthbgpgfloghnoaaGreatArKD
import Derived.Test.YthbgpgfloghnoaaGreatArDcN
import Derived.Test.YthbgpgfloghnoaaGreatArDcO
import Derived.Test.YthbgpgfloghnoaaGreatArSf
import Derived.Test.YthbgpgfloghnoaaGreatArKa
import Derived.Test.YthbgpgfloghnoaaGreatArKc
import Derived.Test.YthbgpgfloghnoaaGreatArKe
import Derived.Test.YthbgpgfloghnoaaGreatArKf
namespace Go.Ar
open Go.Proofs
set_option linter.unusedVariables false
set_option linter.unusedSimpArgs false
set_option maxRecDepth 20000
set_option maxHeartbeats 40000000
theorem ArKg1 : type_of% (And.intro @F (And.intro @F2 (And.intro @N0 (And.intro @N_Int (And.intro @N_Node @N_String))))) := ⟨@F, @F2, @N0, @N_Int, @N_Node, @N_String⟩
theorem ArKg2 : type_of% (And.intro @F (And.intro @F2 (And.intro @N0 (And.intro @N_Branch (And.intro @N_Node @N_String))))) := ⟨@F, @F2, @N0, @N_Branch, @N_Node, @N_String⟩
theorem ArKg3 : type_of% (And.intro @F (And.intro @F2 @N0)) := ⟨@F, @F2, @N0⟩
theorem ArKg4 : type_of% (And.intro @F (And.intro @F2 (And.intro @N0 @N_Branch))) := ⟨@F, @F2, @N0, @N_Branch⟩
theorem ArKg5 : type_of% (And.intro @F (And.intro @F2 (And.intro @N0 (And.intro @N_Branch (And.intro @N_Int (And.intro @N_Node @N_String)))))) := ⟨@F, @F2, @N0, @N_Branch, @N_Int, @N_Node, @N_String⟩
theorem ArKg6 : type_of% (And.intro @F (And.intro @F2 (And.intro @N0 (And.intro @N_Branch @N_Int)))) := ⟨@F, @F2, @N0, @N_Branch, @N_Int⟩
theorem r_iFreeOf {a0 : FsD} {r : Int} (h : iFreeOf a0 = some r) : Ret pg 40 true [.ag (fsC a0)] [] (.i .i64 r) := by
  unfold iFreeOf at h
  refine retD 1000 1000 [] (.s .o (.s .o (.s .o (.s .o (.k .o .o))))) Tryz.func40 rfl (by decide +kernel) (by decide +kernel) rfl trivial ?_
  cbv;try simp only[ArKg1]
  obtain ⟨r3, hr3, h⟩ := bnd_out h
  refine CallK.introE rfl rfl (r_iShapeOk hr3) ?_
  clear hr3
  cbv;try simp only[ArKg1]
  cases r3
  ·simp only [cond_false] at h
   cbv;try simp only[ArKg1]
   obtain rfl:=SI h
   (try simp only [Z0]); exact LeV.to rfl (LeF.rfl' _)
  ·simp only [cond_true] at h
   cbv;try simp only[ArKg1]
   obtain ⟨r5, hr5, h⟩ := bnd_out h
   refine CallK.introE rfl rfl (r_iowners hr5) ?_
   obtain ⟨r5_0, r5_1⟩ := r5
   try dsimp only at h
   clear hr5
   cbv;try simp only[ArKg1]
   obtain ⟨o12, ho12, h⟩ := bnd_out h
   refine CutK.intro (α := Int) [5] [] (fun a => [(5, .i .i64 a)]) (fun a => []) (fun a => a = o12) ?_ ?_
   ·cbv;try simp only[ArKg1]
    refine LoopR (σ := Int × Int) ho12 [3, 5, 16, 17, 18] [] (fun a => [(5, .i .i64 a.1), (18, .i .i64 a.2)]) (fun a => []) (by first|rfl|(simp only[Z0];rfl)) fun _ s16 xs16 hs16 bs16 es16 => ?_
    obtain ⟨s16_0, s16_1⟩ := s16
    try dsimp only at hs16
    cbv;try simp only[ArKg1]
    split
    ·rename_i q19; simp only [q19, cond_true] at hs16 ⊢
     cbv;try simp only[ArKg1]
     obtain ⟨y17, hy17, hs16⟩ := bnd_out hs16
     refine ⟨gt_in hy17, ?_⟩
     refine ⟨_, gt_at _ hy17, ?_⟩
     cbv;try simp only[ArKg1]
     split
     ·rename_i q18; simp only [q18, cond_true] at hs16 ⊢
      cbv;try simp only[ArKg1]
      obtain rfl:=SI hs16
      refine ⟨_,bs16 _ rfl,?_⟩;first|rfl|(simp only[Z0];rfl)
     ·rename_i q18; simp only [q18, cond_false] at hs16 ⊢
      cbv;try simp only[ArKg1]
      obtain rfl:=SI hs16
      refine ⟨_,bs16 _ rfl,?_⟩;first|rfl|(simp only[Z0];rfl)
    ·rename_i q19; simp only [q19, cond_false] at hs16 ⊢
     cbv;try simp only[ArKg1]
     obtain rfl:=SI hs16
     replace ho12 := congrArg some (es16 _ rfl)
     obtain rfl:=SI ho12
     refine ⟨_,rfl,?_⟩;first|rfl|(simp only[Z0];rfl)
   ·rintro a13 rfl
    clear ho12
    cbv;try simp only[ArKg1]
    obtain rfl:=SI h
    (try simp only [Z0]); exact LeV.to rfl (LeF.rfl' _)
theorem r_iends {a0 : PoolD} {r : Int × Int × Bool} (h : iends a0 = some r) : Ret pg 39 true [.ag (poolC a0)] [] (.tu [.i .i64 r.1, .i .i64 r.2.1, .b r.2.2]) := by
  unfold iends at h
  refine retD 1000 1000 [] (.s .o (.s .o (.k (.s .o (.s (.s (.s .o (.s .o (.s (.s (.s .o (.s .o (.s .o (.s .o (.k .o .o))))) .o) .o))) .o) .o)) .o))) Tryz.func39 rfl (by decide +kernel) (by decide +kernel) rfl ⟨trivial, trivial, trivial, trivial⟩ ?_
  cbv;try simp only[ArKg2]
  obtain ⟨o42, ho42, h⟩ := bnd_out h
  refine CutK.intro (α := Int × Int × Int) [5, 6, 7] [] (fun a => [(5, .i .i64 a.1), (6, .i .i64 a.2.1), (7, .i .i64 a.2.2)]) (fun a => []) (fun a => a = o42) ?_ ?_
  ·cbv;try simp only[ArKg2]
   refine LoopR (σ := Int × Int × Int × Int) ho42 [1, 5, 6, 7, 12, 13, 14] [1] (fun a => [(5, .i .i64 a.1), (6, .i .i64 a.2.1), (7, .i .i64 a.2.2.1), (14, .i .i64 a.2.2.2)]) (fun a => []) (by first|rfl|(simp only[Z0];rfl)) fun _ s60 xs60 hs60 bs60 es60 => ?_
   obtain ⟨s60_0, s60_1, s60_2, s60_3⟩ := s60
   try dsimp only at hs60
   cbv;try simp only[ArKg2]
   split
   ·rename_i q76; simp only [q76, cond_true] at hs60 ⊢
    cbv;try simp only[ArKg2]
    obtain ⟨y61, hy61, hs60⟩ := bnd_out hs60
    refine ⟨gt_in hy61, ?_⟩
    refine ⟨_, gt_at _ hy61, ?_⟩
    cbv;try simp only[ArKg2]
    split
    ·rename_i q75; simp only [q75, cond_true] at hs60 ⊢
     cbv;try simp only[ArKg2]
     obtain rfl:=SI hs60
     refine ⟨_,bs60 _ rfl,?_⟩;first|rfl|(simp only[Z0];rfl)
    ·rename_i q75; simp only [q75, cond_false] at hs60 ⊢
     cbv;try simp only[ArKg2]
     obtain ⟨r62, hr62, hs60⟩ := bnd_out hs60
     refine CallK.introE rfl rfl (r_iFreeOf hr62) ?_
     clear hr62
     cbv;try simp only[ArKg2]
     obtain ⟨o65, ho65, hs60⟩ := bnd_out hs60
     refine CutK.intro (α := Int) [1, 5, 6, 7, 8, 10, 12, 13, 14] [1] (fun a => [(5, .i .i64 a)]) (fun a => []) (fun a => a = o65) ?_ ?_
     ·cbv;try simp only[ArKg2]
      split
      ·rename_i q74; simp only [q74, cond_true] at ho65 ⊢
       cbv;try simp only[ArKg2]
       obtain rfl:=SI ho65
       refine ⟨_,rfl,?_⟩;first|rfl|(simp only[Z0];rfl)
      ·rename_i q74; simp only [q74, cond_false] at ho65 ⊢
       cbv;try simp only[ArKg2]
       obtain ⟨y71, hy71, ho65⟩ := bnd_out ho65
       refine ⟨gt_in hy71, ?_⟩
       refine ⟨_, gt_at _ hy71, ?_⟩
       cbv;try simp only[ArKg2]
       obtain ⟨r72, hr72, ho65⟩ := bnd_out ho65
       refine CallK.introE rfl rfl (r_iFreeOf hr72) ?_
       clear hr72
       cbv;try simp only[ArKg2]
       split
       ·rename_i q73; simp only [q73, cond_true] at ho65 ⊢
        cbv;try simp only[ArKg2]
        obtain rfl:=SI ho65
        refine ⟨_,rfl,?_⟩;first|rfl|(simp only[Z0];rfl)
       ·rename_i q73; simp only [q73, cond_false] at ho65 ⊢
        cbv;try simp only[ArKg2]
        obtain rfl:=SI ho65
        refine ⟨_,rfl,?_⟩;first|rfl|(simp only[Z0];rfl)
     ·rintro a66 rfl
      clear ho65
      cbv;try simp only[ArKg2]
      split
      ·rename_i q70; simp only [q70, cond_true] at hs60 ⊢
       cbv;try simp only[ArKg2]
       obtain rfl:=SI hs60
       refine ⟨_,bs60 _ rfl,?_⟩;first|rfl|(simp only[Z0];rfl)
      ·rename_i q70; simp only [q70, cond_false] at hs60 ⊢
       cbv;try simp only[ArKg2]
       obtain ⟨y67, hy67, hs60⟩ := bnd_out hs60
       refine ⟨gt_in hy67, ?_⟩
       refine ⟨_, gt_at _ hy67, ?_⟩
       cbv;try simp only[ArKg2]
       obtain ⟨r68, hr68, hs60⟩ := bnd_out hs60
       refine CallK.introE rfl rfl (r_iFreeOf hr68) ?_
       clear hr68
       cbv;try simp only[ArKg2]
       split
       ·rename_i q69; simp only [q69, cond_true] at hs60 ⊢
        cbv;try simp only[ArKg2]
        obtain rfl:=SI hs60
        refine ⟨_,bs60 _ rfl,?_⟩;first|rfl|(simp only[Z0];rfl)
       ·rename_i q69; simp only [q69, cond_false] at hs60 ⊢
        cbv;try simp only[ArKg2]
        obtain rfl:=SI hs60
        refine ⟨_,bs60 _ rfl,?_⟩;first|rfl|(simp only[Z0];rfl)
   ·rename_i q76; simp only [q76, cond_false] at hs60 ⊢
    cbv;try simp only[ArKg2]
    obtain rfl:=SI hs60
    replace ho42 := congrArg some (es60 _ rfl)
    obtain rfl:=SI ho42
    refine ⟨_,rfl,?_⟩;first|rfl|(simp only[Z0];rfl)
  ·rintro a43 rfl
   clear ho42
   obtain ⟨a43_0, a43_1, a43_2⟩ := a43
   try dsimp only at h
   cbv;try simp only[ArKg2]
   obtain rfl:=SI h
   (try simp only [Z0]); exact LeV.to rfl (LeF.rfl' _)
theorem r_iSpread {a0 : PoolD} {r : Int} (h : iSpread a0 = some r) : Ret pg 12 true [.ag (poolC a0)] [] (.i .i64 r) := by
  unfold iSpread at h
  refine retD 8 3 [(6, [⟨true, [], [17]⟩, ⟨false, [19, 24, 25, 26, 27, 28, 29], [18]⟩, ⟨false, [18], [19]⟩, ⟨false, [24, 25, 26, 27, 28, 29], [20]⟩, ⟨false, [24, 25, 26, 27, 28, 29], [21]⟩, ⟨false, [24, 25, 26, 27, 28, 29], [22]⟩, ⟨false, [24, 25, 26, 27, 28, 29], [23]⟩, ⟨false, [18, 20, 21, 22, 23], [24]⟩, ⟨false, [18, 20, 21, 22, 23, 26], [25]⟩, ⟨false, [18, 20, 21, 22, 23, 25], [26]⟩, ⟨false, [18, 20, 21, 22, 23], [27]⟩, ⟨false, [18, 20, 21, 22, 23], [28]⟩, ⟨false, [18, 20, 21, 22, 23], [29]⟩, ⟨true, [], [30]⟩, ⟨true, [], [31]⟩, ⟨true, [], [2]⟩])] .o Tryz.func12 rfl (by decide +kernel) (by decide +kernel) rfl trivial ?_
  cbv;try simp only[ArKg2]
  repeat((first|refine R6 ?_|refine A6 ?_);cbv;try simp only[ArKg2])
  obtain ⟨r3, hr3, h⟩ := bnd_out h
  refine CallK.introE rfl rfl (r_iPoolOk hr3) ?_
  clear hr3
  cbv;try simp only[ArKg2]
  repeat((first|refine R6 ?_|refine A6 ?_);cbv;try simp only[ArKg2])
  cases r3
  ·simp only [cond_false] at h
   cbv;try simp only[ArKg2]
   repeat((first|refine R6 ?_|refine A6 ?_);cbv;try simp only[ArKg2])
   obtain rfl:=SI h
   (try simp only [Z0]); exact LeV.to rfl (LeF.rfl' _)
  ·simp only [cond_true] at h
   cbv;try simp only[ArKg2]
   repeat((first|refine R6 ?_|refine A6 ?_);cbv;try simp only[ArKg2])
   obtain ⟨r5, hr5, h⟩ := bnd_out h
   refine CallK.introE rfl rfl (r_iends hr5) ?_
   obtain ⟨r5_0, r5_1, r5_2⟩ := r5
   try dsimp only at h
   clear hr5
   cbv;try simp only[ArKg2]
   repeat((first|refine R6 ?_|refine A6 ?_);cbv;try simp only[ArKg2])
   cases r5_2
   ·simp only [cond_false] at h
    cbv;try simp only[ArKg2]
    repeat((first|refine R6 ?_|refine A6 ?_);cbv;try simp only[ArKg2])
    obtain rfl:=SI h
    (try simp only [Z0]); exact LeV.to rfl (LeF.rfl' _)
   ·simp only [cond_true] at h
    cbv;try simp only[ArKg2]
    repeat((first|refine R6 ?_|refine A6 ?_);cbv;try simp only[ArKg2])
    obtain ⟨y10, hy10, h⟩ := bnd_out h
    refine ⟨gt_in hy10, ?_⟩
    repeat((first|refine R6 ?_|refine A6 ?_);cbv;try simp only[ArKg2])
    refine ⟨_, gt_at _ hy10, ?_⟩
    cbv;try simp only[ArKg2]
    repeat((first|refine R6 ?_|refine A6 ?_);cbv;try simp only[ArKg2])
    obtain ⟨r11, hr11, h⟩ := bnd_out h
    refine CallK.introE rfl rfl (r_iFreeOf hr11) ?_
    clear hr11
    cbv;try simp only[ArKg2]
    repeat((first|refine R6 ?_|refine A6 ?_);cbv;try simp only[ArKg2])
    obtain ⟨y12, hy12, h⟩ := bnd_out h
    refine ⟨gt_in hy12, ?_⟩
    repeat((first|refine R6 ?_|refine A6 ?_);cbv;try simp only[ArKg2])
    refine ⟨_, gt_at _ hy12, ?_⟩
    cbv;try simp only[ArKg2]
    repeat((first|refine R6 ?_|refine A6 ?_);cbv;try simp only[ArKg2])
    obtain ⟨r13, hr13, h⟩ := bnd_out h
    refine CallK.introE rfl rfl (r_iFreeOf hr13) ?_
    clear hr13
    cbv;try simp only[ArKg2]
    repeat((first|refine R6 ?_|refine A6 ?_);cbv;try simp only[ArKg2])
    obtain rfl:=SI h
    (try simp only [Z0]); exact LeV.to rfl (LeF.rfl' _)
theorem r_sl1Bit {a0 : Bool} {r : Int} (h : sl1Bit a0 = some r) : Ret pg 46 true [.b a0] [] (.i .i64 r) := by
  unfold sl1Bit at h
  refine retD 1000 1000 [] .o Tryz.func46 rfl (by decide +kernel) (by decide +kernel) rfl trivial ?_
  cbv;try simp only[ArKg3]
  cases a0
  ·simp only [cond_false] at h
   cbv;try simp only[ArKg3]
   obtain rfl:=SI h
   (try simp only [Z0]); exact LeV.to rfl (LeF.rfl' _)
  ·simp only [cond_true] at h
   cbv;try simp only[ArKg3]
   obtain rfl:=SI h
   (try simp only [Z0]); exact LeV.to rfl (LeF.rfl' _)
theorem r_sFreeOf {a0 : FsD} {r : Int} (h : sFreeOf a0 = some r) : Ret pg 68 true [.ag (fsC a0)] [] (.i .i64 r) := by
  unfold sFreeOf at h
  refine retD 1000 1000 [] (.s .o (.s .o (.s .o (.s .o (.k .o .o))))) Tryz.func68 rfl (by decide +kernel) (by decide +kernel) rfl trivial ?_
  cbv;try simp only[ArKg1]
  obtain ⟨r3, hr3, h⟩ := bnd_out h
  refine CallK.introE rfl rfl (r_sShapeOk hr3) ?_
  clear hr3
  cbv;try simp only[ArKg1]
  cases r3
  ·simp only [cond_false] at h
   cbv;try simp only[ArKg1]
   obtain rfl:=SI h
   (try simp only [Z0]); exact LeV.to rfl (LeF.rfl' _)
  ·simp only [cond_true] at h
   cbv;try simp only[ArKg1]
   obtain ⟨r5, hr5, h⟩ := bnd_out h
   refine CallK.introE rfl rfl (r_sl6Used hr5) ?_
   clear hr5
   cbv;try simp only[ArKg1]
   obtain ⟨o15, ho15, h⟩ := bnd_out h
   refine CutK.intro (α := Int) [3] [] (fun a => [(3, .i .i64 a)]) (fun a => []) (fun a => a = o15) ?_ ?_
   ·cbv;try simp only[ArKg1]
    refine LoopR (σ := Int × Int) ho15 [1, 3, 4, 5] [1] (fun a => [(3, .i .i64 a.1), (5, .i .i64 a.2)]) (fun a => []) (by first|rfl|(simp only[Z0];rfl)) fun _ s21 xs21 hs21 bs21 es21 => ?_
    obtain ⟨s21_0, s21_1⟩ := s21
    try dsimp only at hs21
    cbv;try simp only[ArKg1]
    split
    ·rename_i q24; simp only [q24, cond_true] at hs21 ⊢
     cbv;try simp only[ArKg1]
     obtain ⟨y22, hy22, hs21⟩ := bnd_out hs21
     refine ⟨gt_in hy22, ?_⟩
     refine ⟨_, gt_at _ hy22, ?_⟩
     cbv;try simp only[ArKg1]
     obtain ⟨r23, hr23, hs21⟩ := bnd_out hs21
     refine CallK.introE rfl rfl (r_sl1Bit hr23) ?_
     clear hr23
     cbv;try simp only[ArKg1]
     obtain rfl:=SI hs21
     refine ⟨_,bs21 _ rfl,?_⟩;first|rfl|(simp only[Z0];rfl)
    ·rename_i q24; simp only [q24, cond_false] at hs21 ⊢
     cbv;try simp only[ArKg1]
     obtain rfl:=SI hs21
     replace ho15 := congrArg some (es21 _ rfl)
     obtain rfl:=SI ho15
     refine ⟨_,rfl,?_⟩;first|rfl|(simp only[Z0];rfl)
   ·rintro a16 rfl
    clear ho15
    cbv;try simp only[ArKg1]
    obtain rfl:=SI h
    (try simp only [Z0]); exact LeV.to rfl (LeF.rfl' _)
theorem r_sl20Ends {a0 : PoolD} {r : Int × Int} (h : sl20Ends a0 = some r) : Ret pg 67 true [.ag (poolC a0)] [] (.tu [.i .i64 r.1, .i .i64 r.2]) := by
  unfold sl20Ends at h
  refine retD 1000 1000 [] (.s .o (.s .o (.s .o (.s .o (.k (.s .o (.s (.s (.s .o (.s (.s (.s .o (.s .o (.s .o (.k .o .o)))) .o) .o)) .o) .o)) .o))))) Tryz.func67 rfl (by decide +kernel) (by decide +kernel) rfl ⟨trivial, trivial, trivial⟩ ?_
  cbv;try simp only[ArKg2]
  obtain ⟨o43, ho43, h⟩ := bnd_out h
  refine CutK.intro (α := Int × Int × Int) [4, 5, 6] [] (fun a => [(4, .i .i64 a.1), (5, .i .i64 a.2.1), (6, .i .i64 a.2.2)]) (fun a => []) (fun a => a = o43) ?_ ?_
  ·cbv;try simp only[ArKg2]
   refine LoopR (σ := Int × Int × Int × Int) ho43 [1, 4, 5, 6, 7] [1] (fun a => [(4, .i .i64 a.1), (5, .i .i64 a.2.1), (6, .i .i64 a.2.2.1), (7, .i .i64 a.2.2.2)]) (fun a => []) (by first|rfl|(simp only[Z0];rfl)) fun _ s62 xs62 hs62 bs62 es62 => ?_
   obtain ⟨s62_0, s62_1, s62_2, s62_3⟩ := s62
   try dsimp only at hs62
   cbv;try simp only[ArKg2]
   split
   ·rename_i q78; simp only [q78, cond_true] at hs62 ⊢
    cbv;try simp only[ArKg2]
    obtain ⟨y63, hy63, hs62⟩ := bnd_out hs62
    refine ⟨gt_in hy63, ?_⟩
    refine ⟨_, gt_at _ hy63, ?_⟩
    cbv;try simp only[ArKg2]
    split
    ·rename_i q77; simp only [q77, cond_true] at hs62 ⊢
     cbv;try simp only[ArKg2]
     obtain rfl:=SI hs62
     refine ⟨_,bs62 _ rfl,?_⟩;first|rfl|(simp only[Z0];rfl)
    ·rename_i q77; simp only [q77, cond_false] at hs62 ⊢
     cbv;try simp only[ArKg2]
     refine ⟨gt_in hy63, ?_⟩
     refine ⟨_, gt_at _ hy63, ?_⟩
     cbv;try simp only[ArKg2]
     obtain ⟨r64, hr64, hs62⟩ := bnd_out hs62
     refine CallK.introE rfl rfl (r_sFreeOf hr64) ?_
     clear hr64
     cbv;try simp only[ArKg2]
     obtain ⟨o67, ho67, hs62⟩ := bnd_out hs62
     refine CutK.intro (α := Int) [1, 4, 5, 6, 7, 8] [1] (fun a => [(4, .i .i64 a)]) (fun a => []) (fun a => a = o67) ?_ ?_
     ·cbv;try simp only[ArKg2]
      split
      ·rename_i q76; simp only [q76, cond_true] at ho67 ⊢
       cbv;try simp only[ArKg2]
       obtain rfl:=SI ho67
       refine ⟨_,rfl,?_⟩;first|rfl|(simp only[Z0];rfl)
      ·rename_i q76; simp only [q76, cond_false] at ho67 ⊢
       cbv;try simp only[ArKg2]
       obtain ⟨y73, hy73, ho67⟩ := bnd_out ho67
       refine ⟨gt_in hy73, ?_⟩
       refine ⟨_, gt_at _ hy73, ?_⟩
       cbv;try simp only[ArKg2]
       obtain ⟨r74, hr74, ho67⟩ := bnd_out ho67
       refine CallK.introE rfl rfl (r_sFreeOf hr74) ?_
       clear hr74
       cbv;try simp only[ArKg2]
       split
       ·rename_i q75; simp only [q75, cond_true] at ho67 ⊢
        cbv;try simp only[ArKg2]
        obtain rfl:=SI ho67
        refine ⟨_,rfl,?_⟩;first|rfl|(simp only[Z0];rfl)
       ·rename_i q75; simp only [q75, cond_false] at ho67 ⊢
        cbv;try simp only[ArKg2]
        obtain rfl:=SI ho67
        refine ⟨_,rfl,?_⟩;first|rfl|(simp only[Z0];rfl)
     ·rintro a68 rfl
      clear ho67
      cbv;try simp only[ArKg2]
      split
      ·rename_i q72; simp only [q72, cond_true] at hs62 ⊢
       cbv;try simp only[ArKg2]
       obtain rfl:=SI hs62
       refine ⟨_,bs62 _ rfl,?_⟩;first|rfl|(simp only[Z0];rfl)
      ·rename_i q72; simp only [q72, cond_false] at hs62 ⊢
       cbv;try simp only[ArKg2]
       obtain ⟨y69, hy69, hs62⟩ := bnd_out hs62
       refine ⟨gt_in hy69, ?_⟩
       refine ⟨_, gt_at _ hy69, ?_⟩
       cbv;try simp only[ArKg2]
       obtain ⟨r70, hr70, hs62⟩ := bnd_out hs62
       refine CallK.introE rfl rfl (r_sFreeOf hr70) ?_
       clear hr70
       cbv;try simp only[ArKg2]
       split
       ·rename_i q71; simp only [q71, cond_true] at hs62 ⊢
        cbv;try simp only[ArKg2]
        obtain rfl:=SI hs62
        refine ⟨_,bs62 _ rfl,?_⟩;first|rfl|(simp only[Z0];rfl)
       ·rename_i q71; simp only [q71, cond_false] at hs62 ⊢
        cbv;try simp only[ArKg2]
        obtain rfl:=SI hs62
        refine ⟨_,bs62 _ rfl,?_⟩;first|rfl|(simp only[Z0];rfl)
   ·rename_i q78; simp only [q78, cond_false] at hs62 ⊢
    cbv;try simp only[ArKg2]
    obtain rfl:=SI hs62
    replace ho43 := congrArg some (es62 _ rfl)
    obtain rfl:=SI ho43
    refine ⟨_,rfl,?_⟩;first|rfl|(simp only[Z0];rfl)
  ·rintro a44 rfl
   clear ho43
   obtain ⟨a44_0, a44_1, a44_2⟩ := a44
   try dsimp only at h
   cbv;try simp only[ArKg2]
   split
   ·rename_i q45; simp only [q45, cond_true] at h ⊢
    cbv;try simp only[ArKg2]
    obtain rfl:=SI h
    (try simp only [Z0]); exact LeV.to rfl (LeF.rfl' _)
   ·rename_i q45; simp only [q45, cond_false] at h ⊢
    cbv;try simp only[ArKg2]
    obtain rfl:=SI h
    (try simp only [Z0]); exact LeV.to rfl (LeF.rfl' _)
theorem r_sl20Spread {a0 : PoolD} {r : Int} (h : sl20Spread a0 = some r) : Ret pg 35 true [.ag (poolC a0)] [] (.i .i64 r) := by
  unfold sl20Spread at h
  refine retD 8 3 [(4, [⟨true, [], [12]⟩, ⟨false, [14, 19, 20, 21, 22, 23, 24], [13]⟩, ⟨false, [13], [14]⟩, ⟨false, [19, 20, 21, 22, 23, 24], [15]⟩, ⟨false, [19, 20, 21, 22, 23, 24], [16]⟩, ⟨false, [19, 20, 21, 22, 23, 24], [17]⟩, ⟨false, [19, 20, 21, 22, 23, 24], [18]⟩, ⟨false, [13, 15, 16, 17, 18], [19]⟩, ⟨false, [13, 15, 16, 17, 18, 21], [20]⟩, ⟨false, [13, 15, 16, 17, 18, 20], [21]⟩, ⟨false, [13, 15, 16, 17, 18], [22]⟩, ⟨false, [13, 15, 16, 17, 18], [23]⟩, ⟨false, [13, 15, 16, 17, 18], [24]⟩, ⟨true, [], [25]⟩, ⟨true, [], [26]⟩, ⟨true, [], [2]⟩])] .o Tryz.func35 rfl (by decide +kernel) (by decide +kernel) rfl trivial ?_
  cbv;try simp only[ArKg2]
  repeat((first|refine R6 ?_|refine A6 ?_);cbv;try simp only[ArKg2])
  obtain ⟨r2, hr2, h⟩ := bnd_out h
  refine CallK.introE rfl rfl (r_sl20Ends hr2) ?_
  obtain ⟨r2_0, r2_1⟩ := r2
  try dsimp only at h
  clear hr2
  cbv;try simp only[ArKg2]
  repeat((first|refine R6 ?_|refine A6 ?_);cbv;try simp only[ArKg2])
  split
  ·rename_i q11; simp only [q11, cond_true] at h ⊢
   cbv;try simp only[ArKg2]
   repeat((first|refine R6 ?_|refine A6 ?_);cbv;try simp only[ArKg2])
   obtain rfl:=SI h
   (try simp only [Z0]); exact LeV.to rfl (LeF.rfl' _)
  ·rename_i q11; simp only [q11, cond_false] at h ⊢
   cbv;try simp only[ArKg2]
   repeat((first|refine R6 ?_|refine A6 ?_);cbv;try simp only[ArKg2])
   obtain ⟨y7, hy7, h⟩ := bnd_out h
   refine ⟨gt_in hy7, ?_⟩
   repeat((first|refine R6 ?_|refine A6 ?_);cbv;try simp only[ArKg2])
   refine ⟨_, gt_at _ hy7, ?_⟩
   cbv;try simp only[ArKg2]
   repeat((first|refine R6 ?_|refine A6 ?_);cbv;try simp only[ArKg2])
   obtain ⟨r8, hr8, h⟩ := bnd_out h
   refine CallK.introE rfl rfl (r_sFreeOf hr8) ?_
   clear hr8
   cbv;try simp only[ArKg2]
   repeat((first|refine R6 ?_|refine A6 ?_);cbv;try simp only[ArKg2])
   obtain ⟨y9, hy9, h⟩ := bnd_out h
   refine ⟨gt_in hy9, ?_⟩
   repeat((first|refine R6 ?_|refine A6 ?_);cbv;try simp only[ArKg2])
   refine ⟨_, gt_at _ hy9, ?_⟩
   cbv;try simp only[ArKg2]
   repeat((first|refine R6 ?_|refine A6 ?_);cbv;try simp only[ArKg2])
   obtain ⟨r10, hr10, h⟩ := bnd_out h
   refine CallK.introE rfl rfl (r_sFreeOf hr10) ?_
   clear hr10
   cbv;try simp only[ArKg2]
   repeat((first|refine R6 ?_|refine A6 ?_);cbv;try simp only[ArKg2])
   obtain rfl:=SI h
   (try simp only [Z0]); exact LeV.to rfl (LeF.rfl' _)
theorem r_sSpread {a0 : PoolD} {r : Int} (h : sSpread a0 = some r) : Ret pg 10 true [.ag (poolC a0)] [] (.i .i64 r) := by
  unfold sSpread at h
  refine retD 1000 1000 [] .o Tryz.func10 rfl (by decide +kernel) (by decide +kernel) rfl trivial ?_
  cbv;try simp only[ArKg4]
  obtain ⟨r3, hr3, h⟩ := bnd_out h
  refine CallK.introE rfl rfl (r_sPoolOk hr3) ?_
  clear hr3
  cbv;try simp only[ArKg4]
  cases r3
  ·simp only [cond_false] at h
   cbv;try simp only[ArKg4]
   obtain rfl:=SI h
   (try simp only [Z0]); exact LeV.to rfl (LeF.rfl' _)
  ·simp only [cond_true] at h
   cbv;try simp only[ArKg4]
   obtain ⟨r5, hr5, h⟩ := bnd_out h
   refine CallK.introE rfl rfl (r_sl20Spread hr5) ?_
   clear hr5
   cbv;try simp only[ArKg4]
   obtain rfl:=SI h
   (try simp only [Z0]); exact LeV.to rfl (LeF.rfl' _)
theorem r_iEligible {a0 : PoolD} {a1 : Int} {r : (List Int)} (h : iEligible a0 a1 = some r) : Ret pg 15 true [.ag (poolC a0), .i .i64 a1] [] (.sl .own 1 (rows intR r)) := by
  unfold iEligible at h
  refine retD 8 3 [(7, [⟨true, [], [20]⟩, ⟨true, [], [21]⟩, ⟨true, [], [22]⟩, ⟨true, [], [22, 23]⟩, ⟨true, [], [24]⟩, ⟨true, [], [25]⟩, ⟨true, [], [26]⟩, ⟨true, [], [27]⟩, ⟨true, [], [27, 28]⟩, ⟨true, [], [29]⟩, ⟨false, [32, 33], [30]⟩, ⟨false, [32, 33], [31]⟩, ⟨false, [30, 31], [32]⟩, ⟨false, [30, 31], [33]⟩, ⟨true, [], [34]⟩, ⟨true, [], [35]⟩])] (.s .o (.s .o (.s .o (.k .o .o)))) Tryz.func15 rfl (by decide +kernel) (by decide +kernel) rfl ⟨rfl, own_intS _⟩ ?_
  cbv;try simp only[ArKg5]
  repeat((first|refine R6 ?_|refine A6 ?_);cbv;try simp only[ArKg5])
  obtain ⟨r3, hr3, h⟩ := bnd_out h
  refine CallK.introE rfl rfl (r_iPoolOk hr3) ?_
  clear hr3
  cbv;try simp only[ArKg5]
  repeat((first|refine R6 ?_|refine A6 ?_);cbv;try simp only[ArKg5])
  cases r3
  ·simp only [cond_false] at h
   cbv;try simp only[ArKg5]
   repeat((first|refine R6 ?_|refine A6 ?_);cbv;try simp only[ArKg5])
   obtain rfl:=SI h
   first | exact LeV.to rfl (LeF.nr _ _ _) | (simp only [rows_nil, bys_n]; exact LeV.to rfl (LeF.nr _ _ _))
  ·simp only [cond_true] at h
   cbv;try simp only[ArKg5]
   repeat((first|refine R6 ?_|refine A6 ?_);cbv;try simp only[ArKg5])
   obtain ⟨o15, ho15, h⟩ := bnd_out h
   refine CutK.intro (α := (List Int)) [5] [] (fun a => [(5, .sl .own 1 (rows intR a))]) (fun a => []) (fun a => a = o15) ?_ ?_
   ·cbv;try simp only[ArKg5]
    repeat((first|refine R6 ?_|refine A6 ?_);cbv;try simp only[ArKg5])
    refine LoopR (σ := (List Int) × Int) ho15 [1, 2, 5, 13, 14, 15] [2] (fun a => [(5, .sl .own 1 (rows intR a.1)), (15, .i .i64 a.2)]) (fun a => []) (by first|rfl|(simp only[Z0];rfl)) fun _ s21 xs21 hs21 bs21 es21 => ?_
    obtain ⟨s21_0, s21_1⟩ := s21
    try dsimp only at hs21
    cbv;try simp only[ArKg5]
    repeat((first|refine R6 ?_|refine A6 ?_);cbv;try simp only[ArKg5])
    split
    ·rename_i q28; simp only [q28, cond_true] at hs21 ⊢
     cbv;try simp only[ArKg5]
     repeat((first|refine R6 ?_|refine A6 ?_);cbv;try simp only[ArKg5])
     obtain ⟨y22, hy22, hs21⟩ := bnd_out hs21
     refine ⟨gt_in hy22, ?_⟩
     repeat((first|refine R6 ?_|refine A6 ?_);cbv;try simp only[ArKg5])
     refine ⟨_, gt_at _ hy22, ?_⟩
     cbv;try simp only[ArKg5]
     repeat((first|refine R6 ?_|refine A6 ?_);cbv;try simp only[ArKg5])
     split
     ·rename_i q27; simp only [q27, cond_true] at hs21 ⊢
      cbv;try simp only[ArKg5]
      repeat((first|refine R6 ?_|refine A6 ?_);cbv;try simp only[ArKg5])
      split
      ·rename_i q26; simp only [q26, cond_true] at hs21 ⊢
       cbv;try simp only[ArKg5]
       repeat((first|refine R6 ?_|refine A6 ?_);cbv;try simp only[ArKg5])
       obtain ⟨r23, hr23, hs21⟩ := bnd_out hs21
       refine CallK.introE rfl rfl (r_iFreeOf hr23) ?_
       clear hr23
       cbv;try simp only[ArKg5]
       repeat((first|refine R6 ?_|refine A6 ?_);cbv;try simp only[ArKg5])
       split
       ·rename_i q25; simp only [q25, cond_true] at hs21 ⊢
        cbv;try simp only[ArKg5]
        repeat((first|refine R6 ?_|refine A6 ?_);cbv;try simp only[ArKg5])
        obtain ⟨c24, hs21⟩ := ck_out hs21
        refine ⟨c24, ?_⟩
        repeat((first|refine R6 ?_|refine A6 ?_);cbv;try simp only[ArKg5])
        obtain rfl:=SI hs21
        refine ⟨_,bs21 _ rfl,?_⟩;first|rfl|(simp only[Z0];rfl)
       ·rename_i q25; simp only [q25, cond_false] at hs21 ⊢
        cbv;try simp only[ArKg5]
        repeat((first|refine R6 ?_|refine A6 ?_);cbv;try simp only[ArKg5])
        obtain rfl:=SI hs21
        refine ⟨_,bs21 _ rfl,?_⟩;first|rfl|(simp only[Z0];rfl)
      ·rename_i q26; simp only [q26, cond_false] at hs21 ⊢
       cbv;try simp only[ArKg5]
       repeat((first|refine R6 ?_|refine A6 ?_);cbv;try simp only[ArKg5])
       obtain rfl:=SI hs21
       refine ⟨_,bs21 _ rfl,?_⟩;first|rfl|(simp only[Z0];rfl)
     ·rename_i q27; simp only [q27, cond_false] at hs21 ⊢
      cbv;try simp only[ArKg5]
      repeat((first|refine R6 ?_|refine A6 ?_);cbv;try simp only[ArKg5])
      obtain rfl:=SI hs21
      refine ⟨_,bs21 _ rfl,?_⟩;first|rfl|(simp only[Z0];rfl)
    ·rename_i q28; simp only [q28, cond_false] at hs21 ⊢
     cbv;try simp only[ArKg5]
     repeat((first|refine R6 ?_|refine A6 ?_);cbv;try simp only[ArKg5])
     obtain rfl:=SI hs21
     replace ho15 := congrArg some (es21 _ rfl)
     obtain rfl:=SI ho15
     refine ⟨_,rfl,?_⟩;first|rfl|(simp only[Z0];rfl)
   ·rintro a16 rfl
    clear ho15
    cbv;try simp only[ArKg5]
    repeat((first|refine R6 ?_|refine A6 ?_);cbv;try simp only[ArKg5])
    obtain rfl:=SI h
    (try simp only [Z0]); exact LeV.to rfl (LeF.rfl' _)
theorem r_sl13Eligible {a0 : PoolD} {a1 : Int} {r : (List Int)} (h : sl13Eligible a0 a1 = some r) : Ret pg 43 true [.ag (poolC a0), .i .i64 a1] [] (.sl .own 1 (rows intR r)) := by
  unfold sl13Eligible at h
  refine retD 8 3 [(5, [⟨true, [], [15]⟩, ⟨false, [17], [16]⟩, ⟨false, [16], [17]⟩, ⟨true, [], [18]⟩, ⟨true, [], [19]⟩, ⟨true, [], [20]⟩, ⟨true, [], [21]⟩, ⟨true, [], [21, 22]⟩, ⟨true, [], [23]⟩, ⟨true, [], [24]⟩, ⟨true, [], [25]⟩, ⟨true, [], [26]⟩, ⟨true, [], [26, 27]⟩, ⟨true, [], [28]⟩, ⟨false, [30, 35, 36], [29]⟩, ⟨false, [29], [30]⟩, ⟨false, [35, 36], [31]⟩, ⟨false, [35, 36], [32]⟩, ⟨false, [35, 36], [33]⟩, ⟨false, [35, 36], [34]⟩, ⟨false, [29, 31, 32, 33, 34], [35]⟩, ⟨false, [29, 31, 32, 33, 34], [36]⟩, ⟨true, [], [37]⟩, ⟨true, [], [38]⟩])] (.s .o (.s .o (.k .o .o))) Tryz.func43 rfl (by decide +kernel) (by decide +kernel) rfl ⟨rfl, own_intS _⟩ ?_
  cbv;try simp only[ArKg5]
  repeat((first|refine R6 ?_|refine A6 ?_);cbv;try simp only[ArKg5])
  obtain ⟨o12, ho12, h⟩ := bnd_out h
  refine CutK.intro (α := (List Int)) [5] [] (fun a => [(5, .sl .own 1 (rows intR a))]) (fun a => []) (fun a => a = o12) ?_ ?_
  ·cbv;try simp only[ArKg5]
   repeat((first|refine R6 ?_|refine A6 ?_);cbv;try simp only[ArKg5])
   refine LoopR (σ := (List Int) × Int) ho12 [1, 2, 5, 6] [2] (fun a => [(5, .sl .own 1 (rows intR a.1)), (6, .i .i64 a.2)]) (fun a => []) (by first|rfl|(simp only[Z0];rfl)) fun _ s18 xs18 hs18 bs18 es18 => ?_
   obtain ⟨s18_0, s18_1⟩ := s18
   try dsimp only at hs18
   cbv;try simp only[ArKg5]
   repeat((first|refine R6 ?_|refine A6 ?_);cbv;try simp only[ArKg5])
   split
   ·rename_i q25; simp only [q25, cond_true] at hs18 ⊢
    cbv;try simp only[ArKg5]
    repeat((first|refine R6 ?_|refine A6 ?_);cbv;try simp only[ArKg5])
    obtain ⟨y19, hy19, hs18⟩ := bnd_out hs18
    refine ⟨gt_in hy19, ?_⟩
    repeat((first|refine R6 ?_|refine A6 ?_);cbv;try simp only[ArKg5])
    refine ⟨_, gt_at _ hy19, ?_⟩
    cbv;try simp only[ArKg5]
    repeat((first|refine R6 ?_|refine A6 ?_);cbv;try simp only[ArKg5])
    split
    ·rename_i q24; simp only [q24, cond_true] at hs18 ⊢
     cbv;try simp only[ArKg5]
     repeat((first|refine R6 ?_|refine A6 ?_);cbv;try simp only[ArKg5])
     split
     ·rename_i q23; simp only [q23, cond_true] at hs18 ⊢
      cbv;try simp only[ArKg5]
      repeat((first|refine R6 ?_|refine A6 ?_);cbv;try simp only[ArKg5])
      refine ⟨gt_in hy19, ?_⟩
      repeat((first|refine R6 ?_|refine A6 ?_);cbv;try simp only[ArKg5])
      refine ⟨_, gt_at _ hy19, ?_⟩
      cbv;try simp only[ArKg5]
      repeat((first|refine R6 ?_|refine A6 ?_);cbv;try simp only[ArKg5])
      obtain ⟨r20, hr20, hs18⟩ := bnd_out hs18
      refine CallK.introE rfl rfl (r_sFreeOf hr20) ?_
      clear hr20
      cbv;try simp only[ArKg5]
      repeat((first|refine R6 ?_|refine A6 ?_);cbv;try simp only[ArKg5])
      split
      ·rename_i q22; simp only [q22, cond_true] at hs18 ⊢
       cbv;try simp only[ArKg5]
       repeat((first|refine R6 ?_|refine A6 ?_);cbv;try simp only[ArKg5])
       obtain ⟨c21, hs18⟩ := ck_out hs18
       refine ⟨c21, ?_⟩
       repeat((first|refine R6 ?_|refine A6 ?_);cbv;try simp only[ArKg5])
       obtain rfl:=SI hs18
       refine ⟨_,bs18 _ rfl,?_⟩;first|rfl|(simp only[Z0];rfl)
      ·rename_i q22; simp only [q22, cond_false] at hs18 ⊢
       cbv;try simp only[ArKg5]
       repeat((first|refine R6 ?_|refine A6 ?_);cbv;try simp only[ArKg5])
       obtain rfl:=SI hs18
       refine ⟨_,bs18 _ rfl,?_⟩;first|rfl|(simp only[Z0];rfl)
     ·rename_i q23; simp only [q23, cond_false] at hs18 ⊢
      cbv;try simp only[ArKg5]
      repeat((first|refine R6 ?_|refine A6 ?_);cbv;try simp only[ArKg5])
      obtain rfl:=SI hs18
      refine ⟨_,bs18 _ rfl,?_⟩;first|rfl|(simp only[Z0];rfl)
    ·rename_i q24; simp only [q24, cond_false] at hs18 ⊢
     cbv;try simp only[ArKg5]
     repeat((first|refine R6 ?_|refine A6 ?_);cbv;try simp only[ArKg5])
     obtain rfl:=SI hs18
     refine ⟨_,bs18 _ rfl,?_⟩;first|rfl|(simp only[Z0];rfl)
   ·rename_i q25; simp only [q25, cond_false] at hs18 ⊢
    cbv;try simp only[ArKg5]
    repeat((first|refine R6 ?_|refine A6 ?_);cbv;try simp only[ArKg5])
    obtain rfl:=SI hs18
    replace ho12 := congrArg some (es18 _ rfl)
    obtain rfl:=SI ho12
    refine ⟨_,rfl,?_⟩;first|rfl|(simp only[Z0];rfl)
  ·rintro a13 rfl
   clear ho12
   cbv;try simp only[ArKg5]
   repeat((first|refine R6 ?_|refine A6 ?_);cbv;try simp only[ArKg5])
   obtain rfl:=SI h
   (try simp only [Z0]); exact LeV.to rfl (LeF.rfl' _)
theorem r_sEligible {a0 : PoolD} {a1 : Int} {r : (List Int)} (h : sEligible a0 a1 = some r) : Ret pg 14 true [.ag (poolC a0), .i .i64 a1] [] (.sl .own 1 (rows intR r)) := by
  unfold sEligible at h
  refine retD 1000 1000 [] .o Tryz.func14 rfl (by decide +kernel) (by decide +kernel) rfl ⟨rfl, own_intS _⟩ ?_
  cbv;try simp only[ArKg6]
  obtain ⟨r3, hr3, h⟩ := bnd_out h
  refine CallK.introE rfl rfl (r_sPoolOk hr3) ?_
  clear hr3
  cbv;try simp only[ArKg6]
  cases r3
  ·simp only [cond_false] at h
   cbv;try simp only[ArKg6]
   obtain rfl:=SI h
   (try simp only [Z0]); exact LeV.to rfl (LeF.rfl' _)
  ·simp only [cond_true] at h
   cbv;try simp only[ArKg6]
   obtain ⟨r5, hr5, h⟩ := bnd_out h
   refine CallK.introE rfl rfl (r_sl13Eligible hr5) ?_
   clear hr5
   cbv;try simp only[ArKg6]
   obtain rfl:=SI h
   (try simp only [Z0]); exact LeV.to rfl (LeF.rfl' _)
end Go.Ar
