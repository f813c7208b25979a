import Derived.Test.YtogidplgdeghgaaGreatArKD
import Derived.Test.YtogidplgdeghgaaGreatArDcN
import Derived.Test.YtogidplgdeghgaaGreatArKa
namespace Go.Ar
open Go.Proofs
set_option linter.unusedVariables false
set_option linter.unusedSimpArgs false
set_option maxRecDepth 20000
set_option maxHeartbeats 40000000
theorem ArKb2 : type_of% (And.intro @F (And.intro @F2 (And.intro @N0 @N_String))) := ⟨@F, @F2, @N0, @N_String⟩
theorem ArKb6 : type_of% (And.intro @F (And.intro @F2 (And.intro @N0 @N_Byte))) := ⟨@F, @F2, @N0, @N_Byte⟩
theorem r_iGetNum {a0 : List UInt8} {a1 : Int} {r : Int × Int × Bool} (h : iGetNum a0 a1 = some r) : Ret pg 135 true [.sl .shr 1 (bys a0), .i .i64 a1] [] (.tu [.i .i64 r.1, .i .i64 r.2.1, .b r.2.2]) := by
  unfold iGetNum at h
  refine retD 1000 1000 [] (.s .o (.s .o (.s .o (.k (.s .o (.s (.s (.s .o (.s (.s (.s .o (.s .o (.s .o (.k .o .o)))) .o) .o)) .o) .o)) .o)))) Tryz.func135 rfl (by decide +kernel) (by decide +kernel) rfl ⟨trivial, trivial, trivial, trivial⟩ ?_
  cbv;try simp only[ArKb6]
  obtain ⟨r3, hr3, h⟩ := bnd_out h
  refine CallK.introE rfl rfl (r_iwithin hr3) ?_
  clear hr3
  cbv;try simp only[ArKb6]
  cases r3
  ·simp only [cond_false] at h
   cbv;try simp only[ArKb6]
   obtain rfl:=SI h
   (try simp only [Z0]); exact LeV.to rfl (LeF.rfl' _)
  ·simp only [cond_true] at h
   cbv;try simp only[ArKb6]
   obtain ⟨o18, ho18, h⟩ := bnd_out h
   refine CutK.intro (α := Unit) [] [] (fun a => []) (fun a => []) (fun a => (Sum.inl a : _ ⊕ _) = o18) ?_ ?_
   ·cbv;try simp only[ArKb6]
    refine LoopR (σ := Int × Int) ho18 [0, 1, 7, 8] [] (fun a => [(7, .i .i64 a.1), (8, .i .i64 a.2)]) (fun a => []) (by first|rfl|(simp only[Z0];rfl)) fun _ s26 xs26 hs26 bs26 es26 => ?_
    obtain ⟨s26_0, s26_1⟩ := s26
    try dsimp only at hs26
    cbv;try simp only[ArKb6]
    split
    ·rename_i q37; simp only [q37, cond_true] at hs26 ⊢
     cbv;try simp only[ArKb6]
     split
     ·rename_i q36; simp only [q36, cond_true] at hs26 ⊢
      cbv;try simp only[ArKb6]
      obtain ⟨y27, hy27, hs26⟩ := bnd_out hs26
      refine ⟨gt_in hy27, ?_⟩
      refine ⟨_, gt_ab hy27, ?_⟩
      cbv;try simp only[ArKb6]
      obtain ⟨c35, hs26⟩ := ck_out hs26
      refine ⟨c35, ?_⟩
      split
      ·rename_i q34; simp only [q34, cond_true] at hs26 ⊢
       cbv;try simp only[ArKb6]
       obtain rfl:=SI hs26
       refine ⟨_,bs26 _ rfl,?_⟩;first|rfl|(simp only[Z0];rfl)
      ·rename_i q34; simp only [q34, cond_false] at hs26 ⊢
       cbv;try simp only[ArKb6]
       obtain ⟨o28, ho28, hs26⟩ := bnd_out hs26
       refine CutK.intro (α := Unit) [1, 7, 8] [] (fun a => []) (fun a => []) (fun a => (Sum.inl a : _ ⊕ _) = o28) ?_ ?_
       ·cbv;try simp only[ArKb6]
        split
        ·rename_i q33; simp only [q33, cond_true] at ho28 ⊢
         cbv;try simp only[ArKb6]
         split
         ·rename_i q31; simp only [q31, cond_true] at ho28 ⊢
          cbv;try simp only[ArKb6]
          obtain rfl:=SI ho28
          simp only [Sum.elim_inr] at hs26
          obtain rfl:=SI hs26
          replace ho18 := congrArg some (es26 _ rfl)
          obtain rfl:=SI ho18
          simp only [Sum.elim_inr] at h
          obtain rfl:=SI h
          (try simp only [Z0]); exact LeV.to rfl (LeF.rfl' _)
         ·rename_i q31; simp only [q31, cond_false] at ho28 ⊢
          cbv;try simp only[ArKb6]
          split
          ·rename_i q30; simp only [q30, cond_true] at ho28 ⊢
           cbv;try simp only[ArKb6]
           obtain rfl:=SI ho28
           simp only [Sum.elim_inr] at hs26
           obtain rfl:=SI hs26
           replace ho18 := congrArg some (es26 _ rfl)
           obtain rfl:=SI ho18
           simp only [Sum.elim_inr] at h
           obtain rfl:=SI h
           (try simp only [Z0]); exact LeV.to rfl (LeF.rfl' _)
          ·rename_i q30; simp only [q30, cond_false] at ho28 ⊢
           cbv;try simp only[ArKb6]
           obtain rfl:=SI ho28
           refine ⟨_,rfl,?_⟩;first|rfl|(simp only[Z0];rfl)
        ·rename_i q33; simp only [q33, cond_false] at ho28 ⊢
         cbv;try simp only[ArKb6]
         split
         ·rename_i q32; simp only [q32, cond_true] at ho28 ⊢
          cbv;try simp only[ArKb6]
          obtain rfl:=SI ho28
          simp only [Sum.elim_inr] at hs26
          obtain rfl:=SI hs26
          replace ho18 := congrArg some (es26 _ rfl)
          obtain rfl:=SI ho18
          simp only [Sum.elim_inr] at h
          obtain rfl:=SI h
          (try simp only [Z0]); exact LeV.to rfl (LeF.rfl' _)
         ·rename_i q32; simp only [q32, cond_false] at ho28 ⊢
          cbv;try simp only[ArKb6]
          obtain rfl:=SI ho28
          refine ⟨_,rfl,?_⟩;first|rfl|(simp only[Z0];rfl)
       ·rintro a29 rfl
        clear ho28
        simp only [Sum.elim_inl] at hs26
        cbv;try simp only[ArKb6]
        obtain rfl:=SI hs26
        replace ho18 := congrArg some (es26 _ rfl)
        obtain rfl:=SI ho18
        simp only [Sum.elim_inr] at h
        obtain rfl:=SI h
        (try simp only [Z0]); exact LeV.to rfl (LeF.rfl' _)
     ·rename_i q36; simp only [q36, cond_false] at hs26 ⊢
      cbv;try simp only[ArKb6]
      obtain rfl:=SI hs26
      replace ho18 := congrArg some (es26 _ rfl)
      obtain rfl:=SI ho18
      refine ⟨_,rfl,?_⟩;first|rfl|(simp only[Z0];rfl)
    ·rename_i q37; simp only [q37, cond_false] at hs26 ⊢
     cbv;try simp only[ArKb6]
     obtain rfl:=SI hs26
     replace ho18 := congrArg some (es26 _ rfl)
     obtain rfl:=SI ho18
     refine ⟨_,rfl,?_⟩;first|rfl|(simp only[Z0];rfl)
   ·rintro a19 rfl
    clear ho18
    simp only [Sum.elim_inl] at h
    cbv;try simp only[ArKb6]
    obtain rfl:=SI h
    (try simp only [Z0]); exact LeV.to rfl (LeF.rfl' _)
theorem r_iPutText {a0 : List UInt8} {r : (List UInt8)} (h : iPutText a0 = some r) : Ret pg 207 true [.s a0] [] (.sl .own 1 (bys r)) := by
  unfold iPutText at h
  refine retD 1000 1000 [] .o Tryz.func207 rfl (by decide +kernel) (by decide +kernel) rfl ⟨rfl, own_bysS _⟩ ?_
  cbv;try simp only[ArKb6]
  obtain ⟨r2, hr2, h⟩ := bnd_out h
  refine CallK.introE rfl rfl (r_iPutNum hr2) ?_
  clear hr2
  cbv;try simp only[ArKb6]
  obtain ⟨c3, h⟩ := ck_out h
  refine ⟨c3, ?_⟩
  obtain rfl:=SI h
  (try simp only [Z0]); exact LeV.to rfl (LeF.rfl' _)
theorem r_sl1Copy {a0 : List (List UInt8)} {r : (List (List UInt8))} (h : sl1Copy a0 = some r) : Ret pg 123 true [.sl .shr 1 (rows strR a0)] [] (.sl .own 1 (rows strR r)) := by
  unfold sl1Copy at h
  refine retD 1000 1000 [] .o Tryz.func123 rfl (by decide +kernel) (by decide +kernel) rfl ⟨rfl, own_stringS _⟩ ?_
  cbv;try simp only[ArKb2]
  obtain ⟨c1, h⟩ := ck_out h
  refine ⟨c1, ?_⟩
  obtain rfl:=SI h
  (try simp only [Z0]); exact LeV.to rfl (LeF.rfl' _)
theorem r_sGetNum {a0 : List UInt8} {a1 : Int} {r : Int × Int × Bool} (h : sGetNum a0 a1 = some r) : Ret pg 182 true [.sl .shr 1 (bys a0), .i .i64 a1] [] (.tu [.i .i64 r.1, .i .i64 r.2.1, .b r.2.2]) := by
  unfold sGetNum at h
  refine retD 1000 1000 [] (.s .o (.s .o (.k (.s .o (.s (.s (.s .o (.s (.s (.s .o (.s .o (.s .o (.s .o (.s (.k .o .o) .o))))) .o) .o)) .o) .o)) .o))) Tryz.func182 rfl (by decide +kernel) (by decide +kernel) rfl ⟨trivial, trivial, trivial, trivial⟩ ?_
  cbv;try simp only[ArKb6]
  obtain ⟨o15, ho15, h⟩ := bnd_out h
  refine CutK.intro (α := Unit) [] [] (fun a => []) (fun a => []) (fun a => (Sum.inl a : _ ⊕ _) = o15) ?_ ?_
  ·cbv;try simp only[ArKb6]
   refine LoopR (σ := Int × Int) ho15 [0, 1, 7, 8] [] (fun a => [(7, .i .i64 a.1), (8, .i .i64 a.2)]) (fun a => []) (by first|rfl|(simp only[Z0];rfl)) fun _ s23 xs23 hs23 bs23 es23 => ?_
   obtain ⟨s23_0, s23_1⟩ := s23
   try dsimp only at hs23
   cbv;try simp only[ArKb6]
   split
   ·rename_i q35; simp only [q35, cond_true] at hs23 ⊢
    cbv;try simp only[ArKb6]
    split
    ·rename_i q34; simp only [q34, cond_true] at hs23 ⊢
     cbv;try simp only[ArKb6]
     obtain rfl:=SI hs23
     replace ho15 := congrArg some (es23 _ rfl)
     obtain rfl:=SI ho15
     simp only [Sum.elim_inr] at h
     obtain rfl:=SI h
     (try simp only [Z0]); exact LeV.to rfl (LeF.rfl' _)
    ·rename_i q34; simp only [q34, cond_false] at hs23 ⊢
     cbv;try simp only[ArKb6]
     split
     ·rename_i q33; simp only [q33, cond_true] at hs23 ⊢
      cbv;try simp only[ArKb6]
      obtain rfl:=SI hs23
      replace ho15 := congrArg some (es23 _ rfl)
      obtain rfl:=SI ho15
      simp only [Sum.elim_inr] at h
      obtain rfl:=SI h
      (try simp only [Z0]); exact LeV.to rfl (LeF.rfl' _)
     ·rename_i q33; simp only [q33, cond_false] at hs23 ⊢
      cbv;try simp only[ArKb6]
      obtain ⟨y24, hy24, hs23⟩ := bnd_out hs23
      refine ⟨gt_in hy24, ?_⟩
      refine ⟨_, gt_ab hy24, ?_⟩
      cbv;try simp only[ArKb6]
      refine ⟨by rw [icmp_neq]; rfl, ?_⟩
      obtain ⟨c32, hs23⟩ := ck_out hs23
      refine ⟨c32, ?_⟩
      split
      ·rename_i q31; simp only [q31, cond_true] at hs23 ⊢
       cbv;try simp only[ArKb6]
       obtain ⟨o25, ho25, hs23⟩ := bnd_out hs23
       refine CutK.intro (α := Unit) [1, 7, 8] [] (fun a => []) (fun a => []) (fun a => (Sum.inl a : _ ⊕ _) = o25) ?_ ?_
       ·cbv;try simp only[ArKb6]
        split
        ·rename_i q30; simp only [q30, cond_true] at ho25 ⊢
         cbv;try simp only[ArKb6]
         split
         ·rename_i q28; simp only [q28, cond_true] at ho25 ⊢
          cbv;try simp only[ArKb6]
          obtain rfl:=SI ho25
          simp only [Sum.elim_inr] at hs23
          obtain rfl:=SI hs23
          replace ho15 := congrArg some (es23 _ rfl)
          obtain rfl:=SI ho15
          simp only [Sum.elim_inr] at h
          obtain rfl:=SI h
          (try simp only [Z0]); exact LeV.to rfl (LeF.rfl' _)
         ·rename_i q28; simp only [q28, cond_false] at ho25 ⊢
          cbv;try simp only[ArKb6]
          split
          ·rename_i q27; simp only [q27, cond_true] at ho25 ⊢
           cbv;try simp only[ArKb6]
           obtain rfl:=SI ho25
           simp only [Sum.elim_inr] at hs23
           obtain rfl:=SI hs23
           replace ho15 := congrArg some (es23 _ rfl)
           obtain rfl:=SI ho15
           simp only [Sum.elim_inr] at h
           obtain rfl:=SI h
           (try simp only [Z0]); exact LeV.to rfl (LeF.rfl' _)
          ·rename_i q27; simp only [q27, cond_false] at ho25 ⊢
           cbv;try simp only[ArKb6]
           obtain rfl:=SI ho25
           refine ⟨_,rfl,?_⟩;first|rfl|(simp only[Z0];rfl)
        ·rename_i q30; simp only [q30, cond_false] at ho25 ⊢
         cbv;try simp only[ArKb6]
         split
         ·rename_i q29; simp only [q29, cond_true] at ho25 ⊢
          cbv;try simp only[ArKb6]
          obtain rfl:=SI ho25
          simp only [Sum.elim_inr] at hs23
          obtain rfl:=SI hs23
          replace ho15 := congrArg some (es23 _ rfl)
          obtain rfl:=SI ho15
          simp only [Sum.elim_inr] at h
          obtain rfl:=SI h
          (try simp only [Z0]); exact LeV.to rfl (LeF.rfl' _)
         ·rename_i q29; simp only [q29, cond_false] at ho25 ⊢
          cbv;try simp only[ArKb6]
          obtain rfl:=SI ho25
          refine ⟨_,rfl,?_⟩;first|rfl|(simp only[Z0];rfl)
       ·rintro a26 rfl
        clear ho25
        simp only [Sum.elim_inl] at hs23
        cbv;try simp only[ArKb6]
        obtain rfl:=SI hs23
        replace ho15 := congrArg some (es23 _ rfl)
        obtain rfl:=SI ho15
        simp only [Sum.elim_inr] at h
        obtain rfl:=SI h
        (try simp only [Z0]); exact LeV.to rfl (LeF.rfl' _)
      ·rename_i q31; simp only [q31, cond_false] at hs23 ⊢
       cbv;try simp only[ArKb6]
       obtain rfl:=SI hs23
       refine ⟨_,bs23 _ rfl,?_⟩;first|rfl|(simp only[Z0];rfl)
   ·rename_i q35; simp only [q35, cond_false] at hs23 ⊢
    cbv;try simp only[ArKb6]
    obtain rfl:=SI hs23
    replace ho15 := congrArg some (es23 _ rfl)
    obtain rfl:=SI ho15
    refine ⟨_,rfl,?_⟩;first|rfl|(simp only[Z0];rfl)
  ·rintro a16 rfl
   clear ho15
   simp only [Sum.elim_inl] at h
   cbv;try simp only[ArKb6]
   obtain rfl:=SI h
   (try simp only [Z0]); exact LeV.to rfl (LeF.rfl' _)
theorem r_sPutText {a0 : List UInt8} {r : (List UInt8)} (h : sPutText a0 = some r) : Ret pg 190 true [.s a0] [] (.sl .own 1 (bys r)) := by
  unfold sPutText at h
  refine retD 1000 1000 [] .o Tryz.func190 rfl (by decide +kernel) (by decide +kernel) rfl ⟨rfl, own_bysS _⟩ ?_
  cbv;try simp only[ArKb6]
  obtain ⟨r2, hr2, h⟩ := bnd_out h
  refine CallK.introE rfl rfl (r_sPutNum hr2) ?_
  clear hr2
  cbv;try simp only[ArKb6]
  obtain ⟨c4, h⟩ := ck_out h
  refine ⟨c4, ?_⟩
  obtain ⟨c3, h⟩ := ck_out h
  refine ⟨c3, ?_⟩
  obtain rfl:=SI h
  (try simp only [Z0]); exact LeV.to rfl (LeF.rfl' _)
end Go.Ar
