import Derived.Test.YtogidplgdeghgaaGreatArKD
import Derived.Test.YtogidplgdeghgaaGreatArDcN
import Derived.Test.YtogidplgdeghgaaGreatArKa
namespace Go.Ar
open Go.Proofs
set_option linter.unusedVariables false
set_option linter.unusedSimpArgs false
set_option maxRecDepth 20000
set_option maxHeartbeats 40000000
theorem ArKb1 : type_of% (And.intro @F (And.intro @F2 @N0)) := ⟨@F, @F2, @N0⟩
theorem ArKb2 : type_of% (And.intro @F (And.intro @F2 (And.intro @N0 @N_String))) := ⟨@F, @F2, @N0, @N_String⟩
theorem ArKb3 : type_of% (And.intro @F (And.intro @F2 (And.intro @N0 @N_Put))) := ⟨@F, @F2, @N0, @N_Put⟩
theorem ArKb4 : type_of% (And.intro @F (And.intro @F2 (And.intro @N0 (And.intro @N_Put @N_String)))) := ⟨@F, @F2, @N0, @N_Put, @N_String⟩
theorem ArKb5 : type_of% (And.intro @F (And.intro @F2 (And.intro @N0 (And.intro @N_Bool (And.intro @N_Put @N_String))))) := ⟨@F, @F2, @N0, @N_Bool, @N_Put, @N_String⟩
theorem ArKb6 : type_of% (And.intro @F (And.intro @F2 (And.intro @N0 @N_Byte))) := ⟨@F, @F2, @N0, @N_Byte⟩
theorem ArKb7 : type_of% (And.intro @F (And.intro @F2 (And.intro @N0 (And.intro @N_Int @N_Put)))) := ⟨@F, @F2, @N0, @N_Int, @N_Put⟩
theorem ArKb8 : type_of% (And.intro @F (And.intro @F2 (And.intro @N0 (And.intro @N_Byte @N_String)))) := ⟨@F, @F2, @N0, @N_Byte, @N_String⟩
theorem ArKb9 : type_of% (And.intro @F (And.intro @F2 (And.intro @N0 (And.intro @N_Int (And.intro @N_Put @N_String))))) := ⟨@F, @F2, @N0, @N_Int, @N_Put, @N_String⟩
theorem r_ishort {a0 : List UInt8} {r : Bool} (h : ishort a0 = some r) : Ret pg 194 true [.s a0] [] (.b r) := by
  unfold ishort at h
  refine retD 1000 1000 [] .o Tryz.func194 rfl (by decide +kernel) (by decide +kernel) rfl trivial ?_
  cbv;try simp only[ArKb1]
  obtain rfl:=SI h
  (try simp only [Z0]); exact LeV.to rfl (LeF.rfl' _)
theorem r_iDiskOk_1 {a0 : List UInt8} {r : Bool} (h : iDiskOk_1 a0 = some r) : Ret pg 193 true [.s a0] [] (.b r) := by
  unfold iDiskOk_1 at h
  refine retD 1000 1000 [] .o Tryz.func193 rfl (by decide +kernel) (by decide +kernel) rfl trivial ?_
  cbv;try simp only[ArKb1]
  obtain ⟨r2, hr2, h⟩ := bnd_out h
  refine CallK.introE rfl rfl (r_ishort hr2) ?_
  clear hr2
  cbv;try simp only[ArKb1]
  obtain rfl:=SI h
  (try simp only [Z0]); exact LeV.to rfl (LeF.rfl' _)
theorem r_gslices_IndexFunc_string_iDiskOk_1 {a0 : List (List UInt8)} {r : Int} (h : gslices_IndexFunc_string_iDiskOk_1 a0 = some r) : Ret pg 220 true [.sl .shr 1 (rows strR a0), .fn 193 []] [] (.i .i64 r) := by
  unfold gslices_IndexFunc_string_iDiskOk_1 at h
  refine retD 1000 1000 [] (.s .o (.k .o .o)) Tryz.func220 rfl (by decide +kernel) (by decide +kernel) rfl trivial ?_
  cbv;try simp only[ArKb2]
  obtain ⟨o12, ho12, h⟩ := bnd_out h
  refine CutK.intro (α := Unit) [] [] (fun a => []) (fun a => []) (fun a => (Sum.inl a : _ ⊕ _) = o12) ?_ ?_
  ·cbv;try simp only[ArKb2]
   refine LoopR (σ := Int) ho12 [0, 1, 7, 8] [] (fun a => [(8, .i .i64 a)]) (fun a => []) (by first | rfl | (simp only [rows_nil, bys_n]; rfl)) fun _ s18 xs18 hs18 bs18 es18 => ?_
   cbv;try simp only[ArKb2]
   split
   ·rename_i q21; simp only [q21, cond_true] at hs18 ⊢
    cbv;try simp only[ArKb2]
    obtain ⟨y19, hy19, hs18⟩ := bnd_out hs18
    refine ⟨gt_in hy19, ?_⟩
    refine ⟨_, gt_at _ hy19, ?_⟩
    cbv;try simp only[ArKb2]
    obtain ⟨r20, hr20, hs18⟩ := bnd_out hs18
    refine CallK.introE rfl rfl (r_iDiskOk_1 hr20) ?_
    clear hr20
    cbv;try simp only[ArKb2]
    cases r20
    ·simp only [cond_false] at hs18
     cbv;try simp only[ArKb2]
     obtain rfl:=SI hs18
     refine ⟨_,bs18 _ rfl,?_⟩;first|rfl|(simp only[Z0];rfl)
    ·simp only [cond_true] at hs18
     cbv;try simp only[ArKb2]
     obtain rfl:=SI hs18
     replace ho12 := congrArg some (es18 _ rfl)
     obtain rfl:=SI ho12
     simp only [Sum.elim_inr] at h
     obtain rfl:=SI h
     (try simp only [Z0]); exact LeV.to rfl (LeF.rfl' _)
   ·rename_i q21; simp only [q21, cond_false] at hs18 ⊢
    cbv;try simp only[ArKb2]
    obtain rfl:=SI hs18
    replace ho12 := congrArg some (es18 _ rfl)
    obtain rfl:=SI ho12
    refine ⟨_,rfl,?_⟩;first|rfl|(simp only[Z0];rfl)
  ·rintro a13 rfl
   clear ho12
   simp only [Sum.elim_inl] at h
   cbv;try simp only[ArKb2]
   obtain rfl:=SI h
   (try simp only [Z0]); exact LeV.to rfl (LeF.rfl' _)
theorem r_gslices_ContainsFunc_string_iDiskOk_1 {a0 : List (List UInt8)} {r : Bool} (h : gslices_ContainsFunc_string_iDiskOk_1 a0 = some r) : Ret pg 170 true [.sl .shr 1 (rows strR a0), .fn 193 []] [] (.b r) := by
  unfold gslices_ContainsFunc_string_iDiskOk_1 at h
  refine retD 1000 1000 [] .o Tryz.func170 rfl (by decide +kernel) (by decide +kernel) rfl trivial ?_
  cbv;try simp only[ArKb2]
  obtain ⟨r2, hr2, h⟩ := bnd_out h
  refine CallK.introE rfl rfl (r_gslices_IndexFunc_string_iDiskOk_1 hr2) ?_
  clear hr2
  cbv;try simp only[ArKb2]
  obtain rfl:=SI h
  (try simp only [Z0]); exact LeV.to rfl (LeF.rfl' _)
theorem r_iDiskOk_2 {a0 : PutD} {k1 : List (List UInt8)} {k2 : List PutD} {r : Bool} (h : iDiskOk_2 a0 k1 k2 = some r) : Ret pg 196 true [.ag (putC a0), .pt ⟨.gl 0, [], 0⟩] [[.sl .shr 1 (rows strR k1), .sl .shr 2 (rows putR k2)]] (.b r) := by
  unfold iDiskOk_2 at h
  refine retD 1000 1000 [] .o Tryz.func196 rfl (by decide +kernel) (by decide +kernel) rfl trivial ?_
  cbv;try simp only[ArKb1]
  obtain ⟨r3, hr3, h⟩ := bnd_out h
  refine CallK.introE rfl rfl (r_iwithin hr3) ?_
  clear hr3
  cbv;try simp only[ArKb1]
  cases r3
  ·simp only [cond_false] at h
   cbv;try simp only[ArKb1]
   obtain rfl:=SI h
   (try simp only [Z0]); exact LeV.to rfl (LeF.rfl' _)
  ·simp only [cond_true] at h
   cbv;try simp only[ArKb1]
   obtain ⟨r4, hr4, h⟩ := bnd_out h
   refine CallK.introE rfl rfl (r_ishort hr4) ?_
   clear hr4
   cbv;try simp only[ArKb1]
   obtain rfl:=SI h
   (try simp only [Z0]); exact LeV.to rfl (LeF.rfl' _)
theorem r_gslices_IndexFunc_Put_iDiskOk_2 {a0 : List PutD} {k1 : List (List UInt8)} {k2 : List PutD} {r : Int} (h : gslices_IndexFunc_Put_iDiskOk_2 a0 k1 k2 = some r) : Ret pg 241 true [.sl .shr 2 (rows putR a0), .fn 196 [.pt ⟨.gl 0, [], 0⟩]] [[.sl .shr 1 (rows strR k1), .sl .shr 2 (rows putR k2)]] (.i .i64 r) := by
  unfold gslices_IndexFunc_Put_iDiskOk_2 at h
  refine retD 1000 1000 [] (.s .o (.k .o .o)) Tryz.func241 rfl (by decide +kernel) (by decide +kernel) rfl trivial ?_
  cbv;try simp only[ArKb3]
  obtain ⟨o12, ho12, h⟩ := bnd_out h
  refine CutK.intro (α := Unit) [] [] (fun a => []) (fun a => []) (fun a => (Sum.inl a : _ ⊕ _) = o12) ?_ ?_
  ·cbv;try simp only[ArKb3]
   refine LoopR (σ := Int) ho12 [0, 1, 7, 8] [] (fun a => [(8, .i .i64 a)]) (fun a => []) (by first | rfl | (simp only [rows_nil, bys_n]; rfl)) fun _ s18 xs18 hs18 bs18 es18 => ?_
   cbv;try simp only[ArKb3]
   split
   ·rename_i q21; simp only [q21, cond_true] at hs18 ⊢
    cbv;try simp only[ArKb3]
    obtain ⟨y19, hy19, hs18⟩ := bnd_out hs18
    refine ⟨gt_in hy19, ?_⟩
    refine ⟨_, gt_at _ hy19, ?_⟩
    cbv;try simp only[ArKb3]
    obtain ⟨r20, hr20, hs18⟩ := bnd_out hs18
    refine CallK.introE rfl rfl (r_iDiskOk_2 hr20) ?_
    clear hr20
    cbv;try simp only[ArKb3]
    cases r20
    ·simp only [cond_false] at hs18
     cbv;try simp only[ArKb3]
     obtain rfl:=SI hs18
     refine ⟨_,bs18 _ rfl,?_⟩;first|rfl|(simp only[Z0];rfl)
    ·simp only [cond_true] at hs18
     cbv;try simp only[ArKb3]
     obtain rfl:=SI hs18
     replace ho12 := congrArg some (es18 _ rfl)
     obtain rfl:=SI ho12
     simp only [Sum.elim_inr] at h
     obtain rfl:=SI h
     (try simp only [Z0]); exact LeV.to rfl (LeF.rfl' _)
   ·rename_i q21; simp only [q21, cond_false] at hs18 ⊢
    cbv;try simp only[ArKb3]
    obtain rfl:=SI hs18
    replace ho12 := congrArg some (es18 _ rfl)
    obtain rfl:=SI ho12
    refine ⟨_,rfl,?_⟩;first|rfl|(simp only[Z0];rfl)
  ·rintro a13 rfl
   clear ho12
   simp only [Sum.elim_inl] at h
   cbv;try simp only[ArKb3]
   obtain rfl:=SI h
   (try simp only [Z0]); exact LeV.to rfl (LeF.rfl' _)
theorem r_gslices_ContainsFunc_Put_iDiskOk_2 {a0 : List PutD} {k1 : List (List UInt8)} {k2 : List PutD} {r : Bool} (h : gslices_ContainsFunc_Put_iDiskOk_2 a0 k1 k2 = some r) : Ret pg 195 true [.sl .shr 2 (rows putR a0), .fn 196 [.pt ⟨.gl 0, [], 0⟩]] [[.sl .shr 1 (rows strR k1), .sl .shr 2 (rows putR k2)]] (.b r) := by
  unfold gslices_ContainsFunc_Put_iDiskOk_2 at h
  refine retD 1000 1000 [] .o Tryz.func195 rfl (by decide +kernel) (by decide +kernel) rfl trivial ?_
  cbv;try simp only[ArKb3]
  obtain ⟨r2, hr2, h⟩ := bnd_out h
  refine CallK.introE rfl rfl (r_gslices_IndexFunc_Put_iDiskOk_2 hr2) ?_
  clear hr2
  cbv;try simp only[ArKb3]
  obtain rfl:=SI h
  (try simp only [Z0]); exact LeV.to rfl (LeF.rfl' _)
theorem r_iDiskOk {a0 : DiskD} {r : Bool} (h : iDiskOk a0 = some r) : Ret pg 134 true [.ag (diskC a0)] [] (.b r) := by
  unfold iDiskOk at h
  refine retD 1000 1000 [] .o Tryz.func134 rfl (by decide +kernel) (by decide +kernel) rfl trivial ?_
  cbv;try simp only[ArKb4]
  split
  ·rename_i q7; simp only [q7, cond_true] at h ⊢
   cbv;try simp only[ArKb4]
   obtain rfl:=SI h
   (try simp only [Z0]); exact LeV.to rfl (LeF.rfl' _)
  ·rename_i q7; simp only [q7, cond_false] at h ⊢
   cbv;try simp only[ArKb4]
   split
   ·rename_i q6; simp only [q6, cond_true] at h ⊢
    cbv;try simp only[ArKb4]
    obtain rfl:=SI h
    (try simp only [Z0]); exact LeV.to rfl (LeF.rfl' _)
   ·rename_i q6; simp only [q6, cond_false] at h ⊢
    cbv;try simp only[ArKb4]
    obtain ⟨r3, hr3, h⟩ := bnd_out h
    refine CallK.introE rfl rfl (r_gslices_ContainsFunc_string_iDiskOk_1 hr3) ?_
    clear hr3
    cbv;try simp only[ArKb4]
    cases r3
    ·simp only [cond_false] at h
     cbv;try simp only[ArKb4]
     obtain ⟨r5, hr5, h⟩ := bnd_out h
     refine CallK.introE rfl rfl (r_gslices_ContainsFunc_Put_iDiskOk_2 hr5) ?_
     clear hr5
     cbv;try simp only[ArKb4]
     obtain rfl:=SI h
     (try simp only [Z0]); exact LeV.to rfl (LeF.rfl' _)
    ·simp only [cond_true] at h
     cbv;try simp only[ArKb4]
     obtain rfl:=SI h
     (try simp only [Z0]); exact LeV.to rfl (LeF.rfl' _)
theorem r_ihomed {a0 : DiskD} {a1 : Int} {r : Bool} (h : ihomed a0 a1 = some r) : Ret pg 62 true [.ag (diskC a0), .i .i64 a1] [] (.b r) := by
  unfold ihomed at h
  refine retD 1000 1000 [] .o Tryz.func62 rfl (by decide +kernel) (by decide +kernel) rfl trivial ?_
  cbv;try simp only[ArKb4]
  obtain ⟨r3, hr3, h⟩ := bnd_out h
  refine CallK.introE rfl rfl (r_iDiskOk hr3) ?_
  clear hr3
  cbv;try simp only[ArKb4]
  cases r3
  ·simp only [cond_false] at h
   cbv;try simp only[ArKb4]
   obtain rfl:=SI h
   (try simp only [Z0]); exact LeV.to rfl (LeF.rfl' _)
  ·simp only [cond_true] at h
   cbv;try simp only[ArKb4]
   obtain ⟨r4, hr4, h⟩ := bnd_out h
   refine CallK.introE rfl rfl (r_iwithin hr4) ?_
   clear hr4
   cbv;try simp only[ArKb4]
   cases r4
   ·simp only [cond_false] at h
    cbv;try simp only[ArKb4]
    obtain rfl:=SI h
    (try simp only [Z0]); exact LeV.to rfl (LeF.rfl' _)
   ·simp only [cond_true] at h
    cbv;try simp only[ArKb4]
    obtain rfl:=SI h
    (try simp only [Z0]); exact LeV.to rfl (LeF.rfl' _)
theorem r_gslices_Clone_string {a0 : List (List UInt8)} {r : (List (List UInt8))} (h : gslices_Clone_string a0 = some r) : Ret pg 136 true [.sl .shr 1 (rows strR a0)] [] (.sl .own 1 (rows strR r)) := by
  unfold gslices_Clone_string at h
  refine retD 1000 1000 [] .o Tryz.func136 rfl (by decide +kernel) (by decide +kernel) rfl ⟨rfl, own_stringS _⟩ ?_
  cbv;try simp only[ArKb2]
  have zn3 := nq_out h; clear h
  intro n3 hn3 gn3
  have h := zn3 n3 (fun e => by have := hn3 e; first | exact this | simpa only [sub, rows_nil_iff, bys_nil_iff] using this); clear zn3
  cbv;try simp only[ArKb2]
  cases n3
  ·simp only [cond_false] at h
   cbv;try simp only[ArKb2]
   obtain ⟨c4, h⟩ := ck_out h
   refine ⟨c4, ?_⟩
   obtain rfl:=SI h
   (try simp only [Z0]); exact LeV.to rfl (LeF.rfl' _)
  ·simp only [cond_true] at h
   cbv;try simp only[ArKb2]
   obtain rfl:=SI h
   first | exact LeV.to rfl (LeF.nr _ _ _) | (simp only [rows_nil, bys_n]; exact LeV.to rfl (LeF.nr _ _ _))
theorem r_gslices_Clone_Put {a0 : List PutD} {r : (List PutD)} (h : gslices_Clone_Put a0 = some r) : Ret pg 203 true [.sl .shr 2 (rows putR a0)] [] (.sl .own 2 (rows putR r)) := by
  unfold gslices_Clone_Put at h
  refine retD 1000 1000 [] .o Tryz.func203 rfl (by decide +kernel) (by decide +kernel) rfl ⟨rfl, own_putS _⟩ ?_
  cbv;try simp only[ArKb3]
  have zn3 := nq_out h; clear h
  intro n3 hn3 gn3
  have h := zn3 n3 (fun e => by have := hn3 e; first | exact this | simpa only [sub, rows_nil_iff, bys_nil_iff] using this); clear zn3
  cbv;try simp only[ArKb3]
  cases n3
  ·simp only [cond_false] at h
   cbv;try simp only[ArKb3]
   obtain ⟨c4, h⟩ := ck_out h
   refine ⟨c4, ?_⟩
   obtain rfl:=SI h
   (try simp only [Z0]); exact LeV.to rfl (LeF.rfl' _)
  ·simp only [cond_true] at h
   cbv;try simp only[ArKb3]
   obtain rfl:=SI h
   first | exact LeV.to rfl (LeF.nr _ _ _) | (simp only [rows_nil, bys_n]; exact LeV.to rfl (LeF.nr _ _ _))
theorem r_icloneDisk {a0 : DiskD} {r : DiskD} (h : icloneDisk a0 = some r) : Ret pg 143 true [.ag (diskC a0)] [] (.ag (diskR r)) := by
  unfold icloneDisk at h
  refine retD 8 3 [(1, [⟨true, [], [3]⟩, ⟨false, [6, 7], [4]⟩, ⟨false, [6, 7], [5]⟩, ⟨false, [4, 5], [6]⟩, ⟨false, [4, 5], [7]⟩, ⟨true, [], [8]⟩, ⟨true, [], [5, 8, 9]⟩, ⟨true, [], [2]⟩])] .o Tryz.func143 rfl (by decide +kernel) (by decide +kernel) rfl (own_diskR _) ?_
  cbv;try simp only[ArKb4]
  repeat((first|refine R6 ?_|refine A6 ?_);cbv;try simp only[ArKb4])
  obtain ⟨r3, hr3, h⟩ := bnd_out h
  refine CallK.introE rfl rfl (r_gslices_Clone_string hr3) ?_
  clear hr3
  cbv;try simp only[ArKb4]
  repeat((first|refine R6 ?_|refine A6 ?_);cbv;try simp only[ArKb4])
  obtain ⟨r4, hr4, h⟩ := bnd_out h
  refine CallK.introE rfl rfl (r_gslices_Clone_Put hr4) ?_
  clear hr4
  cbv;try simp only[ArKb4]
  repeat((first|refine R6 ?_|refine A6 ?_);cbv;try simp only[ArKb4])
  obtain rfl:=SI h
  (try simp only [Z0]); exact LeV.to rfl (LeF.rfl' _)
theorem r_iFall_1 {a0 : Int} {k1 : List Bool} {r : Bool} (h : iFall_1 a0 k1 = some r) : Ret pg 205 true [.i .i64 a0, .pt ⟨.gl 0, [], 0⟩] [[.sl .shr 1 (rows booR k1)]] (.b r) := by
  unfold iFall_1 at h
  refine retD 1000 1000 [] .o Tryz.func205 rfl (by decide +kernel) (by decide +kernel) rfl trivial ?_
  cbv;try simp only[ArKb1]
  split
  ·rename_i q3; simp only [q3, cond_true] at h ⊢
   cbv;try simp only[ArKb1]
   obtain ⟨y2, hy2, h⟩ := bnd_out h
   refine ⟨gt_in hy2, ?_⟩
   refine ⟨_, gt_at _ hy2, ?_⟩
   cbv;try simp only[ArKb1]
   obtain rfl:=SI h
   (try simp only [Z0]); exact LeV.to rfl (LeF.rfl' _)
  ·rename_i q3; simp only [q3, cond_false] at h ⊢
   cbv;try simp only[ArKb1]
   obtain rfl:=SI h
   (try simp only [Z0]); exact LeV.to rfl (LeF.rfl' _)
theorem r_isettle_iFall_1 {a0 : DiskD} {k1 : List Bool} {r : DiskD} (h : isettle_iFall_1 a0 k1 = some r) : Ret pg 204 true [.ag (diskC a0), .fn 205 [.pt ⟨.gl 0, [], 0⟩]] [[.sl .shr 1 (rows booR k1)]] (.ag (diskR r)) := by
  unfold isettle_iFall_1 at h
  refine retD 1000 1000 [] (.s .o (.s .o (.s .o (.k .o .o)))) Tryz.func204 rfl (by decide +kernel) (by decide +kernel) rfl (own_diskR _) ?_
  cbv;try simp only[ArKb4]
  obtain ⟨r2, hr2, h⟩ := bnd_out h
  refine CallK.introE rfl rfl (r_icloneDisk hr2) ?_
  clear hr2
  cbv;try simp only[ArKb4]
  obtain ⟨r5, hr5, h⟩ := bnd_out h
  refine CallK.introE rfl rfl (r_iDiskOk hr5) ?_
  clear hr5
  cbv;try simp only[ArKb4]
  cases r5
  ·simp only [cond_false] at h
   cbv;try simp only[ArKb4]
   obtain rfl:=SI h
   (try simp only [Z0]); exact LeV.to rfl (LeF.rfl' _)
  ·simp only [cond_true] at h
   cbv;try simp only[ArKb4]
   obtain ⟨o21, ho21, h⟩ := bnd_out h
   refine CutK.intro (α := (List (List UInt8))) [4, 5] [4, 5] (fun a => []) (fun a => [(5, [.sl .own 1 (rows strR a), .sl .own 2 (rows putR r2.pend)])]) (fun a => a = o21) ?_ ?_
   ·cbv;try simp only[ArKb4]
    refine LoopR (σ := Int × (List (List UInt8))) ho21 [1, 4, 5, 15, 16, 17] [4, 5] (fun a => [(17, .i .i64 a.1)]) (fun a => [(5, [.sl .own 1 (rows strR a.2), .sl .own 2 (rows putR r2.pend)])]) (by first | rfl | (simp only [rows_nil, bys_n]; rfl)) fun _ s29 xs29 hs29 bs29 es29 => ?_
    obtain ⟨s29_0, s29_1⟩ := s29
    try dsimp only at hs29
    cbv;try simp only[ArKb4]
    split
    ·rename_i q33; simp only [q33, cond_true] at hs29 ⊢
     cbv;try simp only[ArKb4]
     obtain ⟨y30, hy30, hs29⟩ := bnd_out hs29
     refine ⟨gt_in hy30, ?_⟩
     refine ⟨_, gt_at _ hy30, ?_⟩
     cbv;try simp only[ArKb4]
     obtain ⟨r31, hr31, hs29⟩ := bnd_out hs29
     refine CallK.introE rfl rfl (r_iFall_1 hr31) ?_
     clear hr31
     cbv;try simp only[ArKb4]
     cases r31
     ·simp only [cond_false] at hs29
      cbv;try simp only[ArKb4]
      obtain rfl:=SI hs29
      refine ⟨_,bs29 _ rfl,?_⟩;first|rfl|(simp only[Z0];rfl)
     ·simp only [cond_true] at hs29
      cbv;try simp only[ArKb4]
      obtain ⟨y32, hy32, hs29⟩ := bnd_out hs29
      refine ⟨gt_in hy32, ?_⟩
      refine ⟨_, gt_at _ hy32, ?_⟩
      cbv;try simp only[ArKb4]
      obtain rfl:=SI hs29
      refine ⟨_,bs29 _ rfl,?_⟩;first|rfl|(simp only[Z0];rfl)
    ·rename_i q33; simp only [q33, cond_false] at hs29 ⊢
     cbv;try simp only[ArKb4]
     obtain rfl:=SI hs29
     replace ho21 := congrArg some (es29 _ rfl)
     obtain rfl:=SI ho21
     refine ⟨_,rfl,?_⟩;first|rfl|(simp only[Z0];rfl)
   ·rintro a22 rfl
    clear ho21
    cbv;try simp only[ArKb4]
    obtain rfl:=SI h
    (try simp only [Z0]); exact LeV.to rfl (LeF.rfl' _)
theorem r_iFall {a0 : DiskD} {a1 : List Bool} {r : DiskD} (h : iFall a0 a1 = some r) : Ret pg 144 true [.ag (diskC a0), .sl .shr 1 (rows booR a1)] [] (.ag (diskR r)) := by
  unfold iFall at h
  refine retD 1000 1000 [] .o Tryz.func144 rfl (by decide +kernel) (by decide +kernel) rfl (own_diskR _) ?_
  cbv;try simp only[ArKb5]
  obtain ⟨r2, hr2, h⟩ := bnd_out h
  refine CallK.introE rfl rfl (r_isettle_iFall_1 hr2) ?_
  clear hr2
  cbv;try simp only[ArKb5]
  obtain rfl:=SI h
  (try simp only [Z0]); exact LeV.to rfl (LeF.rfl' _)
theorem r_iGetNum {a0 : List UInt8} {a1 : Int} {r : Int × Int × Bool} (h : iGetNum a0 a1 = some r) : Ret pg 135 true [.sl .shr 1 (bys a0), .i .i64 a1] [] (.tu [.i .i64 r.1, .i .i64 r.2.1, .b r.2.2]) := by
  unfold iGetNum at h
  refine retD 1000 1000 [] (.s .o (.s .o (.s .o (.k (.s .o (.s (.s (.s .o (.s (.s (.s .o (.s .o (.s .o (.k .o .o)))) .o) .o)) .o) .o)) .o)))) Tryz.func135 rfl (by decide +kernel) (by decide +kernel) rfl ⟨trivial, trivial, trivial, trivial⟩ ?_
  cbv;try simp only[ArKb6]
  obtain ⟨r3, hr3, h⟩ := bnd_out h
  refine CallK.introE rfl rfl (r_iwithin hr3) ?_
  clear hr3
  cbv;try simp only[ArKb6]
  cases r3
  ·simp only [cond_false] at h
   cbv;try simp only[ArKb6]
   obtain rfl:=SI h
   (try simp only [Z0]); exact LeV.to rfl (LeF.rfl' _)
  ·simp only [cond_true] at h
   cbv;try simp only[ArKb6]
   obtain ⟨o18, ho18, h⟩ := bnd_out h
   refine CutK.intro (α := Unit) [] [] (fun a => []) (fun a => []) (fun a => (Sum.inl a : _ ⊕ _) = o18) ?_ ?_
   ·cbv;try simp only[ArKb6]
    refine LoopR (σ := Int × Int) ho18 [0, 1, 7, 8] [] (fun a => [(7, .i .i64 a.1), (8, .i .i64 a.2)]) (fun a => []) (by first | rfl | (simp only [rows_nil, bys_n]; rfl)) fun _ s26 xs26 hs26 bs26 es26 => ?_
    obtain ⟨s26_0, s26_1⟩ := s26
    try dsimp only at hs26
    cbv;try simp only[ArKb6]
    split
    ·rename_i q37; simp only [q37, cond_true] at hs26 ⊢
     cbv;try simp only[ArKb6]
     split
     ·rename_i q36; simp only [q36, cond_true] at hs26 ⊢
      cbv;try simp only[ArKb6]
      obtain ⟨y27, hy27, hs26⟩ := bnd_out hs26
      refine ⟨gt_in hy27, ?_⟩
      refine ⟨_, gt_ab hy27, ?_⟩
      cbv;try simp only[ArKb6]
      obtain ⟨c35, hs26⟩ := ck_out hs26
      refine ⟨c35, ?_⟩
      split
      ·rename_i q34; simp only [q34, cond_true] at hs26 ⊢
       cbv;try simp only[ArKb6]
       obtain rfl:=SI hs26
       refine ⟨_,bs26 _ rfl,?_⟩;first|rfl|(simp only[Z0];rfl)
      ·rename_i q34; simp only [q34, cond_false] at hs26 ⊢
       cbv;try simp only[ArKb6]
       obtain ⟨o28, ho28, hs26⟩ := bnd_out hs26
       refine CutK.intro (α := Unit) [1, 7, 8] [] (fun a => []) (fun a => []) (fun a => (Sum.inl a : _ ⊕ _) = o28) ?_ ?_
       ·cbv;try simp only[ArKb6]
        split
        ·rename_i q33; simp only [q33, cond_true] at ho28 ⊢
         cbv;try simp only[ArKb6]
         split
         ·rename_i q31; simp only [q31, cond_true] at ho28 ⊢
          cbv;try simp only[ArKb6]
          obtain rfl:=SI ho28
          simp only [Sum.elim_inr] at hs26
          obtain rfl:=SI hs26
          replace ho18 := congrArg some (es26 _ rfl)
          obtain rfl:=SI ho18
          simp only [Sum.elim_inr] at h
          obtain rfl:=SI h
          (try simp only [Z0]); exact LeV.to rfl (LeF.rfl' _)
         ·rename_i q31; simp only [q31, cond_false] at ho28 ⊢
          cbv;try simp only[ArKb6]
          split
          ·rename_i q30; simp only [q30, cond_true] at ho28 ⊢
           cbv;try simp only[ArKb6]
           obtain rfl:=SI ho28
           simp only [Sum.elim_inr] at hs26
           obtain rfl:=SI hs26
           replace ho18 := congrArg some (es26 _ rfl)
           obtain rfl:=SI ho18
           simp only [Sum.elim_inr] at h
           obtain rfl:=SI h
           (try simp only [Z0]); exact LeV.to rfl (LeF.rfl' _)
          ·rename_i q30; simp only [q30, cond_false] at ho28 ⊢
           cbv;try simp only[ArKb6]
           obtain rfl:=SI ho28
           refine ⟨_,rfl,?_⟩;first|rfl|(simp only[Z0];rfl)
        ·rename_i q33; simp only [q33, cond_false] at ho28 ⊢
         cbv;try simp only[ArKb6]
         split
         ·rename_i q32; simp only [q32, cond_true] at ho28 ⊢
          cbv;try simp only[ArKb6]
          obtain rfl:=SI ho28
          simp only [Sum.elim_inr] at hs26
          obtain rfl:=SI hs26
          replace ho18 := congrArg some (es26 _ rfl)
          obtain rfl:=SI ho18
          simp only [Sum.elim_inr] at h
          obtain rfl:=SI h
          (try simp only [Z0]); exact LeV.to rfl (LeF.rfl' _)
         ·rename_i q32; simp only [q32, cond_false] at ho28 ⊢
          cbv;try simp only[ArKb6]
          obtain rfl:=SI ho28
          refine ⟨_,rfl,?_⟩;first|rfl|(simp only[Z0];rfl)
       ·rintro a29 rfl
        clear ho28
        simp only [Sum.elim_inl] at hs26
        cbv;try simp only[ArKb6]
        obtain rfl:=SI hs26
        replace ho18 := congrArg some (es26 _ rfl)
        obtain rfl:=SI ho18
        simp only [Sum.elim_inr] at h
        obtain rfl:=SI h
        (try simp only [Z0]); exact LeV.to rfl (LeF.rfl' _)
     ·rename_i q36; simp only [q36, cond_false] at hs26 ⊢
      cbv;try simp only[ArKb6]
      obtain rfl:=SI hs26
      replace ho18 := congrArg some (es26 _ rfl)
      obtain rfl:=SI ho18
      refine ⟨_,rfl,?_⟩;first|rfl|(simp only[Z0];rfl)
    ·rename_i q37; simp only [q37, cond_false] at hs26 ⊢
     cbv;try simp only[ArKb6]
     obtain rfl:=SI hs26
     replace ho18 := congrArg some (es26 _ rfl)
     obtain rfl:=SI ho18
     refine ⟨_,rfl,?_⟩;first|rfl|(simp only[Z0];rfl)
   ·rintro a19 rfl
    clear ho18
    simp only [Sum.elim_inl] at h
    cbv;try simp only[ArKb6]
    obtain rfl:=SI h
    (try simp only [Z0]); exact LeV.to rfl (LeF.rfl' _)
theorem r_iTxOk {a0 : Int} {a1 : List PutD} {r : Bool} (h : iTxOk a0 a1 = some r) : Ret pg 206 true [.i .i64 a0, .sl .shr 2 (rows putR a1)] [] (.b r) := by
  unfold iTxOk at h
  refine retD 1000 1000 [] (.s .o (.s .o (.s .o (.k .o .o)))) Tryz.func206 rfl (by decide +kernel) (by decide +kernel) rfl trivial ?_
  cbv;try simp only[ArKb3]
  obtain ⟨r3, hr3, h⟩ := bnd_out h
  refine CallK.introE rfl rfl (r_iwithin hr3) ?_
  clear hr3
  cbv;try simp only[ArKb3]
  cases r3
  ·simp only [cond_false] at h
   cbv;try simp only[ArKb3]
   obtain rfl:=SI h
   (try simp only [Z0]); exact LeV.to rfl (LeF.rfl' _)
  ·simp only [cond_true] at h
   cbv;try simp only[ArKb3]
   split
   ·rename_i q35; simp only [q35, cond_true] at h ⊢
    cbv;try simp only[ArKb3]
    obtain rfl:=SI h
    (try simp only [Z0]); exact LeV.to rfl (LeF.rfl' _)
   ·rename_i q35; simp only [q35, cond_false] at h ⊢
    cbv;try simp only[ArKb3]
    obtain ⟨o22, ho22, h⟩ := bnd_out h
    refine CutK.intro (α := Unit) [] [] (fun a => []) (fun a => []) (fun a => (Sum.inl a : _ ⊕ _) = o22) ?_ ?_
    ·cbv;try simp only[ArKb3]
     refine LoopR (σ := Int × Int) ho22 [0, 5, 16, 17, 18] [] (fun a => [(5, .i .i64 a.1), (18, .i .i64 a.2)]) (fun a => []) (by first | rfl | (simp only [rows_nil, bys_n]; rfl)) fun _ s30 xs30 hs30 bs30 es30 => ?_
     obtain ⟨s30_0, s30_1⟩ := s30
     try dsimp only at hs30
     cbv;try simp only[ArKb3]
     split
     ·rename_i q34; simp only [q34, cond_true] at hs30 ⊢
      cbv;try simp only[ArKb3]
      obtain ⟨y31, hy31, hs30⟩ := bnd_out hs30
      refine ⟨gt_in hy31, ?_⟩
      refine ⟨_, gt_at _ hy31, ?_⟩
      cbv;try simp only[ArKb3]
      obtain ⟨r32, hr32, hs30⟩ := bnd_out hs30
      refine CallK.introE rfl rfl (r_iwithin hr32) ?_
      clear hr32
      cbv;try simp only[ArKb3]
      cases r32
      ·simp only [cond_false] at hs30
       cbv;try simp only[ArKb3]
       obtain rfl:=SI hs30
       replace ho22 := congrArg some (es30 _ rfl)
       obtain rfl:=SI ho22
       simp only [Sum.elim_inr] at h
       obtain rfl:=SI h
       (try simp only [Z0]); exact LeV.to rfl (LeF.rfl' _)
      ·simp only [cond_true] at hs30
       cbv;try simp only[ArKb3]
       obtain ⟨r33, hr33, hs30⟩ := bnd_out hs30
       refine CallK.introE rfl rfl (r_ishort hr33) ?_
       clear hr33
       cbv;try simp only[ArKb3]
       cases r33
       ·simp only [cond_false] at hs30
        cbv;try simp only[ArKb3]
        obtain rfl:=SI hs30
        replace ho22 := congrArg some (es30 _ rfl)
        obtain rfl:=SI ho22
        simp only [Sum.elim_inr] at h
        obtain rfl:=SI h
        (try simp only [Z0]); exact LeV.to rfl (LeF.rfl' _)
       ·simp only [cond_true] at hs30
        cbv;try simp only[ArKb3]
        obtain rfl:=SI hs30
        refine ⟨_,bs30 _ rfl,?_⟩;first|rfl|(simp only[Z0];rfl)
     ·rename_i q34; simp only [q34, cond_false] at hs30 ⊢
      cbv;try simp only[ArKb3]
      obtain rfl:=SI hs30
      replace ho22 := congrArg some (es30 _ rfl)
      obtain rfl:=SI ho22
      refine ⟨_,rfl,?_⟩;first|rfl|(simp only[Z0];rfl)
    ·rintro a23 rfl
     clear ho22
     simp only [Sum.elim_inl] at h
     cbv;try simp only[ArKb3]
     obtain rfl:=SI h
     (try simp only [Z0]); exact LeV.to rfl (LeF.rfl' _)
theorem r_iHeadOf {a0 : List UInt8} {a1 : Int} {r : (List Int) × Int × Bool} (h : iHeadOf a0 a1 = some r) : Ret pg 145 true [.s a0, .i .i64 a1] [] (.tu [.sl .own 1 (rows intR r.1), .i .i64 r.2.1, .b r.2.2]) := by
  unfold iHeadOf at h
  refine retD 8 3 [] (.s .o (.s .o (.s .o (.s .o (.s .o (.s .o (.s .o (.k .o (.s .o (.s .o (.k .o .o))))))))))) Tryz.func145 rfl (by decide +kernel) (by decide +kernel) rfl ⟨⟨rfl, own_intS _⟩, trivial, trivial, trivial⟩ ?_
  cbv;try simp only[ArKb7]
  repeat((first|refine R6 ?_|refine A6 ?_);cbv;try simp only[ArKb7])
  obtain ⟨c44, h⟩ := ck_out h
  refine ⟨c44, ?_⟩
  repeat((first|refine R6 ?_|refine A6 ?_);cbv;try simp only[ArKb7])
  split
  ·rename_i q43; simp only [q43, cond_true] at h ⊢
   cbv;try simp only[ArKb7]
   repeat((first|refine R6 ?_|refine A6 ?_);cbv;try simp only[ArKb7])
   obtain rfl:=SI h
   first | exact LeV.to rfl (LeF.tu (LeFs.c (LeF.nr _ _ _) (LeFs.c (LeF.rfl' _) (LeFs.c (LeF.rfl' _) LeFs.n)))) | (simp only [rows_nil, bys_n]; exact LeV.to rfl (LeF.tu (LeFs.c (LeF.nr _ _ _) (LeFs.c (LeF.rfl' _) (LeFs.c (LeF.rfl' _) LeFs.n)))))
  ·rename_i q43; simp only [q43, cond_false] at h ⊢
   cbv;try simp only[ArKb7]
   repeat((first|refine R6 ?_|refine A6 ?_);cbv;try simp only[ArKb7])
   obtain ⟨y3, hy3, h⟩ := bnd_out h
   refine ⟨gt_in hy3, ?_⟩
   repeat((first|refine R6 ?_|refine A6 ?_);cbv;try simp only[ArKb7])
   refine ⟨_, gt_ab hy3, ?_⟩
   cbv;try simp only[ArKb7]
   repeat((first|refine R6 ?_|refine A6 ?_);cbv;try simp only[ArKb7])
   split
   ·rename_i q42; simp only [q42, cond_true] at h ⊢
    cbv;try simp only[ArKb7]
    repeat((first|refine R6 ?_|refine A6 ?_);cbv;try simp only[ArKb7])
    obtain rfl:=SI h
    first | exact LeV.to rfl (LeF.tu (LeFs.c (LeF.nr _ _ _) (LeFs.c (LeF.rfl' _) (LeFs.c (LeF.rfl' _) LeFs.n)))) | (simp only [rows_nil, bys_n]; exact LeV.to rfl (LeF.tu (LeFs.c (LeF.nr _ _ _) (LeFs.c (LeF.rfl' _) (LeFs.c (LeF.rfl' _) LeFs.n)))))
   ·rename_i q42; simp only [q42, cond_false] at h ⊢
    cbv;try simp only[ArKb7]
    repeat((first|refine R6 ?_|refine A6 ?_);cbv;try simp only[ArKb7])
    obtain ⟨r5, hr5, h⟩ := bnd_out h
    refine CallK.introE rfl rfl (r_iGetNum hr5) ?_
    obtain ⟨r5_0, r5_1, r5_2⟩ := r5
    try dsimp only at h
    clear hr5
    cbv;try simp only[ArKb7]
    repeat((first|refine R6 ?_|refine A6 ?_);cbv;try simp only[ArKb7])
    cases r5_2
    ·simp only [cond_false] at h
     cbv;try simp only[ArKb7]
     repeat((first|refine R6 ?_|refine A6 ?_);cbv;try simp only[ArKb7])
     obtain rfl:=SI h
     first | exact LeV.to rfl (LeF.tu (LeFs.c (LeF.nr _ _ _) (LeFs.c (LeF.rfl' _) (LeFs.c (LeF.rfl' _) LeFs.n)))) | (simp only [rows_nil, bys_n]; exact LeV.to rfl (LeF.tu (LeFs.c (LeF.nr _ _ _) (LeFs.c (LeF.rfl' _) (LeFs.c (LeF.rfl' _) LeFs.n)))))
    ·simp only [cond_true] at h
     cbv;try simp only[ArKb7]
     repeat((first|refine R6 ?_|refine A6 ?_);cbv;try simp only[ArKb7])
     split
     ·rename_i q41; simp only [q41, cond_true] at h ⊢
      cbv;try simp only[ArKb7]
      repeat((first|refine R6 ?_|refine A6 ?_);cbv;try simp only[ArKb7])
      obtain rfl:=SI h
      first | exact LeV.to rfl (LeF.tu (LeFs.c (LeF.nr _ _ _) (LeFs.c (LeF.rfl' _) (LeFs.c (LeF.rfl' _) LeFs.n)))) | (simp only [rows_nil, bys_n]; exact LeV.to rfl (LeF.tu (LeFs.c (LeF.nr _ _ _) (LeFs.c (LeF.rfl' _) (LeFs.c (LeF.rfl' _) LeFs.n)))))
     ·rename_i q41; simp only [q41, cond_false] at h ⊢
      cbv;try simp only[ArKb7]
      repeat((first|refine R6 ?_|refine A6 ?_);cbv;try simp only[ArKb7])
      obtain ⟨o12, ho12, h⟩ := bnd_out h
      refine CutK.intro (α := Int × (List PutD) × (List Int)) [1, 7, 9, 11, 12] [] (fun a => [(9, .i .i64 a.1), (11, .sl .own 2 (rows putR a.2.1)), (12, .sl .own 1 (rows intR a.2.2))]) (fun a => []) (fun a => (Sum.inl a : _ ⊕ _) = o12) ?_ ?_
      ·cbv;try simp only[ArKb7]
       repeat((first|refine R6 ?_|refine A6 ?_);cbv;try simp only[ArKb7])
       refine LoopR (σ := Int × (List PutD) × (List Int) × Int) ho12 [1, 7, 9, 11, 12, 44, 45] [] (fun a => [(9, .i .i64 a.1), (11, .sl .own 2 (rows putR a.2.1)), (12, .sl .own 1 (rows intR a.2.2.1)), (45, .i .i64 a.2.2.2)]) (fun a => []) (by first | rfl | (simp only [rows_nil, bys_n]; rfl)) fun _ s36 xs36 hs36 bs36 es36 => ?_
       obtain ⟨s36_0, s36_1, s36_2, s36_3⟩ := s36
       try dsimp only at hs36
       cbv;try simp only[ArKb7]
       repeat((first|refine R6 ?_|refine A6 ?_);cbv;try simp only[ArKb7])
       split
       ·rename_i q40; simp only [q40, cond_true] at hs36 ⊢
        cbv;try simp only[ArKb7]
        repeat((first|refine R6 ?_|refine A6 ?_);cbv;try simp only[ArKb7])
        obtain ⟨r37, hr37, hs36⟩ := bnd_out hs36
        refine CallK.introE rfl rfl (r_iGetNum hr37) ?_
        obtain ⟨r37_0, r37_1, r37_2⟩ := r37
        try dsimp only at hs36
        clear hr37
        cbv;try simp only[ArKb7]
        repeat((first|refine R6 ?_|refine A6 ?_);cbv;try simp only[ArKb7])
        cases r37_2
        ·simp only [cond_false] at hs36
         cbv;try simp only[ArKb7]
         repeat((first|refine R6 ?_|refine A6 ?_);cbv;try simp only[ArKb7])
         obtain rfl:=SI hs36
         replace ho12 := congrArg some (es36 _ rfl)
         obtain rfl:=SI ho12
         simp only [Sum.elim_inr] at h
         obtain rfl:=SI h
         first | exact LeV.to rfl (LeF.tu (LeFs.c (LeF.nr _ _ _) (LeFs.c (LeF.rfl' _) (LeFs.c (LeF.rfl' _) LeFs.n)))) | (simp only [rows_nil, bys_n]; exact LeV.to rfl (LeF.tu (LeFs.c (LeF.nr _ _ _) (LeFs.c (LeF.rfl' _) (LeFs.c (LeF.rfl' _) LeFs.n)))))
        ·simp only [cond_true] at hs36
         cbv;try simp only[ArKb7]
         repeat((first|refine R6 ?_|refine A6 ?_);cbv;try simp only[ArKb7])
         obtain ⟨c39, hs36⟩ := ck_out hs36
         refine ⟨c39, ?_⟩
         repeat((first|refine R6 ?_|refine A6 ?_);cbv;try simp only[ArKb7])
         obtain ⟨c38, hs36⟩ := ck_out hs36
         refine ⟨c38, ?_⟩
         repeat((first|refine R6 ?_|refine A6 ?_);cbv;try simp only[ArKb7])
         obtain rfl:=SI hs36
         refine ⟨_,bs36 _ rfl,?_⟩;first|rfl|(simp only[Z0];rfl)
       ·rename_i q40; simp only [q40, cond_false] at hs36 ⊢
        cbv;try simp only[ArKb7]
        repeat((first|refine R6 ?_|refine A6 ?_);cbv;try simp only[ArKb7])
        obtain rfl:=SI hs36
        replace ho12 := congrArg some (es36 _ rfl)
        obtain rfl:=SI ho12
        refine ⟨_,rfl,?_⟩;first|rfl|(simp only[Z0];rfl)
      ·rintro a13 rfl
       clear ho12
       simp only [Sum.elim_inl] at h
       obtain ⟨a13_0, a13_1, a13_2⟩ := a13
       try dsimp only at h
       cbv;try simp only[ArKb7]
       repeat((first|refine R6 ?_|refine A6 ?_);cbv;try simp only[ArKb7])
       split
       ·rename_i q33; simp only [q33, cond_true] at h ⊢
        cbv;try simp only[ArKb7]
        repeat((first|refine R6 ?_|refine A6 ?_);cbv;try simp only[ArKb7])
        obtain rfl:=SI h
        first | exact LeV.to rfl (LeF.tu (LeFs.c (LeF.nr _ _ _) (LeFs.c (LeF.rfl' _) (LeFs.c (LeF.rfl' _) LeFs.n)))) | (simp only [rows_nil, bys_n]; exact LeV.to rfl (LeF.tu (LeFs.c (LeF.nr _ _ _) (LeFs.c (LeF.rfl' _) (LeFs.c (LeF.rfl' _) LeFs.n)))))
       ·rename_i q33; simp only [q33, cond_false] at h ⊢
        cbv;try simp only[ArKb7]
        repeat((first|refine R6 ?_|refine A6 ?_);cbv;try simp only[ArKb7])
        obtain ⟨r16, hr16, h⟩ := bnd_out h
        refine CallK.introE rfl rfl (r_iTxOk hr16) ?_
        clear hr16
        cbv;try simp only[ArKb7]
        repeat((first|refine R6 ?_|refine A6 ?_);cbv;try simp only[ArKb7])
        cases r16
        ·simp only [cond_false] at h
         cbv;try simp only[ArKb7]
         repeat((first|refine R6 ?_|refine A6 ?_);cbv;try simp only[ArKb7])
         obtain rfl:=SI h
         first | exact LeV.to rfl (LeF.tu (LeFs.c (LeF.nr _ _ _) (LeFs.c (LeF.rfl' _) (LeFs.c (LeF.rfl' _) LeFs.n)))) | (simp only [rows_nil, bys_n]; exact LeV.to rfl (LeF.tu (LeFs.c (LeF.nr _ _ _) (LeFs.c (LeF.rfl' _) (LeFs.c (LeF.rfl' _) LeFs.n)))))
        ·simp only [cond_true] at h
         cbv;try simp only[ArKb7]
         repeat((first|refine R6 ?_|refine A6 ?_);cbv;try simp only[ArKb7])
         obtain ⟨o23, ho23, h⟩ := bnd_out h
         refine CutK.intro (α := Int) [12, 16] [] (fun a => [(16, .i .i64 a)]) (fun a => []) (fun a => a = o23) ?_ ?_
         ·cbv;try simp only[ArKb7]
          repeat((first|refine R6 ?_|refine A6 ?_);cbv;try simp only[ArKb7])
          obtain ⟨c32, ho23⟩ := ck_out ho23
          refine ⟨c32, ?_⟩
          repeat((first|refine R6 ?_|refine A6 ?_);cbv;try simp only[ArKb7])
          refine LoopR (σ := Int × Int) ho23 [7, 12, 16, 80, 81, 82] [] (fun a => [(16, .i .i64 a.1), (82, .i .i64 a.2)]) (fun a => []) (by first | rfl | (simp only [rows_nil, bys_n]; rfl)) fun _ s27 xs27 hs27 bs27 es27 => ?_
          obtain ⟨s27_0, s27_1⟩ := s27
          try dsimp only at hs27
          cbv;try simp only[ArKb7]
          repeat((first|refine R6 ?_|refine A6 ?_);cbv;try simp only[ArKb7])
          split
          ·rename_i q31; simp only [q31, cond_true] at hs27 ⊢
           cbv;try simp only[ArKb7]
           repeat((first|refine R6 ?_|refine A6 ?_);cbv;try simp only[ArKb7])
           obtain ⟨c30, hs27⟩ := ck_out hs27
           refine ⟨c30, ?_⟩
           repeat((first|refine R6 ?_|refine A6 ?_);cbv;try simp only[ArKb7])
           obtain ⟨c29, hs27⟩ := ck_out hs27
           refine ⟨c29, ?_⟩
           repeat((first|refine R6 ?_|refine A6 ?_);cbv;try simp only[ArKb7])
           obtain ⟨y28, hy28, hs27⟩ := bnd_out hs27
           refine ⟨_, gt_ab hy28, ?_⟩
           cbv;try simp only[ArKb7]
           repeat((first|refine R6 ?_|refine A6 ?_);cbv;try simp only[ArKb7])
           refine ⟨by rw [icmp_geq]; rfl, ?_⟩
           repeat((first|refine R6 ?_|refine A6 ?_);cbv;try simp only[ArKb7])
           obtain rfl:=SI hs27
           refine ⟨_,bs27 _ rfl,?_⟩;first|rfl|(simp only[Z0];rfl)
          ·rename_i q31; simp only [q31, cond_false] at hs27 ⊢
           cbv;try simp only[ArKb7]
           repeat((first|refine R6 ?_|refine A6 ?_);cbv;try simp only[ArKb7])
           obtain rfl:=SI hs27
           replace ho23 := congrArg some (es27 _ rfl)
           obtain rfl:=SI ho23
           refine ⟨_,rfl,?_⟩;first|rfl|(simp only[Z0];rfl)
         ·rintro a24 rfl
          clear ho23
          cbv;try simp only[ArKb7]
          repeat((first|refine R6 ?_|refine A6 ?_);cbv;try simp only[ArKb7])
          obtain rfl:=SI h
          (try simp only [Z0]); exact LeV.to rfl (LeF.rfl' _)
theorem r_iPutText {a0 : List UInt8} {r : (List UInt8)} (h : iPutText a0 = some r) : Ret pg 207 true [.s a0] [] (.sl .own 1 (bys r)) := by
  unfold iPutText at h
  refine retD 1000 1000 [] .o Tryz.func207 rfl (by decide +kernel) (by decide +kernel) rfl ⟨rfl, own_bysS _⟩ ?_
  cbv;try simp only[ArKb6]
  obtain ⟨r2, hr2, h⟩ := bnd_out h
  refine CallK.introE rfl rfl (r_iPutNum hr2) ?_
  clear hr2
  cbv;try simp only[ArKb6]
  obtain ⟨c3, h⟩ := ck_out h
  refine ⟨c3, ?_⟩
  obtain rfl:=SI h
  (try simp only [Z0]); exact LeV.to rfl (LeF.rfl' _)
theorem r_iCrc {a0 : List UInt8} {r : Int} (h : iCrc a0 = some r) : Ret pg 208 true [.sl .shr 1 (bys a0)] [] (.i .i64 r) := by
  unfold iCrc at h
  refine retD 1000 1000 [] (.s .o (.s .o (.k (.s .o (.s (.s (.s .o (.s .o (.k .o .o))) .o) .o)) .o))) Tryz.func208 rfl (by decide +kernel) (by decide +kernel) rfl trivial ?_
  cbv;try simp only[ArKb6]
  obtain ⟨o15, ho15, h⟩ := bnd_out h
  refine CutK.intro (α := Int) [3] [] (fun a => [(3, .i .i64 a)]) (fun a => []) (fun a => a = o15) ?_ ?_
  ·cbv;try simp only[ArKb6]
   refine LoopR (σ := Int × Int) ho15 [3, 7, 8, 9] [] (fun a => [(3, .i .i64 a.1), (9, .i .i64 a.2)]) (fun a => []) (by first | rfl | (simp only [rows_nil, bys_n]; rfl)) fun _ s25 xs25 hs25 bs25 es25 => ?_
   obtain ⟨s25_0, s25_1⟩ := s25
   try dsimp only at hs25
   cbv;try simp only[ArKb6]
   split
   ·rename_i q34; simp only [q34, cond_true] at hs25 ⊢
    cbv;try simp only[ArKb6]
    obtain ⟨o28, ho28, hs25⟩ := bnd_out hs25
    refine CutK.intro (α := Int) [3, 7, 8, 9] [] (fun a => [(3, .i .i64 a)]) (fun a => []) (fun a => a = o28) ?_ ?_
    ·cbv;try simp only[ArKb6]
     obtain ⟨y30, hy30, ho28⟩ := bnd_out ho28
     refine ⟨gt_in hy30, ?_⟩
     refine ⟨_, gt_ab hy30, ?_⟩
     cbv;try simp only[ArKb6]
     refine LoopR (σ := Int × Int) ho28 [3, 7, 8, 9, 17] [] (fun a => [(3, .i .i64 a.1), (17, .i .i64 a.2)]) (fun a => []) (by first | rfl | (simp only [rows_nil, bys_n]; rfl)) fun _ s31 xs31 hs31 bs31 es31 => ?_
     obtain ⟨s31_0, s31_1⟩ := s31
     try dsimp only at hs31
     cbv;try simp only[ArKb6]
     split
     ·rename_i q33; simp only [q33, cond_true] at hs31 ⊢
      cbv;try simp only[ArKb6]
      refine ⟨by rw [icmp_geq]; rfl, ?_⟩
      split
      ·rename_i q32; simp only [q32, cond_true] at hs31 ⊢
       cbv;try simp only[ArKb6]
       obtain rfl:=SI hs31
       refine ⟨_,bs31 _ rfl,?_⟩;first|rfl|(simp only[Z0];rfl)
      ·rename_i q32; simp only [q32, cond_false] at hs31 ⊢
       cbv;try simp only[ArKb6]
       obtain rfl:=SI hs31
       refine ⟨_,bs31 _ rfl,?_⟩;first|rfl|(simp only[Z0];rfl)
     ·rename_i q33; simp only [q33, cond_false] at hs31 ⊢
      cbv;try simp only[ArKb6]
      obtain rfl:=SI hs31
      replace ho28 := congrArg some (es31 _ rfl)
      obtain rfl:=SI ho28
      refine ⟨_,rfl,?_⟩;first|rfl|(simp only[Z0];rfl)
    ·rintro a29 rfl
     clear ho28
     cbv;try simp only[ArKb6]
     obtain rfl:=SI hs25
     refine ⟨_,bs25 _ rfl,?_⟩;first|rfl|(simp only[Z0];rfl)
   ·rename_i q34; simp only [q34, cond_false] at hs25 ⊢
    cbv;try simp only[ArKb6]
    obtain rfl:=SI hs25
    replace ho15 := congrArg some (es25 _ rfl)
    obtain rfl:=SI ho15
    refine ⟨_,rfl,?_⟩;first|rfl|(simp only[Z0];rfl)
  ·rintro a16 rfl
   clear ho15
   cbv;try simp only[ArKb6]
   obtain rfl:=SI h
   (try simp only [Z0]); exact LeV.to rfl (LeF.rfl' _)
theorem r_idataSum {a0 : List (List UInt8)} {r : Int} (h : idataSum a0 = some r) : Ret pg 146 true [.sl .shr 1 (rows strR a0)] [] (.i .i64 r) := by
  unfold idataSum at h
  refine retD 1000 1000 [] (.s .o (.s .o (.k .o .o))) Tryz.func146 rfl (by decide +kernel) (by decide +kernel) rfl trivial ?_
  cbv;try simp only[ArKb8]
  obtain ⟨o11, ho11, h⟩ := bnd_out h
  refine CutK.intro (α := (List UInt8)) [3] [] (fun a => [(3, .sl .own 1 (bys a))]) (fun a => []) (fun a => a = o11) ?_ ?_
  ·cbv;try simp only[ArKb8]
   refine LoopR (σ := (List UInt8) × Int) ho11 [3, 7, 8, 9] [] (fun a => [(3, .sl .own 1 (bys a.1)), (9, .i .i64 a.2)]) (fun a => []) (by first | rfl | (simp only [rows_nil, bys_n]; rfl)) fun _ s19 xs19 hs19 bs19 es19 => ?_
   obtain ⟨s19_0, s19_1⟩ := s19
   try dsimp only at hs19
   cbv;try simp only[ArKb8]
   split
   ·rename_i q23; simp only [q23, cond_true] at hs19 ⊢
    cbv;try simp only[ArKb8]
    obtain ⟨y20, hy20, hs19⟩ := bnd_out hs19
    refine ⟨gt_in hy20, ?_⟩
    refine ⟨_, gt_at _ hy20, ?_⟩
    cbv;try simp only[ArKb8]
    obtain ⟨r21, hr21, hs19⟩ := bnd_out hs19
    refine CallK.introE rfl rfl (r_iPutText hr21) ?_
    clear hr21
    cbv;try simp only[ArKb8]
    obtain ⟨c22, hs19⟩ := ck_out hs19
    refine ⟨c22, ?_⟩
    obtain rfl:=SI hs19
    refine ⟨_,bs19 _ rfl,?_⟩;first|rfl|(simp only[Z0];rfl)
   ·rename_i q23; simp only [q23, cond_false] at hs19 ⊢
    cbv;try simp only[ArKb8]
    obtain rfl:=SI hs19
    replace ho11 := congrArg some (es19 _ rfl)
    obtain rfl:=SI ho11
    refine ⟨_,rfl,?_⟩;first|rfl|(simp only[Z0];rfl)
  ·rintro a12 rfl
   clear ho11
   cbv;try simp only[ArKb8]
   obtain ⟨r14, hr14, h⟩ := bnd_out h
   refine CallK.introE rfl rfl (r_iCrc hr14) ?_
   clear hr14
   cbv;try simp only[ArKb8]
   obtain rfl:=SI h
   (try simp only [Z0]); exact LeV.to rfl (LeF.rfl' _)
theorem r_iRecover {a0 : DiskD} {a1 : Int} {r : DiskD} (h : iRecover a0 a1 = some r) : Ret pg 65 true [.ag (diskC a0), .i .i64 a1] [] (.ag (diskR r)) := by
  unfold iRecover at h
  refine retD 8 3 [(9, [⟨true, [], [48]⟩, ⟨false, [50, 51, 52, 53, 54, 55, 56, 57, 58, 59], [49]⟩, ⟨false, [49], [50]⟩, ⟨false, [49], [51]⟩, ⟨false, [49], [52]⟩, ⟨false, [49], [53]⟩, ⟨false, [49], [54]⟩, ⟨false, [49, 56, 57], [55]⟩, ⟨false, [49, 55], [56]⟩, ⟨false, [49, 55], [57]⟩, ⟨false, [49], [58]⟩, ⟨false, [49], [59]⟩, ⟨true, [], [60]⟩, ⟨true, [], []⟩])] (.s .o (.s .o (.s .o (.s .o (.k (.k .o .o) .o))))) Tryz.func65 rfl (by decide +kernel) (by decide +kernel) rfl (own_diskR _) ?_
  cbv;try simp only[ArKb9]
  repeat((first|refine R6 ?_|refine A6 ?_);cbv;try simp only[ArKb9])
  obtain ⟨r5, hr5, h⟩ := bnd_out h
  refine CallK.introE rfl rfl (r_ihomed hr5) ?_
  clear hr5
  cbv;try simp only[ArKb9]
  repeat((first|refine R6 ?_|refine A6 ?_);cbv;try simp only[ArKb9])
  cases r5
  ·simp only [cond_false] at h
   cbv;try simp only[ArKb9]
   repeat((first|refine R6 ?_|refine A6 ?_);cbv;try simp only[ArKb9])
   obtain ⟨r50, hr50, h⟩ := bnd_out h
   refine CallK.introE rfl rfl (r_icloneDisk hr50) ?_
   clear hr50
   cbv;try simp only[ArKb9]
   repeat((first|refine R6 ?_|refine A6 ?_);cbv;try simp only[ArKb9])
   obtain rfl:=SI h
   (try simp only [Z0]); exact LeV.to rfl (LeF.rfl' _)
  ·simp only [cond_true] at h
   cbv;try simp only[ArKb9]
   repeat((first|refine R6 ?_|refine A6 ?_);cbv;try simp only[ArKb9])
   obtain ⟨r7, hr7, h⟩ := bnd_out h
   refine CallK.introL (LeFs.c (LeF.rfl' _) (LeFs.c (LeF.nr _ _ _) LeFs.n)) rfl (r_iFall hr7) ?_
   clear hr7
   cbv;try simp only[ArKb9]
   repeat((first|refine R6 ?_|refine A6 ?_);cbv;try simp only[ArKb9])
   obtain ⟨y10, hy10, h⟩ := bnd_out h
   refine ⟨gt_in hy10, ?_⟩
   repeat((first|refine R6 ?_|refine A6 ?_);cbv;try simp only[ArKb9])
   refine ⟨_, gt_at _ hy10, ?_⟩
   cbv;try simp only[ArKb9]
   repeat((first|refine R6 ?_|refine A6 ?_);cbv;try simp only[ArKb9])
   obtain ⟨r11, hr11, h⟩ := bnd_out h
   refine CallK.introE rfl rfl (r_iHeadOf hr11) ?_
   obtain ⟨r11_0, r11_1, r11_2⟩ := r11
   try dsimp only at h
   clear hr11
   cbv;try simp only[ArKb9]
   repeat((first|refine R6 ?_|refine A6 ?_);cbv;try simp only[ArKb9])
   obtain ⟨o30, ho30, h⟩ := bnd_out h
   refine CutK.intro (α := (List (List UInt8))) [4, 5] [4, 5] (fun a => []) (fun a => [(5, [.sl .own 1 (rows strR a), .sl .own 2 (rows putR r7.pend)])]) (fun a => a = o30) ?_ ?_
   ·cbv;try simp only[ArKb9]
    repeat((first|refine R6 ?_|refine A6 ?_);cbv;try simp only[ArKb9])
    obtain ⟨o35, ho35, ho30⟩ := bnd_out ho30
    refine CutK.intro (α := Bool) [1, 4, 5, 6, 40] [4, 5] (fun a => [(40, .b a)]) (fun a => []) (fun a => a = o35) ?_ ?_
    ·cbv;try simp only[ArKb9]
     repeat((first|refine R6 ?_|refine A6 ?_);cbv;try simp only[ArKb9])
     cases r11_2
     ·simp only [cond_false] at ho35
      cbv;try simp only[ArKb9]
      repeat((first|refine R6 ?_|refine A6 ?_);cbv;try simp only[ArKb9])
      obtain rfl:=SI ho35
      refine ⟨_,rfl,?_⟩;first|rfl|(simp only[Z0];rfl)
     ·simp only [cond_true] at ho35
      cbv;try simp only[ArKb9]
      repeat((first|refine R6 ?_|refine A6 ?_);cbv;try simp only[ArKb9])
      obtain ⟨c49, ho35⟩ := ck_out ho35
      refine ⟨c49, ?_⟩
      repeat((first|refine R6 ?_|refine A6 ?_);cbv;try simp only[ArKb9])
      obtain ⟨r48, hr48, ho35⟩ := bnd_out ho35
      refine CallK.introE rfl rfl (r_idataSum hr48) ?_
      clear hr48
      cbv;try simp only[ArKb9]
      repeat((first|refine R6 ?_|refine A6 ?_);cbv;try simp only[ArKb9])
      obtain rfl:=SI ho35
      refine ⟨_,rfl,?_⟩;first|rfl|(simp only[Z0];rfl)
    ·rintro a36 rfl
     clear ho35
     cbv;try simp only[ArKb9]
     repeat((first|refine R6 ?_|refine A6 ?_);cbv;try simp only[ArKb9])
     cases a36
     ·simp only [cond_false] at ho30
      cbv;try simp only[ArKb9]
      repeat((first|refine R6 ?_|refine A6 ?_);cbv;try simp only[ArKb9])
      obtain rfl:=SI ho30
      refine ⟨_,rfl,?_⟩;first|rfl|(simp only[Z0];rfl)
     ·simp only [cond_true] at ho30
      cbv;try simp only[ArKb9]
      repeat((first|refine R6 ?_|refine A6 ?_);cbv;try simp only[ArKb9])
      refine LoopR (σ := Int × (List (List UInt8))) ho30 [1, 4, 5, 6, 41, 42, 43] [4, 5] (fun a => [(43, .i .i64 a.1)]) (fun a => [(5, [.sl .own 1 (rows strR a.2), .sl .own 2 (rows putR r7.pend)])]) (by first | rfl | (simp only [rows_nil, bys_n]; rfl)) fun _ s43 xs43 hs43 bs43 es43 => ?_
      obtain ⟨s43_0, s43_1⟩ := s43
      try dsimp only at hs43
      cbv;try simp only[ArKb9]
      repeat((first|refine R6 ?_|refine A6 ?_);cbv;try simp only[ArKb9])
      split
      ·rename_i q47; simp only [q47, cond_true] at hs43 ⊢
       cbv;try simp only[ArKb9]
       repeat((first|refine R6 ?_|refine A6 ?_);cbv;try simp only[ArKb9])
       obtain ⟨y44, hy44, hs43⟩ := bnd_out hs43
       refine ⟨gt_in hy44, ?_⟩
       repeat((first|refine R6 ?_|refine A6 ?_);cbv;try simp only[ArKb9])
       refine ⟨_, gt_at _ hy44, ?_⟩
       cbv;try simp only[ArKb9]
       repeat((first|refine R6 ?_|refine A6 ?_);cbv;try simp only[ArKb9])
       obtain ⟨y45, hy45, hs43⟩ := bnd_out hs43
       refine ⟨gt_in hy45, ?_⟩
       repeat((first|refine R6 ?_|refine A6 ?_);cbv;try simp only[ArKb9])
       refine ⟨_, gt_at _ hy45, ?_⟩
       cbv;try simp only[ArKb9]
       repeat((first|refine R6 ?_|refine A6 ?_);cbv;try simp only[ArKb9])
       obtain ⟨y46, hy46, hs43⟩ := bnd_out hs43
       refine ⟨gt_in hy46, ?_⟩
       repeat((first|refine R6 ?_|refine A6 ?_);cbv;try simp only[ArKb9])
       refine ⟨_, gt_at _ hy46, ?_⟩
       cbv;try simp only[ArKb9]
       repeat((first|refine R6 ?_|refine A6 ?_);cbv;try simp only[ArKb9])
       obtain rfl:=SI hs43
       refine ⟨_,bs43 _ rfl,?_⟩;first|rfl|(simp only[Z0];rfl)
      ·rename_i q47; simp only [q47, cond_false] at hs43 ⊢
       cbv;try simp only[ArKb9]
       repeat((first|refine R6 ?_|refine A6 ?_);cbv;try simp only[ArKb9])
       obtain rfl:=SI hs43
       replace ho30 := congrArg some (es43 _ rfl)
       obtain rfl:=SI ho30
       refine ⟨_,rfl,?_⟩;first|rfl|(simp only[Z0];rfl)
   ·rintro a31 rfl
    clear ho30
    cbv;try simp only[ArKb9]
    repeat((first|refine R6 ?_|refine A6 ?_);cbv;try simp only[ArKb9])
    obtain ⟨y33, hy33, h⟩ := bnd_out h
    refine ⟨gt_in hy33, ?_⟩
    repeat((first|refine R6 ?_|refine A6 ?_);cbv;try simp only[ArKb9])
    refine ⟨_, gt_at _ hy33, ?_⟩
    cbv;try simp only[ArKb9]
    repeat((first|refine R6 ?_|refine A6 ?_);cbv;try simp only[ArKb9])
    obtain rfl:=SI h
    (try simp only [Z0]); exact LeV.to rfl (LeF.rfl' _)
theorem r_sl3PutsOk {a0 : List PutD} {a1 : Int} {r : Bool} (h : sl3PutsOk a0 a1 = some r) : Ret pg 181 true [.sl .shr 2 (rows putR a0), .i .i64 a1] [] (.b r) := by
  unfold sl3PutsOk at h
  refine retD 1000 1000 [] (.s .o (.k .o .o)) Tryz.func181 rfl (by decide +kernel) (by decide +kernel) rfl trivial ?_
  cbv;try simp only[ArKb3]
  obtain ⟨o12, ho12, h⟩ := bnd_out h
  refine CutK.intro (α := Unit) [] [] (fun a => []) (fun a => []) (fun a => (Sum.inl a : _ ⊕ _) = o12) ?_ ?_
  ·cbv;try simp only[ArKb3]
   refine LoopR (σ := Int) ho12 [0, 1, 5] [] (fun a => [(5, .i .i64 a)]) (fun a => []) (by first | rfl | (simp only [rows_nil, bys_n]; rfl)) fun _ s18 xs18 hs18 bs18 es18 => ?_
   cbv;try simp only[ArKb3]
   split
   ·rename_i q22; simp only [q22, cond_true] at hs18 ⊢
    cbv;try simp only[ArKb3]
    obtain ⟨y19, hy19, hs18⟩ := bnd_out hs18
    refine ⟨gt_in hy19, ?_⟩
    refine ⟨_, gt_at _ hy19, ?_⟩
    cbv;try simp only[ArKb3]
    obtain ⟨r20, hr20, hs18⟩ := bnd_out hs18
    refine CallK.introE rfl rfl (r_sl1In hr20) ?_
    clear hr20
    cbv;try simp only[ArKb3]
    cases r20
    ·simp only [cond_false] at hs18
     cbv;try simp only[ArKb3]
     obtain rfl:=SI hs18
     replace ho12 := congrArg some (es18 _ rfl)
     obtain rfl:=SI ho12
     simp only [Sum.elim_inr] at h
     obtain rfl:=SI h
     (try simp only [Z0]); exact LeV.to rfl (LeF.rfl' _)
    ·simp only [cond_true] at hs18
     cbv;try simp only[ArKb3]
     refine ⟨gt_in hy19, ?_⟩
     refine ⟨_, gt_at _ hy19, ?_⟩
     cbv;try simp only[ArKb3]
     split
     ·rename_i q21; simp only [q21, cond_true] at hs18 ⊢
      cbv;try simp only[ArKb3]
      obtain rfl:=SI hs18
      replace ho12 := congrArg some (es18 _ rfl)
      obtain rfl:=SI ho12
      simp only [Sum.elim_inr] at h
      obtain rfl:=SI h
      (try simp only [Z0]); exact LeV.to rfl (LeF.rfl' _)
     ·rename_i q21; simp only [q21, cond_false] at hs18 ⊢
      cbv;try simp only[ArKb3]
      obtain rfl:=SI hs18
      refine ⟨_,bs18 _ rfl,?_⟩;first|rfl|(simp only[Z0];rfl)
   ·rename_i q22; simp only [q22, cond_false] at hs18 ⊢
    cbv;try simp only[ArKb3]
    obtain rfl:=SI hs18
    replace ho12 := congrArg some (es18 _ rfl)
    obtain rfl:=SI ho12
    refine ⟨_,rfl,?_⟩;first|rfl|(simp only[Z0];rfl)
  ·rintro a13 rfl
   clear ho12
   simp only [Sum.elim_inl] at h
   cbv;try simp only[ArKb3]
   obtain rfl:=SI h
   (try simp only [Z0]); exact LeV.to rfl (LeF.rfl' _)
theorem r_sDiskOk {a0 : DiskD} {r : Bool} (h : sDiskOk a0 = some r) : Ret pg 122 true [.ag (diskC a0)] [] (.b r) := by
  unfold sDiskOk at h
  refine retD 1000 1000 [] (.s .o (.s .o (.k .o .o))) Tryz.func122 rfl (by decide +kernel) (by decide +kernel) rfl trivial ?_
  cbv;try simp only[ArKb4]
  split
  ·rename_i q18; simp only [q18, cond_true] at h ⊢
   cbv;try simp only[ArKb4]
   obtain rfl:=SI h
   (try simp only [Z0]); exact LeV.to rfl (LeF.rfl' _)
  ·rename_i q18; simp only [q18, cond_false] at h ⊢
   cbv;try simp only[ArKb4]
   split
   ·rename_i q17; simp only [q17, cond_true] at h ⊢
    cbv;try simp only[ArKb4]
    obtain rfl:=SI h
    (try simp only [Z0]); exact LeV.to rfl (LeF.rfl' _)
   ·rename_i q17; simp only [q17, cond_false] at h ⊢
    cbv;try simp only[ArKb4]
    obtain ⟨o7, ho7, h⟩ := bnd_out h
    refine CutK.intro (α := Unit) [1] [1] (fun a => []) (fun a => []) (fun a => (Sum.inl a : _ ⊕ _) = o7) ?_ ?_
    ·cbv;try simp only[ArKb4]
     refine LoopR (σ := Int) ho7 [1, 3] [1] (fun a => [(3, .i .i64 a)]) (fun a => []) (by first | rfl | (simp only [rows_nil, bys_n]; rfl)) fun _ s13 xs13 hs13 bs13 es13 => ?_
     cbv;try simp only[ArKb4]
     split
     ·rename_i q16; simp only [q16, cond_true] at hs13 ⊢
      cbv;try simp only[ArKb4]
      obtain ⟨y14, hy14, hs13⟩ := bnd_out hs13
      refine ⟨gt_in hy14, ?_⟩
      refine ⟨_, gt_at _ hy14, ?_⟩
      cbv;try simp only[ArKb4]
      split
      ·rename_i q15; simp only [q15, cond_true] at hs13 ⊢
       cbv;try simp only[ArKb4]
       obtain rfl:=SI hs13
       replace ho7 := congrArg some (es13 _ rfl)
       obtain rfl:=SI ho7
       simp only [Sum.elim_inr] at h
       obtain rfl:=SI h
       (try simp only [Z0]); exact LeV.to rfl (LeF.rfl' _)
      ·rename_i q15; simp only [q15, cond_false] at hs13 ⊢
       cbv;try simp only[ArKb4]
       obtain rfl:=SI hs13
       refine ⟨_,bs13 _ rfl,?_⟩;first|rfl|(simp only[Z0];rfl)
     ·rename_i q16; simp only [q16, cond_false] at hs13 ⊢
      cbv;try simp only[ArKb4]
      obtain rfl:=SI hs13
      replace ho7 := congrArg some (es13 _ rfl)
      obtain rfl:=SI ho7
      refine ⟨_,rfl,?_⟩;first|rfl|(simp only[Z0];rfl)
    ·rintro a8 rfl
     clear ho7
     simp only [Sum.elim_inl] at h
     cbv;try simp only[ArKb4]
     obtain ⟨r10, hr10, h⟩ := bnd_out h
     refine CallK.introE rfl rfl (r_sl3PutsOk hr10) ?_
     clear hr10
     cbv;try simp only[ArKb4]
     obtain rfl:=SI h
     (try simp only [Z0]); exact LeV.to rfl (LeF.rfl' _)
theorem r_sl4Ok {a0 : DiskD} {a1 : Int} {r : Bool} (h : sl4Ok a0 a1 = some r) : Ret pg 55 true [.ag (diskC a0), .i .i64 a1] [] (.b r) := by
  unfold sl4Ok at h
  refine retD 1000 1000 [] .o Tryz.func55 rfl (by decide +kernel) (by decide +kernel) rfl trivial ?_
  cbv;try simp only[ArKb4]
  obtain ⟨r3, hr3, h⟩ := bnd_out h
  refine CallK.introE rfl rfl (r_sDiskOk hr3) ?_
  clear hr3
  cbv;try simp only[ArKb4]
  cases r3
  ·simp only [cond_false] at h
   cbv;try simp only[ArKb4]
   obtain rfl:=SI h
   (try simp only [Z0]); exact LeV.to rfl (LeF.rfl' _)
  ·simp only [cond_true] at h
   cbv;try simp only[ArKb4]
   obtain ⟨r4, hr4, h⟩ := bnd_out h
   refine CallK.introE rfl rfl (r_sl1In hr4) ?_
   clear hr4
   cbv;try simp only[ArKb4]
   cases r4
   ·simp only [cond_false] at h
    cbv;try simp only[ArKb4]
    obtain rfl:=SI h
    (try simp only [Z0]); exact LeV.to rfl (LeF.rfl' _)
   ·simp only [cond_true] at h
    cbv;try simp only[ArKb4]
    obtain rfl:=SI h
    (try simp only [Z0]); exact LeV.to rfl (LeF.rfl' _)
theorem r_sl1Copy {a0 : List (List UInt8)} {r : (List (List UInt8))} (h : sl1Copy a0 = some r) : Ret pg 123 true [.sl .shr 1 (rows strR a0)] [] (.sl .own 1 (rows strR r)) := by
  unfold sl1Copy at h
  refine retD 1000 1000 [] .o Tryz.func123 rfl (by decide +kernel) (by decide +kernel) rfl ⟨rfl, own_stringS _⟩ ?_
  cbv;try simp only[ArKb2]
  obtain ⟨c1, h⟩ := ck_out h
  refine ⟨c1, ?_⟩
  obtain rfl:=SI h
  (try simp only [Z0]); exact LeV.to rfl (LeF.rfl' _)
theorem r_sl3Copy {a0 : DiskD} {r : DiskD} (h : sl3Copy a0 = some r) : Ret pg 128 true [.ag (diskC a0)] [] (.ag (diskR r)) := by
  unfold sl3Copy at h
  refine retD 8 3 [(1, [⟨true, [], [3]⟩, ⟨false, [6, 7, 8], [4]⟩, ⟨false, [6, 7, 8], [5]⟩, ⟨false, [4, 5, 7, 8], [6]⟩, ⟨false, [4, 5, 6], [7]⟩, ⟨false, [4, 5, 6], [8]⟩, ⟨true, [], [9]⟩, ⟨true, [], [5, 9, 10]⟩, ⟨true, [], [2]⟩])] .o Tryz.func128 rfl (by decide +kernel) (by decide +kernel) rfl (own_diskR _) ?_
  cbv;try simp only[ArKb4]
  repeat((first|refine R6 ?_|refine A6 ?_);cbv;try simp only[ArKb4])
  obtain ⟨r2, hr2, h⟩ := bnd_out h
  refine CallK.introE rfl rfl (r_sl1Copy hr2) ?_
  clear hr2
  cbv;try simp only[ArKb4]
  repeat((first|refine R6 ?_|refine A6 ?_);cbv;try simp only[ArKb4])
  obtain ⟨c3, h⟩ := ck_out h
  refine ⟨c3, ?_⟩
  repeat((first|refine R6 ?_|refine A6 ?_);cbv;try simp only[ArKb4])
  obtain rfl:=SI h
  (try simp only [Z0]); exact LeV.to rfl (LeF.rfl' _)
theorem r_sFall {a0 : DiskD} {a1 : List Bool} {r : DiskD} (h : sFall a0 a1 = some r) : Ret pg 129 true [.ag (diskC a0), .sl .shr 1 (rows booR a1)] [] (.ag (diskR r)) := by
  unfold sFall at h
  refine retD 8 3 [(8, [⟨true, [], [30]⟩, ⟨false, [32, 33, 34, 35, 36, 37, 38, 39, 40, 41, 42, 43], [31]⟩, ⟨false, [31], [32]⟩, ⟨false, [31, 34, 38, 39, 40, 41, 42, 43], [33]⟩, ⟨false, [31, 33], [34]⟩, ⟨false, [31, 38, 39, 40, 41, 42, 43], [35]⟩, ⟨false, [31, 38, 39, 40, 41, 42, 43], [36]⟩, ⟨false, [31, 38, 39, 40, 41, 42, 43], [37]⟩, ⟨false, [31, 33, 35, 36, 37], [38]⟩, ⟨false, [31, 33, 35, 36, 37, 40], [39]⟩, ⟨false, [31, 33, 35, 36, 37, 39], [40]⟩, ⟨false, [31, 33, 35, 36, 37], [41]⟩, ⟨false, [31, 33, 35, 36, 37], [42]⟩, ⟨false, [31, 33, 35, 36, 37], [43]⟩, ⟨true, [], [44]⟩, ⟨true, [], []⟩])] (.s .o (.s .o (.s .o (.k .o .o)))) Tryz.func129 rfl (by decide +kernel) (by decide +kernel) rfl (own_diskR _) ?_
  cbv;try simp only[ArKb5]
  repeat((first|refine R6 ?_|refine A6 ?_);cbv;try simp only[ArKb5])
  obtain ⟨r2, hr2, h⟩ := bnd_out h
  refine CallK.introE rfl rfl (r_sl3Copy hr2) ?_
  clear hr2
  cbv;try simp only[ArKb5]
  repeat((first|refine R6 ?_|refine A6 ?_);cbv;try simp only[ArKb5])
  obtain ⟨r5, hr5, h⟩ := bnd_out h
  refine CallK.introE rfl rfl (r_sDiskOk hr5) ?_
  clear hr5
  cbv;try simp only[ArKb5]
  repeat((first|refine R6 ?_|refine A6 ?_);cbv;try simp only[ArKb5])
  cases r5
  ·simp only [cond_false] at h
   cbv;try simp only[ArKb5]
   repeat((first|refine R6 ?_|refine A6 ?_);cbv;try simp only[ArKb5])
   obtain rfl:=SI h
   (try simp only [Z0]); exact LeV.to rfl (LeF.rfl' _)
  ·simp only [cond_true] at h
   cbv;try simp only[ArKb5]
   repeat((first|refine R6 ?_|refine A6 ?_);cbv;try simp only[ArKb5])
   obtain ⟨o20, ho20, h⟩ := bnd_out h
   refine CutK.intro (α := (List (List UInt8))) [4, 5] [4, 5] (fun a => []) (fun a => [(5, [.sl .own 1 (rows strR a), .sl .own 2 (rows putR r2.pend)])]) (fun a => a = o20) ?_ ?_
   ·cbv;try simp only[ArKb5]
    repeat((first|refine R6 ?_|refine A6 ?_);cbv;try simp only[ArKb5])
    refine LoopR (σ := Int × (List (List UInt8))) ho20 [1, 2, 4, 5, 6] [2, 4, 5] (fun a => [(6, .i .i64 a.1)]) (fun a => [(5, [.sl .own 1 (rows strR a.2), .sl .own 2 (rows putR r2.pend)])]) (by first | rfl | (simp only [rows_nil, bys_n]; rfl)) fun _ s28 xs28 hs28 bs28 es28 => ?_
    obtain ⟨s28_0, s28_1⟩ := s28
    try dsimp only at hs28
    cbv;try simp only[ArKb5]
    repeat((first|refine R6 ?_|refine A6 ?_);cbv;try simp only[ArKb5])
    split
    ·rename_i q33; simp only [q33, cond_true] at hs28 ⊢
     cbv;try simp only[ArKb5]
     repeat((first|refine R6 ?_|refine A6 ?_);cbv;try simp only[ArKb5])
     split
     ·rename_i q32; simp only [q32, cond_true] at hs28 ⊢
      cbv;try simp only[ArKb5]
      repeat((first|refine R6 ?_|refine A6 ?_);cbv;try simp only[ArKb5])
      obtain ⟨y29, hy29, hs28⟩ := bnd_out hs28
      refine ⟨gt_in hy29, ?_⟩
      repeat((first|refine R6 ?_|refine A6 ?_);cbv;try simp only[ArKb5])
      refine ⟨_, gt_at _ hy29, ?_⟩
      cbv;try simp only[ArKb5]
      repeat((first|refine R6 ?_|refine A6 ?_);cbv;try simp only[ArKb5])
      cases y29
      ·simp only [cond_false] at hs28
       cbv;try simp only[ArKb5]
       repeat((first|refine R6 ?_|refine A6 ?_);cbv;try simp only[ArKb5])
       obtain rfl:=SI hs28
       refine ⟨_,bs28 _ rfl,?_⟩;first|rfl|(simp only[Z0];rfl)
      ·simp only [cond_true] at hs28
       cbv;try simp only[ArKb5]
       repeat((first|refine R6 ?_|refine A6 ?_);cbv;try simp only[ArKb5])
       obtain ⟨y30, hy30, hs28⟩ := bnd_out hs28
       refine ⟨gt_in hy30, ?_⟩
       repeat((first|refine R6 ?_|refine A6 ?_);cbv;try simp only[ArKb5])
       refine ⟨_, gt_at _ hy30, ?_⟩
       cbv;try simp only[ArKb5]
       repeat((first|refine R6 ?_|refine A6 ?_);cbv;try simp only[ArKb5])
       refine ⟨gt_in hy30, ?_⟩
       repeat((first|refine R6 ?_|refine A6 ?_);cbv;try simp only[ArKb5])
       refine ⟨_, gt_at _ hy30, ?_⟩
       cbv;try simp only[ArKb5]
       repeat((first|refine R6 ?_|refine A6 ?_);cbv;try simp only[ArKb5])
       obtain ⟨y31, hy31, hs28⟩ := bnd_out hs28
       refine ⟨gt_in hy31, ?_⟩
       repeat((first|refine R6 ?_|refine A6 ?_);cbv;try simp only[ArKb5])
       refine ⟨_, gt_at _ hy31, ?_⟩
       cbv;try simp only[ArKb5]
       repeat((first|refine R6 ?_|refine A6 ?_);cbv;try simp only[ArKb5])
       obtain rfl:=SI hs28
       refine ⟨_,bs28 _ rfl,?_⟩;first|rfl|(simp only[Z0];rfl)
     ·rename_i q32; simp only [q32, cond_false] at hs28 ⊢
      cbv;try simp only[ArKb5]
      repeat((first|refine R6 ?_|refine A6 ?_);cbv;try simp only[ArKb5])
      obtain rfl:=SI hs28
      replace ho20 := congrArg some (es28 _ rfl)
      obtain rfl:=SI ho20
      refine ⟨_,rfl,?_⟩;first|rfl|(simp only[Z0];rfl)
    ·rename_i q33; simp only [q33, cond_false] at hs28 ⊢
     cbv;try simp only[ArKb5]
     repeat((first|refine R6 ?_|refine A6 ?_);cbv;try simp only[ArKb5])
     obtain rfl:=SI hs28
     replace ho20 := congrArg some (es28 _ rfl)
     obtain rfl:=SI ho20
     refine ⟨_,rfl,?_⟩;first|rfl|(simp only[Z0];rfl)
   ·rintro a21 rfl
    clear ho20
    cbv;try simp only[ArKb5]
    repeat((first|refine R6 ?_|refine A6 ?_);cbv;try simp only[ArKb5])
    obtain rfl:=SI h
    (try simp only [Z0]); exact LeV.to rfl (LeF.rfl' _)
theorem r_sGetNum {a0 : List UInt8} {a1 : Int} {r : Int × Int × Bool} (h : sGetNum a0 a1 = some r) : Ret pg 182 true [.sl .shr 1 (bys a0), .i .i64 a1] [] (.tu [.i .i64 r.1, .i .i64 r.2.1, .b r.2.2]) := by
  unfold sGetNum at h
  refine retD 1000 1000 [] (.s .o (.s .o (.k (.s .o (.s (.s (.s .o (.s (.s (.s .o (.s .o (.s .o (.s .o (.s (.k .o .o) .o))))) .o) .o)) .o) .o)) .o))) Tryz.func182 rfl (by decide +kernel) (by decide +kernel) rfl ⟨trivial, trivial, trivial, trivial⟩ ?_
  cbv;try simp only[ArKb6]
  obtain ⟨o15, ho15, h⟩ := bnd_out h
  refine CutK.intro (α := Unit) [] [] (fun a => []) (fun a => []) (fun a => (Sum.inl a : _ ⊕ _) = o15) ?_ ?_
  ·cbv;try simp only[ArKb6]
   refine LoopR (σ := Int × Int) ho15 [0, 1, 7, 8] [] (fun a => [(7, .i .i64 a.1), (8, .i .i64 a.2)]) (fun a => []) (by first | rfl | (simp only [rows_nil, bys_n]; rfl)) fun _ s23 xs23 hs23 bs23 es23 => ?_
   obtain ⟨s23_0, s23_1⟩ := s23
   try dsimp only at hs23
   cbv;try simp only[ArKb6]
   split
   ·rename_i q35; simp only [q35, cond_true] at hs23 ⊢
    cbv;try simp only[ArKb6]
    split
    ·rename_i q34; simp only [q34, cond_true] at hs23 ⊢
     cbv;try simp only[ArKb6]
     obtain rfl:=SI hs23
     replace ho15 := congrArg some (es23 _ rfl)
     obtain rfl:=SI ho15
     simp only [Sum.elim_inr] at h
     obtain rfl:=SI h
     (try simp only [Z0]); exact LeV.to rfl (LeF.rfl' _)
    ·rename_i q34; simp only [q34, cond_false] at hs23 ⊢
     cbv;try simp only[ArKb6]
     split
     ·rename_i q33; simp only [q33, cond_true] at hs23 ⊢
      cbv;try simp only[ArKb6]
      obtain rfl:=SI hs23
      replace ho15 := congrArg some (es23 _ rfl)
      obtain rfl:=SI ho15
      simp only [Sum.elim_inr] at h
      obtain rfl:=SI h
      (try simp only [Z0]); exact LeV.to rfl (LeF.rfl' _)
     ·rename_i q33; simp only [q33, cond_false] at hs23 ⊢
      cbv;try simp only[ArKb6]
      obtain ⟨y24, hy24, hs23⟩ := bnd_out hs23
      refine ⟨gt_in hy24, ?_⟩
      refine ⟨_, gt_ab hy24, ?_⟩
      cbv;try simp only[ArKb6]
      refine ⟨by rw [icmp_neq]; rfl, ?_⟩
      obtain ⟨c32, hs23⟩ := ck_out hs23
      refine ⟨c32, ?_⟩
      split
      ·rename_i q31; simp only [q31, cond_true] at hs23 ⊢
       cbv;try simp only[ArKb6]
       obtain ⟨o25, ho25, hs23⟩ := bnd_out hs23
       refine CutK.intro (α := Unit) [1, 7, 8] [] (fun a => []) (fun a => []) (fun a => (Sum.inl a : _ ⊕ _) = o25) ?_ ?_
       ·cbv;try simp only[ArKb6]
        split
        ·rename_i q30; simp only [q30, cond_true] at ho25 ⊢
         cbv;try simp only[ArKb6]
         split
         ·rename_i q28; simp only [q28, cond_true] at ho25 ⊢
          cbv;try simp only[ArKb6]
          obtain rfl:=SI ho25
          simp only [Sum.elim_inr] at hs23
          obtain rfl:=SI hs23
          replace ho15 := congrArg some (es23 _ rfl)
          obtain rfl:=SI ho15
          simp only [Sum.elim_inr] at h
          obtain rfl:=SI h
          (try simp only [Z0]); exact LeV.to rfl (LeF.rfl' _)
         ·rename_i q28; simp only [q28, cond_false] at ho25 ⊢
          cbv;try simp only[ArKb6]
          split
          ·rename_i q27; simp only [q27, cond_true] at ho25 ⊢
           cbv;try simp only[ArKb6]
           obtain rfl:=SI ho25
           simp only [Sum.elim_inr] at hs23
           obtain rfl:=SI hs23
           replace ho15 := congrArg some (es23 _ rfl)
           obtain rfl:=SI ho15
           simp only [Sum.elim_inr] at h
           obtain rfl:=SI h
           (try simp only [Z0]); exact LeV.to rfl (LeF.rfl' _)
          ·rename_i q27; simp only [q27, cond_false] at ho25 ⊢
           cbv;try simp only[ArKb6]
           obtain rfl:=SI ho25
           refine ⟨_,rfl,?_⟩;first|rfl|(simp only[Z0];rfl)
        ·rename_i q30; simp only [q30, cond_false] at ho25 ⊢
         cbv;try simp only[ArKb6]
         split
         ·rename_i q29; simp only [q29, cond_true] at ho25 ⊢
          cbv;try simp only[ArKb6]
          obtain rfl:=SI ho25
          simp only [Sum.elim_inr] at hs23
          obtain rfl:=SI hs23
          replace ho15 := congrArg some (es23 _ rfl)
          obtain rfl:=SI ho15
          simp only [Sum.elim_inr] at h
          obtain rfl:=SI h
          (try simp only [Z0]); exact LeV.to rfl (LeF.rfl' _)
         ·rename_i q29; simp only [q29, cond_false] at ho25 ⊢
          cbv;try simp only[ArKb6]
          obtain rfl:=SI ho25
          refine ⟨_,rfl,?_⟩;first|rfl|(simp only[Z0];rfl)
       ·rintro a26 rfl
        clear ho25
        simp only [Sum.elim_inl] at hs23
        cbv;try simp only[ArKb6]
        obtain rfl:=SI hs23
        replace ho15 := congrArg some (es23 _ rfl)
        obtain rfl:=SI ho15
        simp only [Sum.elim_inr] at h
        obtain rfl:=SI h
        (try simp only [Z0]); exact LeV.to rfl (LeF.rfl' _)
      ·rename_i q31; simp only [q31, cond_false] at hs23 ⊢
       cbv;try simp only[ArKb6]
       obtain rfl:=SI hs23
       refine ⟨_,bs23 _ rfl,?_⟩;first|rfl|(simp only[Z0];rfl)
   ·rename_i q35; simp only [q35, cond_false] at hs23 ⊢
    cbv;try simp only[ArKb6]
    obtain rfl:=SI hs23
    replace ho15 := congrArg some (es23 _ rfl)
    obtain rfl:=SI ho15
    refine ⟨_,rfl,?_⟩;first|rfl|(simp only[Z0];rfl)
  ·rintro a16 rfl
   clear ho15
   simp only [Sum.elim_inl] at h
   cbv;try simp only[ArKb6]
   obtain rfl:=SI h
   (try simp only [Z0]); exact LeV.to rfl (LeF.rfl' _)
theorem r_sTxOk {a0 : Int} {a1 : List PutD} {r : Bool} (h : sTxOk a0 a1 = some r) : Ret pg 189 true [.i .i64 a0, .sl .shr 2 (rows putR a1)] [] (.b r) := by
  unfold sTxOk at h
  refine retD 8 3 [(6, [⟨true, [], [26]⟩, ⟨true, [], [27]⟩, ⟨false, [31, 32, 33, 34, 35, 36], [28]⟩, ⟨false, [31, 32, 33, 34, 35, 36], [29]⟩, ⟨false, [31, 32, 33, 34, 35, 36], [30]⟩, ⟨false, [28, 29, 30], [31]⟩, ⟨false, [28, 29, 30], [32]⟩, ⟨false, [28, 29, 30], [33]⟩, ⟨false, [28, 29, 30], [34]⟩, ⟨false, [28, 29, 30], [35]⟩, ⟨false, [28, 29, 30], [36]⟩, ⟨true, [], [37]⟩])] (.s .o (.s .o (.k .o .o))) Tryz.func189 rfl (by decide +kernel) (by decide +kernel) rfl trivial ?_
  cbv;try simp only[ArKb3]
  repeat((first|refine R6 ?_|refine A6 ?_);cbv;try simp only[ArKb3])
  obtain ⟨r5, hr5, h⟩ := bnd_out h
  refine CallK.introE rfl rfl (r_sl1In hr5) ?_
  clear hr5
  cbv;try simp only[ArKb3]
  repeat((first|refine R6 ?_|refine A6 ?_);cbv;try simp only[ArKb3])
  cases r5
  ·simp only [cond_false] at h
   cbv;try simp only[ArKb3]
   repeat((first|refine R6 ?_|refine A6 ?_);cbv;try simp only[ArKb3])
   obtain rfl:=SI h
   (try simp only [Z0]); exact LeV.to rfl (LeF.rfl' _)
  ·simp only [cond_true] at h
   cbv;try simp only[ArKb3]
   repeat((first|refine R6 ?_|refine A6 ?_);cbv;try simp only[ArKb3])
   split
   ·rename_i q29; simp only [q29, cond_true] at h ⊢
    cbv;try simp only[ArKb3]
    repeat((first|refine R6 ?_|refine A6 ?_);cbv;try simp only[ArKb3])
    obtain rfl:=SI h
    (try simp only [Z0]); exact LeV.to rfl (LeF.rfl' _)
   ·rename_i q29; simp only [q29, cond_false] at h ⊢
    cbv;try simp only[ArKb3]
    repeat((first|refine R6 ?_|refine A6 ?_);cbv;try simp only[ArKb3])
    obtain ⟨r6, hr6, h⟩ := bnd_out h
    refine CallK.introE rfl rfl (r_sl3PutsOk hr6) ?_
    clear hr6
    cbv;try simp only[ArKb3]
    repeat((first|refine R6 ?_|refine A6 ?_);cbv;try simp only[ArKb3])
    cases r6
    ·simp only [cond_false] at h
     cbv;try simp only[ArKb3]
     repeat((first|refine R6 ?_|refine A6 ?_);cbv;try simp only[ArKb3])
     obtain rfl:=SI h
     (try simp only [Z0]); exact LeV.to rfl (LeF.rfl' _)
    ·simp only [cond_true] at h
     cbv;try simp only[ArKb3]
     repeat((first|refine R6 ?_|refine A6 ?_);cbv;try simp only[ArKb3])
     obtain ⟨o18, ho18, h⟩ := bnd_out h
     refine CutK.intro (α := Unit) [] [] (fun a => []) (fun a => []) (fun a => (Sum.inl a : _ ⊕ _) = o18) ?_ ?_
     ·cbv;try simp only[ArKb3]
      repeat((first|refine R6 ?_|refine A6 ?_);cbv;try simp only[ArKb3])
      refine LoopR (σ := Int) ho18 [1, 5] [] (fun a => [(5, .i .i64 a)]) (fun a => []) (by first | rfl | (simp only [rows_nil, bys_n]; rfl)) fun _ s24 xs24 hs24 bs24 es24 => ?_
      cbv;try simp only[ArKb3]
      repeat((first|refine R6 ?_|refine A6 ?_);cbv;try simp only[ArKb3])
      split
      ·rename_i q28; simp only [q28, cond_true] at hs24 ⊢
       cbv;try simp only[ArKb3]
       repeat((first|refine R6 ?_|refine A6 ?_);cbv;try simp only[ArKb3])
       obtain ⟨y25, hy25, hs24⟩ := bnd_out hs24
       refine ⟨gt_in hy25, ?_⟩
       repeat((first|refine R6 ?_|refine A6 ?_);cbv;try simp only[ArKb3])
       refine ⟨_, gt_at _ hy25, ?_⟩
       cbv;try simp only[ArKb3]
       repeat((first|refine R6 ?_|refine A6 ?_);cbv;try simp only[ArKb3])
       obtain ⟨y26, hy26, hs24⟩ := bnd_out hs24
       refine ⟨gt_in hy26, ?_⟩
       repeat((first|refine R6 ?_|refine A6 ?_);cbv;try simp only[ArKb3])
       refine ⟨_, gt_at _ hy26, ?_⟩
       cbv;try simp only[ArKb3]
       repeat((first|refine R6 ?_|refine A6 ?_);cbv;try simp only[ArKb3])
       split
       ·rename_i q27; simp only [q27, cond_true] at hs24 ⊢
        cbv;try simp only[ArKb3]
        repeat((first|refine R6 ?_|refine A6 ?_);cbv;try simp only[ArKb3])
        obtain rfl:=SI hs24
        replace ho18 := congrArg some (es24 _ rfl)
        obtain rfl:=SI ho18
        simp only [Sum.elim_inr] at h
        obtain rfl:=SI h
        (try simp only [Z0]); exact LeV.to rfl (LeF.rfl' _)
       ·rename_i q27; simp only [q27, cond_false] at hs24 ⊢
        cbv;try simp only[ArKb3]
        repeat((first|refine R6 ?_|refine A6 ?_);cbv;try simp only[ArKb3])
        obtain rfl:=SI hs24
        refine ⟨_,bs24 _ rfl,?_⟩;first|rfl|(simp only[Z0];rfl)
      ·rename_i q28; simp only [q28, cond_false] at hs24 ⊢
       cbv;try simp only[ArKb3]
       repeat((first|refine R6 ?_|refine A6 ?_);cbv;try simp only[ArKb3])
       obtain rfl:=SI hs24
       replace ho18 := congrArg some (es24 _ rfl)
       obtain rfl:=SI ho18
       refine ⟨_,rfl,?_⟩;first|rfl|(simp only[Z0];rfl)
     ·rintro a19 rfl
      clear ho18
      simp only [Sum.elim_inl] at h
      cbv;try simp only[ArKb3]
      repeat((first|refine R6 ?_|refine A6 ?_);cbv;try simp only[ArKb3])
      obtain rfl:=SI h
      (try simp only [Z0]); exact LeV.to rfl (LeF.rfl' _)
theorem r_sHeadOf {a0 : List UInt8} {a1 : Int} {r : (List Int) × Int × Bool} (h : sHeadOf a0 a1 = some r) : Ret pg 130 true [.s a0, .i .i64 a1] [] (.tu [.sl .own 1 (rows intR r.1), .i .i64 r.2.1, .b r.2.2]) := by
  unfold sHeadOf at h
  refine retD 8 3 [(18, [⟨true, [], [79]⟩, ⟨true, [], [80]⟩, ⟨false, [85, 86, 87, 88, 89, 90, 93, 94, 95, 96, 97, 98, 101, 102, 103, 104, 105, 106], [81]⟩, ⟨false, [85, 86, 87, 88, 89, 90, 93, 94, 95, 96, 97, 98, 101, 102, 103, 104, 105, 106], [82]⟩, ⟨false, [85, 86, 87, 88, 89, 90, 93, 94, 95, 96, 97, 98, 101, 102, 103, 104, 105, 106], [83]⟩, ⟨false, [85, 86, 87, 88, 89, 90, 93, 94, 95, 96, 97, 98, 101, 102, 103, 104, 105, 106], [84]⟩, ⟨false, [81, 82, 83, 84], [85]⟩, ⟨false, [81, 82, 83, 84], [86]⟩, ⟨false, [81, 82, 83, 84], [87]⟩, ⟨false, [81, 82, 83, 84, 93, 94, 95, 96, 97, 98, 101, 102, 103, 104, 105, 106], [88]⟩, ⟨false, [81, 82, 83, 84, 93, 94, 95, 96, 97, 98, 101, 102, 103, 104, 105, 106], [89]⟩, ⟨false, [81, 82, 83, 84, 93, 94, 95, 96, 97, 98, 101, 102, 103, 104, 105, 106], [90]⟩, ⟨false, [93, 94, 95, 96, 97, 98, 101, 102, 103, 104, 105, 106], [91]⟩, ⟨false, [93, 94, 95, 96, 97, 98, 101, 102, 103, 104, 105, 106], [92]⟩, ⟨false, [81, 82, 83, 84, 88, 89, 90, 91, 92], [93]⟩, ⟨false, [81, 82, 83, 84, 88, 89, 90, 91, 92], [94]⟩, ⟨false, [81, 82, 83, 84, 88, 89, 90, 91, 92], [95]⟩, ⟨false, [81, 82, 83, 84, 88, 89, 90, 91, 92, 101, 102, 103, 104, 105, 106], [96]⟩, ⟨false, [81, 82, 83, 84, 88, 89, 90, 91, 92, 101, 102, 103, 104, 105, 106], [97]⟩, ⟨false, [81, 82, 83, 84, 88, 89, 90, 91, 92, 101, 102, 103, 104, 105, 106], [98]⟩, ⟨false, [101, 102, 103, 104, 105, 106], [99]⟩, ⟨false, [101, 102, 103, 104, 105, 106], [100]⟩, ⟨false, [81, 82, 83, 84, 88, 89, 90, 91, 92, 96, 97, 98, 99, 100], [101]⟩, ⟨false, [81, 82, 83, 84, 88, 89, 90, 91, 92, 96, 97, 98, 99, 100], [102]⟩, ⟨false, [81, 82, 83, 84, 88, 89, 90, 91, 92, 96, 97, 98, 99, 100], [103]⟩, ⟨false, [81, 82, 83, 84, 88, 89, 90, 91, 92, 96, 97, 98, 99, 100], [104]⟩, ⟨false, [81, 82, 83, 84, 88, 89, 90, 91, 92, 96, 97, 98, 99, 100], [105]⟩, ⟨false, [81, 82, 83, 84, 88, 89, 90, 91, 92, 96, 97, 98, 99, 100], [106]⟩, ⟨true, [], [107]⟩, ⟨true, [], [17]⟩])] (.s .o (.s .o (.s .o (.s .o (.s .o (.s .o (.k .o .o))))))) Tryz.func130 rfl (by decide +kernel) (by decide +kernel) rfl ⟨⟨rfl, own_intS _⟩, trivial, trivial, trivial⟩ ?_
  cbv;try simp only[ArKb7]
  repeat((first|refine R6 ?_|refine A6 ?_);cbv;try simp only[ArKb7])
  obtain ⟨c37, h⟩ := ck_out h
  refine ⟨c37, ?_⟩
  repeat((first|refine R6 ?_|refine A6 ?_);cbv;try simp only[ArKb7])
  obtain ⟨r2, hr2, h⟩ := bnd_out h
  refine CallK.introE rfl rfl (r_sGetNum hr2) ?_
  obtain ⟨r2_0, r2_1, r2_2⟩ := r2
  try dsimp only at h
  clear hr2
  cbv;try simp only[ArKb7]
  repeat((first|refine R6 ?_|refine A6 ?_);cbv;try simp only[ArKb7])
  cases r2_2
  ·simp only [cond_false] at h
   cbv;try simp only[ArKb7]
   repeat((first|refine R6 ?_|refine A6 ?_);cbv;try simp only[ArKb7])
   obtain rfl:=SI h
   (try simp only [Z0]); exact LeV.to rfl (LeF.rfl' _)
  ·simp only [cond_true] at h
   cbv;try simp only[ArKb7]
   repeat((first|refine R6 ?_|refine A6 ?_);cbv;try simp only[ArKb7])
   obtain ⟨y7, hy7, h⟩ := bnd_out h
   refine ⟨gt_in hy7, ?_⟩
   repeat((first|refine R6 ?_|refine A6 ?_);cbv;try simp only[ArKb7])
   refine ⟨_, gt_ab hy7, ?_⟩
   cbv;try simp only[ArKb7]
   repeat((first|refine R6 ?_|refine A6 ?_);cbv;try simp only[ArKb7])
   split
   ·rename_i q36; simp only [q36, cond_true] at h ⊢
    cbv;try simp only[ArKb7]
    repeat((first|refine R6 ?_|refine A6 ?_);cbv;try simp only[ArKb7])
    obtain rfl:=SI h
    (try simp only [Z0]); exact LeV.to rfl (LeF.rfl' _)
   ·rename_i q36; simp only [q36, cond_false] at h ⊢
    cbv;try simp only[ArKb7]
    repeat((first|refine R6 ?_|refine A6 ?_);cbv;try simp only[ArKb7])
    obtain ⟨r8, hr8, h⟩ := bnd_out h
    refine CallK.introE rfl rfl (r_sl1In hr8) ?_
    clear hr8
    cbv;try simp only[ArKb7]
    repeat((first|refine R6 ?_|refine A6 ?_);cbv;try simp only[ArKb7])
    cases r8
    ·simp only [cond_false] at h
     cbv;try simp only[ArKb7]
     repeat((first|refine R6 ?_|refine A6 ?_);cbv;try simp only[ArKb7])
     obtain rfl:=SI h
     (try simp only [Z0]); exact LeV.to rfl (LeF.rfl' _)
    ·simp only [cond_true] at h
     cbv;try simp only[ArKb7]
     repeat((first|refine R6 ?_|refine A6 ?_);cbv;try simp only[ArKb7])
     obtain ⟨o15, ho15, h⟩ := bnd_out h
     refine CutK.intro (α := Int × (List Int) × (List PutD)) [1, 7, 9, 11, 12] [] (fun a => [(9, .i .i64 a.1), (11, .sl .own 1 (rows intR a.2.1)), (12, .sl .own 2 (rows putR a.2.2))]) (fun a => []) (fun a => (Sum.inl a : _ ⊕ _) = o15) ?_ ?_
     ·cbv;try simp only[ArKb7]
      repeat((first|refine R6 ?_|refine A6 ?_);cbv;try simp only[ArKb7])
      refine LoopR (σ := Int × (List Int) × (List PutD) × Int) ho15 [1, 7, 8, 9, 11, 12, 13] [] (fun a => [(9, .i .i64 a.1), (11, .sl .own 1 (rows intR a.2.1)), (12, .sl .own 2 (rows putR a.2.2.1)), (13, .i .i64 a.2.2.2)]) (fun a => []) (by first | rfl | (simp only [rows_nil, bys_n]; rfl)) fun _ s31 xs31 hs31 bs31 es31 => ?_
      obtain ⟨s31_0, s31_1, s31_2, s31_3⟩ := s31
      try dsimp only at hs31
      cbv;try simp only[ArKb7]
      repeat((first|refine R6 ?_|refine A6 ?_);cbv;try simp only[ArKb7])
      split
      ·rename_i q35; simp only [q35, cond_true] at hs31 ⊢
       cbv;try simp only[ArKb7]
       repeat((first|refine R6 ?_|refine A6 ?_);cbv;try simp only[ArKb7])
       obtain ⟨r32, hr32, hs31⟩ := bnd_out hs31
       refine CallK.introE rfl rfl (r_sGetNum hr32) ?_
       obtain ⟨r32_0, r32_1, r32_2⟩ := r32
       try dsimp only at hs31
       clear hr32
       cbv;try simp only[ArKb7]
       repeat((first|refine R6 ?_|refine A6 ?_);cbv;try simp only[ArKb7])
       cases r32_2
       ·simp only [cond_false] at hs31
        cbv;try simp only[ArKb7]
        repeat((first|refine R6 ?_|refine A6 ?_);cbv;try simp only[ArKb7])
        obtain rfl:=SI hs31
        replace ho15 := congrArg some (es31 _ rfl)
        obtain rfl:=SI ho15
        simp only [Sum.elim_inr] at h
        obtain rfl:=SI h
        (try simp only [Z0]); exact LeV.to rfl (LeF.rfl' _)
       ·simp only [cond_true] at hs31
        cbv;try simp only[ArKb7]
        repeat((first|refine R6 ?_|refine A6 ?_);cbv;try simp only[ArKb7])
        obtain ⟨c34, hs31⟩ := ck_out hs31
        refine ⟨c34, ?_⟩
        repeat((first|refine R6 ?_|refine A6 ?_);cbv;try simp only[ArKb7])
        obtain ⟨c33, hs31⟩ := ck_out hs31
        refine ⟨c33, ?_⟩
        repeat((first|refine R6 ?_|refine A6 ?_);cbv;try simp only[ArKb7])
        obtain rfl:=SI hs31
        refine ⟨_,bs31 _ rfl,?_⟩;first|rfl|(simp only[Z0];rfl)
      ·rename_i q35; simp only [q35, cond_false] at hs31 ⊢
       cbv;try simp only[ArKb7]
       repeat((first|refine R6 ?_|refine A6 ?_);cbv;try simp only[ArKb7])
       obtain rfl:=SI hs31
       replace ho15 := congrArg some (es31 _ rfl)
       obtain rfl:=SI ho15
       refine ⟨_,rfl,?_⟩;first|rfl|(simp only[Z0];rfl)
     ·rintro a16 rfl
      clear ho15
      simp only [Sum.elim_inl] at h
      obtain ⟨a16_0, a16_1, a16_2⟩ := a16
      try dsimp only at h
      cbv;try simp only[ArKb7]
      repeat((first|refine R6 ?_|refine A6 ?_);cbv;try simp only[ArKb7])
      split
      ·rename_i q28; simp only [q28, cond_true] at h ⊢
       cbv;try simp only[ArKb7]
       repeat((first|refine R6 ?_|refine A6 ?_);cbv;try simp only[ArKb7])
       obtain rfl:=SI h
       (try simp only [Z0]); exact LeV.to rfl (LeF.rfl' _)
      ·rename_i q28; simp only [q28, cond_false] at h ⊢
       cbv;try simp only[ArKb7]
       repeat((first|refine R6 ?_|refine A6 ?_);cbv;try simp only[ArKb7])
       obtain ⟨r19, hr19, h⟩ := bnd_out h
       refine CallK.introE rfl rfl (r_sTxOk hr19) ?_
       clear hr19
       cbv;try simp only[ArKb7]
       repeat((first|refine R6 ?_|refine A6 ?_);cbv;try simp only[ArKb7])
       cases r19
       ·simp only [cond_false] at h
        cbv;try simp only[ArKb7]
        repeat((first|refine R6 ?_|refine A6 ?_);cbv;try simp only[ArKb7])
        obtain rfl:=SI h
        (try simp only [Z0]); exact LeV.to rfl (LeF.rfl' _)
       ·simp only [cond_true] at h
        cbv;try simp only[ArKb7]
        repeat((first|refine R6 ?_|refine A6 ?_);cbv;try simp only[ArKb7])
        obtain ⟨y24, hy24, h⟩ := bnd_out h
        refine ⟨gt_in hy24, ?_⟩
        repeat((first|refine R6 ?_|refine A6 ?_);cbv;try simp only[ArKb7])
        refine ⟨_, gt_ab hy24, ?_⟩
        cbv;try simp only[ArKb7]
        repeat((first|refine R6 ?_|refine A6 ?_);cbv;try simp only[ArKb7])
        obtain ⟨y25, hy25, h⟩ := bnd_out h
        refine ⟨gt_in hy25, ?_⟩
        repeat((first|refine R6 ?_|refine A6 ?_);cbv;try simp only[ArKb7])
        refine ⟨_, gt_ab hy25, ?_⟩
        cbv;try simp only[ArKb7]
        repeat((first|refine R6 ?_|refine A6 ?_);cbv;try simp only[ArKb7])
        obtain ⟨y26, hy26, h⟩ := bnd_out h
        refine ⟨gt_in hy26, ?_⟩
        repeat((first|refine R6 ?_|refine A6 ?_);cbv;try simp only[ArKb7])
        refine ⟨_, gt_ab hy26, ?_⟩
        cbv;try simp only[ArKb7]
        repeat((first|refine R6 ?_|refine A6 ?_);cbv;try simp only[ArKb7])
        obtain ⟨y27, hy27, h⟩ := bnd_out h
        refine ⟨gt_in hy27, ?_⟩
        repeat((first|refine R6 ?_|refine A6 ?_);cbv;try simp only[ArKb7])
        refine ⟨_, gt_ab hy27, ?_⟩
        cbv;try simp only[ArKb7]
        repeat((first|refine R6 ?_|refine A6 ?_);cbv;try simp only[ArKb7])
        obtain rfl:=SI h
        (try simp only [Z0]); exact LeV.to rfl (LeF.rfl' _)
theorem r_sPutText {a0 : List UInt8} {r : (List UInt8)} (h : sPutText a0 = some r) : Ret pg 190 true [.s a0] [] (.sl .own 1 (bys r)) := by
  unfold sPutText at h
  refine retD 1000 1000 [] .o Tryz.func190 rfl (by decide +kernel) (by decide +kernel) rfl ⟨rfl, own_bysS _⟩ ?_
  cbv;try simp only[ArKb6]
  obtain ⟨r2, hr2, h⟩ := bnd_out h
  refine CallK.introE rfl rfl (r_sPutNum hr2) ?_
  clear hr2
  cbv;try simp only[ArKb6]
  obtain ⟨c4, h⟩ := ck_out h
  refine ⟨c4, ?_⟩
  obtain ⟨c3, h⟩ := ck_out h
  refine ⟨c3, ?_⟩
  obtain rfl:=SI h
  (try simp only [Z0]); exact LeV.to rfl (LeF.rfl' _)
theorem r_sCrc {a0 : List UInt8} {r : Int} (h : sCrc a0 = some r) : Ret pg 191 true [.sl .shr 1 (bys a0)] [] (.i .i64 r) := by
  unfold sCrc at h
  refine retD 1000 1000 [] (.s .o (.s .o (.k (.s .o (.s (.s (.s .o (.k .o .o)) .o) .o)) .o))) Tryz.func191 rfl (by decide +kernel) (by decide +kernel) rfl trivial ?_
  cbv;try simp only[ArKb6]
  obtain ⟨o15, ho15, h⟩ := bnd_out h
  refine CutK.intro (α := Int) [3] [] (fun a => [(3, .i .i64 a)]) (fun a => []) (fun a => a = o15) ?_ ?_
  ·cbv;try simp only[ArKb6]
   refine LoopR (σ := Int × Int) ho15 [0, 3, 4] [] (fun a => [(3, .i .i64 a.1), (4, .i .i64 a.2)]) (fun a => []) (by first | rfl | (simp only [rows_nil, bys_n]; rfl)) fun _ s25 xs25 hs25 bs25 es25 => ?_
   obtain ⟨s25_0, s25_1⟩ := s25
   try dsimp only at hs25
   cbv;try simp only[ArKb6]
   split
   ·rename_i q34; simp only [q34, cond_true] at hs25 ⊢
    cbv;try simp only[ArKb6]
    obtain ⟨o28, ho28, hs25⟩ := bnd_out hs25
    refine CutK.intro (α := Int) [0, 3, 4] [] (fun a => [(3, .i .i64 a)]) (fun a => []) (fun a => a = o28) ?_ ?_
    ·cbv;try simp only[ArKb6]
     obtain ⟨y30, hy30, ho28⟩ := bnd_out ho28
     refine ⟨gt_in hy30, ?_⟩
     refine ⟨_, gt_ab hy30, ?_⟩
     cbv;try simp only[ArKb6]
     refine LoopR (σ := Int × Int) ho28 [0, 3, 4, 5] [] (fun a => [(3, .i .i64 a.1), (5, .i .i64 a.2)]) (fun a => []) (by first | rfl | (simp only [rows_nil, bys_n]; rfl)) fun _ s31 xs31 hs31 bs31 es31 => ?_
     obtain ⟨s31_0, s31_1⟩ := s31
     try dsimp only at hs31
     cbv;try simp only[ArKb6]
     split
     ·rename_i q33; simp only [q33, cond_true] at hs31 ⊢
      cbv;try simp only[ArKb6]
      refine ⟨by rw [icmp_neq]; rfl, ?_⟩
      refine ⟨by rw [icmp_neq]; rfl, ?_⟩
      split
      ·rename_i q32; simp only [q32, cond_true] at hs31 ⊢
       cbv;try simp only[ArKb6]
       obtain rfl:=SI hs31
       refine ⟨_,bs31 _ rfl,?_⟩;first|rfl|(simp only[Z0];rfl)
      ·rename_i q32; simp only [q32, cond_false] at hs31 ⊢
       cbv;try simp only[ArKb6]
       obtain rfl:=SI hs31
       refine ⟨_,bs31 _ rfl,?_⟩;first|rfl|(simp only[Z0];rfl)
     ·rename_i q33; simp only [q33, cond_false] at hs31 ⊢
      cbv;try simp only[ArKb6]
      obtain rfl:=SI hs31
      replace ho28 := congrArg some (es31 _ rfl)
      obtain rfl:=SI ho28
      refine ⟨_,rfl,?_⟩;first|rfl|(simp only[Z0];rfl)
    ·rintro a29 rfl
     clear ho28
     cbv;try simp only[ArKb6]
     obtain rfl:=SI hs25
     refine ⟨_,bs25 _ rfl,?_⟩;first|rfl|(simp only[Z0];rfl)
   ·rename_i q34; simp only [q34, cond_false] at hs25 ⊢
    cbv;try simp only[ArKb6]
    obtain rfl:=SI hs25
    replace ho15 := congrArg some (es25 _ rfl)
    obtain rfl:=SI ho15
    refine ⟨_,rfl,?_⟩;first|rfl|(simp only[Z0];rfl)
  ·rintro a16 rfl
   clear ho15
   cbv;try simp only[ArKb6]
   obtain rfl:=SI h
   (try simp only [Z0]); exact LeV.to rfl (LeF.rfl' _)
theorem r_sl4Sum {a0 : List (List UInt8)} {r : Int} (h : sl4Sum a0 = some r) : Ret pg 131 true [.sl .shr 1 (rows strR a0)] [] (.i .i64 r) := by
  unfold sl4Sum at h
  refine retD 1000 1000 [] (.s .o (.s .o (.k .o .o))) Tryz.func131 rfl (by decide +kernel) (by decide +kernel) rfl trivial ?_
  cbv;try simp only[ArKb8]
  obtain ⟨o10, ho10, h⟩ := bnd_out h
  refine CutK.intro (α := (List UInt8)) [3] [] (fun a => [(3, .sl .own 1 (bys a))]) (fun a => []) (fun a => a = o10) ?_ ?_
  ·cbv;try simp only[ArKb8]
   refine LoopR (σ := (List UInt8) × Int) ho10 [0, 3, 4] [] (fun a => [(3, .sl .own 1 (bys a.1)), (4, .i .i64 a.2)]) (fun a => []) (by first | rfl | (simp only [rows_nil, bys_n]; rfl)) fun _ s18 xs18 hs18 bs18 es18 => ?_
   obtain ⟨s18_0, s18_1⟩ := s18
   try dsimp only at hs18
   cbv;try simp only[ArKb8]
   split
   ·rename_i q22; simp only [q22, cond_true] at hs18 ⊢
    cbv;try simp only[ArKb8]
    obtain ⟨y19, hy19, hs18⟩ := bnd_out hs18
    refine ⟨gt_in hy19, ?_⟩
    refine ⟨_, gt_at _ hy19, ?_⟩
    cbv;try simp only[ArKb8]
    obtain ⟨r20, hr20, hs18⟩ := bnd_out hs18
    refine CallK.introE rfl rfl (r_sPutText hr20) ?_
    clear hr20
    cbv;try simp only[ArKb8]
    obtain ⟨c21, hs18⟩ := ck_out hs18
    refine ⟨c21, ?_⟩
    obtain rfl:=SI hs18
    refine ⟨_,bs18 _ rfl,?_⟩;first|rfl|(simp only[Z0];rfl)
   ·rename_i q22; simp only [q22, cond_false] at hs18 ⊢
    cbv;try simp only[ArKb8]
    obtain rfl:=SI hs18
    replace ho10 := congrArg some (es18 _ rfl)
    obtain rfl:=SI ho10
    refine ⟨_,rfl,?_⟩;first|rfl|(simp only[Z0];rfl)
  ·rintro a11 rfl
   clear ho10
   cbv;try simp only[ArKb8]
   obtain ⟨r13, hr13, h⟩ := bnd_out h
   refine CallK.introE rfl rfl (r_sCrc hr13) ?_
   clear hr13
   cbv;try simp only[ArKb8]
   obtain rfl:=SI h
   (try simp only [Z0]); exact LeV.to rfl (LeF.rfl' _)
theorem r_sRecover {a0 : DiskD} {a1 : Int} {r : DiskD} (h : sRecover a0 a1 = some r) : Ret pg 58 true [.ag (diskC a0), .i .i64 a1] [] (.ag (diskR r)) := by
  unfold sRecover at h
  refine retD 8 3 [(9, [⟨true, [], [46]⟩, ⟨false, [48, 49, 50, 51, 52, 53, 54, 55, 56, 57, 58, 59, 60], [47]⟩, ⟨false, [47], [48]⟩, ⟨false, [47], [49]⟩, ⟨false, [47], [50]⟩, ⟨false, [47], [51]⟩, ⟨false, [47, 55, 56, 57, 58, 59, 60], [52]⟩, ⟨false, [47, 55, 56, 57, 58, 59, 60], [53]⟩, ⟨false, [47, 55, 56, 57, 58, 59, 60], [54]⟩, ⟨false, [47, 52, 53, 54], [55]⟩, ⟨false, [47, 52, 53, 54, 57, 58], [56]⟩, ⟨false, [47, 52, 53, 54, 56], [57]⟩, ⟨false, [47, 52, 53, 54, 56], [58]⟩, ⟨false, [47, 52, 53, 54], [59]⟩, ⟨false, [47, 52, 53, 54], [60]⟩, ⟨true, [], [61]⟩, ⟨true, [], []⟩])] (.s .o (.s .o (.s .o (.s .o (.k (.k .o .o) .o))))) Tryz.func58 rfl (by decide +kernel) (by decide +kernel) rfl (own_diskR _) ?_
  cbv;try simp only[ArKb9]
  repeat((first|refine R6 ?_|refine A6 ?_);cbv;try simp only[ArKb9])
  obtain ⟨r5, hr5, h⟩ := bnd_out h
  refine CallK.introE rfl rfl (r_sl4Ok hr5) ?_
  clear hr5
  cbv;try simp only[ArKb9]
  repeat((first|refine R6 ?_|refine A6 ?_);cbv;try simp only[ArKb9])
  cases r5
  ·simp only [cond_false] at h
   cbv;try simp only[ArKb9]
   repeat((first|refine R6 ?_|refine A6 ?_);cbv;try simp only[ArKb9])
   obtain ⟨r49, hr49, h⟩ := bnd_out h
   refine CallK.introE rfl rfl (r_sl3Copy hr49) ?_
   clear hr49
   cbv;try simp only[ArKb9]
   repeat((first|refine R6 ?_|refine A6 ?_);cbv;try simp only[ArKb9])
   obtain rfl:=SI h
   (try simp only [Z0]); exact LeV.to rfl (LeF.rfl' _)
  ·simp only [cond_true] at h
   cbv;try simp only[ArKb9]
   repeat((first|refine R6 ?_|refine A6 ?_);cbv;try simp only[ArKb9])
   obtain ⟨r7, hr7, h⟩ := bnd_out h
   refine CallK.introL (LeFs.c (LeF.rfl' _) (LeFs.c (LeF.nr _ _ _) LeFs.n)) rfl (r_sFall hr7) ?_
   clear hr7
   cbv;try simp only[ArKb9]
   repeat((first|refine R6 ?_|refine A6 ?_);cbv;try simp only[ArKb9])
   obtain ⟨y10, hy10, h⟩ := bnd_out h
   refine ⟨gt_in hy10, ?_⟩
   repeat((first|refine R6 ?_|refine A6 ?_);cbv;try simp only[ArKb9])
   refine ⟨_, gt_at _ hy10, ?_⟩
   cbv;try simp only[ArKb9]
   repeat((first|refine R6 ?_|refine A6 ?_);cbv;try simp only[ArKb9])
   obtain ⟨r11, hr11, h⟩ := bnd_out h
   refine CallK.introE rfl rfl (r_sHeadOf hr11) ?_
   obtain ⟨r11_0, r11_1, r11_2⟩ := r11
   try dsimp only at h
   clear hr11
   cbv;try simp only[ArKb9]
   repeat((first|refine R6 ?_|refine A6 ?_);cbv;try simp only[ArKb9])
   obtain ⟨o29, ho29, h⟩ := bnd_out h
   refine CutK.intro (α := (List (List UInt8))) [4, 5] [4, 5] (fun a => []) (fun a => [(5, [.sl .own 1 (rows strR a), .sl .own 2 (rows putR r7.pend)])]) (fun a => a = o29) ?_ ?_
   ·cbv;try simp only[ArKb9]
    repeat((first|refine R6 ?_|refine A6 ?_);cbv;try simp only[ArKb9])
    obtain ⟨o34, ho34, ho29⟩ := bnd_out ho29
    refine CutK.intro (α := Bool) [1, 4, 5, 6, 39] [4, 5] (fun a => [(39, .b a)]) (fun a => []) (fun a => a = o34) ?_ ?_
    ·cbv;try simp only[ArKb9]
     repeat((first|refine R6 ?_|refine A6 ?_);cbv;try simp only[ArKb9])
     cases r11_2
     ·simp only [cond_false] at ho34
      cbv;try simp only[ArKb9]
      repeat((first|refine R6 ?_|refine A6 ?_);cbv;try simp only[ArKb9])
      obtain rfl:=SI ho34
      refine ⟨_,rfl,?_⟩;first|rfl|(simp only[Z0];rfl)
     ·simp only [cond_true] at ho34
      cbv;try simp only[ArKb9]
      repeat((first|refine R6 ?_|refine A6 ?_);cbv;try simp only[ArKb9])
      obtain ⟨c48, ho34⟩ := ck_out ho34
      refine ⟨c48, ?_⟩
      repeat((first|refine R6 ?_|refine A6 ?_);cbv;try simp only[ArKb9])
      obtain ⟨r47, hr47, ho34⟩ := bnd_out ho34
      refine CallK.introE rfl rfl (r_sl4Sum hr47) ?_
      clear hr47
      cbv;try simp only[ArKb9]
      repeat((first|refine R6 ?_|refine A6 ?_);cbv;try simp only[ArKb9])
      obtain rfl:=SI ho34
      refine ⟨_,rfl,?_⟩;first|rfl|(simp only[Z0];rfl)
    ·rintro a35 rfl
     clear ho34
     cbv;try simp only[ArKb9]
     repeat((first|refine R6 ?_|refine A6 ?_);cbv;try simp only[ArKb9])
     cases a35
     ·simp only [cond_false] at ho29
      cbv;try simp only[ArKb9]
      repeat((first|refine R6 ?_|refine A6 ?_);cbv;try simp only[ArKb9])
      obtain rfl:=SI ho29
      refine ⟨_,rfl,?_⟩;first|rfl|(simp only[Z0];rfl)
     ·simp only [cond_true] at ho29
      cbv;try simp only[ArKb9]
      repeat((first|refine R6 ?_|refine A6 ?_);cbv;try simp only[ArKb9])
      refine LoopR (σ := Int × (List (List UInt8))) ho29 [1, 4, 5, 6, 9] [4, 5] (fun a => [(9, .i .i64 a.1)]) (fun a => [(5, [.sl .own 1 (rows strR a.2), .sl .own 2 (rows putR r7.pend)])]) (by first | rfl | (simp only [rows_nil, bys_n]; rfl)) fun _ s42 xs42 hs42 bs42 es42 => ?_
      obtain ⟨s42_0, s42_1⟩ := s42
      try dsimp only at hs42
      cbv;try simp only[ArKb9]
      repeat((first|refine R6 ?_|refine A6 ?_);cbv;try simp only[ArKb9])
      split
      ·rename_i q46; simp only [q46, cond_true] at hs42 ⊢
       cbv;try simp only[ArKb9]
       repeat((first|refine R6 ?_|refine A6 ?_);cbv;try simp only[ArKb9])
       obtain ⟨y43, hy43, hs42⟩ := bnd_out hs42
       refine ⟨gt_in hy43, ?_⟩
       repeat((first|refine R6 ?_|refine A6 ?_);cbv;try simp only[ArKb9])
       refine ⟨_, gt_at _ hy43, ?_⟩
       cbv;try simp only[ArKb9]
       repeat((first|refine R6 ?_|refine A6 ?_);cbv;try simp only[ArKb9])
       obtain ⟨y44, hy44, hs42⟩ := bnd_out hs42
       refine ⟨gt_in hy44, ?_⟩
       repeat((first|refine R6 ?_|refine A6 ?_);cbv;try simp only[ArKb9])
       refine ⟨_, gt_at _ hy44, ?_⟩
       cbv;try simp only[ArKb9]
       repeat((first|refine R6 ?_|refine A6 ?_);cbv;try simp only[ArKb9])
       obtain ⟨y45, hy45, hs42⟩ := bnd_out hs42
       refine ⟨gt_in hy45, ?_⟩
       repeat((first|refine R6 ?_|refine A6 ?_);cbv;try simp only[ArKb9])
       refine ⟨_, gt_at _ hy45, ?_⟩
       cbv;try simp only[ArKb9]
       repeat((first|refine R6 ?_|refine A6 ?_);cbv;try simp only[ArKb9])
       obtain rfl:=SI hs42
       refine ⟨_,bs42 _ rfl,?_⟩;first|rfl|(simp only[Z0];rfl)
      ·rename_i q46; simp only [q46, cond_false] at hs42 ⊢
       cbv;try simp only[ArKb9]
       repeat((first|refine R6 ?_|refine A6 ?_);cbv;try simp only[ArKb9])
       obtain rfl:=SI hs42
       replace ho29 := congrArg some (es42 _ rfl)
       obtain rfl:=SI ho29
       refine ⟨_,rfl,?_⟩;first|rfl|(simp only[Z0];rfl)
   ·rintro a30 rfl
    clear ho29
    cbv;try simp only[ArKb9]
    repeat((first|refine R6 ?_|refine A6 ?_);cbv;try simp only[ArKb9])
    obtain ⟨y32, hy32, h⟩ := bnd_out h
    refine ⟨gt_in hy32, ?_⟩
    repeat((first|refine R6 ?_|refine A6 ?_);cbv;try simp only[ArKb9])
    refine ⟨_, gt_at _ hy32, ?_⟩
    cbv;try simp only[ArKb9]
    repeat((first|refine R6 ?_|refine A6 ?_);cbv;try simp only[ArKb9])
    obtain rfl:=SI h
    (try simp only [Z0]); exact LeV.to rfl (LeF.rfl' _)
end Go.Ar
