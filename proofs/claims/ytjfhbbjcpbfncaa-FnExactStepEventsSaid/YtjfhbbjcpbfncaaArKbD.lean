import Derived.Test.YtjfhbbjcpbfncaaArDcN
import Derived.Test.YtjfhbbjcpbfncaaArKaD
namespace Go.Ar
open Go.Proofs
set_option linter.unusedVariables false
set_option linter.unusedSimpArgs false
set_option maxRecDepth 20000
set_option maxHeartbeats 40000000
noncomputable def iHomesOf (a0 : FsD) : Option (Int) :=
  bnd (iShapeOk a0) fun r3 =>
  cond r3 (
  some (iop .add .i64 (iop .add .i64 2 (ln a0.nodes)) (ln a0.data))) (
  some (0))

noncomputable def iDiff (a0 : FsD) (a1 : FsD) : Option ((List PutD)) :=
  bnd (iFsBlocks a0) fun r4 => oc r4 (
  bnd (iFsBlocks a1) fun r5 => oc r5 (
  some ([])) fun r5 =>
  some ([])) fun r4 =>
  bnd (iFsBlocks a1) fun r10 => oc r10 (
  nq (r4 = []) fun n11 =>
  cond n11 (
  some ([])) (
  some ([]))) fun r10 =>
  nq (r4 = []) fun n13 =>
  cond n13 (
  some ([])) (
  nq (r10 = []) fun n14 =>
  cond n14 (
  some ([])) (
  cond (icmp .neq (ln r4) (ln r10)) (
  some ([])) (
  bnd (lp (σ := (List PutD) × Int) (ρ := (List PutD)) (fun s32 =>
  cond (icmp .lss s32.2 (ln r10)) (
  bnd (gt r10 s32.2) fun y33 =>
  bnd (gt r4 s32.2) fun y34 =>
  cond (scmp .neq y33 y34) (
  ck (Room (plus (ln s32.1) 1) 24) <|
  some (.inl (ap s32.1 [(⟨s32.2, y33⟩ : PutD)], iop .add .i64 s32.2 1))) (
  some (.inl (s32.1, iop .add .i64 s32.2 1)))) (
  some (.inr (s32.1)))) ([], 0) : Option ((List PutD))) <| fun a27 =>
  some (a27))))

noncomputable def ishort (a0 : List UInt8) : Option (Bool) :=
  some (icmp .leq (slen a0) 90)

noncomputable def iTxOk (a0 : Int) (a1 : List PutD) : Option (Bool) :=
  bnd (iwithin a0 1 48) fun r3 =>
  cond r3 (
  cond (icmp .eql (ln a1) 0) (
  some (false)) (
  bnd (lp (σ := Int × Int) (ρ := (Unit) ⊕ (Bool)) (fun s30 =>
  cond (icmp .lss s30.2 (ln a1)) (
  bnd (gt a1 s30.2) fun y31 =>
  bnd (iwithin y31.pos (iop .add .i64 s30.1 1) (iop .sub .i64 a0 1)) fun r32 =>
  cond r32 (
  bnd (ishort y31.data) fun r33 =>
  cond r33 (
  some (.inl (y31.pos, iop .add .i64 s30.2 1))) (
  some (.inr (.inr (false))))) (
  some (.inr (.inr (false))))) (
  some (.inr (.inl ())))) (-1, 0) : Option ((Unit) ⊕ (Bool))) <| Sum.elim (fun a23 =>
  some (true)) some)) (
  some (false))

noncomputable def iPutText (a0 : List UInt8) : Option ((List UInt8)) :=
  bnd (iPutNum (slen a0)) fun r2 =>
  ck (Room (plus (ln r2) (ln a0)) 1) <|
  some (ap r2 a0)

noncomputable def iCrc (a0 : List UInt8) : Option (Int) :=
  bnd (lp (σ := Int × Int) (ρ := Int) (fun s25 =>
  cond (icmp .lss s25.2 (ln a0)) (
  bnd (bnd (gt a0 s25.2) fun y30 =>
  lp (σ := Int × Int) (ρ := Int) (fun s31 =>
  cond (icmp .lss s31.2 8) (
  cond (icmp .eql (iop .and .i64 s31.1 1) 1) (
  some (.inl (iop .xor .i64 (iop .shr .i64 s31.1 1) 3988292384, iop .add .i64 s31.2 1))) (
  some (.inl (iop .shr .i64 s31.1 1, iop .add .i64 s31.2 1)))) (
  some (.inr (s31.1)))) (iop .xor .i64 s25.1 (wrp .i64 (b2i y30)), 0) : Option (Int)) <| fun a29 =>
  some (.inl (a29, iop .add .i64 s25.2 1))) (
  some (.inr (s25.1)))) (4294967295, 0) : Option (Int)) <| fun a16 =>
  some (iop .xor .i64 a16 4294967295)

noncomputable def idataSum (a0 : List (List UInt8)) : Option (Int) :=
  bnd (lp (σ := (List UInt8) × Int) (ρ := (List UInt8)) (fun s19 =>
  cond (icmp .lss s19.2 (ln a0)) (
  bnd (gt a0 s19.2) fun y20 =>
  bnd (iPutText y20) fun r21 =>
  ck (Room (plus (ln s19.1) (ln r21)) 1) <|
  some (.inl (ap s19.1 r21, iop .add .i64 s19.2 1))) (
  some (.inr (s19.1)))) ([], 0) : Option ((List UInt8))) <| fun a12 =>
  bnd (iCrc a12) fun r14 =>
  some (r14)

noncomputable def iheadBytes (a0 : List Int) (a1 : Int) : Option ((List UInt8)) :=
  bnd (iPutNum (ln a0)) fun r2 =>
  ck (Room (plus 1 (ln r2)) 1) <|
  bnd (lp (σ := (List UInt8) × Int) (ρ := (List UInt8)) (fun s20 =>
  cond (icmp .lss s20.2 (ln a0)) (
  bnd (gt a0 s20.2) fun y21 =>
  bnd (iPutNum y21) fun r22 =>
  ck (Room (plus (ln s20.1) (ln r22)) 1) <|
  some (.inl (ap s20.1 r22, iop .add .i64 s20.2 1))) (
  some (.inr (s20.1)))) (ap [74] r2, 0) : Option ((List UInt8))) <| fun a14 =>
  ck (Room (plus (ln a14) 4) 1) <|
  some (ap a14 [(i2b (wrp .u8 (iop .shr .i64 a1 24))), (i2b (wrp .u8 (iop .shr .i64 a1 16))), (i2b (wrp .u8 (iop .shr .i64 a1 8))), (i2b (wrp .u8 a1))])

noncomputable def iHeadText (a0 : List PutD) : Option ((List UInt8)) :=
  bnd (iTxOk 48 a0) fun r3 =>
  cond r3 (
  bnd (lp (σ := (List Int) × (List (List UInt8)) × Int) (ρ := (List Int) × (List (List UInt8))) (fun s18 =>
  cond (icmp .lss s18.2.2 (ln a0)) (
  bnd (gt a0 s18.2.2) fun y19 =>
  ck (Room (plus (ln s18.1) 1) 8) <|
  ck (Room (plus (ln s18.2.1) 1) 16) <|
  some (.inl (ap s18.1 [y19.pos], ap s18.2.1 [y19.data], iop .add .i64 s18.2.2 1))) (
  some (.inr ((s18.1, s18.2.1))))) ([], [], 0) : Option ((List Int) × (List (List UInt8)))) <| fun a11 =>
  bnd (idataSum a11.2) fun r14 =>
  bnd (iheadBytes a11.1 r14) fun r15 =>
  some (r15)) (
  some ([]))

noncomputable def iCommit (a0 : Int) (a1 : List PutD) : Option ((List EventD)) :=
  bnd (iTxOk a0 a1) fun r3 =>
  cond r3 (
  bnd (lp (σ := (List EventD) × Int) (ρ := (List EventD)) (fun s32 =>
  cond (icmp .lss s32.2 (ln a1)) (
  bnd (gt a1 s32.2) fun y33 =>
  ck (Room (plus (ln s32.1) 1) 32) <|
  some (.inl (ap s32.1 [(⟨0, iop .add .i64 1 s32.2, y33.data⟩ : EventD)], iop .add .i64 s32.2 1))) (
  some (.inr (s32.1)))) ([], 0) : Option ((List EventD))) <| fun a11 =>
  bnd (iHeadText a1) fun r13 =>
  ck (Room (plus (ln a11) 3) 32) <|
  bnd (lp (σ := (List EventD) × Int) (ρ := (List EventD)) (fun s25 =>
  cond (icmp .lss s25.2 (ln a1)) (
  bnd (gt a1 s25.2) fun y26 =>
  ck (Room (plus (ln s25.1) 1) 32) <|
  some (.inl (ap s25.1 [(⟨0, iop .add .i64 (iop .add .i64 a0 1) y26.pos, y26.data⟩ : EventD)], iop .add .i64 s25.2 1))) (
  some (.inr (s25.1)))) (ap a11 [(⟨1, 0, []⟩ : EventD), (⟨0, 0, r13⟩ : EventD), (⟨1, 0, []⟩ : EventD)], 0) : Option ((List EventD))) <| fun a21 =>
  ck (Room (plus (ln a21) 3) 32) <|
  some (ap a21 [(⟨1, 0, []⟩ : EventD), (⟨0, 0, []⟩ : EventD), (⟨1, 0, []⟩ : EventD)])) (
  some ([]))

noncomputable def iStepEvents (a0 : PoolD) (a1 : StepD) : Option ((List EventD)) :=
  bnd (iwithin a1.branch 0 (iop .sub .i64 (ln a0.branches) 1)) fun r3 =>
  cond r3 (
  bnd (gt a0.branches a1.branch) fun y5 =>
  bnd (iHomesOf y5.fs) fun r10 =>
  bnd (iHomesOf a1.fs) fun r11 =>
  cond (icmp .neq r10 r11) (
  some ([])) (
  bnd (iHomesOf y5.fs) fun r15 =>
  bnd (iDiff y5.fs a1.fs) fun r16 =>
  bnd (iCommit r15 r16) fun r17 =>
  some (r17))) (
  some ([]))

noncomputable def sDiff (a0 : FsD) (a1 : FsD) : Option ((List PutD)) :=
  bnd (sFsBlocks a0) fun r2 =>
  bnd (sFsBlocks a1) fun r4 =>
  cond (icmp .neq (ln r2) (ln r4)) (
  some ([])) (
  bnd (lp (σ := (List PutD) × Int) (ρ := (List PutD)) (fun s22 =>
  cond (icmp .lss s22.2 (ln r2)) (
  bnd (gt r2 s22.2) fun y23 =>
  bnd (gt r4 s22.2) fun y24 =>
  cond (scmp .neq y23 y24) (
  ck (Room (plus (ln s22.1) 1) 24) <|
  some (.inl (ap s22.1 [(⟨s22.2, y24⟩ : PutD)], iop .add .i64 s22.2 1))) (
  some (.inl (s22.1, iop .add .i64 s22.2 1)))) (
  some (.inr (s22.1)))) ([], 0) : Option ((List PutD))) <| fun a17 =>
  some (a17))

noncomputable def sl3PutsOk (a0 : List PutD) (a1 : Int) : Option (Bool) :=
  bnd (lp (σ := Int) (ρ := (Unit) ⊕ (Bool)) (fun s18 =>
  cond (icmp .lss s18 (ln a0)) (
  bnd (gt a0 s18) fun y19 =>
  bnd (sl1In y19.pos 0 (iop .sub .i64 a1 1)) fun r20 =>
  cond r20 (
  cond (icmp .gtr (slen y19.data) 90) (
  some (.inr (.inr (false)))) (
  some (.inl (iop .add .i64 s18 1)))) (
  some (.inr (.inr (false))))) (
  some (.inr (.inl ())))) 0 : Option ((Unit) ⊕ (Bool))) <| Sum.elim (fun a13 =>
  some (true)) some

noncomputable def sTxOk (a0 : Int) (a1 : List PutD) : Option (Bool) :=
  bnd (sl1In a0 1 48) fun r5 =>
  cond r5 (
  cond (icmp .eql (ln a1) 0) (
  some (false)) (
  bnd (sl3PutsOk a1 a0) fun r6 =>
  cond r6 (
  bnd (lp (σ := Int) (ρ := (Unit) ⊕ (Bool)) (fun s24 =>
  cond (icmp .lss s24 (ln a1)) (
  bnd (gt a1 s24) fun y25 =>
  bnd (gt a1 (iop .sub .i64 s24 1)) fun y26 =>
  cond (icmp .leq y25.pos y26.pos) (
  some (.inr (.inr (false)))) (
  some (.inl (iop .add .i64 s24 1)))) (
  some (.inr (.inl ())))) 1 : Option ((Unit) ⊕ (Bool))) <| Sum.elim (fun a19 =>
  some (true)) some) (
  some (false)))) (
  some (false))

noncomputable def sl4Event (a0 : Int) (a1 : List UInt8) : Option (EventD) :=
  some ((⟨0, a0, a1⟩ : EventD))

noncomputable def sPutText (a0 : List UInt8) : Option ((List UInt8)) :=
  bnd (sPutNum (slen a0)) fun r2 =>
  ck (Room (slen a0) 1) <|
  ck (Room (plus (ln r2) (ln a0)) 1) <|
  some (ap r2 a0)

noncomputable def sCrc (a0 : List UInt8) : Option (Int) :=
  bnd (lp (σ := Int × Int) (ρ := Int) (fun s25 =>
  cond (icmp .lss s25.2 (ln a0)) (
  bnd (bnd (gt a0 s25.2) fun y30 =>
  lp (σ := Int × Int) (ρ := Int) (fun s31 =>
  cond (icmp .lss s31.2 8) (
  cond (icmp .eql (iop .rem .i64 s31.1 2) 1) (
  some (.inl (iop .xor .i64 (iop .quo .i64 s31.1 2) 3988292384, iop .add .i64 s31.2 1))) (
  some (.inl (iop .quo .i64 s31.1 2, iop .add .i64 s31.2 1)))) (
  some (.inr (s31.1)))) (iop .xor .i64 s25.1 (wrp .i64 (b2i y30)), 0) : Option (Int)) <| fun a29 =>
  some (.inl (a29, iop .add .i64 s25.2 1))) (
  some (.inr (s25.1)))) (4294967295, 0) : Option (Int)) <| fun a16 =>
  some (iop .xor .i64 a16 4294967295)

noncomputable def sl4Sum (a0 : List (List UInt8)) : Option (Int) :=
  bnd (lp (σ := (List UInt8) × Int) (ρ := (List UInt8)) (fun s18 =>
  cond (icmp .lss s18.2 (ln a0)) (
  bnd (gt a0 s18.2) fun y19 =>
  bnd (sPutText y19) fun r20 =>
  ck (Room (plus (ln s18.1) (ln r20)) 1) <|
  some (.inl (ap s18.1 r20, iop .add .i64 s18.2 1))) (
  some (.inr (s18.1)))) ([], 0) : Option ((List UInt8))) <| fun a11 =>
  bnd (sCrc a11) fun r13 =>
  some (r13)

noncomputable def sl4Four (a0 : Int) : Option ((List UInt8)) :=
  some ([(i2b (wrp .u8 (iop .quo .i64 a0 16777216))), (i2b (wrp .u8 (iop .rem .i64 (iop .quo .i64 a0 65536) 256))), (i2b (wrp .u8 (iop .rem .i64 (iop .quo .i64 a0 256) 256))), (i2b (wrp .u8 (iop .rem .i64 a0 256)))])

noncomputable def sl4Head (a0 : List Int) (a1 : Int) : Option ((List UInt8)) :=
  bnd (sPutNum (ln a0)) fun r2 =>
  ck (Room (plus 1 (ln r2)) 1) <|
  bnd (lp (σ := (List UInt8) × Int) (ρ := (List UInt8)) (fun s21 =>
  cond (icmp .lss s21.2 (ln a0)) (
  bnd (gt a0 s21.2) fun y22 =>
  bnd (sPutNum y22) fun r23 =>
  ck (Room (plus (ln s21.1) (ln r23)) 1) <|
  some (.inl (ap s21.1 r23, iop .add .i64 s21.2 1))) (
  some (.inr (s21.1)))) (ap [74] r2, 0) : Option ((List UInt8))) <| fun a13 =>
  bnd (sl4Four a1) fun r15 =>
  ck (Room (plus (slen a13) (slen r15)) 1) <|
  some (sapp a13 r15)

noncomputable def sHeadText (a0 : List PutD) : Option ((List UInt8)) :=
  bnd (sTxOk 48 a0) fun r3 =>
  cond r3 (
  bnd (lp (σ := (List Int) × (List (List UInt8)) × Int) (ρ := (List Int) × (List (List UInt8))) (fun s18 =>
  cond (icmp .lss s18.2.2 (ln a0)) (
  bnd (gt a0 s18.2.2) fun y19 =>
  ck (Room (plus (ln s18.1) 1) 8) <|
  ck (Room (plus (ln s18.2.1) 1) 16) <|
  some (.inl (ap s18.1 [y19.pos], ap s18.2.1 [y19.data], iop .add .i64 s18.2.2 1))) (
  some (.inr ((s18.1, s18.2.1))))) ([], [], 0) : Option ((List Int) × (List (List UInt8)))) <| fun a11 =>
  bnd (sl4Sum a11.2) fun r14 =>
  bnd (sl4Head a11.1 r14) fun r15 =>
  some (r15)) (
  some ([]))

noncomputable def sCommit (a0 : Int) (a1 : List PutD) : Option ((List EventD)) :=
  bnd (sTxOk a0 a1) fun r3 =>
  cond r3 (
  bnd (lp (σ := (List EventD) × Int) (ρ := (List EventD)) (fun s47 =>
  cond (icmp .lss s47.2 (ln a1)) (
  bnd (gt a1 s47.2) fun y48 =>
  bnd (sl4Event (iop .add .i64 1 s47.2) y48.data) fun r49 =>
  ck (Room (plus (ln s47.1) 1) 32) <|
  some (.inl (ap s47.1 [r49], iop .add .i64 s47.2 1))) (
  some (.inr (s47.1)))) ([], 0) : Option ((List EventD))) <| fun a14 =>
  bnd (sHeadText a1) fun r17 =>
  bnd (sl4Event 0 r17) fun r18 =>
  ck (Room (plus (ln a14) 3) 32) <|
  bnd (lp (σ := (List EventD) × Int) (ρ := (List EventD)) (fun s37 =>
  cond (icmp .lss s37.2 (ln a1)) (
  bnd (gt a1 s37.2) fun y38 =>
  bnd (sl4Event (iop .add .i64 (iop .add .i64 a0 1) y38.pos) y38.data) fun r39 =>
  ck (Room (plus (ln s37.1) 1) 32) <|
  some (.inl (ap s37.1 [r39], iop .add .i64 s37.2 1))) (
  some (.inr (s37.1)))) (ap a14 [(⟨1, 0, []⟩ : EventD), r18, (⟨1, 0, []⟩ : EventD)], 0) : Option ((List EventD))) <| fun a29 =>
  bnd (sl4Event 0 []) fun r31 =>
  ck (Room (plus (ln a29) 3) 32) <|
  some (ap a29 [(⟨1, 0, []⟩ : EventD), r31, (⟨1, 0, []⟩ : EventD)])) (
  some ([]))

noncomputable def sStepEvents (a0 : PoolD) (a1 : StepD) : Option ((List EventD)) :=
  bnd (sl1In a1.branch 0 (iop .sub .i64 (ln a0.branches) 1)) fun r3 =>
  cond r3 (
  bnd (gt a0.branches a1.branch) fun y5 =>
  bnd (sHomesOf y5.fs) fun r7 =>
  bnd (sHomesOf a1.fs) fun r10 =>
  cond (icmp .neq r7 r10) (
  some ([])) (
  bnd (sDiff y5.fs a1.fs) fun r13 =>
  bnd (sCommit r7 r13) fun r14 =>
  some (r14))) (
  some ([]))

end Go.Ar
