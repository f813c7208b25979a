import Derived.Test.YtjfhbbjcpbfncaaArDcN
namespace Go.Ar
open Go.Proofs
set_option linter.unusedVariables false
set_option linter.unusedSimpArgs false
set_option maxRecDepth 20000
set_option maxHeartbeats 40000000
noncomputable def iwithin (a0 : Int) (a1 : Int) (a2 : Int) : Option (Bool) :=
  cond (icmp .geq a0 a1) (
  some (icmp .leq a0 a2)) (
  some (false))

noncomputable def iBlocksFor (a0 : Int) : Option (Int) :=
  cond (icmp .leq a0 0) (
  some (0)) (
  cond (icmp .gtr a0 80) (
  some (5)) (
  some (iop .quo .i64 (iop .sub .i64 (iop .add .i64 a0 16) 1) 16)))

noncomputable def gslices_Index_int (a0 : List Int) (a1 : Int) : Option (Int) :=
  bnd (lp (σ := Int) (ρ := (Unit) ⊕ (Int)) (fun s11 =>
  cond (icmp .lss s11 (ln a0)) (
  bnd (gt a0 s11) fun y12 =>
  cond (icmp .eql a1 y12) (
  some (.inr (.inr (s11)))) (
  some (.inl (iop .add .i64 s11 1)))) (
  some (.inr (.inl ())))) 0 : Option ((Unit) ⊕ (Int))) <| Sum.elim (fun a8 =>
  some (-1)) some

noncomputable def gslices_Contains_int (a0 : List Int) (a1 : Int) : Option (Bool) :=
  bnd (gslices_Index_int a0 a1) fun r2 =>
  some (icmp .geq r2 0)

noncomputable def iNodeOk (a0 : NodeD) : Option (Bool) :=
  cond (icmp .eql a0.kind 0) (
  cond (icmp .eql a0.gen 0) (
  cond (icmp .eql a0.time 0) (
  cond (icmp .eql a0.size 0) (
  some (icmp .eql (ln a0.blocks) 0)) (
  some (false))) (
  some (false))) (
  some (false))) (
  bnd (iwithin a0.kind 1 3) fun r12 =>
  cond r12 (
  bnd (iwithin a0.gen 0 1000000) fun r13 =>
  cond r13 (
  bnd (iwithin a0.time 0 100000) fun r14 =>
  cond r14 (
  bnd (iwithin a0.size 0 80) fun r15 =>
  cond r15 (
  bnd (cond (icmp .eql a0.kind 2) (
  cond (icmp .neq a0.gen 0) (
  some (.inr (false))) (
  cond (icmp .neq a0.time 0) (
  some (.inr (false))) (
  bnd (iBlocksFor a0.size) fun r54 =>
  cond (icmp .neq (ln a0.blocks) r54) (
  some (.inr (false))) (
  some (.inl ()))))) (
  bnd (iBlocksFor a0.size) fun r58 =>
  cond (icmp .neq (ln a0.blocks) r58) (
  some (.inr (false))) (
  some (.inl ()))) : Option ((Unit) ⊕ (Bool))) <| Sum.elim (fun a23 =>
  bnd (lp (σ := Int) (ρ := (Unit) ⊕ (Bool)) (fun s48 =>
  cond (icmp .lss s48 (ln a0.blocks)) (
  bnd (gt a0.blocks s48) fun y49 =>
  bnd (iwithin y49 0 35) fun r50 =>
  cond r50 (
  ck (InS 0 s48 (ln a0.blocks)) <|
  bnd (gslices_Contains_int (sb a0.blocks 0 s48) y49) fun r51 =>
  cond r51 (
  some (.inr (.inr (false)))) (
  some (.inl (iop .add .i64 s48 1)))) (
  some (.inr (.inr (false))))) (
  some (.inr (.inl ())))) 0 : Option ((Unit) ⊕ (Bool))) <| Sum.elim (fun a41 =>
  some (true)) some) some) (
  some (false))) (
  some (false))) (
  some (false))) (
  some (false)))

noncomputable def iShapeOk_1 (a0 : NodeD) : Option (Bool) :=
  bnd (iNodeOk a0) fun r2 =>
  some ((!r2))

noncomputable def gslices_IndexFunc_Node_109 (a0 : List NodeD) : Option (Int) :=
  bnd (lp (σ := Int) (ρ := (Unit) ⊕ (Int)) (fun s18 =>
  cond (icmp .lss s18 (ln a0)) (
  bnd (gt a0 s18) fun y19 =>
  bnd (iShapeOk_1 y19) fun r20 =>
  cond r20 (
  some (.inr (.inr (s18)))) (
  some (.inl (iop .add .i64 s18 1)))) (
  some (.inr (.inl ())))) 0 : Option ((Unit) ⊕ (Int))) <| Sum.elim (fun a13 =>
  some (-1)) some

noncomputable def gslices_ContainsFunc_Node_109 (a0 : List NodeD) : Option (Bool) :=
  bnd (gslices_IndexFunc_Node_109 a0) fun r2 =>
  some (icmp .geq r2 0)

noncomputable def gmath_bits_Mul64 (a0 : Int) (a1 : Int) : Option (Int × Int) :=
  some ((iop .add .u64 (iop .add .u64 (iop .mul .u64 (iop .shr .u64 a0 32) (iop .shr .u64 a1 32)) (iop .shr .u64 (iop .add .u64 (iop .mul .u64 (iop .shr .u64 a0 32) (iop .and .u64 a1 4294967295)) (iop .shr .u64 (iop .mul .u64 (iop .and .u64 a0 4294967295) (iop .and .u64 a1 4294967295)) 32)) 32)) (iop .shr .u64 (iop .add .u64 (iop .and .u64 (iop .add .u64 (iop .mul .u64 (iop .shr .u64 a0 32) (iop .and .u64 a1 4294967295)) (iop .shr .u64 (iop .mul .u64 (iop .and .u64 a0 4294967295) (iop .and .u64 a1 4294967295)) 32)) 4294967295) (iop .mul .u64 (iop .and .u64 a0 4294967295) (iop .shr .u64 a1 32))) 32), iop .mul .u64 a0 a1))

noncomputable def gmath_bits_Mul (a0 : Int) (a1 : Int) : Option (Int × Int) :=
  bnd (gmath_bits_Mul64 a0 a1) fun r2 =>
  some ((r2.1, r2.2))

noncomputable def gslices_Repeat_int (a0 : List Int) (a1 : Int) : Option ((List Int)) :=
  cond (icmp .lss a1 0) (
  none) (
  bnd (gmath_bits_Mul (wrp .u64 (ln a0)) (wrp .u64 a1)) fun r2 =>
  cond (icmp .gtr r2.1 0) (
  none) (
  cond (icmp .gtr r2.2 9223372036854775807) (
  none) (
  ck (InS 0 (wrp .i64 r2.2) (wrp .i64 r2.2)) <|
  ck (Room (wrp .i64 r2.2) 8) <|
  bnd (lp (σ := (List Int) × Int) (ρ := (List Int)) (fun s6 =>
  cond (icmp .lss s6.2 (ln s6.1)) (
  ck (InS s6.2 (ln s6.1) (ln s6.1)) <|
  ck (InS 0 s6.2 (ln s6.1)) <|
  some (.inl (cpl (some (s6.2, ln s6.1)) s6.1 (sb s6.1 0 s6.2), iop .add .i64 s6.2 (cpc (some (s6.2, ln s6.1)) s6.1 (sb s6.1 0 s6.2))))) (
  some (.inr (s6.1)))) (cpl none (rp (wrp .i64 r2.2) (0 : Int)) a0, cpc none (rp (wrp .i64 r2.2) (0 : Int)) a0) : Option ((List Int))) <| fun a5 =>
  some (a5))))

noncomputable def iowners (a0 : FsD) : Option ((List Int) × Bool) :=
  bnd (gslices_Repeat_int [-1] (ln a0.data)) fun r2 =>
  bnd (lp (σ := (List Int) × Int) (ρ := ((List Int)) ⊕ ((List Int) × Bool)) (fun s62 =>
  cond (icmp .lss s62.2 (ln a0.nodes)) (
  bnd (bnd (gt a0.nodes s62.2) fun y73 =>
  lp (σ := (List Int) × Int) (ρ := ((List Int)) ⊕ (((List Int) × Int) ⊕ (((List Int)) ⊕ ((List Int) × Bool)))) (fun s78 =>
  cond (icmp .lss s78.2 (ln y73.blocks)) (
  bnd (gt y73.blocks s78.2) fun y79 =>
  cond (icmp .geq y79 (ln a0.data)) (
  some (.inr (.inr (.inr (.inr (([], false))))))) (
  bnd (gt s78.1 y79) fun y80 =>
  cond (icmp .geq y80 0) (
  some (.inr (.inr (.inr (.inr (([], false))))))) (
  some (.inl (sl s78.1 y79 s62.2, iop .add .i64 s78.2 1))))) (
  some (.inr (.inl s78.1)))) (s62.1, 0) : Option (((List Int)) ⊕ (((List Int) × Int) ⊕ (((List Int)) ⊕ ((List Int) × Bool))))) <| Sum.elim (fun a72 =>
  some (.inl (a72, iop .add .i64 s62.2 1))) some) (
  some (.inr (.inl s62.1)))) (r2, 0) : Option (((List Int)) ⊕ ((List Int) × Bool))) <| Sum.elim (fun a41 =>
  some ((a41, true))) some

noncomputable def iShapeOk (a0 : FsD) : Option (Bool) :=
  bnd (iwithin (ln a0.nodes) 2 10) fun r7 =>
  cond r7 (
  bnd (iwithin (ln a0.data) 1 36) fun r8 =>
  cond r8 (
  bnd (gt a0.nodes 0) fun y9 =>
  cond (icmp .neq y9.kind 2) (
  some (false)) (
  bnd (gslices_ContainsFunc_Node_109 a0.nodes) fun r12 =>
  cond r12 (
  some (false)) (
  bnd (iowners a0) fun r14 =>
  cond r14.2 (
  bnd (lp (σ := Int) (ρ := (Unit) ⊕ (Bool)) (fun s110 =>
  cond (icmp .lss s110 (ln a0.data)) (
  bnd (gt a0.data s110) fun y111 =>
  cond (icmp .gtr (slen y111) 16) (
  some (.inr (.inr (false)))) (
  bnd (gt r14.1 s110) fun y112 =>
  cond (icmp .lss y112 0) (
  cond (scmp .neq y111 []) (
  some (.inr (.inr (false)))) (
  some (.inl (iop .add .i64 s110 1)))) (
  some (.inl (iop .add .i64 s110 1))))) (
  some (.inr (.inl ())))) 0 : Option ((Unit) ⊕ (Bool))) <| Sum.elim (fun a27 =>
  bnd (lp (σ := Int) (ρ := (Unit) ⊕ (Bool)) (fun s84 =>
  cond (icmp .lss s84 (ln a0.nodes)) (
  bnd (bnd (gt a0.nodes s84) fun y95 =>
  lp (σ := Int × Int) (ρ := (Unit) ⊕ ((Int) ⊕ ((Unit) ⊕ (Bool)))) (fun s100 =>
  cond (icmp .lss s100.2 (ln y95.blocks)) (
  bnd (gt y95.blocks s100.2) fun y101 =>
  bnd (gt a0.data y101) fun y102 =>
  cond (icmp .neq (slen y102) (imin s100.1 16)) (
  some (.inr (.inr (.inr (.inr (false)))))) (
  some (.inl (iop .sub .i64 s100.1 16, iop .add .i64 s100.2 1)))) (
  some (.inr (.inl ())))) (y95.size, 0) : Option ((Unit) ⊕ ((Int) ⊕ ((Unit) ⊕ (Bool))))) <| Sum.elim (fun a94 =>
  some (.inl (iop .add .i64 s84 1))) some) (
  some (.inr (.inl ())))) 0 : Option ((Unit) ⊕ (Bool))) <| Sum.elim (fun a64 =>
  some (true)) some) some) (
  some (false))))) (
  some (false))) (
  some (false))

noncomputable def iPutNum (a0 : Int) : Option ((List UInt8)) :=
  bnd (iwithin a0 0 2147483647) fun r3 =>
  cond r3 (
  bnd (lp (σ := Int × (List UInt8)) (ρ := Int × (List UInt8)) (fun s8 =>
  cond (icmp .geq s8.1 128) (
  ck (Room (plus (ln s8.2) 1) 1) <|
  some (.inl (iop .shr .i64 s8.1 7, ap s8.2 [(i2b (wrp .u8 (iop .or .i64 (iop .and .i64 s8.1 127) 128)))]))) (
  some (.inr ((s8.1, s8.2))))) (a0, []) : Option (Int × (List UInt8))) <| fun a6 =>
  ck (Room (plus (ln a6.2) 1) 1) <|
  some (ap a6.2 [(i2b (wrp .u8 a6.1))])) (
  some ([]))

noncomputable def iNodeText (a0 : NodeD) : Option ((List UInt8)) :=
  bnd (iNodeOk a0) fun r3 =>
  cond r3 (
  bnd (cond (icmp .neq a0.kind 0) (
  ck (Room (plus 3 (ln a0.blocks)) 8) <|
  lp (σ := (List UInt8) × Int) (ρ := (List UInt8)) (fun s20 =>
  cond (icmp .lss s20.2 (ln (ap [a0.gen, a0.time, a0.size] a0.blocks))) (
  bnd (gt (ap [a0.gen, a0.time, a0.size] a0.blocks) s20.2) fun y21 =>
  bnd (iPutNum y21) fun r22 =>
  ck (Room (plus (ln s20.1) (ln r22)) 1) <|
  some (.inl (ap s20.1 r22, iop .add .i64 s20.2 1))) (
  some (.inr (s20.1)))) ([(i2b (wrp .u8 a0.kind))], 0)) (
  some ([(i2b (wrp .u8 a0.kind))])) : Option ((List UInt8))) <| fun a15 =>
  some (a15)) (
  some ([]))

noncomputable def iFsBlocks (a0 : FsD) : Option ((Option (List (List UInt8)))) :=
  bnd (iShapeOk a0) fun r3 =>
  cond r3 (
  bnd (iPutNum (ln a0.nodes)) fun r5 =>
  ck (Room (plus 4 (ln r5)) 1) <|
  bnd (iPutNum (ln a0.data)) fun r7 =>
  ck (Room (plus (ln (ap [66, 65, 83, 78] r5)) (ln r7)) 1) <|
  bnd (iowners a0) fun r9 =>
  ck (InS 0 (iop .quo .i64 (iop .add .i64 (ln a0.data) 7) 8) (iop .quo .i64 (iop .add .i64 (ln a0.data) 7) 8)) <|
  ck (Room (iop .quo .i64 (iop .add .i64 (ln a0.data) 7) 8) 1) <|
  bnd (lp (σ := (List UInt8) × Int) (ρ := (List UInt8)) (fun s48 =>
  cond (icmp .lss s48.2 (ln r9.1)) (
  bnd (gt r9.1 s48.2) fun y49 =>
  cond (icmp .geq y49 0) (
  bnd (gt s48.1 (iop .quo .i64 s48.2 8)) fun y50 =>
  ck (icmp .geq (iop .rem .i64 s48.2 8) 0 = true) <|
  some (.inl (sl s48.1 (iop .quo .i64 s48.2 8) (i2b (iop .or .u8 (b2i y50) (iop .shl .u8 1 (iop .rem .i64 s48.2 8)))), iop .add .i64 s48.2 1))) (
  some (.inl (s48.1, iop .add .i64 s48.2 1)))) (
  some (.inr (s48.1)))) (rp (iop .quo .i64 (iop .add .i64 (ln a0.data) 7) 8) (0 : UInt8), 0) : Option ((List UInt8))) <| fun a21 =>
  bnd (lp (σ := (List (List UInt8)) × Int) (ρ := (List (List UInt8))) (fun s39 =>
  cond (icmp .lss s39.2 (ln a0.nodes)) (
  bnd (gt a0.nodes s39.2) fun y40 =>
  bnd (iNodeText y40) fun r41 =>
  ck (Room (plus (ln s39.1) 1) 16) <|
  some (.inl (ap s39.1 [r41], iop .add .i64 s39.2 1))) (
  some (.inr (s39.1)))) ([ap (ap [66, 65, 83, 78] r5) r7, a21], 0) : Option ((List (List UInt8)))) <| fun a33 =>
  ck (Room (plus (ln a33) (ln a0.data)) 16) <|
  some ((some (ap a33 a0.data)))) (
  some (none))

noncomputable def iDiskFor (a0 : FsD) : Option (DiskD × Bool) :=
  bnd (iFsBlocks a0) fun r2 => oc r2 (
  some (((⟨[], []⟩ : DiskD), false))) fun r2 =>
  nq (r2 = []) fun n6 =>
  cond n6 (
  some (((⟨[], []⟩ : DiskD), false))) (
  ck (InS 0 (iop .add .i64 (ln r2) 1) (iop .add .i64 (ln r2) 1)) <|
  ck (Room (iop .add .i64 (ln r2) 1) 16) <|
  ck (Room (plus (ln (rp (iop .add .i64 (ln r2) 1) ([] : List UInt8))) (ln r2)) 16) <|
  some (((⟨ap (rp (iop .add .i64 (ln r2) 1) ([] : List UInt8)) r2, []⟩ : DiskD), true)))

noncomputable def sl1In (a0 : Int) (a1 : Int) (a2 : Int) : Option (Bool) :=
  cond (icmp .geq a0 a1) (
  some (icmp .leq a0 a2)) (
  some (false))

noncomputable def sBlocksFor (a0 : Int) : Option (Int) :=
  cond (icmp .leq a0 0) (
  some (0)) (
  cond (icmp .geq a0 80) (
  some (5)) (
  some (iop .quo .i64 (iop .sub .i64 (iop .add .i64 a0 16) 1) 16)))

noncomputable def sl1Has (a0 : List Int) (a1 : Int) : Option (Bool) :=
  bnd (lp (σ := Int) (ρ := (Unit) ⊕ (Bool)) (fun s11 =>
  cond (icmp .lss s11 (ln a0)) (
  bnd (gt a0 s11) fun y12 =>
  cond (icmp .eql y12 a1) (
  some (.inr (.inr (true)))) (
  some (.inl (iop .add .i64 s11 1)))) (
  some (.inr (.inl ())))) 0 : Option ((Unit) ⊕ (Bool))) <| Sum.elim (fun a8 =>
  some (false)) some

noncomputable def sNodeOk (a0 : NodeD) : Option (Bool) :=
  cond (icmp .eql a0.kind 0) (
  cond (icmp .eql a0.gen 0) (
  cond (icmp .eql a0.time 0) (
  cond (icmp .eql a0.size 0) (
  some (icmp .eql (ln a0.blocks) 0)) (
  some (false))) (
  some (false))) (
  some (false))) (
  bnd (sl1In a0.kind 1 3) fun r14 =>
  cond r14 (
  bnd (sl1In a0.gen 0 1000000) fun r15 =>
  cond r15 (
  bnd (sl1In a0.time 0 100000) fun r16 =>
  cond r16 (
  bnd (sl1In a0.size 0 80) fun r17 =>
  cond r17 (
  bnd (sBlocksFor a0.size) fun r18 =>
  cond (icmp .neq (ln a0.blocks) r18) (
  some (false)) (
  bnd (cond (icmp .eql a0.kind 2) (
  cond (icmp .neq a0.gen 0) (
  some (.inr (false))) (
  cond (icmp .neq a0.time 0) (
  some (.inr (false))) (
  some (.inl ())))) (
  some (.inl ())) : Option ((Unit) ⊕ (Bool))) <| Sum.elim (fun a20 =>
  bnd (lp (σ := Int) (ρ := (Unit) ⊕ (Bool)) (fun s45 =>
  cond (icmp .lss s45 (ln a0.blocks)) (
  bnd (gt a0.blocks s45) fun y46 =>
  bnd (sl1In y46 0 35) fun r47 =>
  cond r47 (
  ck (InS 0 s45 (ln a0.blocks)) <|
  bnd (sl1Has (sb a0.blocks 0 s45) y46) fun r48 =>
  cond r48 (
  some (.inr (.inr (false)))) (
  some (.inl (iop .add .i64 s45 1)))) (
  some (.inr (.inr (false))))) (
  some (.inr (.inl ())))) 0 : Option ((Unit) ⊕ (Bool))) <| Sum.elim (fun a38 =>
  some (true)) some) some)) (
  some (false))) (
  some (false))) (
  some (false))) (
  some (false)))

noncomputable def sl6Used (a0 : FsD) : Option ((List Int)) :=
  ck (InS 0 (iop .add .i64 (ln a0.data) 1) (iop .add .i64 (ln a0.data) 1)) <|
  ck (Room (iop .add .i64 (ln a0.data) 1) 8) <|
  bnd (lp (σ := (List Int) × Int) (ρ := (List Int)) (fun s102 =>
  cond (icmp .lss s102.2 (ln a0.nodes)) (
  bnd (lp (σ := (List Int) × Int) (ρ := (List Int)) (fun s131 =>
  bnd (gt a0.nodes s102.2) fun y132 =>
  cond (icmp .lss s131.2 (ln y132.blocks)) (
  bnd (gt y132.blocks s131.2) fun y133 =>
  bnd (sl1In y133 0 (iop .sub .i64 (ln a0.data) 1)) fun r134 =>
  cond r134 (
  bnd (gt s131.1 y133) fun y135 =>
  some (.inl (sl s131.1 y133 (iop .add .i64 y135 1), iop .add .i64 s131.2 1))) (
  bnd (gt s131.1 (ln a0.data)) fun y136 =>
  some (.inl (sl s131.1 (ln a0.data) (iop .add .i64 y136 1), iop .add .i64 s131.2 1)))) (
  some (.inr (s131.1)))) (s102.1, 0) : Option ((List Int))) <| fun a120 =>
  some (.inl (a120, iop .add .i64 s102.2 1))) (
  some (.inr (s102.1)))) (rp (iop .add .i64 (ln a0.data) 1) (0 : Int), 0) : Option ((List Int))) <| fun a65 =>
  some (a65)

noncomputable def sl1Min (a0 : Int) (a1 : Int) : Option (Int) :=
  cond (icmp .lss a0 a1) (
  some (a0)) (
  some (a1))

noncomputable def sl6Long (a0 : Int) (a1 : Int) : Option (Int) :=
  bnd (sl1Min 16 (iop .sub .i64 a0 (iop .mul .i64 a1 16))) fun r2 =>
  some (r2)

noncomputable def sShapeOk (a0 : FsD) : Option (Bool) :=
  bnd (sl1In (ln a0.nodes) 2 10) fun r7 =>
  cond r7 (
  bnd (sl1In (ln a0.data) 1 36) fun r8 =>
  cond r8 (
  bnd (gt a0.nodes 0) fun y9 =>
  cond (icmp .neq y9.kind 2) (
  some (false)) (
  bnd (lp (σ := Int) (ρ := (Unit) ⊕ (Bool)) (fun s163 =>
  cond (icmp .lss s163 (ln a0.nodes)) (
  bnd (gt a0.nodes s163) fun y164 =>
  bnd (sNodeOk y164) fun r165 =>
  cond r165 (
  some (.inl (iop .add .i64 s163 1))) (
  some (.inr (.inr (false))))) (
  some (.inr (.inl ())))) 0 : Option ((Unit) ⊕ (Bool))) <| Sum.elim (fun a19 =>
  bnd (sl6Used a0) fun r21 =>
  bnd (gt r21 (ln a0.data)) fun y24 =>
  cond (icmp .gtr y24 0) (
  some (false)) (
  bnd (lp (σ := Int) (ρ := (Unit) ⊕ (Bool)) (fun s149 =>
  cond (icmp .lss s149 (ln a0.data)) (
  bnd (gt r21 s149) fun y150 =>
  cond (icmp .gtr y150 1) (
  some (.inr (.inr (false)))) (
  cond (icmp .eql y150 0) (
  bnd (gt a0.data s149) fun y151 =>
  cond (scmp .neq y151 []) (
  some (.inr (.inr (false)))) (
  cond (icmp .gtr (slen y151) 16) (
  some (.inr (.inr (false)))) (
  some (.inl (iop .add .i64 s149 1))))) (
  bnd (gt a0.data s149) fun y154 =>
  cond (icmp .gtr (slen y154) 16) (
  some (.inr (.inr (false)))) (
  some (.inl (iop .add .i64 s149 1)))))) (
  some (.inr (.inl ())))) 0 : Option ((Unit) ⊕ (Bool))) <| Sum.elim (fun a42 =>
  bnd (lp (σ := Int) (ρ := (Unit) ⊕ (Bool)) (fun s115 =>
  cond (icmp .lss s115 (ln a0.nodes)) (
  bnd (bnd (gt a0.nodes s115) fun y129 =>
  lp (σ := Int) (ρ := (Unit) ⊕ ((Int) ⊕ ((Unit) ⊕ (Bool)))) (fun s136 =>
  cond (icmp .lss s136 (ln y129.blocks)) (
  bnd (gt y129.blocks s136) fun y137 =>
  bnd (gt a0.data y137) fun y138 =>
  bnd (sl6Long y129.size s136) fun r139 =>
  cond (icmp .neq (slen y138) r139) (
  some (.inr (.inr (.inr (.inr (false)))))) (
  some (.inl (iop .add .i64 s136 1)))) (
  some (.inr (.inl ())))) 0 : Option ((Unit) ⊕ ((Int) ⊕ ((Unit) ⊕ (Bool))))) <| Sum.elim (fun a128 =>
  some (.inl (iop .add .i64 s115 1))) some) (
  some (.inr (.inl ())))) 0 : Option ((Unit) ⊕ (Bool))) <| Sum.elim (fun a89 =>
  some (true)) some) some)) some)) (
  some (false))) (
  some (false))

noncomputable def sHomesOf (a0 : FsD) : Option (Int) :=
  bnd (sShapeOk a0) fun r3 =>
  cond r3 (
  some (iop .add .i64 (iop .add .i64 2 (ln a0.nodes)) (ln a0.data))) (
  some (0))

noncomputable def sPutNum (a0 : Int) : Option ((List UInt8)) :=
  bnd (sl1In a0 0 2147483647) fun r3 =>
  cond r3 (
  bnd (lp (σ := Int × (List UInt8)) (ρ := Int × (List UInt8)) (fun s8 =>
  cond (icmp .gtr s8.1 127) (
  ck (Room (plus (ln s8.2) 1) 1) <|
  some (.inl (iop .quo .i64 s8.1 128, ap s8.2 [(i2b (wrp .u8 (iop .add .i64 (iop .rem .i64 s8.1 128) 128)))]))) (
  some (.inr ((s8.1, s8.2))))) (a0, []) : Option (Int × (List UInt8))) <| fun a6 =>
  ck (Room (plus (ln a6.2) 1) 1) <|
  some (ap a6.2 [(i2b (wrp .u8 a6.1))])) (
  some ([]))

noncomputable def sl6Power (a0 : Int) : Option (Int) :=
  bnd (lp (σ := Int × Int) (ρ := Int) (fun s4 =>
  cond (icmp .lss s4.2 a0) (
  some (.inl (iop .mul .i64 s4.1 2, iop .add .i64 s4.2 1))) (
  some (.inr (s4.1)))) (1, 0) : Option (Int)) <| fun a3 =>
  some (a3)

noncomputable def sNodeText (a0 : NodeD) : Option ((List UInt8)) :=
  bnd (sNodeOk a0) fun r3 =>
  cond r3 (
  cond (icmp .eql a0.kind 0) (
  some ([(i2b (wrp .u8 a0.kind))])) (
  bnd (sPutNum a0.gen) fun r5 =>
  ck (Room (plus 1 (ln r5)) 1) <|
  bnd (sPutNum a0.time) fun r7 =>
  ck (Room (plus (ln (ap [(i2b (wrp .u8 a0.kind))] r5)) (ln r7)) 1) <|
  bnd (sPutNum a0.size) fun r9 =>
  ck (Room (plus (ln (ap (ap [(i2b (wrp .u8 a0.kind))] r5) r7)) (ln r9)) 1) <|
  bnd (lp (σ := (List UInt8) × Int) (ρ := (List UInt8)) (fun s25 =>
  cond (icmp .lss s25.2 (ln a0.blocks)) (
  bnd (gt a0.blocks s25.2) fun y26 =>
  bnd (sPutNum y26) fun r27 =>
  ck (Room (plus (ln s25.1) (ln r27)) 1) <|
  some (.inl (ap s25.1 r27, iop .add .i64 s25.2 1))) (
  some (.inr (s25.1)))) (ap (ap (ap [(i2b (wrp .u8 a0.kind))] r5) r7) r9, 0) : Option ((List UInt8))) <| fun a20 =>
  some (a20))) (
  some ([]))

noncomputable def sFsBlocks (a0 : FsD) : Option ((List (List UInt8))) :=
  bnd (sShapeOk a0) fun r3 =>
  cond r3 (
  bnd (sPutNum (ln a0.nodes)) fun r5 =>
  ck (Room (plus 4 (ln r5)) 1) <|
  bnd (sPutNum (ln a0.data)) fun r7 =>
  ck (Room (plus (ln (ap [66, 65, 83, 78] r5)) (ln r7)) 1) <|
  ck (InS 0 (iop .quo .i64 (iop .add .i64 (ln a0.data) 7) 8) (iop .quo .i64 (iop .add .i64 (ln a0.data) 7) 8)) <|
  ck (Room (iop .quo .i64 (iop .add .i64 (ln a0.data) 7) 8) 1) <|
  bnd (sl6Used a0) fun r9 =>
  bnd (lp (σ := (List UInt8) × Int) (ρ := (List UInt8)) (fun s54 =>
  cond (icmp .lss s54.2 (ln a0.data)) (
  bnd (gt r9 s54.2) fun y55 =>
  cond (icmp .gtr y55 0) (
  bnd (gt s54.1 (iop .quo .i64 s54.2 8)) fun y56 =>
  bnd (sl6Power (iop .rem .i64 s54.2 8)) fun r57 =>
  some (.inl (sl s54.1 (iop .quo .i64 s54.2 8) (i2b (iop .add .u8 (b2i y56) (wrp .u8 r57))), iop .add .i64 s54.2 1))) (
  some (.inl (s54.1, iop .add .i64 s54.2 1)))) (
  some (.inr (s54.1)))) (rp (iop .quo .i64 (iop .add .i64 (ln a0.data) 7) 8) (0 : UInt8), 0) : Option ((List UInt8))) <| fun a25 =>
  ck (Room (plus 1 1) 16) <|
  bnd (lp (σ := (List (List UInt8)) × Int) (ρ := (List (List UInt8))) (fun s42 =>
  cond (icmp .lss s42.2 (ln a0.nodes)) (
  bnd (gt a0.nodes s42.2) fun y43 =>
  bnd (sNodeText y43) fun r44 =>
  ck (Room (plus (ln s42.1) 1) 16) <|
  some (.inl (ap s42.1 [r44], iop .add .i64 s42.2 1))) (
  some (.inr (s42.1)))) (ap [ap (ap [66, 65, 83, 78] r5) r7] [a25], 0) : Option ((List (List UInt8)))) <| fun a36 =>
  ck (Room (plus (ln a36) (ln a0.data)) 16) <|
  some (ap a36 a0.data)) (
  some ([]))

noncomputable def sDiskFor (a0 : FsD) : Option (DiskD × Bool) :=
  bnd (sHomesOf a0) fun r2 =>
  cond (icmp .eql r2 0) (
  some (((⟨[], []⟩ : DiskD), false))) (
  bnd (sFsBlocks a0) fun r4 =>
  ck (InS 0 (iop .add .i64 r2 1) (iop .add .i64 r2 1)) <|
  ck (Room (iop .add .i64 r2 1) 16) <|
  ck (Room (plus (ln (rp (iop .add .i64 r2 1) ([] : List UInt8))) (ln r4)) 16) <|
  some (((⟨ap (rp (iop .add .i64 r2 1) ([] : List UInt8)) r4, []⟩ : DiskD), true)))

end Go.Ar
