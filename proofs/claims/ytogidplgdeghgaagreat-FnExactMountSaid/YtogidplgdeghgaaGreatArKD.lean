import Derived.Test.YtogidplgdeghgaaGreatArDcN
section
namespace Go.Ar
open Go.Proofs
set_option linter.unusedVariables false
set_option linter.unusedSimpArgs false
set_option maxRecDepth 20000
set_option maxHeartbeats 40000000
noncomputable def iwithin (a0 : Int) (a1 : Int) (a2 : Int) : Option (Bool) :=
 cond (icmp .geq a0 a1) (
 some (icmp .leq a0 a2)) (
 some (false))
noncomputable def iBlocksFor (a0 : Int) : Option (Int) :=
 cond (icmp .leq a0 0) (
 some (0)) (
 cond (icmp .gtr a0 80) (
 some (5)) (
 some (iop .quo .i64 (iop .sub .i64 (iop .add .i64 a0 16) 1) 16)))
noncomputable def gslices_Index_int (a0 : List Int) (a1 : Int) : Option (Int) :=
 bnd (lp (σ := Int) (ρ := (Unit) ⊕ (Int)) (fun s11 =>
 cond (icmp .lss s11 (ln a0)) (
 bnd (gt a0 s11) fun y12 =>
 cond (icmp .eql a1 y12) (
 some (.inr (.inr (s11)))) (
 some (.inl (iop .add .i64 s11 1)))) (
 some (.inr (.inl ())))) 0 : Option ((Unit) ⊕ (Int))) <| Sum.elim (fun a8 =>
 some (-1)) some
noncomputable def gslices_Contains_int (a0 : List Int) (a1 : Int) : Option (Bool) :=
 bnd (gslices_Index_int a0 a1) fun r2 =>
 some (icmp .geq r2 0)
noncomputable def iNodeOk (a0 : NodeD) : Option (Bool) :=
 cond (icmp .eql a0.kind 0) (
 cond (icmp .eql a0.gen 0) (
 cond (icmp .eql a0.time 0) (
 cond (icmp .eql a0.size 0) (
 some (icmp .eql (ln a0.blocks) 0)) (
 some (false))) (
 some (false))) (
 some (false))) (
 bnd (iwithin a0.kind 1 3) fun r12 =>
 cond r12 (
 bnd (iwithin a0.gen 0 1000000) fun r13 =>
 cond r13 (
 bnd (iwithin a0.time 0 100000) fun r14 =>
 cond r14 (
 bnd (iwithin a0.size 0 80) fun r15 =>
 cond r15 (
 bnd (cond (icmp .eql a0.kind 2) (
 cond (icmp .neq a0.gen 0) (
 some (.inr (false))) (
 cond (icmp .neq a0.time 0) (
 some (.inr (false))) (
 bnd (iBlocksFor a0.size) fun r54 =>
 cond (icmp .neq (ln a0.blocks) r54) (
 some (.inr (false))) (
 some (.inl ()))))) (
 bnd (iBlocksFor a0.size) fun r58 =>
 cond (icmp .neq (ln a0.blocks) r58) (
 some (.inr (false))) (
 some (.inl ()))) : Option ((Unit) ⊕ (Bool))) <| Sum.elim (fun a23 =>
 bnd (lp (σ := Int) (ρ := (Unit) ⊕ (Bool)) (fun s48 =>
 cond (icmp .lss s48 (ln a0.blocks)) (
 bnd (gt a0.blocks s48) fun y49 =>
 bnd (iwithin y49 0 35) fun r50 =>
 cond r50 (
 ck (InS 0 s48 (ln a0.blocks)) <|
 bnd (gslices_Contains_int (sb a0.blocks 0 s48) y49) fun r51 =>
 cond r51 (
 some (.inr (.inr (false)))) (
 some (.inl (iop .add .i64 s48 1)))) (
 some (.inr (.inr (false))))) (
 some (.inr (.inl ())))) 0 : Option ((Unit) ⊕ (Bool))) <| Sum.elim (fun a41 =>
 some (true)) some) some) (
 some (false))) (
 some (false))) (
 some (false))) (
 some (false)))
noncomputable def iShapeOk_1 (a0 : NodeD) : Option (Bool) :=
 bnd (iNodeOk a0) fun r2 =>
 some ((!r2))
noncomputable def gslices_IndexFunc_Node_iShapeOk_1 (a0 : List NodeD) : Option (Int) :=
 bnd (lp (σ := Int) (ρ := (Unit) ⊕ (Int)) (fun s18 =>
 cond (icmp .lss s18 (ln a0)) (
 bnd (gt a0 s18) fun y19 =>
 bnd (iShapeOk_1 y19) fun r20 =>
 cond r20 (
 some (.inr (.inr (s18)))) (
 some (.inl (iop .add .i64 s18 1)))) (
 some (.inr (.inl ())))) 0 : Option ((Unit) ⊕ (Int))) <| Sum.elim (fun a13 =>
 some (-1)) some
noncomputable def gslices_ContainsFunc_Node_iShapeOk_1 (a0 : List NodeD) : Option (Bool) :=
 bnd (gslices_IndexFunc_Node_iShapeOk_1 a0) fun r2 =>
 some (icmp .geq r2 0)
noncomputable def gmath_bits_Mul64 (a0 : Int) (a1 : Int) : Option (Int × Int) :=
 some ((iop .add .u64 (iop .add .u64 (iop .mul .u64 (iop .shr .u64 a0 32) (iop .shr .u64 a1 32)) (iop .shr .u64 (iop .add .u64 (iop .mul .u64 (iop .shr .u64 a0 32) (iop .and .u64 a1 4294967295)) (iop .shr .u64 (iop .mul .u64 (iop .and .u64 a0 4294967295) (iop .and .u64 a1 4294967295)) 32)) 32)) (iop .shr .u64 (iop .add .u64 (iop .and .u64 (iop .add .u64 (iop .mul .u64 (iop .shr .u64 a0 32) (iop .and .u64 a1 4294967295)) (iop .shr .u64 (iop .mul .u64 (iop .and .u64 a0 4294967295) (iop .and .u64 a1 4294967295)) 32)) 4294967295) (iop .mul .u64 (iop .and .u64 a0 4294967295) (iop .shr .u64 a1 32))) 32), iop .mul .u64 a0 a1))
noncomputable def gmath_bits_Mul (a0 : Int) (a1 : Int) : Option (Int × Int) :=
 bnd (gmath_bits_Mul64 a0 a1) fun r2 =>
 some ((r2.1, r2.2))
noncomputable def gslices_Repeat_int (a0 : List Int) (a1 : Int) : Option ((List Int)) :=
 cond (icmp .lss a1 0) (
 none) (
 bnd (gmath_bits_Mul (wrp .u64 (ln a0)) (wrp .u64 a1)) fun r2 =>
 cond (icmp .gtr r2.1 0) (
 none) (
 cond (icmp .gtr r2.2 9223372036854775807) (
 none) (
 ck (InS 0 (wrp .i64 r2.2) (wrp .i64 r2.2)) <|
 ck (Room (wrp .i64 r2.2) 8) <|
 bnd (lp (σ := (List Int) × Int) (ρ := (List Int)) (fun s6 =>
 cond (icmp .lss s6.2 (ln s6.1)) (
 ck (InS s6.2 (ln s6.1) (ln s6.1)) <|
 ck (InS 0 s6.2 (ln s6.1)) <|
 some (.inl (cpl (some (s6.2, ln s6.1)) s6.1 (sb s6.1 0 s6.2), iop .add .i64 s6.2 (cpc (some (s6.2, ln s6.1)) s6.1 (sb s6.1 0 s6.2))))) (
 some (.inr (s6.1)))) (cpl none (rp (wrp .i64 r2.2) (0 : Int)) a0, cpc none (rp (wrp .i64 r2.2) (0 : Int)) a0) : Option ((List Int))) <| fun a5 =>
 some (a5))))
noncomputable def iowners (a0 : FsD) : Option ((List Int) × Bool) :=
 bnd (gslices_Repeat_int [-1] (ln a0.data)) fun r2 =>
 bnd (lp (σ := (List Int) × Int) (ρ := ((List Int)) ⊕ ((List Int) × Bool)) (fun s62 =>
 cond (icmp .lss s62.2 (ln a0.nodes)) (
 bnd (bnd (gt a0.nodes s62.2) fun y73 =>
 lp (σ := (List Int) × Int) (ρ := ((List Int)) ⊕ (((List Int) × Int) ⊕ (((List Int)) ⊕ ((List Int) × Bool)))) (fun s78 =>
 cond (icmp .lss s78.2 (ln y73.blocks)) (
 bnd (gt y73.blocks s78.2) fun y79 =>
 cond (icmp .geq y79 (ln a0.data)) (
 some (.inr (.inr (.inr (.inr (([], false))))))) (
 bnd (gt s78.1 y79) fun y80 =>
 cond (icmp .geq y80 0) (
 some (.inr (.inr (.inr (.inr (([], false))))))) (
 some (.inl (sl s78.1 y79 s62.2, iop .add .i64 s78.2 1))))) (
 some (.inr (.inl s78.1)))) (s62.1, 0) : Option (((List Int)) ⊕ (((List Int) × Int) ⊕ (((List Int)) ⊕ ((List Int) × Bool))))) <| Sum.elim (fun a72 =>
 some (.inl (a72, iop .add .i64 s62.2 1))) some) (
 some (.inr (.inl s62.1)))) (r2, 0) : Option (((List Int)) ⊕ ((List Int) × Bool))) <| Sum.elim (fun a41 =>
 some ((a41, true))) some
noncomputable def iShapeOk (a0 : FsD) : Option (Bool) :=
 bnd (iwithin (ln a0.nodes) 2 10) fun r7 =>
 cond r7 (
 bnd (iwithin (ln a0.data) 1 36) fun r8 =>
 cond r8 (
 bnd (gt a0.nodes 0) fun y9 =>
 cond (icmp .neq y9.kind 2) (
 some (false)) (
 bnd (gslices_ContainsFunc_Node_iShapeOk_1 a0.nodes) fun r12 =>
 cond r12 (
 some (false)) (
 bnd (iowners a0) fun r14 =>
 cond r14.2 (
 bnd (lp (σ := Int) (ρ := (Unit) ⊕ (Bool)) (fun s110 =>
 cond (icmp .lss s110 (ln a0.data)) (
 bnd (gt a0.data s110) fun y111 =>
 cond (icmp .gtr (slen y111) 16) (
 some (.inr (.inr (false)))) (
 bnd (gt r14.1 s110) fun y112 =>
 cond (icmp .lss y112 0) (
 cond (scmp .neq y111 []) (
 some (.inr (.inr (false)))) (
 some (.inl (iop .add .i64 s110 1)))) (
 some (.inl (iop .add .i64 s110 1))))) (
 some (.inr (.inl ())))) 0 : Option ((Unit) ⊕ (Bool))) <| Sum.elim (fun a27 =>
 bnd (lp (σ := Int) (ρ := (Unit) ⊕ (Bool)) (fun s84 =>
 cond (icmp .lss s84 (ln a0.nodes)) (
 bnd (bnd (gt a0.nodes s84) fun y95 =>
 lp (σ := Int × Int) (ρ := (Unit) ⊕ ((Int) ⊕ ((Unit) ⊕ (Bool)))) (fun s100 =>
 cond (icmp .lss s100.2 (ln y95.blocks)) (
 bnd (gt y95.blocks s100.2) fun y101 =>
 bnd (gt a0.data y101) fun y102 =>
 cond (icmp .neq (slen y102) (imin s100.1 16)) (
 some (.inr (.inr (.inr (.inr (false)))))) (
 some (.inl (iop .sub .i64 s100.1 16, iop .add .i64 s100.2 1)))) (
 some (.inr (.inl ())))) (y95.size, 0) : Option ((Unit) ⊕ ((Int) ⊕ ((Unit) ⊕ (Bool))))) <| Sum.elim (fun a94 =>
 some (.inl (iop .add .i64 s84 1))) some) (
 some (.inr (.inl ())))) 0 : Option ((Unit) ⊕ (Bool))) <| Sum.elim (fun a64 =>
 some (true)) some) some) (
 some (false))))) (
 some (false))) (
 some (false))
noncomputable def iPutNum (a0 : Int) : Option ((List UInt8)) :=
 bnd (iwithin a0 0 2147483647) fun r3 =>
 cond r3 (
 bnd (lp (σ := Int × (List UInt8)) (ρ := Int × (List UInt8)) (fun s8 =>
 cond (icmp .geq s8.1 128) (
 ck (Room (plus (ln s8.2) 1) 1) <|
 some (.inl (iop .shr .i64 s8.1 7, ap s8.2 [(i2b (wrp .u8 (iop .or .i64 (iop .and .i64 s8.1 127) 128)))]))) (
 some (.inr ((s8.1, s8.2))))) (a0, []) : Option (Int × (List UInt8))) <| fun a6 =>
 ck (Room (plus (ln a6.2) 1) 1) <|
 some (ap a6.2 [(i2b (wrp .u8 a6.1))])) (
 some ([]))
noncomputable def iNodeText (a0 : NodeD) : Option ((List UInt8)) :=
 bnd (iNodeOk a0) fun r3 =>
 cond r3 (
 bnd (cond (icmp .neq a0.kind 0) (
 ck (Room (plus 3 (ln a0.blocks)) 8) <|
 lp (σ := (List UInt8) × Int) (ρ := (List UInt8)) (fun s20 =>
 cond (icmp .lss s20.2 (ln (ap [a0.gen, a0.time, a0.size] a0.blocks))) (
 bnd (gt (ap [a0.gen, a0.time, a0.size] a0.blocks) s20.2) fun y21 =>
 bnd (iPutNum y21) fun r22 =>
 ck (Room (plus (ln s20.1) (ln r22)) 1) <|
 some (.inl (ap s20.1 r22, iop .add .i64 s20.2 1))) (
 some (.inr (s20.1)))) ([(i2b (wrp .u8 a0.kind))], 0)) (
 some ([(i2b (wrp .u8 a0.kind))])) : Option ((List UInt8))) <| fun a15 =>
 some (a15)) (
 some ([]))
noncomputable def iFsBlocks (a0 : FsD) : Option ((Option (List (List UInt8)))) :=
 bnd (iShapeOk a0) fun r3 =>
 cond r3 (
 bnd (iPutNum (ln a0.nodes)) fun r5 =>
 ck (Room (plus 4 (ln r5)) 1) <|
 bnd (iPutNum (ln a0.data)) fun r7 =>
 ck (Room (plus (ln (ap [66, 65, 83, 78] r5)) (ln r7)) 1) <|
 bnd (iowners a0) fun r9 =>
 ck (InS 0 (iop .quo .i64 (iop .add .i64 (ln a0.data) 7) 8) (iop .quo .i64 (iop .add .i64 (ln a0.data) 7) 8)) <|
 ck (Room (iop .quo .i64 (iop .add .i64 (ln a0.data) 7) 8) 1) <|
 bnd (lp (σ := (List UInt8) × Int) (ρ := (List UInt8)) (fun s48 =>
 cond (icmp .lss s48.2 (ln r9.1)) (
 bnd (gt r9.1 s48.2) fun y49 =>
 cond (icmp .geq y49 0) (
 bnd (gt s48.1 (iop .quo .i64 s48.2 8)) fun y50 =>
 ck (icmp .geq (iop .rem .i64 s48.2 8) 0 = true) <|
 some (.inl (sl s48.1 (iop .quo .i64 s48.2 8) (i2b (iop .or .u8 (b2i y50) (iop .shl .u8 1 (iop .rem .i64 s48.2 8)))), iop .add .i64 s48.2 1))) (
 some (.inl (s48.1, iop .add .i64 s48.2 1)))) (
 some (.inr (s48.1)))) (rp (iop .quo .i64 (iop .add .i64 (ln a0.data) 7) 8) (0 : UInt8), 0) : Option ((List UInt8))) <| fun a21 =>
 bnd (lp (σ := (List (List UInt8)) × Int) (ρ := (List (List UInt8))) (fun s39 =>
 cond (icmp .lss s39.2 (ln a0.nodes)) (
 bnd (gt a0.nodes s39.2) fun y40 =>
 bnd (iNodeText y40) fun r41 =>
 ck (Room (plus (ln s39.1) 1) 16) <|
 some (.inl (ap s39.1 [r41], iop .add .i64 s39.2 1))) (
 some (.inr (s39.1)))) ([ap (ap [66, 65, 83, 78] r5) r7, a21], 0) : Option ((List (List UInt8)))) <| fun a33 =>
 ck (Room (plus (ln a33) (ln a0.data)) 16) <|
 some ((some (ap a33 a0.data)))) (
 some (none))
noncomputable def sl1In (a0 : Int) (a1 : Int) (a2 : Int) : Option (Bool) :=
 cond (icmp .geq a0 a1) (
 some (icmp .leq a0 a2)) (
 some (false))
noncomputable def sBlocksFor (a0 : Int) : Option (Int) :=
 cond (icmp .leq a0 0) (
 some (0)) (
 cond (icmp .geq a0 80) (
 some (5)) (
 some (iop .quo .i64 (iop .sub .i64 (iop .add .i64 a0 16) 1) 16)))
noncomputable def sl1Has (a0 : List Int) (a1 : Int) : Option (Bool) :=
 bnd (lp (σ := Int) (ρ := (Unit) ⊕ (Bool)) (fun s11 =>
 cond (icmp .lss s11 (ln a0)) (
 bnd (gt a0 s11) fun y12 =>
 cond (icmp .eql y12 a1) (
 some (.inr (.inr (true)))) (
 some (.inl (iop .add .i64 s11 1)))) (
 some (.inr (.inl ())))) 0 : Option ((Unit) ⊕ (Bool))) <| Sum.elim (fun a8 =>
 some (false)) some
noncomputable def sNodeOk (a0 : NodeD) : Option (Bool) :=
 cond (icmp .eql a0.kind 0) (
 cond (icmp .eql a0.gen 0) (
 cond (icmp .eql a0.time 0) (
 cond (icmp .eql a0.size 0) (
 some (icmp .eql (ln a0.blocks) 0)) (
 some (false))) (
 some (false))) (
 some (false))) (
 bnd (sl1In a0.kind 1 3) fun r14 =>
 cond r14 (
 bnd (sl1In a0.gen 0 1000000) fun r15 =>
 cond r15 (
 bnd (sl1In a0.time 0 100000) fun r16 =>
 cond r16 (
 bnd (sl1In a0.size 0 80) fun r17 =>
 cond r17 (
 bnd (sBlocksFor a0.size) fun r18 =>
 cond (icmp .neq (ln a0.blocks) r18) (
 some (false)) (
 bnd (cond (icmp .eql a0.kind 2) (
 cond (icmp .neq a0.gen 0) (
 some (.inr (false))) (
 cond (icmp .neq a0.time 0) (
 some (.inr (false))) (
 some (.inl ())))) (
 some (.inl ())) : Option ((Unit) ⊕ (Bool))) <| Sum.elim (fun a20 =>
 bnd (lp (σ := Int) (ρ := (Unit) ⊕ (Bool)) (fun s45 =>
 cond (icmp .lss s45 (ln a0.blocks)) (
 bnd (gt a0.blocks s45) fun y46 =>
 bnd (sl1In y46 0 35) fun r47 =>
 cond r47 (
 ck (InS 0 s45 (ln a0.blocks)) <|
 bnd (sl1Has (sb a0.blocks 0 s45) y46) fun r48 =>
 cond r48 (
 some (.inr (.inr (false)))) (
 some (.inl (iop .add .i64 s45 1)))) (
 some (.inr (.inr (false))))) (
 some (.inr (.inl ())))) 0 : Option ((Unit) ⊕ (Bool))) <| Sum.elim (fun a38 =>
 some (true)) some) some)) (
 some (false))) (
 some (false))) (
 some (false))) (
 some (false)))
noncomputable def sl6Used (a0 : FsD) : Option ((List Int)) :=
 ck (InS 0 (iop .add .i64 (ln a0.data) 1) (iop .add .i64 (ln a0.data) 1)) <|
 ck (Room (iop .add .i64 (ln a0.data) 1) 8) <|
 bnd (lp (σ := (List Int) × Int) (ρ := (List Int)) (fun s102 =>
 cond (icmp .lss s102.2 (ln a0.nodes)) (
 bnd (lp (σ := (List Int) × Int) (ρ := (List Int)) (fun s131 =>
 bnd (gt a0.nodes s102.2) fun y132 =>
 cond (icmp .lss s131.2 (ln y132.blocks)) (
 bnd (gt y132.blocks s131.2) fun y133 =>
 bnd (sl1In y133 0 (iop .sub .i64 (ln a0.data) 1)) fun r134 =>
 cond r134 (
 bnd (gt s131.1 y133) fun y135 =>
 some (.inl (sl s131.1 y133 (iop .add .i64 y135 1), iop .add .i64 s131.2 1))) (
 bnd (gt s131.1 (ln a0.data)) fun y136 =>
 some (.inl (sl s131.1 (ln a0.data) (iop .add .i64 y136 1), iop .add .i64 s131.2 1)))) (
 some (.inr (s131.1)))) (s102.1, 0) : Option ((List Int))) <| fun a120 =>
 some (.inl (a120, iop .add .i64 s102.2 1))) (
 some (.inr (s102.1)))) (rp (iop .add .i64 (ln a0.data) 1) (0 : Int), 0) : Option ((List Int))) <| fun a65 =>
 some (a65)
noncomputable def sl1Min (a0 : Int) (a1 : Int) : Option (Int) :=
 cond (icmp .lss a0 a1) (
 some (a0)) (
 some (a1))
noncomputable def sl6Long (a0 : Int) (a1 : Int) : Option (Int) :=
 bnd (sl1Min 16 (iop .sub .i64 a0 (iop .mul .i64 a1 16))) fun r2 =>
 some (r2)
noncomputable def sShapeOk (a0 : FsD) : Option (Bool) :=
 bnd (sl1In (ln a0.nodes) 2 10) fun r7 =>
 cond r7 (
 bnd (sl1In (ln a0.data) 1 36) fun r8 =>
 cond r8 (
 bnd (gt a0.nodes 0) fun y9 =>
 cond (icmp .neq y9.kind 2) (
 some (false)) (
 bnd (lp (σ := Int) (ρ := (Unit) ⊕ (Bool)) (fun s163 =>
 cond (icmp .lss s163 (ln a0.nodes)) (
 bnd (gt a0.nodes s163) fun y164 =>
 bnd (sNodeOk y164) fun r165 =>
 cond r165 (
 some (.inl (iop .add .i64 s163 1))) (
 some (.inr (.inr (false))))) (
 some (.inr (.inl ())))) 0 : Option ((Unit) ⊕ (Bool))) <| Sum.elim (fun a19 =>
 bnd (sl6Used a0) fun r21 =>
 bnd (gt r21 (ln a0.data)) fun y24 =>
 cond (icmp .gtr y24 0) (
 some (false)) (
 bnd (lp (σ := Int) (ρ := (Unit) ⊕ (Bool)) (fun s149 =>
 cond (icmp .lss s149 (ln a0.data)) (
 bnd (gt r21 s149) fun y150 =>
 cond (icmp .gtr y150 1) (
 some (.inr (.inr (false)))) (
 cond (icmp .eql y150 0) (
 bnd (gt a0.data s149) fun y151 =>
 cond (scmp .neq y151 []) (
 some (.inr (.inr (false)))) (
 cond (icmp .gtr (slen y151) 16) (
 some (.inr (.inr (false)))) (
 some (.inl (iop .add .i64 s149 1))))) (
 bnd (gt a0.data s149) fun y154 =>
 cond (icmp .gtr (slen y154) 16) (
 some (.inr (.inr (false)))) (
 some (.inl (iop .add .i64 s149 1)))))) (
 some (.inr (.inl ())))) 0 : Option ((Unit) ⊕ (Bool))) <| Sum.elim (fun a42 =>
 bnd (lp (σ := Int) (ρ := (Unit) ⊕ (Bool)) (fun s115 =>
 cond (icmp .lss s115 (ln a0.nodes)) (
 bnd (bnd (gt a0.nodes s115) fun y129 =>
 lp (σ := Int) (ρ := (Unit) ⊕ ((Int) ⊕ ((Unit) ⊕ (Bool)))) (fun s136 =>
 cond (icmp .lss s136 (ln y129.blocks)) (
 bnd (gt y129.blocks s136) fun y137 =>
 bnd (gt a0.data y137) fun y138 =>
 bnd (sl6Long y129.size s136) fun r139 =>
 cond (icmp .neq (slen y138) r139) (
 some (.inr (.inr (.inr (.inr (false)))))) (
 some (.inl (iop .add .i64 s136 1)))) (
 some (.inr (.inl ())))) 0 : Option ((Unit) ⊕ ((Int) ⊕ ((Unit) ⊕ (Bool))))) <| Sum.elim (fun a128 =>
 some (.inl (iop .add .i64 s115 1))) some) (
 some (.inr (.inl ())))) 0 : Option ((Unit) ⊕ (Bool))) <| Sum.elim (fun a89 =>
 some (true)) some) some)) some)) (
 some (false))) (
 some (false))
noncomputable def sPutNum (a0 : Int) : Option ((List UInt8)) :=
 bnd (sl1In a0 0 2147483647) fun r3 =>
 cond r3 (
 bnd (lp (σ := Int × (List UInt8)) (ρ := Int × (List UInt8)) (fun s8 =>
 cond (icmp .gtr s8.1 127) (
 ck (Room (plus (ln s8.2) 1) 1) <|
 some (.inl (iop .quo .i64 s8.1 128, ap s8.2 [(i2b (wrp .u8 (iop .add .i64 (iop .rem .i64 s8.1 128) 128)))]))) (
 some (.inr ((s8.1, s8.2))))) (a0, []) : Option (Int × (List UInt8))) <| fun a6 =>
 ck (Room (plus (ln a6.2) 1) 1) <|
 some (ap a6.2 [(i2b (wrp .u8 a6.1))])) (
 some ([]))
noncomputable def sl6Power (a0 : Int) : Option (Int) :=
 bnd (lp (σ := Int × Int) (ρ := Int) (fun s4 =>
 cond (icmp .lss s4.2 a0) (
 some (.inl (iop .mul .i64 s4.1 2, iop .add .i64 s4.2 1))) (
 some (.inr (s4.1)))) (1, 0) : Option (Int)) <| fun a3 =>
 some (a3)
noncomputable def sNodeText (a0 : NodeD) : Option ((List UInt8)) :=
 bnd (sNodeOk a0) fun r3 =>
 cond r3 (
 cond (icmp .eql a0.kind 0) (
 some ([(i2b (wrp .u8 a0.kind))])) (
 bnd (sPutNum a0.gen) fun r5 =>
 ck (Room (plus 1 (ln r5)) 1) <|
 bnd (sPutNum a0.time) fun r7 =>
 ck (Room (plus (ln (ap [(i2b (wrp .u8 a0.kind))] r5)) (ln r7)) 1) <|
 bnd (sPutNum a0.size) fun r9 =>
 ck (Room (plus (ln (ap (ap [(i2b (wrp .u8 a0.kind))] r5) r7)) (ln r9)) 1) <|
 bnd (lp (σ := (List UInt8) × Int) (ρ := (List UInt8)) (fun s25 =>
 cond (icmp .lss s25.2 (ln a0.blocks)) (
 bnd (gt a0.blocks s25.2) fun y26 =>
 bnd (sPutNum y26) fun r27 =>
 ck (Room (plus (ln s25.1) (ln r27)) 1) <|
 some (.inl (ap s25.1 r27, iop .add .i64 s25.2 1))) (
 some (.inr (s25.1)))) (ap (ap (ap [(i2b (wrp .u8 a0.kind))] r5) r7) r9, 0) : Option ((List UInt8))) <| fun a20 =>
 some (a20))) (
 some ([]))
noncomputable def sFsBlocks (a0 : FsD) : Option ((List (List UInt8))) :=
 bnd (sShapeOk a0) fun r3 =>
 cond r3 (
 bnd (sPutNum (ln a0.nodes)) fun r5 =>
 ck (Room (plus 4 (ln r5)) 1) <|
 bnd (sPutNum (ln a0.data)) fun r7 =>
 ck (Room (plus (ln (ap [66, 65, 83, 78] r5)) (ln r7)) 1) <|
 ck (InS 0 (iop .quo .i64 (iop .add .i64 (ln a0.data) 7) 8) (iop .quo .i64 (iop .add .i64 (ln a0.data) 7) 8)) <|
 ck (Room (iop .quo .i64 (iop .add .i64 (ln a0.data) 7) 8) 1) <|
 bnd (sl6Used a0) fun r9 =>
 bnd (lp (σ := (List UInt8) × Int) (ρ := (List UInt8)) (fun s54 =>
 cond (icmp .lss s54.2 (ln a0.data)) (
 bnd (gt r9 s54.2) fun y55 =>
 cond (icmp .gtr y55 0) (
 bnd (gt s54.1 (iop .quo .i64 s54.2 8)) fun y56 =>
 bnd (sl6Power (iop .rem .i64 s54.2 8)) fun r57 =>
 some (.inl (sl s54.1 (iop .quo .i64 s54.2 8) (i2b (iop .add .u8 (b2i y56) (wrp .u8 r57))), iop .add .i64 s54.2 1))) (
 some (.inl (s54.1, iop .add .i64 s54.2 1)))) (
 some (.inr (s54.1)))) (rp (iop .quo .i64 (iop .add .i64 (ln a0.data) 7) 8) (0 : UInt8), 0) : Option ((List UInt8))) <| fun a25 =>
 ck (Room (plus 1 1) 16) <|
 bnd (lp (σ := (List (List UInt8)) × Int) (ρ := (List (List UInt8))) (fun s42 =>
 cond (icmp .lss s42.2 (ln a0.nodes)) (
 bnd (gt a0.nodes s42.2) fun y43 =>
 bnd (sNodeText y43) fun r44 =>
 ck (Room (plus (ln s42.1) 1) 16) <|
 some (.inl (ap s42.1 [r44], iop .add .i64 s42.2 1))) (
 some (.inr (s42.1)))) (ap [ap (ap [66, 65, 83, 78] r5) r7] [a25], 0) : Option ((List (List UInt8)))) <| fun a36 =>
 ck (Room (plus (ln a36) (ln a0.data)) 16) <|
 some (ap a36 a0.data)) (
 some ([]))
end Go.Ar
end
section
namespace Go.Ar
open Go.Proofs
set_option linter.unusedVariables false
set_option linter.unusedSimpArgs false
set_option maxRecDepth 20000
set_option maxHeartbeats 40000000
noncomputable def ishort (a0 : List UInt8) : Option (Bool) :=
 some (icmp .leq (slen a0) 90)
noncomputable def iDiskOk_1 (a0 : List UInt8) : Option (Bool) :=
 bnd (ishort a0) fun r2 =>
 some ((!r2))
noncomputable def gslices_IndexFunc_string_iDiskOk_1 (a0 : List (List UInt8)) : Option (Int) :=
 bnd (lp (σ := Int) (ρ := (Unit) ⊕ (Int)) (fun s18 =>
 cond (icmp .lss s18 (ln a0)) (
 bnd (gt a0 s18) fun y19 =>
 bnd (iDiskOk_1 y19) fun r20 =>
 cond r20 (
 some (.inr (.inr (s18)))) (
 some (.inl (iop .add .i64 s18 1)))) (
 some (.inr (.inl ())))) 0 : Option ((Unit) ⊕ (Int))) <| Sum.elim (fun a13 =>
 some (-1)) some
noncomputable def gslices_ContainsFunc_string_iDiskOk_1 (a0 : List (List UInt8)) : Option (Bool) :=
 bnd (gslices_IndexFunc_string_iDiskOk_1 a0) fun r2 =>
 some (icmp .geq r2 0)
noncomputable def iDiskOk_2 (a0 : PutD) (k1 : List (List UInt8)) (k2 : List PutD) : Option (Bool) :=
 bnd (iwithin a0.pos 0 (iop .sub .i64 (ln k1) 1)) fun r3 =>
 cond r3 (
 bnd (ishort a0.data) fun r4 =>
 some ((!r4))) (
 some (true))
noncomputable def gslices_IndexFunc_Put_iDiskOk_2 (a0 : List PutD) (k1 : List (List UInt8)) (k2 : List PutD) : Option (Int) :=
 bnd (lp (σ := Int) (ρ := (Unit) ⊕ (Int)) (fun s18 =>
 cond (icmp .lss s18 (ln a0)) (
 bnd (gt a0 s18) fun y19 =>
 bnd (iDiskOk_2 y19 k1 k2) fun r20 =>
 cond r20 (
 some (.inr (.inr (s18)))) (
 some (.inl (iop .add .i64 s18 1)))) (
 some (.inr (.inl ())))) 0 : Option ((Unit) ⊕ (Int))) <| Sum.elim (fun a13 =>
 some (-1)) some
noncomputable def gslices_ContainsFunc_Put_iDiskOk_2 (a0 : List PutD) (k1 : List (List UInt8)) (k2 : List PutD) : Option (Bool) :=
 bnd (gslices_IndexFunc_Put_iDiskOk_2 a0 k1 k2) fun r2 =>
 some (icmp .geq r2 0)
noncomputable def iDiskOk (a0 : DiskD) : Option (Bool) :=
 cond (icmp .gtr (ln a0.sectors) 120) (
 some (false)) (
 cond (icmp .gtr (ln a0.pend) 400) (
 some (false)) (
 bnd (gslices_ContainsFunc_string_iDiskOk_1 a0.sectors) fun r3 =>
 cond r3 (
 some (false)) (
 bnd (gslices_ContainsFunc_Put_iDiskOk_2 a0.pend a0.sectors a0.pend) fun r5 =>
 some ((!r5)))))
noncomputable def ihomed (a0 : DiskD) (a1 : Int) : Option (Bool) :=
 bnd (iDiskOk a0) fun r3 =>
 cond r3 (
 bnd (iwithin a1 1 48) fun r4 =>
 cond r4 (
 some (icmp .eql (ln a0.sectors) (iop .add .i64 (iop .mul .i64 2 a1) 1))) (
 some (false))) (
 some (false))
noncomputable def gslices_Clone_string (a0 : List (List UInt8)) : Option ((List (List UInt8))) :=
 nq (a0 = []) fun n3 =>
 cond n3 (
 some ([])) (
 ck (Room (plus 0 (ln a0)) 16) <|
 some (a0))
noncomputable def gslices_Clone_Put (a0 : List PutD) : Option ((List PutD)) :=
 nq (a0 = []) fun n3 =>
 cond n3 (
 some ([])) (
 ck (Room (plus 0 (ln a0)) 24) <|
 some (a0))
noncomputable def icloneDisk (a0 : DiskD) : Option (DiskD) :=
 bnd (gslices_Clone_string a0.sectors) fun r3 =>
 bnd (gslices_Clone_Put a0.pend) fun r4 =>
 some ((⟨r3, r4⟩ : DiskD))
noncomputable def iFall_1 (a0 : Int) (k1 : List Bool) : Option (Bool) :=
 cond (icmp .lss a0 (ln k1)) (
 bnd (gt k1 a0) fun y2 =>
 some (y2)) (
 some (false))
noncomputable def isettle_iFall_1 (a0 : DiskD) (k1 : List Bool) : Option (DiskD) :=
 bnd (icloneDisk a0) fun r2 =>
 bnd (iDiskOk a0) fun r5 =>
 cond r5 (
 bnd (lp (σ := Int × (List (List UInt8))) (ρ := (List (List UInt8))) (fun s29 =>
 cond (icmp .lss s29.1 (ln a0.pend)) (
 bnd (gt a0.pend s29.1) fun y30 =>
 bnd (iFall_1 s29.1 k1) fun r31 =>
 cond r31 (
 bnd (gt s29.2 y30.pos) fun y32 =>
 some (.inl (iop .add .i64 s29.1 1, sl s29.2 y30.pos y30.data))) (
 some (.inl (iop .add .i64 s29.1 1, s29.2)))) (
 some (.inr (s29.2)))) (0, r2.sectors) : Option ((List (List UInt8)))) <| fun a22 =>
 some ((⟨a22, []⟩ : DiskD))) (
 some (r2))
noncomputable def iFall (a0 : DiskD) (a1 : List Bool) : Option (DiskD) :=
 bnd (isettle_iFall_1 a0 a1) fun r2 =>
 some (r2)
noncomputable def iGetNum (a0 : List UInt8) (a1 : Int) : Option (Int × Int × Bool) :=
 bnd (iwithin a1 0 (ln a0)) fun r3 =>
 cond r3 (
 bnd (lp (σ := Int × Int) (ρ := (Unit) ⊕ (Int × Int × Bool)) (fun s26 =>
 cond (icmp .lss s26.2 5) (
 cond (icmp .lss (iop .add .i64 a1 s26.2) (ln a0)) (
 bnd (gt a0 (iop .add .i64 a1 s26.2)) fun y27 =>
 ck (icmp .geq (iop .mul .i64 7 s26.2) 0 = true) <|
 cond (icmp .geq (wrp .i64 (b2i y27)) 128) (
 some (.inl (iop .or .i64 s26.1 (iop .shl .i64 (iop .and .i64 (wrp .i64 (b2i y27)) 127) (iop .mul .i64 7 s26.2)), iop .add .i64 s26.2 1))) (
 bnd (cond (icmp .eql (wrp .i64 (b2i y27)) 0) (
 cond (icmp .gtr s26.2 0) (
 some (.inr (.inr (.inr ((0, 0, false)))))) (
 cond (icmp .gtr (iop .or .i64 s26.1 (iop .shl .i64 (iop .and .i64 (wrp .i64 (b2i y27)) 127) (iop .mul .i64 7 s26.2))) 2147483647) (
 some (.inr (.inr (.inr ((0, 0, false)))))) (
 some (.inl ())))) (
 cond (icmp .gtr (iop .or .i64 s26.1 (iop .shl .i64 (iop .and .i64 (wrp .i64 (b2i y27)) 127) (iop .mul .i64 7 s26.2))) 2147483647) (
 some (.inr (.inr (.inr ((0, 0, false)))))) (
 some (.inl ()))) : Option ((Unit) ⊕ ((Int × Int) ⊕ ((Unit) ⊕ (Int × Int × Bool))))) <| Sum.elim (fun a29 =>
 some (.inr (.inr ((iop .or .i64 s26.1 (iop .shl .i64 (iop .and .i64 (wrp .i64 (b2i y27)) 127) (iop .mul .i64 7 s26.2)), iop .add .i64 (iop .add .i64 a1 s26.2) 1, true))))) some)) (
 some (.inr (.inl ())))) (
 some (.inr (.inl ())))) (0, 0) : Option ((Unit) ⊕ (Int × Int × Bool))) <| Sum.elim (fun a19 =>
 some ((0, 0, false))) some) (
 some ((0, 0, false)))
noncomputable def iTxOk (a0 : Int) (a1 : List PutD) : Option (Bool) :=
 bnd (iwithin a0 1 48) fun r3 =>
 cond r3 (
 cond (icmp .eql (ln a1) 0) (
 some (false)) (
 bnd (lp (σ := Int × Int) (ρ := (Unit) ⊕ (Bool)) (fun s30 =>
 cond (icmp .lss s30.2 (ln a1)) (
 bnd (gt a1 s30.2) fun y31 =>
 bnd (iwithin y31.pos (iop .add .i64 s30.1 1) (iop .sub .i64 a0 1)) fun r32 =>
 cond r32 (
 bnd (ishort y31.data) fun r33 =>
 cond r33 (
 some (.inl (y31.pos, iop .add .i64 s30.2 1))) (
 some (.inr (.inr (false))))) (
 some (.inr (.inr (false))))) (
 some (.inr (.inl ())))) (-1, 0) : Option ((Unit) ⊕ (Bool))) <| Sum.elim (fun a23 =>
 some (true)) some)) (
 some (false))
noncomputable def iHeadOf (a0 : List UInt8) (a1 : Int) : Option ((List Int) × Int × Bool) :=
 ck (Room (slen a0) 1) <|
 cond (icmp .lss (ln a0) 5) (
 some (([], 0, false))) (
 bnd (gt a0 0) fun y3 =>
 cond (icmp .neq (b2i y3) 74) (
 some (([], 0, false))) (
 bnd (iGetNum a0 1) fun r5 =>
 cond r5.2.2 (
 cond (icmp .gtr r5.1 48) (
 some (([], 0, false))) (
 bnd (lp (σ := Int × (List PutD) × (List Int) × Int) (ρ := (Int × (List PutD) × (List Int)) ⊕ ((List Int) × Int × Bool)) (fun s36 =>
 cond (icmp .lss s36.2.2.2 r5.1) (
 bnd (iGetNum a0 s36.1) fun r37 =>
 cond r37.2.2 (
 ck (Room (plus (ln s36.2.1) 1) 24) <|
 ck (Room (plus (ln s36.2.2.1) 1) 8) <|
 some (.inl (r37.2.1, ap s36.2.1 [(⟨r37.1, []⟩ : PutD)], ap s36.2.2.1 [r37.1], iop .add .i64 s36.2.2.2 1))) (
 some (.inr (.inr (([], 0, false)))))) (
 some (.inr (.inl (s36.1, s36.2.1, s36.2.2.1))))) (r5.2.1, [], [], 0) : Option ((Int × (List PutD) × (List Int)) ⊕ ((List Int) × Int × Bool))) <| Sum.elim (fun a13 =>
 cond (icmp .neq (ln a0) (iop .add .i64 a13.1 4)) (
 some (([], 0, false))) (
 bnd (iTxOk a1 a13.2.1) fun r16 =>
 cond r16 (
 bnd (ck (InS a13.1 (ln a0) (ln a0)) <|
 lp (σ := Int × Int) (ρ := Int) (fun s27 =>
 cond (icmp .lss s27.2 (ln (sb a0 a13.1 (ln a0)))) (
 ck (icmp .geq a13.1 0 = true) <|
 ck (InR s27.2 (ln (sb a0 a13.1 (ln a0)))) <|
 bnd (gt a0 (plus a13.1 s27.2)) fun y28 =>
 some (.inl (iop .or .i64 (iop .shl .i64 s27.1 8) (wrp .i64 (b2i y28)), iop .add .i64 s27.2 1))) (
 some (.inr (s27.1)))) (0, 0) : Option (Int)) <| fun a24 =>
 some ((a13.2.2, a24, true))) (
 some (([], 0, false))))) some)) (
 some (([], 0, false)))))
noncomputable def iPutText (a0 : List UInt8) : Option ((List UInt8)) :=
 bnd (iPutNum (slen a0)) fun r2 =>
 ck (Room (plus (ln r2) (ln a0)) 1) <|
 some (ap r2 a0)
noncomputable def iCrc (a0 : List UInt8) : Option (Int) :=
 bnd (lp (σ := Int × Int) (ρ := Int) (fun s25 =>
 cond (icmp .lss s25.2 (ln a0)) (
 bnd (bnd (gt a0 s25.2) fun y30 =>
 lp (σ := Int × Int) (ρ := Int) (fun s31 =>
 cond (icmp .lss s31.2 8) (
 cond (icmp .eql (iop .and .i64 s31.1 1) 1) (
 some (.inl (iop .xor .i64 (iop .shr .i64 s31.1 1) 3988292384, iop .add .i64 s31.2 1))) (
 some (.inl (iop .shr .i64 s31.1 1, iop .add .i64 s31.2 1)))) (
 some (.inr (s31.1)))) (iop .xor .i64 s25.1 (wrp .i64 (b2i y30)), 0) : Option (Int)) <| fun a29 =>
 some (.inl (a29, iop .add .i64 s25.2 1))) (
 some (.inr (s25.1)))) (4294967295, 0) : Option (Int)) <| fun a16 =>
 some (iop .xor .i64 a16 4294967295)
noncomputable def idataSum (a0 : List (List UInt8)) : Option (Int) :=
 bnd (lp (σ := (List UInt8) × Int) (ρ := (List UInt8)) (fun s19 =>
 cond (icmp .lss s19.2 (ln a0)) (
 bnd (gt a0 s19.2) fun y20 =>
 bnd (iPutText y20) fun r21 =>
 ck (Room (plus (ln s19.1) (ln r21)) 1) <|
 some (.inl (ap s19.1 r21, iop .add .i64 s19.2 1))) (
 some (.inr (s19.1)))) ([], 0) : Option ((List UInt8))) <| fun a12 =>
 bnd (iCrc a12) fun r14 =>
 some (r14)
noncomputable def iRecover (a0 : DiskD) (a1 : Int) : Option (DiskD) :=
 bnd (ihomed a0 a1) fun r5 =>
 cond r5 (
 bnd (iFall a0 []) fun r7 =>
 bnd (gt r7.sectors 0) fun y10 =>
 bnd (iHeadOf y10 a1) fun r11 =>
 bnd (bnd (cond r11.2.2 (
 ck (InS 1 (iop .add .i64 1 (ln r11.1)) (ln r7.sectors)) <|
 bnd (idataSum (sb r7.sectors 1 (iop .add .i64 1 (ln r11.1)))) fun r48 =>
 some (icmp .eql r48 r11.2.1)) (
 some (false)) : Option (Bool)) <| fun a36 =>
 cond a36 (
 lp (σ := Int × (List (List UInt8))) (ρ := (List (List UInt8))) (fun s43 =>
 cond (icmp .lss s43.1 (ln r11.1)) (
 bnd (gt r11.1 s43.1) fun y44 =>
 bnd (gt s43.2 (iop .add .i64 1 s43.1)) fun y45 =>
 bnd (gt s43.2 (iop .add .i64 (iop .add .i64 a1 1) y44)) fun y46 =>
 some (.inl (iop .add .i64 s43.1 1, sl s43.2 (iop .add .i64 (iop .add .i64 a1 1) y44) y45))) (
 some (.inr (s43.2)))) (0, r7.sectors)) (
 some (r7.sectors)) : Option ((List (List UInt8)))) <| fun a31 =>
 bnd (gt a31 0) fun y33 =>
 some ((⟨sl a31 0 [], r7.pend⟩ : DiskD))) (
 bnd (icloneDisk a0) fun r50 =>
 some (r50))
noncomputable def sl3PutsOk (a0 : List PutD) (a1 : Int) : Option (Bool) :=
 bnd (lp (σ := Int) (ρ := (Unit) ⊕ (Bool)) (fun s18 =>
 cond (icmp .lss s18 (ln a0)) (
 bnd (gt a0 s18) fun y19 =>
 bnd (sl1In y19.pos 0 (iop .sub .i64 a1 1)) fun r20 =>
 cond r20 (
 cond (icmp .gtr (slen y19.data) 90) (
 some (.inr (.inr (false)))) (
 some (.inl (iop .add .i64 s18 1)))) (
 some (.inr (.inr (false))))) (
 some (.inr (.inl ())))) 0 : Option ((Unit) ⊕ (Bool))) <| Sum.elim (fun a13 =>
 some (true)) some
noncomputable def sDiskOk (a0 : DiskD) : Option (Bool) :=
 cond (icmp .gtr (ln a0.sectors) 120) (
 some (false)) (
 cond (icmp .gtr (ln a0.pend) 400) (
 some (false)) (
 bnd (lp (σ := Int) (ρ := (Unit) ⊕ (Bool)) (fun s13 =>
 cond (icmp .lss s13 (ln a0.sectors)) (
 bnd (gt a0.sectors s13) fun y14 =>
 cond (icmp .gtr (slen y14) 90) (
 some (.inr (.inr (false)))) (
 some (.inl (iop .add .i64 s13 1)))) (
 some (.inr (.inl ())))) 0 : Option ((Unit) ⊕ (Bool))) <| Sum.elim (fun a8 =>
 bnd (sl3PutsOk a0.pend (ln a0.sectors)) fun r10 =>
 some (r10)) some))
noncomputable def sl4Ok (a0 : DiskD) (a1 : Int) : Option (Bool) :=
 bnd (sDiskOk a0) fun r3 =>
 cond r3 (
 bnd (sl1In a1 1 48) fun r4 =>
 cond r4 (
 some (icmp .eql (ln a0.sectors) (iop .add .i64 (iop .mul .i64 2 a1) 1))) (
 some (false))) (
 some (false))
noncomputable def sl1Copy (a0 : List (List UInt8)) : Option ((List (List UInt8))) :=
 ck (Room (plus 0 (ln a0)) 16) <|
 some (a0)
noncomputable def sl3Copy (a0 : DiskD) : Option (DiskD) :=
 bnd (sl1Copy a0.sectors) fun r2 =>
 ck (Room (plus 0 (ln a0.pend)) 24) <|
 some ((⟨r2, a0.pend⟩ : DiskD))
noncomputable def sFall (a0 : DiskD) (a1 : List Bool) : Option (DiskD) :=
 bnd (sl3Copy a0) fun r2 =>
 bnd (sDiskOk a0) fun r5 =>
 cond r5 (
 bnd (lp (σ := Int × (List (List UInt8))) (ρ := (List (List UInt8))) (fun s28 =>
 cond (icmp .lss s28.1 (ln a0.pend)) (
 cond (icmp .lss s28.1 (ln a1)) (
 bnd (gt a1 s28.1) fun y29 =>
 cond y29 (
 bnd (gt a0.pend s28.1) fun y30 =>
 bnd (gt s28.2 y30.pos) fun y31 =>
 some (.inl (iop .add .i64 s28.1 1, sl s28.2 y30.pos y30.data))) (
 some (.inl (iop .add .i64 s28.1 1, s28.2)))) (
 some (.inr (s28.2)))) (
 some (.inr (s28.2)))) (0, r2.sectors) : Option ((List (List UInt8)))) <| fun a21 =>
 some ((⟨a21, []⟩ : DiskD))) (
 some (r2))
noncomputable def sGetNum (a0 : List UInt8) (a1 : Int) : Option (Int × Int × Bool) :=
 bnd (lp (σ := Int × Int) (ρ := (Unit) ⊕ (Int × Int × Bool)) (fun s23 =>
 cond (icmp .lss s23.2 5) (
 cond (icmp .lss a1 0) (
 some (.inr (.inr ((0, 0, false))))) (
 cond (icmp .geq a1 (iop .sub .i64 (ln a0) s23.2)) (
 some (.inr (.inr ((0, 0, false))))) (
 bnd (gt a0 (iop .add .i64 a1 s23.2)) fun y24 =>
 ck (icmp .geq (iop .mul .i64 7 s23.2) 0 = true) <|
 cond (icmp .lss (wrp .i64 (b2i y24)) 128) (
 bnd (cond (icmp .gtr s23.2 0) (
 cond (icmp .eql (wrp .i64 (b2i y24)) 0) (
 some (.inr (.inr (.inr ((0, 0, false)))))) (
 cond (icmp .gtr (iop .or .i64 s23.1 (iop .shl .i64 (iop .rem .i64 (wrp .i64 (b2i y24)) 128) (iop .mul .i64 7 s23.2))) 2147483647) (
 some (.inr (.inr (.inr ((0, 0, false)))))) (
 some (.inl ())))) (
 cond (icmp .gtr (iop .or .i64 s23.1 (iop .shl .i64 (iop .rem .i64 (wrp .i64 (b2i y24)) 128) (iop .mul .i64 7 s23.2))) 2147483647) (
 some (.inr (.inr (.inr ((0, 0, false)))))) (
 some (.inl ()))) : Option ((Unit) ⊕ ((Int × Int) ⊕ ((Unit) ⊕ (Int × Int × Bool))))) <| Sum.elim (fun a26 =>
 some (.inr (.inr ((iop .or .i64 s23.1 (iop .shl .i64 (iop .rem .i64 (wrp .i64 (b2i y24)) 128) (iop .mul .i64 7 s23.2)), iop .add .i64 (iop .add .i64 a1 s23.2) 1, true))))) some) (
 some (.inl (iop .or .i64 s23.1 (iop .shl .i64 (iop .rem .i64 (wrp .i64 (b2i y24)) 128) (iop .mul .i64 7 s23.2)), iop .add .i64 s23.2 1)))))) (
 some (.inr (.inl ())))) (0, 0) : Option ((Unit) ⊕ (Int × Int × Bool))) <| Sum.elim (fun a16 =>
 some ((0, 0, false))) some
noncomputable def sTxOk (a0 : Int) (a1 : List PutD) : Option (Bool) :=
 bnd (sl1In a0 1 48) fun r5 =>
 cond r5 (
 cond (icmp .eql (ln a1) 0) (
 some (false)) (
 bnd (sl3PutsOk a1 a0) fun r6 =>
 cond r6 (
 bnd (lp (σ := Int) (ρ := (Unit) ⊕ (Bool)) (fun s24 =>
 cond (icmp .lss s24 (ln a1)) (
 bnd (gt a1 s24) fun y25 =>
 bnd (gt a1 (iop .sub .i64 s24 1)) fun y26 =>
 cond (icmp .leq y25.pos y26.pos) (
 some (.inr (.inr (false)))) (
 some (.inl (iop .add .i64 s24 1)))) (
 some (.inr (.inl ())))) 1 : Option ((Unit) ⊕ (Bool))) <| Sum.elim (fun a19 =>
 some (true)) some) (
 some (false)))) (
 some (false))
noncomputable def sHeadOf (a0 : List UInt8) (a1 : Int) : Option ((List Int) × Int × Bool) :=
 ck (Room (slen a0) 1) <|
 bnd (sGetNum a0 1) fun r2 =>
 cond r2.2.2 (
 bnd (gt a0 0) fun y7 =>
 cond (icmp .neq (b2i y7) 74) (
 some (([], 0, false))) (
 bnd (sl1In r2.1 1 48) fun r8 =>
 cond r8 (
 bnd (lp (σ := Int × (List Int) × (List PutD) × Int) (ρ := (Int × (List Int) × (List PutD)) ⊕ ((List Int) × Int × Bool)) (fun s31 =>
 cond (icmp .lss s31.2.2.2 r2.1) (
 bnd (sGetNum a0 s31.1) fun r32 =>
 cond r32.2.2 (
 ck (Room (plus (ln s31.2.1) 1) 8) <|
 ck (Room (plus (ln s31.2.2.1) 1) 24) <|
 some (.inl (r32.2.1, ap s31.2.1 [r32.1], ap s31.2.2.1 [(⟨r32.1, []⟩ : PutD)], iop .add .i64 s31.2.2.2 1))) (
 some (.inr (.inr (([], 0, false)))))) (
 some (.inr (.inl (s31.1, s31.2.1, s31.2.2.1))))) (r2.2.1, [], [], 0) : Option ((Int × (List Int) × (List PutD)) ⊕ ((List Int) × Int × Bool))) <| Sum.elim (fun a16 =>
 cond (icmp .neq (ln a0) (iop .add .i64 a16.1 4)) (
 some (([], 0, false))) (
 bnd (sTxOk a1 a16.2.2) fun r19 =>
 cond r19 (
 bnd (gt a0 a16.1) fun y24 =>
 bnd (gt a0 (iop .add .i64 a16.1 1)) fun y25 =>
 bnd (gt a0 (iop .add .i64 a16.1 2)) fun y26 =>
 bnd (gt a0 (iop .add .i64 a16.1 3)) fun y27 =>
 some ((a16.2.1, iop .add .i64 (iop .mul .i64 (iop .add .i64 (iop .mul .i64 (iop .add .i64 (iop .mul .i64 (wrp .i64 (b2i y24)) 256) (wrp .i64 (b2i y25))) 256) (wrp .i64 (b2i y26))) 256) (wrp .i64 (b2i y27)), true))) (
 some (([], 0, false))))) some) (
 some (([], 0, false))))) (
 some (([], 0, false)))
noncomputable def sPutText (a0 : List UInt8) : Option ((List UInt8)) :=
 bnd (sPutNum (slen a0)) fun r2 =>
 ck (Room (slen a0) 1) <|
 ck (Room (plus (ln r2) (ln a0)) 1) <|
 some (ap r2 a0)
noncomputable def sCrc (a0 : List UInt8) : Option (Int) :=
 bnd (lp (σ := Int × Int) (ρ := Int) (fun s25 =>
 cond (icmp .lss s25.2 (ln a0)) (
 bnd (bnd (gt a0 s25.2) fun y30 =>
 lp (σ := Int × Int) (ρ := Int) (fun s31 =>
 cond (icmp .lss s31.2 8) (
 cond (icmp .eql (iop .rem .i64 s31.1 2) 1) (
 some (.inl (iop .xor .i64 (iop .quo .i64 s31.1 2) 3988292384, iop .add .i64 s31.2 1))) (
 some (.inl (iop .quo .i64 s31.1 2, iop .add .i64 s31.2 1)))) (
 some (.inr (s31.1)))) (iop .xor .i64 s25.1 (wrp .i64 (b2i y30)), 0) : Option (Int)) <| fun a29 =>
 some (.inl (a29, iop .add .i64 s25.2 1))) (
 some (.inr (s25.1)))) (4294967295, 0) : Option (Int)) <| fun a16 =>
 some (iop .xor .i64 a16 4294967295)
noncomputable def sl4Sum (a0 : List (List UInt8)) : Option (Int) :=
 bnd (lp (σ := (List UInt8) × Int) (ρ := (List UInt8)) (fun s18 =>
 cond (icmp .lss s18.2 (ln a0)) (
 bnd (gt a0 s18.2) fun y19 =>
 bnd (sPutText y19) fun r20 =>
 ck (Room (plus (ln s18.1) (ln r20)) 1) <|
 some (.inl (ap s18.1 r20, iop .add .i64 s18.2 1))) (
 some (.inr (s18.1)))) ([], 0) : Option ((List UInt8))) <| fun a11 =>
 bnd (sCrc a11) fun r13 =>
 some (r13)
noncomputable def sRecover (a0 : DiskD) (a1 : Int) : Option (DiskD) :=
 bnd (sl4Ok a0 a1) fun r5 =>
 cond r5 (
 bnd (sFall a0 []) fun r7 =>
 bnd (gt r7.sectors 0) fun y10 =>
 bnd (sHeadOf y10 a1) fun r11 =>
 bnd (bnd (cond r11.2.2 (
 ck (InS 1 (iop .add .i64 1 (ln r11.1)) (ln r7.sectors)) <|
 bnd (sl4Sum (sb r7.sectors 1 (iop .add .i64 1 (ln r11.1)))) fun r47 =>
 some (icmp .eql r47 r11.2.1)) (
 some (false)) : Option (Bool)) <| fun a35 =>
 cond a35 (
 lp (σ := Int × (List (List UInt8))) (ρ := (List (List UInt8))) (fun s42 =>
 cond (icmp .lss s42.1 (ln r11.1)) (
 bnd (gt r11.1 s42.1) fun y43 =>
 bnd (gt s42.2 (iop .add .i64 1 s42.1)) fun y44 =>
 bnd (gt s42.2 (iop .add .i64 (iop .add .i64 a1 1) y43)) fun y45 =>
 some (.inl (iop .add .i64 s42.1 1, sl s42.2 (iop .add .i64 (iop .add .i64 a1 1) y43) y44))) (
 some (.inr (s42.2)))) (0, r7.sectors)) (
 some (r7.sectors)) : Option ((List (List UInt8)))) <| fun a30 =>
 bnd (gt a30 0) fun y32 =>
 some ((⟨sl a30 0 [], r7.pend⟩ : DiskD))) (
 bnd (sl3Copy a0) fun r49 =>
 some (r49))
end Go.Ar
end
section
namespace Go.Ar
open Go.Proofs
set_option linter.unusedVariables false
set_option linter.unusedSimpArgs false
set_option maxRecDepth 20000
set_option maxHeartbeats 40000000
noncomputable def icontent (a0 : FsD) (a1 : Int) : Option ((List UInt8)) :=
 bnd (bnd (gt a0.nodes a1) fun y15 =>
 lp (σ := (List UInt8) × Int) (ρ := (List UInt8)) (fun s20 =>
 cond (icmp .lss s20.2 (ln y15.blocks)) (
 bnd (gt y15.blocks s20.2) fun y21 =>
 bnd (gt a0.data y21) fun y22 =>
 ck (Room (plus (slen s20.1) (slen y22)) 1) <|
 some (.inl (sapp s20.1 y22, iop .add .i64 s20.2 1))) (
 some (.inr (s20.1)))) ([], 0) : Option ((List UInt8))) <| fun a14 =>
 some (a14)
noncomputable def iGetText (a0 : List UInt8) (a1 : Int) : Option ((List UInt8) × Int × Bool) :=
 bnd (iGetNum a0 a1) fun r2 =>
 cond r2.2.2 (
 cond (icmp .gtr r2.1 (iop .sub .i64 (ln a0) r2.2.1)) (
 some (([], 0, false))) (
 ck (InS r2.2.1 (iop .add .i64 r2.2.1 r2.1) (ln a0)) <|
 some ((sb a0 r2.2.1 (iop .add .i64 r2.2.1 r2.1), iop .add .i64 r2.2.1 r2.1, true)))) (
 some (([], 0, false)))
noncomputable def iNameOk (a0 : List UInt8) : Option (Bool) :=
 bnd (iwithin (slen a0) 1 6) fun r3 =>
 cond r3 (
 bnd (lp (σ := Int) (ρ := (Unit) ⊕ (Bool)) (fun s7 =>
 cond (icmp .lss s7 (slen a0)) (
 ck (InR s7 (slen a0)) <|
 cond (icmp .lss (sget a0 s7) 97) (
 ck (InR s7 (slen a0)) <|
 cond (icmp .lss (sget a0 s7) 48) (
 some (.inr (.inr (false)))) (
 ck (InR s7 (slen a0)) <|
 cond (icmp .gtr (sget a0 s7) 57) (
 some (.inr (.inr (false)))) (
 some (.inl (iop .add .i64 s7 1))))) (
 ck (InR s7 (slen a0)) <|
 cond (icmp .gtr (sget a0 s7) 122) (
 ck (InR s7 (slen a0)) <|
 cond (icmp .lss (sget a0 s7) 48) (
 some (.inr (.inr (false)))) (
 ck (InR s7 (slen a0)) <|
 cond (icmp .gtr (sget a0 s7) 57) (
 some (.inr (.inr (false)))) (
 some (.inl (iop .add .i64 s7 1))))) (
 some (.inl (iop .add .i64 s7 1))))) (
 some (.inr (.inl ())))) 0 : Option ((Unit) ⊕ (Bool))) <| Sum.elim (fun a6 =>
 some (true)) some) (
 some (false))
noncomputable def iEntriesOk_1 (a0 : EntryD) (k1 : List UInt8) (k2 : Int) : Option (Bool) :=
 some (icmp .eql a0.node k2)
noncomputable def gslices_IndexFunc_Entry_iEntriesOk_1 (a0 : List EntryD) (k1 : List UInt8) (k2 : Int) : Option (Int) :=
 bnd (lp (σ := Int) (ρ := (Unit) ⊕ (Int)) (fun s18 =>
 cond (icmp .lss s18 (ln a0)) (
 bnd (gt a0 s18) fun y19 =>
 bnd (iEntriesOk_1 y19 k1 k2) fun r20 =>
 cond r20 (
 some (.inr (.inr (s18)))) (
 some (.inl (iop .add .i64 s18 1)))) (
 some (.inr (.inl ())))) 0 : Option ((Unit) ⊕ (Int))) <| Sum.elim (fun a13 =>
 some (-1)) some
noncomputable def gslices_ContainsFunc_Entry_iEntriesOk_1 (a0 : List EntryD) (k1 : List UInt8) (k2 : Int) : Option (Bool) :=
 bnd (gslices_IndexFunc_Entry_iEntriesOk_1 a0 k1 k2) fun r2 =>
 some (icmp .geq r2 0)
noncomputable def iDirText (a0 : List EntryD) : Option ((List UInt8)) :=
 bnd (lp (σ := (List UInt8) × Int) (ρ := (List UInt8)) (fun s24 =>
 cond (icmp .lss s24.2 (ln a0)) (
 bnd (gt a0 s24.2) fun y25 =>
 bnd (iPutText y25.name) fun r26 =>
 ck (Room (plus (ln s24.1) (ln r26)) 1) <|
 bnd (iPutNum y25.node) fun r27 =>
 ck (Room (plus (ln (ap s24.1 r26)) (ln r27)) 1) <|
 some (.inl (ap (ap s24.1 r26) r27, iop .add .i64 s24.2 1))) (
 some (.inr (s24.1)))) ([], 0) : Option ((List UInt8))) <| fun a17 =>
 some (a17)
noncomputable def iEntriesOk (a0 : List EntryD) : Option (Bool) :=
 bnd (lp (σ := Int) (ρ := (Unit) ⊕ (Bool)) (fun s72 =>
 cond (icmp .lss s72 (ln a0)) (
 bnd (gt a0 s72) fun y73 =>
 bnd (bnd (iNameOk y73.name) fun r83 =>
 cond r83 (
 bnd (iwithin y73.node 1 9) fun r84 =>
 cond r84 (
 cond (icmp .gtr s72 0) (
 bnd (gt a0 (iop .sub .i64 s72 1)) fun y85 =>
 cond (scmp .geq y85.name y73.name) (
 some (.inr (.inr (.inr (false))))) (
 some (.inl (true, true)))) (
 some (.inl (false, false)))) (
 some (.inr (.inr (.inr (false)))))) (
 cond (scmp .neq y73.name [126]) (
 some (.inr (.inr (.inr (false))))) (
 bnd (iwithin y73.node 1 9) fun r88 =>
 cond r88 (
 cond (icmp .gtr s72 0) (
 bnd (gt a0 (iop .sub .i64 s72 1)) fun y89 =>
 cond (scmp .geq y89.name y73.name) (
 some (.inr (.inr (.inr (false))))) (
 some (.inl (true, true)))) (
 some (.inl (false, false)))) (
 some (.inr (.inr (.inr (false))))))) : Option ((Bool × Bool) ⊕ ((Int) ⊕ ((Unit) ⊕ (Bool))))) <| Sum.elim (fun a80 =>
 ck (InS 0 s72 (ln a0)) <|
 bnd (gslices_ContainsFunc_Entry_iEntriesOk_1 (sb a0 0 s72) y73.name y73.node) fun r81 =>
 cond r81 (
 some (.inr (.inr (false)))) (
 some (.inl (iop .add .i64 s72 1)))) some) (
 some (.inr (.inl ())))) 0 : Option ((Unit) ⊕ (Bool))) <| Sum.elim (fun a51 =>
 bnd (iDirText a0) fun r53 =>
 some (icmp .leq (slen r53) 80)) some
noncomputable def iDirOf (a0 : List UInt8) : Option ((List EntryD) × Bool) :=
 ck (Room (slen a0) 1) <|
 bnd (lp (σ := (List EntryD) × Int) (ρ := ((List EntryD)) ⊕ ((List EntryD) × Bool)) (fun s19 =>
 cond (icmp .lss s19.2 (ln a0)) (
 bnd (iGetText a0 s19.2) fun r20 =>
 bnd (iGetNum a0 r20.2.1) fun r21 =>
 cond r20.2.2 (
 cond r21.2.2 (
 ck (Room (plus (ln s19.1) 1) 24) <|
 some (.inl (ap s19.1 [(⟨r20.1, r21.1⟩ : EntryD)], r21.2.1))) (
 some (.inr (.inr (([], false)))))) (
 some (.inr (.inr (([], false)))))) (
 some (.inr (.inl s19.1)))) ([], 0) : Option (((List EntryD)) ⊕ ((List EntryD) × Bool))) <| Sum.elim (fun a11 =>
 bnd (iEntriesOk a11) fun r14 =>
 cond r14 (
 some ((a11, true))) (
 some (([], false)))) some
noncomputable def ientries (a0 : FsD) (a1 : Int) : Option ((List EntryD) × Bool) :=
 bnd (icontent a0 a1) fun r3 =>
 bnd (iDirOf r3) fun r4 =>
 some ((r4.1, r4.2))
noncomputable def ivisitN : Nat → FsD → Int → Int → (List Int) → Option (Bool × (List Int))
 | 0, _, _, _, _ => none
 | n + 1, a0, a1, a2, a3 =>
 bnd (ientries a0 a1) fun r2 =>
 bnd (cond r2.2 (
 cond (icmp .eql a2 4) (
 cond (icmp .gtr (ln r2.1) 0) (
 some (.inr ((false, a3)))) (
 some (.inl ()))) (
 some (.inl ()))) (
 some (.inr ((false, a3)))) : Option ((Unit) ⊕ (Bool × (List Int)))) <| Sum.elim (fun a4 =>
 bnd (lp (σ := Int × (List Int)) (ρ := ((List Int)) ⊕ (Bool × (List Int))) (fun s50 =>
 cond (icmp .lss s50.1 (ln r2.1)) (
 bnd (gt r2.1 s50.1) fun y51 =>
 cond (icmp .geq y51.node (ln a0.nodes)) (
 some (.inr (.inr ((false, s50.2))))) (
 bnd (gt a0.nodes y51.node) fun y52 =>
 cond (icmp .eql y52.kind 0) (
 some (.inr (.inr ((false, s50.2))))) (
 bnd (gt s50.2 y51.node) fun y53 =>
 cond (icmp .gtr y53 0) (
 some (.inr (.inr ((false, s50.2))))) (
 bnd (cond (scmp .eql y51.name [126]) (
 cond (icmp .neq a1 0) (
 some (.inr (.inr (.inr ((false, sl s50.2 y51.node (iop .add .i64 y53 1))))))) (
 cond (icmp .neq y52.kind 1) (
 some (.inr (.inr (.inr ((false, sl s50.2 y51.node (iop .add .i64 y53 1))))))) (
 some (.inl ())))) (
 some (.inl ())) : Option ((Unit) ⊕ ((Int × (List Int)) ⊕ (((List Int)) ⊕ (Bool × (List Int)))))) <| Sum.elim (fun a55 =>
 cond (icmp .eql y52.kind 2) (
 bnd (ivisitN n a0 y51.node (iop .add .i64 a2 1) (sl s50.2 y51.node (iop .add .i64 y53 1))) fun r56 =>
 cond r56.1 (
 some (.inl (iop .add .i64 s50.1 1, r56.2))) (
 some (.inr (.inr ((false, r56.2)))))) (
 some (.inl (iop .add .i64 s50.1 1, sl s50.2 y51.node (iop .add .i64 y53 1))))) some)))) (
 some (.inr (.inl s50.2)))) (0, a3) : Option (((List Int)) ⊕ (Bool × (List Int)))) <| Sum.elim (fun a37 =>
 some ((true, a37))) some) some
noncomputable def ivisit (a0 : FsD) (a1 : Int) (a2 : Int) (a3 : List Int) : Option (Bool × (List Int)) := rc fun n => ivisitN n a0 a1 a2 a3
noncomputable def iFsOk (a0 : FsD) : Option (Bool) :=
 bnd (iShapeOk a0) fun r3 =>
 cond r3 (
 ck (InS 0 (ln a0.nodes) (ln a0.nodes)) <|
 ck (Room (ln a0.nodes) 8) <|
 bnd (ivisit a0 0 0 (rp (ln a0.nodes) (0 : Int))) fun r9 =>
 cond r9.1 (
 bnd (lp (σ := Int) (ρ := (Unit) ⊕ (Bool)) (fun s27 =>
 cond (icmp .lss s27 (ln a0.nodes)) (
 bnd (gt a0.nodes s27) fun y28 =>
 cond (icmp .gtr s27 0) (
 cond (icmp .neq y28.kind 0) (
 bnd (gt r9.2 s27) fun y29 =>
 cond (icmp .neq y29 1) (
 some (.inr (.inr (false)))) (
 some (.inl (iop .add .i64 s27 1)))) (
 some (.inl (iop .add .i64 s27 1)))) (
 some (.inl (iop .add .i64 s27 1)))) (
 some (.inr (.inl ())))) 0 : Option ((Unit) ⊕ (Bool))) <| Sum.elim (fun a22 =>
 some (true)) some) (
 some (false))) (
 some (false))
noncomputable def sl7Read (a0 : FsD) (a1 : Int) : Option ((List UInt8)) :=
 bnd (lp (σ := (List UInt8) × Int) (ρ := (List UInt8)) (fun s23 =>
 bnd (gt a0.nodes a1) fun y24 =>
 cond (icmp .lss s23.2 (ln y24.blocks)) (
 bnd (gt y24.blocks s23.2) fun y25 =>
 bnd (gt a0.data y25) fun y26 =>
 ck (Room (plus (slen s23.1) (slen y26)) 1) <|
 some (.inl (sapp s23.1 y26, iop .add .i64 s23.2 1))) (
 some (.inr (s23.1)))) ([], 0) : Option ((List UInt8))) <| fun a16 =>
 some (a16)
noncomputable def sGetText (a0 : List UInt8) (a1 : Int) : Option ((List UInt8) × Int × Bool) :=
 bnd (sGetNum a0 a1) fun r2 =>
 cond r2.2.2 (
 cond (icmp .gtr r2.1 (iop .sub .i64 (ln a0) r2.2.1)) (
 some (([], 0, false))) (
 ck (InS r2.2.1 (iop .add .i64 r2.2.1 r2.1) (ln a0)) <|
 some ((sb a0 r2.2.1 (iop .add .i64 r2.2.1 r2.1), iop .add .i64 r2.2.1 r2.1, true)))) (
 some (([], 0, false)))
noncomputable def sNameOk (a0 : List UInt8) : Option (Bool) :=
 bnd (sl1In (slen a0) 1 6) fun r3 =>
 cond r3 (
 bnd (lp (σ := Int) (ρ := (Unit) ⊕ (Bool)) (fun s7 =>
 cond (icmp .lss s7 (slen a0)) (
 ck (InR s7 (slen a0)) <|
 cond (icmp .geq (sget a0 s7) 97) (
 ck (InR s7 (slen a0)) <|
 cond (icmp .leq (sget a0 s7) 122) (
 some (.inl (iop .add .i64 s7 1))) (
 ck (InR s7 (slen a0)) <|
 cond (icmp .geq (sget a0 s7) 48) (
 ck (InR s7 (slen a0)) <|
 cond (icmp .leq (sget a0 s7) 57) (
 some (.inl (iop .add .i64 s7 1))) (
 some (.inr (.inr (false))))) (
 some (.inr (.inr (false)))))) (
 ck (InR s7 (slen a0)) <|
 cond (icmp .geq (sget a0 s7) 48) (
 ck (InR s7 (slen a0)) <|
 cond (icmp .leq (sget a0 s7) 57) (
 some (.inl (iop .add .i64 s7 1))) (
 some (.inr (.inr (false))))) (
 some (.inr (.inr (false)))))) (
 some (.inr (.inl ())))) 0 : Option ((Unit) ⊕ (Bool))) <| Sum.elim (fun a6 =>
 some (true)) some) (
 some (false))
noncomputable def sl8Name (a0 : List UInt8) : Option (Bool) :=
 cond (scmp .eql a0 [126]) (
 some (true)) (
 bnd (sNameOk a0) fun r2 =>
 some (r2))
noncomputable def sDirText (a0 : List EntryD) : Option ((List UInt8)) :=
 bnd (lp (σ := (List UInt8) × Int) (ρ := (List UInt8)) (fun s24 =>
 cond (icmp .lss s24.2 (ln a0)) (
 bnd (gt a0 s24.2) fun y25 =>
 bnd (sPutText y25.name) fun r26 =>
 ck (Room (plus (ln s24.1) (ln r26)) 1) <|
 bnd (sPutNum y25.node) fun r27 =>
 ck (Room (plus (ln (ap s24.1 r26)) (ln r27)) 1) <|
 some (.inl (ap (ap s24.1 r26) r27, iop .add .i64 s24.2 1))) (
 some (.inr (s24.1)))) ([], 0) : Option ((List UInt8))) <| fun a17 =>
 some (a17)
noncomputable def sEntriesOk (a0 : List EntryD) : Option (Bool) :=
 bnd (lp (σ := Int) (ρ := (Unit) ⊕ (Bool)) (fun s89 =>
 cond (icmp .lss s89 (ln a0)) (
 bnd (bnd (bnd (gt a0 s89) fun y120 =>
 bnd (sl8Name y120.name) fun r121 =>
 cond r121 (
 bnd (sl1In y120.node 1 9) fun r122 =>
 cond r122 (
 cond (icmp .gtr s89 0) (
 bnd (gt a0 (iop .sub .i64 s89 1)) fun y123 =>
 cond (scmp .leq y120.name y123.name) (
 some (.inr (.inr (.inr (.inr (false)))))) (
 some (.inl (y120.node, true, true)))) (
 some (.inl (y120.node, false, false)))) (
 some (.inr (.inr (.inr (.inr (false))))))) (
 some (.inr (.inr (.inr (.inr (false)))))) : Option ((Int × Bool × Bool) ⊕ ((Int × Bool × Bool) ⊕ ((Int) ⊕ ((Unit) ⊕ (Bool)))))) <| Sum.elim (fun a110 =>
 lp (σ := Int) (ρ := (Int × Bool × Bool) ⊕ ((Int) ⊕ ((Unit) ⊕ (Bool)))) (fun s115 =>
 cond (icmp .lss s115 s89) (
 bnd (gt a0 s115) fun y116 =>
 bnd (gt a0 s89) fun y117 =>
 cond (icmp .eql y116.node y117.node) (
 some (.inr (.inr (.inr (.inr (false)))))) (
 some (.inl (iop .add .i64 s115 1)))) (
 some (.inr (.inl (a110.1, a110.2.1, a110.2.2))))) 0) some : Option ((Int × Bool × Bool) ⊕ ((Int) ⊕ ((Unit) ⊕ (Bool))))) <| Sum.elim (fun a104 =>
 some (.inl (iop .add .i64 s89 1))) some) (
 some (.inr (.inl ())))) 0 : Option ((Unit) ⊕ (Bool))) <| Sum.elim (fun a57 =>
 bnd (sDirText a0) fun r59 =>
 some (icmp .leq (slen r59) 80)) some
noncomputable def sDirOf (a0 : List UInt8) : Option ((List EntryD) × Bool) :=
 ck (Room (slen a0) 1) <|
 bnd (lp (σ := (List EntryD) × Int) (ρ := ((List EntryD)) ⊕ ((List EntryD) × Bool)) (fun s19 =>
 cond (icmp .lss s19.2 (ln a0)) (
 bnd (sGetText a0 s19.2) fun r20 =>
 cond r20.2.2 (
 bnd (sGetNum a0 r20.2.1) fun r21 =>
 cond r21.2.2 (
 ck (Room (plus (ln s19.1) 1) 24) <|
 some (.inl (ap s19.1 [(⟨r20.1, r21.1⟩ : EntryD)], r21.2.1))) (
 some (.inr (.inr (([], false)))))) (
 some (.inr (.inr (([], false)))))) (
 some (.inr (.inl s19.1)))) ([], 0) : Option (((List EntryD)) ⊕ ((List EntryD) × Bool))) <| Sum.elim (fun a11 =>
 bnd (sEntriesOk a11) fun r14 =>
 cond r14 (
 some ((a11, true))) (
 some (([], false)))) some
noncomputable def sl9Dir (a0 : FsD) (a1 : Int) : Option ((List EntryD) × Bool) :=
 bnd (gt a0.nodes a1) fun y3 =>
 cond (icmp .neq y3.kind 2) (
 some (([], false))) (
 bnd (sl7Read a0 a1) fun r6 =>
 bnd (sDirOf r6) fun r7 =>
 some ((r7.1, r7.2)))
noncomputable def sl9SeenN : Nat → FsD → Int → Int → (List Int) → Option ((List Int) × Bool)
 | 0, _, _, _, _ => none
 | n + 1, a0, a1, a2, a3 =>
 ck (Room (plus 0 (ln a3)) 8) <|
 bnd (gt a3 a1) fun y2 =>
 cond (icmp .gtr (iop .add .i64 y2 1) 1) (
 some ((sl a3 a1 (iop .add .i64 y2 1), false))) (
 cond (icmp .gtr a2 4) (
 some ((sl a3 a1 (iop .add .i64 y2 1), false))) (
 bnd (gt a0.nodes a1) fun y5 =>
 cond (icmp .neq y5.kind 2) (
 some ((sl a3 a1 (iop .add .i64 y2 1), true))) (
 bnd (sl9Dir a0 a1) fun r7 =>
 cond r7.2 (
 bnd (lp (σ := (List Int) × Int) (ρ := ((List Int)) ⊕ ((List Int) × Bool)) (fun s45 =>
 cond (icmp .lss s45.2 (ln r7.1)) (
 bnd (gt r7.1 s45.2) fun y46 =>
 cond (icmp .geq y46.node (ln a0.nodes)) (
 some (.inr (.inr ((s45.1, false))))) (
 bnd (gt a0.nodes y46.node) fun y47 =>
 cond (icmp .eql y47.kind 0) (
 some (.inr (.inr ((s45.1, false))))) (
 bnd (cond (scmp .eql y46.name [126]) (
 cond (icmp .neq a1 0) (
 some (.inr (.inr (.inr ((s45.1, false)))))) (
 cond (icmp .neq y47.kind 1) (
 some (.inr (.inr (.inr ((s45.1, false)))))) (
 some (.inl ())))) (
 some (.inl ())) : Option ((Unit) ⊕ (((List Int) × Int) ⊕ (((List Int)) ⊕ ((List Int) × Bool))))) <| Sum.elim (fun a49 =>
 bnd (sl9SeenN n a0 y46.node (iop .add .i64 a2 1) s45.1) fun r50 =>
 cond r50.2 (
 some (.inl (r50.1, iop .add .i64 s45.2 1))) (
 some (.inr (.inr ((s45.1, false)))))) some))) (
 some (.inr (.inl s45.1)))) (sl a3 a1 (iop .add .i64 y2 1), 0) : Option (((List Int)) ⊕ ((List Int) × Bool))) <| Sum.elim (fun a34 =>
 some ((a34, true))) some) (
 some ((sl a3 a1 (iop .add .i64 y2 1), false))))))
noncomputable def sl9Seen (a0 : FsD) (a1 : Int) (a2 : Int) (a3 : List Int) : Option ((List Int) × Bool) := rc fun n => sl9SeenN n a0 a1 a2 a3
noncomputable def sFsOk (a0 : FsD) : Option (Bool) :=
 bnd (sShapeOk a0) fun r3 =>
 cond r3 (
 ck (InS 0 (ln a0.nodes) (ln a0.nodes)) <|
 ck (Room (ln a0.nodes) 8) <|
 bnd (sl9Seen a0 0 0 (rp (ln a0.nodes) (0 : Int))) fun r5 =>
 cond r5.2 (
 bnd (lp (σ := Int) (ρ := (Unit) ⊕ (Bool)) (fun s23 =>
 cond (icmp .lss s23 (ln a0.nodes)) (
 bnd (gt r5.1 s23) fun y24 =>
 bnd (gt a0.nodes s23) fun y25 =>
 cond (icmp .eql y24 1) (
 cond (icmp .neq y25.kind 0) (
 some (.inl (iop .add .i64 s23 1))) (
 some (.inr (.inr (false))))) (
 cond (icmp .neq y25.kind 0) (
 some (.inr (.inr (false)))) (
 some (.inl (iop .add .i64 s23 1))))) (
 some (.inr (.inl ())))) 0 : Option ((Unit) ⊕ (Bool))) <| Sum.elim (fun a18 =>
 some (true)) some) (
 some (false))) (
 some (false))
end Go.Ar
end
section
namespace Go.Ar
open Go.Proofs
set_option linter.unusedVariables false
set_option linter.unusedSimpArgs false
set_option maxRecDepth 20000
set_option maxHeartbeats 40000000
noncomputable def iSectorRead (a0 : DiskD) (a1 : Int) : Option ((List UInt8) × Bool) :=
 bnd (iDiskOk a0) fun r5 =>
 cond r5 (
 bnd (iwithin a1 0 (iop .sub .i64 (ln a0.sectors) 1)) fun r6 =>
 cond r6 (
 bnd (gt a0.sectors a1) fun y8 =>
 bnd (lp (σ := (List UInt8) × Int) (ρ := (List UInt8)) (fun s19 =>
 cond (icmp .lss s19.2 (ln a0.pend)) (
 bnd (gt a0.pend s19.2) fun y20 =>
 cond (icmp .eql y20.pos a1) (
 some (.inl (y20.data, iop .add .i64 s19.2 1))) (
 some (.inl (s19.1, iop .add .i64 s19.2 1)))) (
 some (.inr (s19.1)))) (y8, 0) : Option ((List UInt8))) <| fun a16 =>
 some ((a16, true))) (
 some (([], false)))) (
 some (([], false)))
noncomputable def gslices_Clip_string (a0 : List (List UInt8)) : Option ((List (List UInt8))) :=
 ck (InS 0 (ln a0) (ln a0)) <|
 ck (InS 0 (ln a0) (ln a0)) <|
 some (sb a0 0 (ln a0))
noncomputable def iHomeOf (a0 : DiskD) (a1 : Int) : Option ((List (List UInt8))) :=
 bnd (ihomed a0 a1) fun r3 =>
 cond r3 (
 bnd (lp (σ := (List (List UInt8)) × Int) (ρ := (List (List UInt8))) (fun s16 =>
 cond (icmp .lss s16.2 a1) (
 bnd (iSectorRead a0 (iop .add .i64 (iop .add .i64 a1 1) s16.2)) fun r17 =>
 ck (Room (plus (ln s16.1) 1) 16) <|
 some (.inl (ap s16.1 [r17.1], iop .add .i64 s16.2 1))) (
 some (.inr (s16.1)))) ([], 0) : Option ((List (List UInt8)))) <| fun a11 =>
 bnd (gslices_Clip_string a11) fun r13 =>
 some (r13)) (
 some ([]))
noncomputable def iNodeOf (a0 : List UInt8) : Option (NodeD × Bool) :=
 cond (scmp .eql a0 []) (
 some (((⟨0, 0, 0, 0, []⟩ : NodeD), false))) (
 ck (Room (slen a0) 1) <|
 bnd (lp (σ := (List Int) × Int) (ρ := ((List Int)) ⊕ (NodeD × Bool)) (fun s32 =>
 cond (icmp .lss s32.2 (ln a0)) (
 bnd (iGetNum a0 s32.2) fun r33 =>
 cond r33.2.2 (
 ck (Room (plus (ln s32.1) 1) 8) <|
 some (.inl (ap s32.1 [r33.1], r33.2.1))) (
 some (.inr (.inr (((⟨0, 0, 0, 0, []⟩ : NodeD), false)))))) (
 some (.inr (.inl s32.1)))) ([], 1) : Option (((List Int)) ⊕ (NodeD × Bool))) <| Sum.elim (fun a7 =>
 bnd (gt a0 0) fun y9 =>
 bnd (cond (icmp .geq (ln a7) 3) (
 bnd (gt a7 0) fun y25 =>
 bnd (gt a7 1) fun y26 =>
 bnd (gt a7 2) fun y27 =>
 ck (InS 3 (ln a7) (ln a7)) <|
 some ((y25, y26, y27, sb a7 3 (ln a7)))) (
 some ((0, 0, 0, []))) : Option (Int × Int × Int × (List Int))) <| fun a20 =>
 bnd (iNodeText (⟨wrp .i64 (b2i y9), a20.1, a20.2.1, a20.2.2.1, a20.2.2.2⟩ : NodeD)) fun r23 =>
 cond (scmp .neq r23 a0) (
 some (((⟨0, 0, 0, 0, []⟩ : NodeD), false))) (
 some (((⟨wrp .i64 (b2i y9), a20.1, a20.2.1, a20.2.2.1, a20.2.2.2⟩ : NodeD), true)))) some)
noncomputable def gslices_Equal_string (a0 : List (List UInt8)) (a1 : List (List UInt8)) : Option (Bool) :=
 cond (icmp .neq (ln a0) (ln a1)) (
 some (false)) (
 bnd (lp (σ := Int) (ρ := (Unit) ⊕ (Bool)) (fun s18 =>
 cond (icmp .lss s18 (ln a0)) (
 bnd (gt a0 s18) fun y19 =>
 bnd (gt a1 s18) fun y20 =>
 cond (scmp .neq y19 y20) (
 some (.inr (.inr (false)))) (
 some (.inl (iop .add .i64 s18 1)))) (
 some (.inr (.inl ())))) 0 : Option ((Unit) ⊕ (Bool))) <| Sum.elim (fun a13 =>
 some (true)) some)
noncomputable def iFsOf (a0 : List (List UInt8)) : Option (FsD × Bool) :=
 cond (icmp .lss (ln a0) 2) (
 some (((⟨[], []⟩ : FsD), false))) (
 bnd (gt a0 0) fun y3 =>
 cond (icmp .lss (slen y3) 4) (
 some (((⟨[], []⟩ : FsD), false))) (
 ck (Room (slen y3) 1) <|
 bnd (iGetNum y3 4) fun r5 =>
 bnd (iGetNum y3 r5.2.1) fun r7 =>
 cond r5.2.2 (
 cond r7.2.2 (
 cond (icmp .gtr r5.1 10) (
 some (((⟨[], []⟩ : FsD), false))) (
 cond (icmp .neq (ln a0) (iop .add .i64 (iop .add .i64 2 r5.1) r7.1)) (
 some (((⟨[], []⟩ : FsD), false))) (
 ck (InS (iop .add .i64 2 r5.1) (ln a0) (ln a0)) <|
 bnd (gslices_Clone_string (sb a0 (iop .add .i64 2 r5.1) (ln a0))) fun r9 =>
 bnd (ck (InS 2 (iop .add .i64 2 r5.1) (ln a0)) <|
 lp (σ := Int × (List NodeD)) (ρ := ((List NodeD)) ⊕ (FsD × Bool)) (fun s39 =>
 cond (icmp .lss s39.1 (ln (sb a0 2 (iop .add .i64 2 r5.1)))) (
 bnd (gt (sb a0 2 (iop .add .i64 2 r5.1)) s39.1) fun y40 =>
 bnd (iNodeOf y40) fun r41 =>
 cond r41.2 (
 ck (Room (plus (ln s39.2) 1) 56) <|
 some (.inl (iop .add .i64 s39.1 1, ap s39.2 [r41.1]))) (
 some (.inr (.inr (((⟨[], []⟩ : FsD), false)))))) (
 some (.inr (.inl s39.2)))) (0, []) : Option (((List NodeD)) ⊕ (FsD × Bool))) <| Sum.elim (fun a22 =>
 bnd (iShapeOk (⟨a22, r9⟩ : FsD)) fun r31 =>
 cond r31 (
 bnd (iFsBlocks (⟨a22, r9⟩ : FsD)) fun r32 => oc r32 (
 bnd (gslices_Equal_string [] a0) fun r33 =>
 cond r33 (
 some (((⟨a22, r9⟩ : FsD), true))) (
 some (((⟨[], []⟩ : FsD), false)))) fun r32 =>
 bnd (gslices_Equal_string r32 a0) fun r34 =>
 cond r34 (
 some (((⟨a22, r9⟩ : FsD), true))) (
 some (((⟨[], []⟩ : FsD), false)))) (
 some (((⟨[], []⟩ : FsD), false)))) some))) (
 some (((⟨[], []⟩ : FsD), false)))) (
 some (((⟨[], []⟩ : FsD), false)))))
noncomputable def iMount (a0 : DiskD) : Option (FsD × Bool) :=
 bnd (ihomed a0 (iop .quo .i64 (ln a0.sectors) 2)) fun r3 =>
 cond r3 (
 bnd (iRecover a0 (iop .quo .i64 (ln a0.sectors) 2)) fun r7 =>
 bnd (iHomeOf r7 (iop .quo .i64 (ln a0.sectors) 2)) fun r8 =>
 bnd (iFsOf r8) fun r9 =>
 cond r9.2 (
 bnd (iFsOk r9.1) fun r12 =>
 cond r12 (
 some ((r9.1, true))) (
 some (((⟨[], []⟩ : FsD), false)))) (
 some (((⟨[], []⟩ : FsD), false)))) (
 some (((⟨[], []⟩ : FsD), false)))
noncomputable def sSectorRead (a0 : DiskD) (a1 : Int) : Option ((List UInt8) × Bool) :=
 bnd (sDiskOk a0) fun r5 =>
 cond r5 (
 bnd (sl1In a1 0 (iop .sub .i64 (ln a0.sectors) 1)) fun r6 =>
 cond r6 (
 bnd (lp (σ := Int) (ρ := (Unit) ⊕ ((List UInt8) × Bool)) (fun s19 =>
 cond (icmp .geq s19 0) (
 bnd (gt a0.pend s19) fun y20 =>
 cond (icmp .eql y20.pos a1) (
 some (.inr (.inr ((y20.data, true))))) (
 some (.inl (iop .sub .i64 s19 1)))) (
 some (.inr (.inl ())))) (iop .sub .i64 (ln a0.pend) 1) : Option ((Unit) ⊕ ((List UInt8) × Bool))) <| Sum.elim (fun a14 =>
 bnd (gt a0.sectors a1) fun y16 =>
 some ((y16, true))) some) (
 some (([], false)))) (
 some (([], false)))
noncomputable def sHomeOf (a0 : DiskD) (a1 : Int) : Option ((List (List UInt8))) :=
 bnd (sl4Ok a0 a1) fun r3 =>
 cond r3 (
 bnd (lp (σ := (List (List UInt8)) × Int) (ρ := (List (List UInt8))) (fun s14 =>
 cond (icmp .lss s14.2 a1) (
 bnd (sSectorRead a0 (iop .add .i64 (iop .add .i64 a1 1) s14.2)) fun r15 =>
 ck (Room (plus (ln s14.1) 1) 16) <|
 some (.inl (ap s14.1 [r15.1], iop .add .i64 s14.2 1))) (
 some (.inr (s14.1)))) ([], 0) : Option ((List (List UInt8)))) <| fun a11 =>
 some (a11)) (
 some ([]))
noncomputable def sNodeOf (a0 : List UInt8) : Option (NodeD × Bool) :=
 ck (Room (slen a0) 1) <|
 cond (icmp .eql (ln a0) 0) (
 some (((⟨0, 0, 0, 0, []⟩ : NodeD), false))) (
 bnd (gt a0 0) fun y2 =>
 cond (icmp .eql (wrp .i64 (b2i y2)) 0) (
 some (((⟨wrp .i64 (b2i y2), 0, 0, 0, []⟩ : NodeD), icmp .eql (ln a0) 1))) (
 bnd (lp (σ := (List Int) × Int) (ρ := ((List Int)) ⊕ (NodeD × Bool)) (fun s24 =>
 cond (icmp .lss s24.2 (ln a0)) (
 bnd (sGetNum a0 s24.2) fun r25 =>
 cond r25.2.2 (
 ck (Room (plus (ln s24.1) 1) 8) <|
 some (.inl (ap s24.1 [r25.1], r25.2.1))) (
 some (.inr (.inr (((⟨0, 0, 0, 0, []⟩ : NodeD), false)))))) (
 some (.inr (.inl s24.1)))) ([], 1) : Option (((List Int)) ⊕ (NodeD × Bool))) <| Sum.elim (fun a9 =>
 cond (icmp .lss (ln a9) 3) (
 some (((⟨0, 0, 0, 0, []⟩ : NodeD), false))) (
 bnd (gt a9 0) fun y11 =>
 bnd (gt a9 1) fun y13 =>
 bnd (gt a9 2) fun y15 =>
 ck (InS 3 (ln a9) (ln a9)) <|
 ck (Room (plus 0 (ln (sb a9 3 (ln a9)))) 8) <|
 bnd (sNodeOk (⟨wrp .i64 (b2i y2), y11, y13, y15, sb a9 3 (ln a9)⟩ : NodeD)) fun r18 =>
 cond r18 (
 some (((⟨wrp .i64 (b2i y2), y11, y13, y15, sb a9 3 (ln a9)⟩ : NodeD), true))) (
 some (((⟨0, 0, 0, 0, []⟩ : NodeD), false))))) some))
noncomputable def sl1Texts (a0 : List (List UInt8)) (a1 : List (List UInt8)) : Option (Bool) :=
 cond (icmp .neq (ln a0) (ln a1)) (
 some (false)) (
 bnd (lp (σ := Int) (ρ := (Unit) ⊕ (Bool)) (fun s18 =>
 cond (icmp .lss s18 (ln a0)) (
 bnd (gt a0 s18) fun y19 =>
 bnd (gt a1 s18) fun y20 =>
 cond (scmp .neq y19 y20) (
 some (.inr (.inr (false)))) (
 some (.inl (iop .add .i64 s18 1)))) (
 some (.inr (.inl ())))) 0 : Option ((Unit) ⊕ (Bool))) <| Sum.elim (fun a13 =>
 some (true)) some)
noncomputable def sFsOf (a0 : List (List UInt8)) : Option (FsD × Bool) :=
 cond (icmp .lss (ln a0) 2) (
 some (((⟨[], []⟩ : FsD), false))) (
 bnd (gt a0 0) fun y3 =>
 cond (icmp .neq (slen y3) 6) (
 some (((⟨[], []⟩ : FsD), false))) (
 ck (InR 4 (slen y3)) <|
 ck (InR 5 (slen y3)) <|
 cond (icmp .neq (ln a0) (iop .add .i64 (iop .add .i64 2 (wrp .i64 (sget y3 4))) (wrp .i64 (sget y3 5)))) (
 some (((⟨[], []⟩ : FsD), false))) (
 ck (InS (iop .add .i64 2 (wrp .i64 (sget y3 4))) (ln a0) (ln a0)) <|
 bnd (sl1Copy (sb a0 (iop .add .i64 2 (wrp .i64 (sget y3 4))) (ln a0))) fun r5 =>
 bnd (lp (σ := Int × (List NodeD)) (ρ := ((List NodeD)) ⊕ (FsD × Bool)) (fun s32 =>
 cond (icmp .lss s32.1 (wrp .i64 (sget y3 4))) (
 bnd (gt a0 (iop .add .i64 2 s32.1)) fun y33 =>
 bnd (sNodeOf y33) fun r34 =>
 cond r34.2 (
 ck (Room (plus (ln s32.2) 1) 56) <|
 some (.inl (iop .add .i64 s32.1 1, ap s32.2 [r34.1]))) (
 some (.inr (.inr (((⟨[], []⟩ : FsD), false)))))) (
 some (.inr (.inl s32.2)))) (0, []) : Option (((List NodeD)) ⊕ (FsD × Bool))) <| Sum.elim (fun a18 =>
 bnd (sShapeOk (⟨a18, r5⟩ : FsD)) fun r25 =>
 cond r25 (
 bnd (sFsBlocks (⟨a18, r5⟩ : FsD)) fun r26 =>
 bnd (sl1Texts r26 a0) fun r27 =>
 cond r27 (
 some (((⟨a18, r5⟩ : FsD), true))) (
 some (((⟨[], []⟩ : FsD), false)))) (
 some (((⟨[], []⟩ : FsD), false)))) some)))
noncomputable def sMount (a0 : DiskD) : Option (FsD × Bool) :=
 bnd (sl4Ok a0 (iop .quo .i64 (ln a0.sectors) 2)) fun r3 =>
 cond r3 (
 bnd (sRecover a0 (iop .quo .i64 (ln a0.sectors) 2)) fun r7 =>
 bnd (sHomeOf r7 (iop .quo .i64 (ln a0.sectors) 2)) fun r8 =>
 bnd (sFsOf r8) fun r9 =>
 cond r9.2 (
 bnd (sFsOk r9.1) fun r12 =>
 cond r12 (
 some ((r9.1, true))) (
 some (((⟨[], []⟩ : FsD), false)))) (
 some (((⟨[], []⟩ : FsD), false)))) (
 some (((⟨[], []⟩ : FsD), false)))
end Go.Ar
end
section
namespace Go.Ar
end Go.Ar
end
