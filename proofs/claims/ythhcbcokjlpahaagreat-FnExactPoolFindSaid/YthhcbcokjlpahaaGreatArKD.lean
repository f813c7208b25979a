import Derived.Test.YthhcbcokjlpahaaGreatArDcS
import Derived.Test.YthhcbcokjlpahaaGreatArSd
section
namespace Go.Ar
open Go.Proofs
set_option linter.unusedVariables false
set_option linter.unusedSimpArgs false
set_option maxRecDepth 20000
set_option maxHeartbeats 40000000
noncomputable def iwithin(a0:Int)(a1:Int)(a2:Int):Option (Bool) :=
 cond (icmp .geq a0 a1) (
 some (icmp .leq a0 a2)) (
 some (false))
noncomputable def iBlocksFor(a0:Int):Option (Int) :=
 cond (icmp .leq a0 0) (
 some (0)) (
 cond (icmp .gtr a0 80) (
 some (5)) (
 some (iop .quo .i64 (iop .sub .i64 (iop .add .i64 a0 16) 1) 16)))
noncomputable def gslices_Index_int(a0:List Int)(a1:Int):Option (Int) :=
 bnt [] [] (fun a=>[]) (fun a=>[]) (lpt (σ:=Int) (ρ:=(Unit) ⊕ (Int)) [0,1,7,8] [] (fun a=>[(8,.i .i64 a)]) (fun a=>[]) (fun s11 =>
 cond (icmp .lss s11 (ln a0)) (
 bnd (gt a0 s11) fun y12 =>
 cond (icmp .eql a1 y12) (
 some (.inr (.inr (s11)))) (
 some (.inl (iop .add .i64 s11 1)))) (
 some (.inr (.inl ())))) 0:Option ((Unit) ⊕ (Int))) fun a8 =>
 some (-1)
noncomputable def gslices_Contains_int(a0:List Int)(a1:Int):Option (Bool) :=
 bnd (gslices_Index_int a0 a1) fun r2 =>
 some (icmp .geq r2 0)
noncomputable def iNodeOk(a0:NodeD):Option (Bool) :=
 cond (icmp .eql a0.kind 0) (
 cond (icmp .eql a0.gen 0) (
 cond (icmp .eql a0.time 0) (
 cond (icmp .eql a0.size 0) (
 some (icmp .eql (ln a0.blocks) 0)) (
 some (false))) (
 some (false))) (
 some (false))) (
 bnd (iwithin a0.kind 1 3) fun r12 =>
 cond r12 (
 bnd (iwithin a0.gen 0 1000000) fun r13 =>
 cond r13 (
 bnd (iwithin a0.time 0 100000) fun r14 =>
 cond r14 (
 bnd (iwithin a0.size 0 80) fun r15 =>
 cond r15 (
 bnt [1] [1] (fun a=>[]) (fun a=>[]) (cond (icmp .eql a0.kind 2) (
 cond (icmp .neq a0.gen 0) (
 some (.inr (false))) (
 cond (icmp .neq a0.time 0) (
 some (.inr (false))) (
 bnd (iBlocksFor a0.size) fun r54 =>
 cond (icmp .neq (ln a0.blocks) r54) (
 some (.inr (false))) (
 some (.inl ()))))) (
 bnd (iBlocksFor a0.size) fun r58 =>
 cond (icmp .neq (ln a0.blocks) r58) (
 some (.inr (false))) (
 some (.inl ()))):Option ((Unit) ⊕ (Bool))) fun a23 =>
 bnt [] [] (fun a=>[]) (fun a=>[]) (lpt (σ:=Int) (ρ:=(Unit) ⊕ (Bool)) [1,72,73,74] [1] (fun a=>[(74,.i .i64 a)]) (fun a=>[]) (fun s48 =>
 cond (icmp .lss s48 (ln a0.blocks)) (
 bnd (gt a0.blocks s48) fun y49 =>
 bnd (iwithin y49 0 35) fun r50 =>
 cond r50 (
 ck (InS 0 s48 (ln a0.blocks)) <|
 bnd (gslices_Contains_int (sb a0.blocks 0 s48) y49) fun r51 =>
 cond r51 (
 some (.inr (.inr (false)))) (
 some (.inl (iop .add .i64 s48 1)))) (
 some (.inr (.inr (false))))) (
 some (.inr (.inl ())))) 0:Option ((Unit) ⊕ (Bool))) fun a41 =>
 some (true)) (
 some (false))) (
 some (false))) (
 some (false))) (
 some (false)))
noncomputable def iShapeOk_1(a0:NodeD):Option (Bool) :=
 bnd (iNodeOk a0) fun r2 =>
 some ((!r2))
noncomputable def gslices_IndexFunc_Node_iShapeOk_1(a0:List NodeD):Option (Int) :=
 bnt [] [] (fun a=>[]) (fun a=>[]) (lpt (σ:=Int) (ρ:=(Unit) ⊕ (Int)) [0,1,7,8] [] (fun a=>[(8,.i .i64 a)]) (fun a=>[]) (fun s18 =>
 cond (icmp .lss s18 (ln a0)) (
 bnd (gt a0 s18) fun y19 =>
 bnd (iShapeOk_1 y19) fun r20 =>
 cond r20 (
 some (.inr (.inr (s18)))) (
 some (.inl (iop .add .i64 s18 1)))) (
 some (.inr (.inl ())))) 0:Option ((Unit) ⊕ (Int))) fun a13 =>
 some (-1)
noncomputable def gslices_ContainsFunc_Node_iShapeOk_1(a0:List NodeD):Option (Bool) :=
 bnd (gslices_IndexFunc_Node_iShapeOk_1 a0) fun r2 =>
 some (icmp .geq r2 0)
noncomputable def gmath_bits_Mul64(a0:Int)(a1:Int):Option (Int × Int) :=
 some ((iop .add .u64 (iop .add .u64 (iop .mul .u64 (iop .shr .u64 a0 32) (iop .shr .u64 a1 32)) (iop .shr .u64 (iop .add .u64 (iop .mul .u64 (iop .shr .u64 a0 32) (iop .and .u64 a1 4294967295)) (iop .shr .u64 (iop .mul .u64 (iop .and .u64 a0 4294967295) (iop .and .u64 a1 4294967295)) 32)) 32)) (iop .shr .u64 (iop .add .u64 (iop .and .u64 (iop .add .u64 (iop .mul .u64 (iop .shr .u64 a0 32) (iop .and .u64 a1 4294967295)) (iop .shr .u64 (iop .mul .u64 (iop .and .u64 a0 4294967295) (iop .and .u64 a1 4294967295)) 32)) 4294967295) (iop .mul .u64 (iop .and .u64 a0 4294967295) (iop .shr .u64 a1 32))) 32),iop .mul .u64 a0 a1))
noncomputable def gmath_bits_Mul(a0:Int)(a1:Int):Option (Int × Int) :=
 bnd (gmath_bits_Mul64 a0 a1) fun r2 =>
 some ((r2.1,r2.2))
noncomputable def gslices_Repeat_int(a0:List Int)(a1:Int):Option ((List Int)) :=
 cond (icmp .lss a1 0) (
 none) (
 bnd (gmath_bits_Mul (wrp .u64 (ln a0)) (wrp .u64 a1)) fun r2 =>
 cond (icmp .gtr r2.1 0) (
 none) (
 cond (icmp .gtr r2.2 9223372036854775807) (
 none) (
 ck (InS 0 (wrp .i64 r2.2) (wrp .i64 r2.2)) <|
 ck (Room (wrp .i64 r2.2) 8) <|
 bnu [7] [] (fun a=>[(7,.sl .own 1 (rows intR a))]) (fun a=>[]) (lpt (σ:=(List Int) × Int) (ρ:=(List Int)) [7,8] [] (fun a=>[(7,.sl .own 1 (rows intR a.1)),(8,.i .i64 a.2)]) (fun a=>[]) (fun s6 =>
 cond (icmp .lss s6.2 (ln s6.1)) (
 ck (InS s6.2 (ln s6.1) (ln s6.1)) <|
 ck (InS 0 s6.2 (ln s6.1)) <|
 some (.inl (cpl (some (s6.2,ln s6.1)) s6.1 (sb s6.1 0 s6.2),iop .add .i64 s6.2 (cpc (some (s6.2,ln s6.1)) s6.1 (sb s6.1 0 s6.2))))) (
 some (.inr (s6.1)))) (cpl none (rp (wrp .i64 r2.2) (0:Int)) a0,cpc none (rp (wrp .i64 r2.2) (0:Int)) a0):Option ((List Int))) fun a5 =>
 some (a5))))
noncomputable def iowners(a0:FsD):Option ((List Int) × Bool) :=
 bnd (gslices_Repeat_int [-1] (ln a0.data)) fun r2 =>
 bnt [4] [] (fun a=>[(4,.sl .own 1 (rows intR a))]) (fun a=>[]) (lpt (σ:=(List Int) × Int) (ρ:=((List Int)) ⊕ ((List Int) × Bool)) [1,4,15,16,17] [1] (fun a=>[(4,.sl .own 1 (rows intR a.1)),(17,.i .i64 a.2)]) (fun a=>[]) (fun s62 =>
 cond (icmp .lss s62.2 (ln a0.nodes)) (
 bnt [1,4,15,16,17] [1] (fun a=>[(4,.sl .own 1 (rows intR a))]) (fun a=>[]) (bnd (gt a0.nodes s62.2) fun y73 =>
 lpt (σ:=(List Int) × Int) (ρ:=((List Int)) ⊕ (((List Int) × Int) ⊕ (((List Int)) ⊕ ((List Int) × Bool)))) [1,4,5,15,16,17,23,24,25] [1] (fun a=>[(4,.sl .own 1 (rows intR a.1)),(25,.i .i64 a.2)]) (fun a=>[]) (fun s78 =>
 cond (icmp .lss s78.2 (ln y73.blocks)) (
 bnd (gt y73.blocks s78.2) fun y79 =>
 cond (icmp .geq y79 (ln a0.data)) (
 some (.inr (.inr (.inr (.inr (([],false))))))) (
 bnd (gt s78.1 y79) fun y80 =>
 cond (icmp .geq y80 0) (
 some (.inr (.inr (.inr (.inr (([],false))))))) (
 some (.inl (sl s78.1 y79 s62.2,iop .add .i64 s78.2 1))))) (
 some (.inr (.inl s78.1)))) (s62.1,0):Option (((List Int)) ⊕ (((List Int) × Int) ⊕ (((List Int)) ⊕ ((List Int) × Bool))))) fun a72 =>
 some (.inl (a72,iop .add .i64 s62.2 1))) (
 some (.inr (.inl s62.1)))) (r2,0):Option (((List Int)) ⊕ ((List Int) × Bool))) fun a41 =>
 some ((a41,true))
noncomputable def iShapeOk(a0:FsD):Option (Bool) :=
 bnd (iwithin (ln a0.nodes) 2 10) fun r7 =>
 cond r7 (
 bnd (iwithin (ln a0.data) 1 36) fun r8 =>
 cond r8 (
 bnd (gt a0.nodes 0) fun y9 =>
 cond (icmp .neq y9.kind 2) (
 some (false)) (
 bnd (gslices_ContainsFunc_Node_iShapeOk_1 a0.nodes) fun r12 =>
 cond r12 (
 some (false)) (
 bnd (iowners a0) fun r14 =>
 cond r14.2 (
 bnt [1] [1] (fun a=>[]) (fun a=>[]) (lpt (σ:=Int) (ρ:=(Unit) ⊕ (Bool)) [1,3,43,44,45] [1] (fun a=>[(45,.i .i64 a)]) (fun a=>[]) (fun s110 =>
 cond (icmp .lss s110 (ln a0.data)) (
 bnd (gt a0.data s110) fun y111 =>
 cond (icmp .gtr (slen y111) 16) (
 some (.inr (.inr (false)))) (
 bnd (gt r14.1 s110) fun y112 =>
 cond (icmp .lss y112 0) (
 cond (scmp .neq y111 []) (
 some (.inr (.inr (false)))) (
 some (.inl (iop .add .i64 s110 1)))) (
 some (.inl (iop .add .i64 s110 1))))) (
 some (.inr (.inl ())))) 0:Option ((Unit) ⊕ (Bool))) fun a27 =>
 bnt [] [] (fun a=>[]) (fun a=>[]) (lpt (σ:=Int) (ρ:=(Unit) ⊕ (Bool)) [1,66,67,68] [1] (fun a=>[(68,.i .i64 a)]) (fun a=>[]) (fun s84 =>
 cond (icmp .lss s84 (ln a0.nodes)) (
 bnt [1,66,67,68] [1] (fun a=>[]) (fun a=>[]) (bnd (gt a0.nodes s84) fun y95 =>
 lpt (σ:=Int × Int) (ρ:=(Unit) ⊕ ((Int) ⊕ ((Unit) ⊕ (Bool)))) [1,9,66,67,68,75,76,77] [1] (fun a=>[(9,.i .i64 a.1),(77,.i .i64 a.2)]) (fun a=>[]) (fun s100 =>
 cond (icmp .lss s100.2 (ln y95.blocks)) (
 bnd (gt y95.blocks s100.2) fun y101 =>
 bnd (gt a0.data y101) fun y102 =>
 cond (icmp .neq (slen y102) (imin s100.1 16)) (
 some (.inr (.inr (.inr (.inr (false)))))) (
 some (.inl (iop .sub .i64 s100.1 16,iop .add .i64 s100.2 1)))) (
 some (.inr (.inl ())))) (y95.size,0):Option ((Unit) ⊕ ((Int) ⊕ ((Unit) ⊕ (Bool))))) fun a94 =>
 some (.inl (iop .add .i64 s84 1))) (
 some (.inr (.inl ())))) 0:Option ((Unit) ⊕ (Bool))) fun a64 =>
 some (true)) (
 some (false))))) (
 some (false))) (
 some (false))
noncomputable def sl1In(a0:Int)(a1:Int)(a2:Int):Option (Bool) :=
 cond (icmp .geq a0 a1) (
 some (icmp .leq a0 a2)) (
 some (false))
noncomputable def sBlocksFor(a0:Int):Option (Int) :=
 cond (icmp .leq a0 0) (
 some (0)) (
 cond (icmp .geq a0 80) (
 some (5)) (
 some (iop .quo .i64 (iop .sub .i64 (iop .add .i64 a0 16) 1) 16)))
noncomputable def sl1Has(a0:List Int)(a1:Int):Option (Bool) :=
 bnt [] [] (fun a=>[]) (fun a=>[]) (lpt (σ:=Int) (ρ:=(Unit) ⊕ (Bool)) [0,1,5] [] (fun a=>[(5,.i .i64 a)]) (fun a=>[]) (fun s11 =>
 cond (icmp .lss s11 (ln a0)) (
 bnd (gt a0 s11) fun y12 =>
 cond (icmp .eql y12 a1) (
 some (.inr (.inr (true)))) (
 some (.inl (iop .add .i64 s11 1)))) (
 some (.inr (.inl ())))) 0:Option ((Unit) ⊕ (Bool))) fun a8 =>
 some (false)
noncomputable def sNodeOk(a0:NodeD):Option (Bool) :=
 cond (icmp .eql a0.kind 0) (
 cond (icmp .eql a0.gen 0) (
 cond (icmp .eql a0.time 0) (
 cond (icmp .eql a0.size 0) (
 some (icmp .eql (ln a0.blocks) 0)) (
 some (false))) (
 some (false))) (
 some (false))) (
 bnd (sl1In a0.kind 1 3) fun r14 =>
 cond r14 (
 bnd (sl1In a0.gen 0 1000000) fun r15 =>
 cond r15 (
 bnd (sl1In a0.time 0 100000) fun r16 =>
 cond r16 (
 bnd (sl1In a0.size 0 80) fun r17 =>
 cond r17 (
 bnd (sBlocksFor a0.size) fun r18 =>
 cond (icmp .neq (ln a0.blocks) r18) (
 some (false)) (
 bnt [1] [1] (fun a=>[]) (fun a=>[]) (cond (icmp .eql a0.kind 2) (
 cond (icmp .neq a0.gen 0) (
 some (.inr (false))) (
 cond (icmp .neq a0.time 0) (
 some (.inr (false))) (
 some (.inl ())))) (
 some (.inl ())):Option ((Unit) ⊕ (Bool))) fun a20 =>
 bnt [] [] (fun a=>[]) (fun a=>[]) (lpt (σ:=Int) (ρ:=(Unit) ⊕ (Bool)) [1,3] [1] (fun a=>[(3,.i .i64 a)]) (fun a=>[]) (fun s45 =>
 cond (icmp .lss s45 (ln a0.blocks)) (
 bnd (gt a0.blocks s45) fun y46 =>
 bnd (sl1In y46 0 35) fun r47 =>
 cond r47 (
 ck (InS 0 s45 (ln a0.blocks)) <|
 bnd (sl1Has (sb a0.blocks 0 s45) y46) fun r48 =>
 cond r48 (
 some (.inr (.inr (false)))) (
 some (.inl (iop .add .i64 s45 1)))) (
 some (.inr (.inr (false))))) (
 some (.inr (.inl ())))) 0:Option ((Unit) ⊕ (Bool))) fun a38 =>
 some (true))) (
 some (false))) (
 some (false))) (
 some (false))) (
 some (false)))
noncomputable def sl6Used(a0:FsD):Option ((List Int)) :=
 ck (InS 0 (iop .add .i64 (ln a0.data) 1) (iop .add .i64 (ln a0.data) 1)) <|
 ck (Room (iop .add .i64 (ln a0.data) 1) 8) <|
 bnu [3] [] (fun a=>[(3,.sl .own 1 (rows intR a))]) (fun a=>[]) (lpt (σ:=(List Int) × Int) (ρ:=(List Int)) [1,3,4] [1] (fun a=>[(3,.sl .own 1 (rows intR a.1)),(4,.i .i64 a.2)]) (fun a=>[]) (fun s102 =>
 cond (icmp .lss s102.2 (ln a0.nodes)) (
 bnu [1,3,4] [1] (fun a=>[(3,.sl .own 1 (rows intR a))]) (fun a=>[]) (lpt (σ:=(List Int) × Int) (ρ:=(List Int)) [1,3,4,5] [1] (fun a=>[(3,.sl .own 1 (rows intR a.1)),(5,.i .i64 a.2)]) (fun a=>[]) (fun s131 =>
 bnd (gt a0.nodes s102.2) fun y132 =>
 cond (icmp .lss s131.2 (ln y132.blocks)) (
 bnd (gt y132.blocks s131.2) fun y133 =>
 bnd (sl1In y133 0 (iop .sub .i64 (ln a0.data) 1)) fun r134 =>
 cond r134 (
 bnd (gt s131.1 y133) fun y135 =>
 some (.inl (sl s131.1 y133 (iop .add .i64 y135 1),iop .add .i64 s131.2 1))) (
 bnd (gt s131.1 (ln a0.data)) fun y136 =>
 some (.inl (sl s131.1 (ln a0.data) (iop .add .i64 y136 1),iop .add .i64 s131.2 1)))) (
 some (.inr (s131.1)))) (s102.1,0):Option ((List Int))) fun a120 =>
 some (.inl (a120,iop .add .i64 s102.2 1))) (
 some (.inr (s102.1)))) (rp (iop .add .i64 (ln a0.data) 1) (0:Int),0):Option ((List Int))) fun a65 =>
 some (a65)
noncomputable def sl1Min(a0:Int)(a1:Int):Option (Int) :=
 cond (icmp .lss a0 a1) (
 some (a0)) (
 some (a1))
noncomputable def sl6Long(a0:Int)(a1:Int):Option (Int) :=
 bnd (sl1Min 16 (iop .sub .i64 a0 (iop .mul .i64 a1 16))) fun r2 =>
 some (r2)
noncomputable def sShapeOk(a0:FsD):Option (Bool) :=
 bnd (sl1In (ln a0.nodes) 2 10) fun r7 =>
 cond r7 (
 bnd (sl1In (ln a0.data) 1 36) fun r8 =>
 cond r8 (
 bnd (gt a0.nodes 0) fun y9 =>
 cond (icmp .neq y9.kind 2) (
 some (false)) (
 bnt [1] [1] (fun a=>[]) (fun a=>[]) (lpt (σ:=Int) (ρ:=(Unit) ⊕ (Bool)) [1,3] [1] (fun a=>[(3,.i .i64 a)]) (fun a=>[]) (fun s163 =>
 cond (icmp .lss s163 (ln a0.nodes)) (
 bnd (gt a0.nodes s163) fun y164 =>
 bnd (sNodeOk y164) fun r165 =>
 cond r165 (
 some (.inl (iop .add .i64 s163 1))) (
 some (.inr (.inr (false))))) (
 some (.inr (.inl ())))) 0:Option ((Unit) ⊕ (Bool))) fun a19 =>
 bnd (sl6Used a0) fun r21 =>
 bnd (gt r21 (ln a0.data)) fun y24 =>
 cond (icmp .gtr y24 0) (
 some (false)) (
 bnt [1] [1] (fun a=>[]) (fun a=>[]) (lpt (σ:=Int) (ρ:=(Unit) ⊕ (Bool)) [1,4,5] [1] (fun a=>[(5,.i .i64 a)]) (fun a=>[]) (fun s149 =>
 cond (icmp .lss s149 (ln a0.data)) (
 bnd (gt r21 s149) fun y150 =>
 cond (icmp .gtr y150 1) (
 some (.inr (.inr (false)))) (
 cond (icmp .eql y150 0) (
 bnd (gt a0.data s149) fun y151 =>
 cond (scmp .neq y151 []) (
 some (.inr (.inr (false)))) (
 cond (icmp .gtr (slen y151) 16) (
 some (.inr (.inr (false)))) (
 some (.inl (iop .add .i64 s149 1))))) (
 bnd (gt a0.data s149) fun y154 =>
 cond (icmp .gtr (slen y154) 16) (
 some (.inr (.inr (false)))) (
 some (.inl (iop .add .i64 s149 1)))))) (
 some (.inr (.inl ())))) 0:Option ((Unit) ⊕ (Bool))) fun a42 =>
 bnt [] [] (fun a=>[]) (fun a=>[]) (lpt (σ:=Int) (ρ:=(Unit) ⊕ (Bool)) [1,6] [1] (fun a=>[(6,.i .i64 a)]) (fun a=>[]) (fun s115 =>
 cond (icmp .lss s115 (ln a0.nodes)) (
 bnt [1,6] [1] (fun a=>[]) (fun a=>[]) (bnd (gt a0.nodes s115) fun y129 =>
 lpt (σ:=Int) (ρ:=(Unit) ⊕ ((Int) ⊕ ((Unit) ⊕ (Bool)))) [1,6,7,8] [1,7] (fun a=>[(8,.i .i64 a)]) (fun a=>[]) (fun s136 =>
 cond (icmp .lss s136 (ln y129.blocks)) (
 bnd (gt y129.blocks s136) fun y137 =>
 bnd (gt a0.data y137) fun y138 =>
 bnd (sl6Long y129.size s136) fun r139 =>
 cond (icmp .neq (slen y138) r139) (
 some (.inr (.inr (.inr (.inr (false)))))) (
 some (.inl (iop .add .i64 s136 1)))) (
 some (.inr (.inl ())))) 0:Option ((Unit) ⊕ ((Int) ⊕ ((Unit) ⊕ (Bool))))) fun a128 =>
 some (.inl (iop .add .i64 s115 1))) (
 some (.inr (.inl ())))) 0:Option ((Unit) ⊕ (Bool))) fun a89 =>
 some (true)))) (
 some (false))) (
 some (false))
end Go.Ar
end
section
namespace Go.Ar
open Go.Proofs
set_option linter.unusedVariables false
set_option linter.unusedSimpArgs false
set_option maxRecDepth 20000
set_option maxHeartbeats 40000000
noncomputable def icontent(a0:FsD)(a1:Int):Option ((List UInt8)) :=
 bnu [5] [] (fun a=>[(5,.s a)]) (fun a=>[]) (bnd (gt a0.nodes a1) fun y15 =>
 lpt (σ:=(List UInt8) × Int) (ρ:=(List UInt8)) [2,5,13,14,15] [2] (fun a=>[(5,.s a.1),(15,.i .i64 a.2)]) (fun a=>[]) (fun s20 =>
 cond (icmp .lss s20.2 (ln y15.blocks)) (
 bnd (gt y15.blocks s20.2) fun y21 =>
 bnd (gt a0.data y21) fun y22 =>
 ck (Room (plus (slen s20.1) (slen y22)) 1) <|
 some (.inl (sapp s20.1 y22,iop .add .i64 s20.2 1))) (
 some (.inr (s20.1)))) ([],0):Option ((List UInt8))) fun a14 =>
 some (a14)
noncomputable def iGetNum(a0:List UInt8)(a1:Int):Option (Int × Int × Bool) :=
 bnd (iwithin a1 0 (ln a0)) fun r3 =>
 cond r3 (
 bnt [] [] (fun a=>[]) (fun a=>[]) (lpt (σ:=Int × Int) (ρ:=(Unit) ⊕ (Int × Int × Bool)) [0,1,7,8] [] (fun a=>[(7,.i .i64 a.1),(8,.i .i64 a.2)]) (fun a=>[]) (fun s26 =>
 cond (icmp .lss s26.2 5) (
 cond (icmp .lss (iop .add .i64 a1 s26.2) (ln a0)) (
 bnd (gt a0 (iop .add .i64 a1 s26.2)) fun y27 =>
 ck (icmp .geq (iop .mul .i64 7 s26.2) 0=true) <|
 cond (icmp .geq (wrp .i64 (b2i y27)) 128) (
 some (.inl (iop .or .i64 s26.1 (iop .shl .i64 (iop .and .i64 (wrp .i64 (b2i y27)) 127) (iop .mul .i64 7 s26.2)),iop .add .i64 s26.2 1))) (
 bnt [1,7,8] [] (fun a=>[]) (fun a=>[]) (cond (icmp .eql (wrp .i64 (b2i y27)) 0) (
 cond (icmp .gtr s26.2 0) (
 some (.inr (.inr (.inr ((0,0,false)))))) (
 cond (icmp .gtr (iop .or .i64 s26.1 (iop .shl .i64 (iop .and .i64 (wrp .i64 (b2i y27)) 127) (iop .mul .i64 7 s26.2))) 2147483647) (
 some (.inr (.inr (.inr ((0,0,false)))))) (
 some (.inl ())))) (
 cond (icmp .gtr (iop .or .i64 s26.1 (iop .shl .i64 (iop .and .i64 (wrp .i64 (b2i y27)) 127) (iop .mul .i64 7 s26.2))) 2147483647) (
 some (.inr (.inr (.inr ((0,0,false)))))) (
 some (.inl ()))):Option ((Unit) ⊕ ((Int × Int) ⊕ ((Unit) ⊕ (Int × Int × Bool))))) fun a29 =>
 some (.inr (.inr ((iop .or .i64 s26.1 (iop .shl .i64 (iop .and .i64 (wrp .i64 (b2i y27)) 127) (iop .mul .i64 7 s26.2)),iop .add .i64 (iop .add .i64 a1 s26.2) 1,true)))))) (
 some (.inr (.inl ())))) (
 some (.inr (.inl ())))) (0,0):Option ((Unit) ⊕ (Int × Int × Bool))) fun a19 =>
 some ((0,0,false))) (
 some ((0,0,false)))
noncomputable def iGetText(a0:List UInt8)(a1:Int):Option ((List UInt8) × Int × Bool) :=
 bnd (iGetNum a0 a1) fun r2 =>
 cond r2.2.2 (
 cond (icmp .gtr r2.1 (iop .sub .i64 (ln a0) r2.2.1)) (
 some (([],0,false))) (
 ck (InS r2.2.1 (iop .add .i64 r2.2.1 r2.1) (ln a0)) <|
 some ((sb a0 r2.2.1 (iop .add .i64 r2.2.1 r2.1),iop .add .i64 r2.2.1 r2.1,true)))) (
 some (([],0,false)))
noncomputable def iNameOk(a0:List UInt8):Option (Bool) :=
 bnd (iwithin (slen a0) 1 6) fun r3 =>
 cond r3 (
 bnt [] [] (fun a=>[]) (fun a=>[]) (lpt (σ:=Int) (ρ:=(Unit) ⊕ (Bool)) [0,9,10] [] (fun a=>[(10,.i .i64 a)]) (fun a=>[]) (fun s7 =>
 cond (icmp .lss s7 (slen a0)) (
 ck (InR s7 (slen a0)) <|
 cond (icmp .lss (sget a0 s7) 97) (
 ck (InR s7 (slen a0)) <|
 cond (icmp .lss (sget a0 s7) 48) (
 some (.inr (.inr (false)))) (
 ck (InR s7 (slen a0)) <|
 cond (icmp .gtr (sget a0 s7) 57) (
 some (.inr (.inr (false)))) (
 some (.inl (iop .add .i64 s7 1))))) (
 ck (InR s7 (slen a0)) <|
 cond (icmp .gtr (sget a0 s7) 122) (
 ck (InR s7 (slen a0)) <|
 cond (icmp .lss (sget a0 s7) 48) (
 some (.inr (.inr (false)))) (
 ck (InR s7 (slen a0)) <|
 cond (icmp .gtr (sget a0 s7) 57) (
 some (.inr (.inr (false)))) (
 some (.inl (iop .add .i64 s7 1))))) (
 some (.inl (iop .add .i64 s7 1))))) (
 some (.inr (.inl ())))) 0:Option ((Unit) ⊕ (Bool))) fun a6 =>
 some (true)) (
 some (false))
noncomputable def iEntriesOk_1(a0:EntryD)(k1:List UInt8)(k2:Int):Option (Bool) :=
 some (icmp .eql a0.node k2)
noncomputable def gslices_IndexFunc_Entry_iEntriesOk_1(a0:List EntryD)(k1:List UInt8)(k2:Int):Option (Int) :=
 bnt [] [] (fun a=>[]) (fun a=>[]) (lpt (σ:=Int) (ρ:=(Unit) ⊕ (Int)) [0,1,7,8] [] (fun a=>[(8,.i .i64 a)]) (fun a=>[]) (fun s18 =>
 cond (icmp .lss s18 (ln a0)) (
 bnd (gt a0 s18) fun y19 =>
 bnd (iEntriesOk_1 y19 k1 k2) fun r20 =>
 cond r20 (
 some (.inr (.inr (s18)))) (
 some (.inl (iop .add .i64 s18 1)))) (
 some (.inr (.inl ())))) 0:Option ((Unit) ⊕ (Int))) fun a13 =>
 some (-1)
noncomputable def gslices_ContainsFunc_Entry_iEntriesOk_1(a0:List EntryD)(k1:List UInt8)(k2:Int):Option (Bool) :=
 bnd (gslices_IndexFunc_Entry_iEntriesOk_1 a0 k1 k2) fun r2 =>
 some (icmp .geq r2 0)
noncomputable def iPutNum(a0:Int):Option ((List UInt8)) :=
 bnd (iwithin a0 0 2147483647) fun r3 =>
 cond r3 (
 bnu [0,3] [] (fun a=>[(0,.i .i64 a.1),(3,.sl .own 1 (bys a.2))]) (fun a=>[]) (lpt (σ:=Int × (List UInt8)) (ρ:=Int × (List UInt8)) [0,3] [] (fun a=>[(0,.i .i64 a.1),(3,.sl .own 1 (bys a.2))]) (fun a=>[]) (fun s8 =>
 cond (icmp .geq s8.1 128) (
 ck (Room (plus (ln s8.2) 1) 1) <|
 some (.inl (iop .shr .i64 s8.1 7,ap s8.2 [(i2b (wrp .u8 (iop .or .i64 (iop .and .i64 s8.1 127) 128)))]))) (
 some (.inr ((s8.1,s8.2))))) (a0,[]):Option (Int × (List UInt8))) fun a6 =>
 ck (Room (plus (ln a6.2) 1) 1) <|
 some (ap a6.2 [(i2b (wrp .u8 a6.1))])) (
 some ([]))
noncomputable def iPutText(a0:List UInt8):Option ((List UInt8)) :=
 bnd (iPutNum (slen a0)) fun r2 =>
 ck (Room (plus (ln r2) (ln a0)) 1) <|
 some (ap r2 a0)
noncomputable def iDirText(a0:List EntryD):Option ((List UInt8)) :=
 bnu [3] [] (fun a=>[(3,.sl .own 1 (bys a))]) (fun a=>[]) (lpt (σ:=(List UInt8) × Int) (ρ:=(List UInt8)) [3,7,8,9] [] (fun a=>[(3,.sl .own 1 (bys a.1)),(9,.i .i64 a.2)]) (fun a=>[]) (fun s24 =>
 cond (icmp .lss s24.2 (ln a0)) (
 bnd (gt a0 s24.2) fun y25 =>
 bnd (iPutText y25.name) fun r26 =>
 ck (Room (plus (ln s24.1) (ln r26)) 1) <|
 bnd (iPutNum y25.node) fun r27 =>
 ck (Room (plus (ln (ap s24.1 r26)) (ln r27)) 1) <|
 some (.inl (ap (ap s24.1 r26) r27,iop .add .i64 s24.2 1))) (
 some (.inr (s24.1)))) ([],0):Option ((List UInt8))) fun a17 =>
 some (a17)
noncomputable def iEntriesOk(a0:List EntryD):Option (Bool) :=
 bnt [0] [] (fun a=>[]) (fun a=>[]) (lpt (σ:=Int) (ρ:=(Unit) ⊕ (Bool)) [0,5,6,7] [] (fun a=>[(7,.i .i64 a)]) (fun a=>[]) (fun s72 =>
 cond (icmp .lss s72 (ln a0)) (
 bnd (gt a0 s72) fun y73 =>
 bnt [0,3,4,5,6,7,22,23,24,25,28,29,30,40] [4] (fun a=>[(22,.pt ⟨.bx 4,[],1⟩),(23,.i .i64 y73.node),(24,.b true),(25,.b false),(28,.i .i64 s72),(29,.b a.1),(30,.b a.2),(40,.b false)]) (fun a=>[]) (bnd (iNameOk y73.name) fun r83 =>
 cond r83 (
 bnd (iwithin y73.node 1 9) fun r84 =>
 cond r84 (
 cond (icmp .gtr s72 0) (
 bnd (gt a0 (iop .sub .i64 s72 1)) fun y85 =>
 cond (scmp .geq y85.name y73.name) (
 some (.inr (.inr (.inr (false))))) (
 some (.inl (true,true)))) (
 some (.inl (false,false)))) (
 some (.inr (.inr (.inr (false)))))) (
 cond (scmp .neq y73.name [126]) (
 some (.inr (.inr (.inr (false))))) (
 bnd (iwithin y73.node 1 9) fun r88 =>
 cond r88 (
 cond (icmp .gtr s72 0) (
 bnd (gt a0 (iop .sub .i64 s72 1)) fun y89 =>
 cond (scmp .geq y89.name y73.name) (
 some (.inr (.inr (.inr (false))))) (
 some (.inl (true,true)))) (
 some (.inl (false,false)))) (
 some (.inr (.inr (.inr (false))))))):Option ((Bool × Bool) ⊕ ((Int) ⊕ ((Unit) ⊕ (Bool))))) fun a80 =>
 ck (InS 0 s72 (ln a0)) <|
 bnd (gslices_ContainsFunc_Entry_iEntriesOk_1 (sb a0 0 s72) y73.name y73.node) fun r81 =>
 cond r81 (
 some (.inr (.inr (false)))) (
 some (.inl (iop .add .i64 s72 1)))) (
 some (.inr (.inl ())))) 0:Option ((Unit) ⊕ (Bool))) fun a51 =>
 bnd (iDirText a0) fun r53 =>
 some (icmp .leq (slen r53) 80)
noncomputable def iDirOf(a0:List UInt8):Option ((List EntryD) × Bool) :=
 ck (Room (slen a0) 1) <|
 bnt [4] [] (fun a=>[(4,.sl .own 2 (rows entryR a))]) (fun a=>[]) (lpt (σ:=(List EntryD) × Int) (ρ:=((List EntryD)) ⊕ ((List EntryD) × Bool)) [4,5,6] [] (fun a=>[(4,.sl .own 2 (rows entryR a.1)),(6,.i .i64 a.2)]) (fun a=>[]) (fun s19 =>
 cond (icmp .lss s19.2 (ln a0)) (
 bnd (iGetText a0 s19.2) fun r20 =>
 bnd (iGetNum a0 r20.2.1) fun r21 =>
 cond r20.2.2 (
 cond r21.2.2 (
 ck (Room (plus (ln s19.1) 1) 24) <|
 some (.inl (ap s19.1 [(⟨r20.1,r21.1⟩:EntryD)],r21.2.1))) (
 some (.inr (.inr (([],false)))))) (
 some (.inr (.inr (([],false)))))) (
 some (.inr (.inl s19.1)))) ([],0):Option (((List EntryD)) ⊕ ((List EntryD) × Bool))) fun a11 =>
 bnd (iEntriesOk a11) fun r14 =>
 cond r14 (
 some ((a11,true))) (
 some (([],false)))
noncomputable def ientries(a0:FsD)(a1:Int):Option ((List EntryD) × Bool) :=
 bnd (icontent a0 a1) fun r3 =>
 bnd (iDirOf r3) fun r4 =>
 some ((r4.1,r4.2))
noncomputable def ivisitN:Nat→FsD→Int→Int→(List Int)→Option (Bool × (List Int))
 | 0,_,_,_,_=>none
 | n+1,a0,a1,a2,a3 =>
 bnd (ientries a0 a1) fun r2 =>
 bgt [1,2,3,4,9] [4] (fun a=>[]) (fun a=>[]) (fun a=>[[.sl .own 1 (rows intR a3)]]) (cond r2.2 (
 cond (icmp .eql a2 4) (
 cond (icmp .gtr (ln r2.1) 0) (
 some (.inr ((false,a3)))) (
 some (.inl ()))) (
 some (.inl ()))) (
 some (.inr ((false,a3)))):Option ((Unit) ⊕ (Bool × (List Int)))) fun a4 =>
 bgt [] [] (fun a=>[]) (fun a=>[]) (fun a=>[[.sl .own 1 (rows intR a)]]) (lpg (σ:=Int × (List Int)) (ρ:=((List Int)) ⊕ (Bool × (List Int))) [1,2,3,4,9,31,32,33] [4] (fun a=>[(33,.i .i64 a.1)]) (fun a=>[]) (fun a=>[[.sl .own 1 (rows intR a.2)]]) (fun s50 =>
 cond (icmp .lss s50.1 (ln r2.1)) (
 bnd (gt r2.1 s50.1) fun y51 =>
 cond (icmp .geq y51.node (ln a0.nodes)) (
 some (.inr (.inr ((false,s50.2))))) (
 bnd (gt a0.nodes y51.node) fun y52 =>
 cond (icmp .eql y52.kind 0) (
 some (.inr (.inr ((false,s50.2))))) (
 bnd (gt s50.2 y51.node) fun y53 =>
 cond (icmp .gtr y53 0) (
 some (.inr (.inr ((false,s50.2))))) (
 bgt [1,2,3,4,9,12,13,31,32,33,44,45,46,47,48,49,50,51,54,55,56,57,58,59] [4,12] (fun a=>[]) (fun a=>[]) (fun a=>[[.sl .own 1 (rows intR (sl s50.2 y51.node (iop .add .i64 y53 1)))]]) (cond (scmp .eql y51.name [126]) (
 cond (icmp .neq a1 0) (
 some (.inr (.inr (.inr ((false,sl s50.2 y51.node (iop .add .i64 y53 1))))))) (
 cond (icmp .neq y52.kind 1) (
 some (.inr (.inr (.inr ((false,sl s50.2 y51.node (iop .add .i64 y53 1))))))) (
 some (.inl ())))) (
 some (.inl ())):Option ((Unit) ⊕ ((Int × (List Int)) ⊕ (((List Int)) ⊕ (Bool × (List Int)))))) fun a55 =>
 cond (icmp .eql y52.kind 2) (
 bnd (ivisitN n a0 y51.node (iop .add .i64 a2 1) (sl s50.2 y51.node (iop .add .i64 y53 1))) fun r56 =>
 cond r56.1 (
 some (.inl (iop .add .i64 s50.1 1,r56.2))) (
 some (.inr (.inr ((false,r56.2)))))) (
 some (.inl (iop .add .i64 s50.1 1,sl s50.2 y51.node (iop .add .i64 y53 1)))))))) (
 some (.inr (.inl s50.2)))) (0,a3):Option (((List Int)) ⊕ (Bool × (List Int)))) fun a37 =>
 some ((true,a37))
noncomputable def ivisit(a0:FsD)(a1:Int)(a2:Int)(a3:List Int):Option (Bool × (List Int)):=rc fun n=>ivisitN n a0 a1 a2 a3
noncomputable def iFsOk(a0:FsD):Option (Bool) :=
 bnd (iShapeOk a0) fun r3 =>
 cond r3 (
 ck (InS 0 (ln a0.nodes) (ln a0.nodes)) <|
 ck (Room (ln a0.nodes) 8) <|
 bnd (ivisit a0 0 0 (rp (ln a0.nodes) (0:Int))) fun r9 =>
 cond r9.1 (
 bnt [] [] (fun a=>[]) (fun a=>[]) (lpt (σ:=Int) (ρ:=(Unit) ⊕ (Bool)) [3,18,19,20] [] (fun a=>[(20,.i .i64 a)]) (fun a=>[]) (fun s27 =>
 cond (icmp .lss s27 (ln a0.nodes)) (
 bnd (gt a0.nodes s27) fun y28 =>
 cond (icmp .gtr s27 0) (
 cond (icmp .neq y28.kind 0) (
 bnd (gt r9.2 s27) fun y29 =>
 cond (icmp .neq y29 1) (
 some (.inr (.inr (false)))) (
 some (.inl (iop .add .i64 s27 1)))) (
 some (.inl (iop .add .i64 s27 1)))) (
 some (.inl (iop .add .i64 s27 1)))) (
 some (.inr (.inl ())))) 0:Option ((Unit) ⊕ (Bool))) fun a22 =>
 some (true)) (
 some (false))) (
 some (false))
noncomputable def sl7Read(a0:FsD)(a1:Int):Option ((List UInt8)) :=
 bnu [5] [] (fun a=>[(5,.s a)]) (fun a=>[]) (lpt (σ:=(List UInt8) × Int) (ρ:=(List UInt8)) [1,2,5,6] [2] (fun a=>[(5,.s a.1),(6,.i .i64 a.2)]) (fun a=>[]) (fun s23 =>
 bnd (gt a0.nodes a1) fun y24 =>
 cond (icmp .lss s23.2 (ln y24.blocks)) (
 bnd (gt y24.blocks s23.2) fun y25 =>
 bnd (gt a0.data y25) fun y26 =>
 ck (Room (plus (slen s23.1) (slen y26)) 1) <|
 some (.inl (sapp s23.1 y26,iop .add .i64 s23.2 1))) (
 some (.inr (s23.1)))) ([],0):Option ((List UInt8))) fun a16 =>
 some (a16)
noncomputable def sGetNum(a0:List UInt8)(a1:Int):Option (Int × Int × Bool) :=
 bnt [] [] (fun a=>[]) (fun a=>[]) (lpt (σ:=Int × Int) (ρ:=(Unit) ⊕ (Int × Int × Bool)) [0,1,7,8] [] (fun a=>[(7,.i .i64 a.1),(8,.i .i64 a.2)]) (fun a=>[]) (fun s23 =>
 cond (icmp .lss s23.2 5) (
 cond (icmp .lss a1 0) (
 some (.inr (.inr ((0,0,false))))) (
 cond (icmp .geq a1 (iop .sub .i64 (ln a0) s23.2)) (
 some (.inr (.inr ((0,0,false))))) (
 bnd (gt a0 (iop .add .i64 a1 s23.2)) fun y24 =>
 ck (icmp .geq (iop .mul .i64 7 s23.2) 0=true) <|
 cond (icmp .lss (wrp .i64 (b2i y24)) 128) (
 bnt [1,7,8] [] (fun a=>[]) (fun a=>[]) (cond (icmp .gtr s23.2 0) (
 cond (icmp .eql (wrp .i64 (b2i y24)) 0) (
 some (.inr (.inr (.inr ((0,0,false)))))) (
 cond (icmp .gtr (iop .or .i64 s23.1 (iop .shl .i64 (iop .rem .i64 (wrp .i64 (b2i y24)) 128) (iop .mul .i64 7 s23.2))) 2147483647) (
 some (.inr (.inr (.inr ((0,0,false)))))) (
 some (.inl ())))) (
 cond (icmp .gtr (iop .or .i64 s23.1 (iop .shl .i64 (iop .rem .i64 (wrp .i64 (b2i y24)) 128) (iop .mul .i64 7 s23.2))) 2147483647) (
 some (.inr (.inr (.inr ((0,0,false)))))) (
 some (.inl ()))):Option ((Unit) ⊕ ((Int × Int) ⊕ ((Unit) ⊕ (Int × Int × Bool))))) fun a26 =>
 some (.inr (.inr ((iop .or .i64 s23.1 (iop .shl .i64 (iop .rem .i64 (wrp .i64 (b2i y24)) 128) (iop .mul .i64 7 s23.2)),iop .add .i64 (iop .add .i64 a1 s23.2) 1,true))))) (
 some (.inl (iop .or .i64 s23.1 (iop .shl .i64 (iop .rem .i64 (wrp .i64 (b2i y24)) 128) (iop .mul .i64 7 s23.2)),iop .add .i64 s23.2 1)))))) (
 some (.inr (.inl ())))) (0,0):Option ((Unit) ⊕ (Int × Int × Bool))) fun a16 =>
 some ((0,0,false))
noncomputable def sGetText(a0:List UInt8)(a1:Int):Option ((List UInt8) × Int × Bool) :=
 bnd (sGetNum a0 a1) fun r2 =>
 cond r2.2.2 (
 cond (icmp .gtr r2.1 (iop .sub .i64 (ln a0) r2.2.1)) (
 some (([],0,false))) (
 ck (InS r2.2.1 (iop .add .i64 r2.2.1 r2.1) (ln a0)) <|
 some ((sb a0 r2.2.1 (iop .add .i64 r2.2.1 r2.1),iop .add .i64 r2.2.1 r2.1,true)))) (
 some (([],0,false)))
noncomputable def sNameOk(a0:List UInt8):Option (Bool) :=
 bnd (sl1In (slen a0) 1 6) fun r3 =>
 cond r3 (
 bnt [] [] (fun a=>[]) (fun a=>[]) (lpt (σ:=Int) (ρ:=(Unit) ⊕ (Bool)) [0,3] [] (fun a=>[(3,.i .i64 a)]) (fun a=>[]) (fun s7 =>
 cond (icmp .lss s7 (slen a0)) (
 ck (InR s7 (slen a0)) <|
 cond (icmp .geq (sget a0 s7) 97) (
 ck (InR s7 (slen a0)) <|
 cond (icmp .leq (sget a0 s7) 122) (
 some (.inl (iop .add .i64 s7 1))) (
 ck (InR s7 (slen a0)) <|
 cond (icmp .geq (sget a0 s7) 48) (
 ck (InR s7 (slen a0)) <|
 cond (icmp .leq (sget a0 s7) 57) (
 some (.inl (iop .add .i64 s7 1))) (
 some (.inr (.inr (false))))) (
 some (.inr (.inr (false)))))) (
 ck (InR s7 (slen a0)) <|
 cond (icmp .geq (sget a0 s7) 48) (
 ck (InR s7 (slen a0)) <|
 cond (icmp .leq (sget a0 s7) 57) (
 some (.inl (iop .add .i64 s7 1))) (
 some (.inr (.inr (false))))) (
 some (.inr (.inr (false)))))) (
 some (.inr (.inl ())))) 0:Option ((Unit) ⊕ (Bool))) fun a6 =>
 some (true)) (
 some (false))
noncomputable def sl8Name(a0:List UInt8):Option (Bool) :=
 cond (scmp .eql a0 [126]) (
 some (true)) (
 bnd (sNameOk a0) fun r2 =>
 some (r2))
noncomputable def sPutNum(a0:Int):Option ((List UInt8)) :=
 bnd (sl1In a0 0 2147483647) fun r3 =>
 cond r3 (
 bnu [0,3] [] (fun a=>[(0,.i .i64 a.1),(3,.sl .own 1 (bys a.2))]) (fun a=>[]) (lpt (σ:=Int × (List UInt8)) (ρ:=Int × (List UInt8)) [0,3] [] (fun a=>[(0,.i .i64 a.1),(3,.sl .own 1 (bys a.2))]) (fun a=>[]) (fun s8 =>
 cond (icmp .gtr s8.1 127) (
 ck (Room (plus (ln s8.2) 1) 1) <|
 some (.inl (iop .quo .i64 s8.1 128,ap s8.2 [(i2b (wrp .u8 (iop .add .i64 (iop .rem .i64 s8.1 128) 128)))]))) (
 some (.inr ((s8.1,s8.2))))) (a0,[]):Option (Int × (List UInt8))) fun a6 =>
 ck (Room (plus (ln a6.2) 1) 1) <|
 some (ap a6.2 [(i2b (wrp .u8 a6.1))])) (
 some ([]))
noncomputable def sPutText(a0:List UInt8):Option ((List UInt8)) :=
 bnd (sPutNum (slen a0)) fun r2 =>
 ck (Room (slen a0) 1) <|
 ck (Room (plus (ln r2) (ln a0)) 1) <|
 some (ap r2 a0)
noncomputable def sDirText(a0:List EntryD):Option ((List UInt8)) :=
 bnu [3] [] (fun a=>[(3,.sl .own 1 (bys a))]) (fun a=>[]) (lpt (σ:=(List UInt8) × Int) (ρ:=(List UInt8)) [0,3,4] [] (fun a=>[(3,.sl .own 1 (bys a.1)),(4,.i .i64 a.2)]) (fun a=>[]) (fun s24 =>
 cond (icmp .lss s24.2 (ln a0)) (
 bnd (gt a0 s24.2) fun y25 =>
 bnd (sPutText y25.name) fun r26 =>
 ck (Room (plus (ln s24.1) (ln r26)) 1) <|
 bnd (sPutNum y25.node) fun r27 =>
 ck (Room (plus (ln (ap s24.1 r26)) (ln r27)) 1) <|
 some (.inl (ap (ap s24.1 r26) r27,iop .add .i64 s24.2 1))) (
 some (.inr (s24.1)))) ([],0):Option ((List UInt8))) fun a17 =>
 some (a17)
noncomputable def sEntriesOk(a0:List EntryD):Option (Bool) :=
 bnt [0] [] (fun a=>[]) (fun a=>[]) (lpt (σ:=Int) (ρ:=(Unit) ⊕ (Bool)) [0,3] [] (fun a=>[(3,.i .i64 a)]) (fun a=>[]) (fun s89 =>
 cond (icmp .lss s89 (ln a0)) (
 bnt [0,3,19,20,21,22,23,24,25,28,29,30,43] [] (fun a=>[(19,.sl .shr 2 (rows entryR a0)),(20,.i .i64 s89),(21,.pt ⟨.tp 19,[(0,s89,2)],0⟩),(22,.pt ⟨.tp 19,[(0,s89,2)],1⟩),(23,.i .i64 a.1),(24,.b true),(25,.b false),(28,.i .i64 s89),(29,.b a.2.1),(30,.b a.2.2),(43,.b false)]) (fun a=>[]) (bnt [0,3,19,20,21,22,23,24,25,28,29,30,43] [] (fun a=>[(19,.sl .shr 2 (rows entryR a0)),(20,.i .i64 s89),(21,.pt ⟨.tp 19,[(0,s89,2)],0⟩),(22,.pt ⟨.tp 19,[(0,s89,2)],1⟩),(23,.i .i64 a.1),(24,.b true),(25,.b false),(28,.i .i64 s89),(29,.b a.2.1),(30,.b a.2.2),(43,.b false)]) (fun a=>[]) (bnd (gt a0 s89) fun y120 =>
 bnd (sl8Name y120.name) fun r121 =>
 cond r121 (
 bnd (sl1In y120.node 1 9) fun r122 =>
 cond r122 (
 cond (icmp .gtr s89 0) (
 bnd (gt a0 (iop .sub .i64 s89 1)) fun y123 =>
 cond (scmp .leq y120.name y123.name) (
 some (.inr (.inr (.inr (.inr (false)))))) (
 some (.inl (y120.node,true,true)))) (
 some (.inl (y120.node,false,false)))) (
 some (.inr (.inr (.inr (.inr (false))))))) (
 some (.inr (.inr (.inr (.inr (false)))))):Option ((Int × Bool × Bool) ⊕ ((Int × Bool × Bool) ⊕ ((Int) ⊕ ((Unit) ⊕ (Bool)))))) fun a110 =>
 lpt (σ:=Int) (ρ:=(Int × Bool × Bool) ⊕ ((Int) ⊕ ((Unit) ⊕ (Bool)))) [0,3,4,19,20,21,22,23,24,25,28,29,30,43] [] (fun a=>[(4,.i .i64 a)]) (fun a=>[]) (fun s115 =>
 cond (icmp .lss s115 s89) (
 bnd (gt a0 s115) fun y116 =>
 bnd (gt a0 s89) fun y117 =>
 cond (icmp .eql y116.node y117.node) (
 some (.inr (.inr (.inr (.inr (false)))))) (
 some (.inl (iop .add .i64 s115 1)))) (
 some (.inr (.inl (a110.1,a110.2.1,a110.2.2))))) 0:Option ((Int × Bool × Bool) ⊕ ((Int) ⊕ ((Unit) ⊕ (Bool))))) fun a104 =>
 some (.inl (iop .add .i64 s89 1))) (
 some (.inr (.inl ())))) 0:Option ((Unit) ⊕ (Bool))) fun a57 =>
 bnd (sDirText a0) fun r59 =>
 some (icmp .leq (slen r59) 80)
noncomputable def sDirOf(a0:List UInt8):Option ((List EntryD) × Bool) :=
 ck (Room (slen a0) 1) <|
 bnt [4] [] (fun a=>[(4,.sl .own 2 (rows entryR a))]) (fun a=>[]) (lpt (σ:=(List EntryD) × Int) (ρ:=((List EntryD)) ⊕ ((List EntryD) × Bool)) [4,5,6] [] (fun a=>[(4,.sl .own 2 (rows entryR a.1)),(6,.i .i64 a.2)]) (fun a=>[]) (fun s19 =>
 cond (icmp .lss s19.2 (ln a0)) (
 bnd (sGetText a0 s19.2) fun r20 =>
 cond r20.2.2 (
 bnd (sGetNum a0 r20.2.1) fun r21 =>
 cond r21.2.2 (
 ck (Room (plus (ln s19.1) 1) 24) <|
 some (.inl (ap s19.1 [(⟨r20.1,r21.1⟩:EntryD)],r21.2.1))) (
 some (.inr (.inr (([],false)))))) (
 some (.inr (.inr (([],false)))))) (
 some (.inr (.inl s19.1)))) ([],0):Option (((List EntryD)) ⊕ ((List EntryD) × Bool))) fun a11 =>
 bnd (sEntriesOk a11) fun r14 =>
 cond r14 (
 some ((a11,true))) (
 some (([],false)))
noncomputable def sl9Dir(a0:FsD)(a1:Int):Option ((List EntryD) × Bool) :=
 bnd (gt a0.nodes a1) fun y3 =>
 cond (icmp .neq y3.kind 2) (
 some (([],false))) (
 bnd (sl7Read a0 a1) fun r6 =>
 bnd (sDirOf r6) fun r7 =>
 some ((r7.1,r7.2)))
noncomputable def sl9SeenN:Nat→FsD→Int→Int→(List Int)→Option ((List Int) × Bool)
 | 0,_,_,_,_=>none
 | n+1,a0,a1,a2,a3 =>
 ck (Room (plus 0 (ln a3)) 8) <|
 bnd (gt a3 a1) fun y2 =>
 cond (icmp .gtr (iop .add .i64 y2 1) 1) (
 some ((sl a3 a1 (iop .add .i64 y2 1),false))) (
 cond (icmp .gtr a2 4) (
 some ((sl a3 a1 (iop .add .i64 y2 1),false))) (
 bnd (gt a0.nodes a1) fun y5 =>
 cond (icmp .neq y5.kind 2) (
 some ((sl a3 a1 (iop .add .i64 y2 1),true))) (
 bnd (sl9Dir a0 a1) fun r7 =>
 cond r7.2 (
 bnt [10] [] (fun a=>[(10,.sl .own 1 (rows intR a))]) (fun a=>[]) (lpt (σ:=(List Int) × Int) (ρ:=((List Int)) ⊕ ((List Int) × Bool)) [1,2,4,10,11,13] [4] (fun a=>[(10,.sl .own 1 (rows intR a.1)),(13,.i .i64 a.2)]) (fun a=>[]) (fun s45 =>
 cond (icmp .lss s45.2 (ln r7.1)) (
 bnd (gt r7.1 s45.2) fun y46 =>
 cond (icmp .geq y46.node (ln a0.nodes)) (
 some (.inr (.inr ((s45.1,false))))) (
 bnd (gt a0.nodes y46.node) fun y47 =>
 cond (icmp .eql y47.kind 0) (
 some (.inr (.inr ((s45.1,false))))) (
 bnt [1,2,4,10,11,13,14,72,73,74,75,76,77,78] [4] (fun a=>[]) (fun a=>[]) (cond (scmp .eql y46.name [126]) (
 cond (icmp .neq a1 0) (
 some (.inr (.inr (.inr ((s45.1,false)))))) (
 cond (icmp .neq y47.kind 1) (
 some (.inr (.inr (.inr ((s45.1,false)))))) (
 some (.inl ())))) (
 some (.inl ())):Option ((Unit) ⊕ (((List Int) × Int) ⊕ (((List Int)) ⊕ ((List Int) × Bool))))) fun a49 =>
 bnd (sl9SeenN n a0 y46.node (iop .add .i64 a2 1) s45.1) fun r50 =>
 cond r50.2 (
 some (.inl (r50.1,iop .add .i64 s45.2 1))) (
 some (.inr (.inr ((s45.1,false)))))))) (
 some (.inr (.inl s45.1)))) (sl a3 a1 (iop .add .i64 y2 1),0):Option (((List Int)) ⊕ ((List Int) × Bool))) fun a34 =>
 some ((a34,true))) (
 some ((sl a3 a1 (iop .add .i64 y2 1),false))))))
noncomputable def sl9Seen(a0:FsD)(a1:Int)(a2:Int)(a3:List Int):Option ((List Int) × Bool):=rc fun n=>sl9SeenN n a0 a1 a2 a3
noncomputable def sFsOk(a0:FsD):Option (Bool) :=
 bnd (sShapeOk a0) fun r3 =>
 cond r3 (
 ck (InS 0 (ln a0.nodes) (ln a0.nodes)) <|
 ck (Room (ln a0.nodes) 8) <|
 bnd (sl9Seen a0 0 0 (rp (ln a0.nodes) (0:Int))) fun r5 =>
 cond r5.2 (
 bnt [] [] (fun a=>[]) (fun a=>[]) (lpt (σ:=Int) (ρ:=(Unit) ⊕ (Bool)) [1,3,5] [1] (fun a=>[(5,.i .i64 a)]) (fun a=>[]) (fun s23 =>
 cond (icmp .lss s23 (ln a0.nodes)) (
 bnd (gt r5.1 s23) fun y24 =>
 bnd (gt a0.nodes s23) fun y25 =>
 cond (icmp .eql y24 1) (
 cond (icmp .neq y25.kind 0) (
 some (.inl (iop .add .i64 s23 1))) (
 some (.inr (.inr (false))))) (
 cond (icmp .neq y25.kind 0) (
 some (.inr (.inr (false)))) (
 some (.inl (iop .add .i64 s23 1))))) (
 some (.inr (.inl ())))) 0:Option ((Unit) ⊕ (Bool))) fun a18 =>
 some (true)) (
 some (false))) (
 some (false))
end Go.Ar
end
section
namespace Go.Ar
open Go.Proofs
set_option linter.unusedVariables false
set_option linter.unusedSimpArgs false
set_option maxRecDepth 20000
set_option maxHeartbeats 40000000
noncomputable def iParts(a0:List UInt8)(a1:Int):Option ((List (List UInt8))) :=
 bnu [0,5,6] [] (fun a=>[(5,.sl .own 1 (rows strR a.1)),(6,.i .i64 a.2)]) (fun a=>[]) (lpt (σ:=(List (List UInt8)) × Int × Int) (ρ:=(List (List UInt8)) × Int) [0,1,5,6,7] [] (fun a=>[(5,.sl .own 1 (rows strR a.1)),(6,.i .i64 a.2.1),(7,.i .i64 a.2.2)]) (fun a=>[]) (fun s6 =>
 cond (icmp .lss s6.2.2 (slen a0)) (
 ck (InR s6.2.2 (slen a0)) <|
 cond (icmp .eql (sget a0 s6.2.2) a1) (
 ck (InS s6.2.1 s6.2.2 (slen a0)) <|
 ck (Room (plus (ln s6.1) 1) 16) <|
 some (.inl (ap s6.1 [ssub a0 s6.2.1 s6.2.2],iop .add .i64 s6.2.2 1,iop .add .i64 s6.2.2 1))) (
 some (.inl (s6.1,s6.2.1,iop .add .i64 s6.2.2 1)))) (
 some (.inr ((s6.1,s6.2.1))))) ([],0,0):Option ((List (List UInt8)) × Int)) fun a3 =>
 ck (InS a3.2 (slen a0) (slen a0)) <|
 ck (Room (plus (ln a3.1) 1) 16) <|
 some (ap a3.1 [ssub a0 a3.2 (slen a0)])
noncomputable def ireadPath_1(a0:List UInt8):Option (Bool) :=
 bnd (iNameOk a0) fun r2 =>
 some ((!r2))
noncomputable def gslices_IndexFunc_string_ireadPath_1(a0:List (List UInt8)):Option (Int) :=
 bnt [] [] (fun a=>[]) (fun a=>[]) (lpt (σ:=Int) (ρ:=(Unit) ⊕ (Int)) [0,1,7,8] [] (fun a=>[(8,.i .i64 a)]) (fun a=>[]) (fun s18 =>
 cond (icmp .lss s18 (ln a0)) (
 bnd (gt a0 s18) fun y19 =>
 bnd (ireadPath_1 y19) fun r20 =>
 cond r20 (
 some (.inr (.inr (s18)))) (
 some (.inl (iop .add .i64 s18 1)))) (
 some (.inr (.inl ())))) 0:Option ((Unit) ⊕ (Int))) fun a13 =>
 some (-1)
noncomputable def gslices_ContainsFunc_string_ireadPath_1(a0:List (List UInt8)):Option (Bool) :=
 bnd (gslices_IndexFunc_string_ireadPath_1 a0) fun r2 =>
 some (icmp .geq r2 0)
noncomputable def ireadPath(a0:List UInt8):Option ((List (List UInt8)) × Bool) :=
 cond (scmp .eql a0 [47]) (
 some (([],true))) (
 bnd (iParts a0 47) fun r2 =>
 bnd (gt r2 0) fun y7 =>
 cond (scmp .neq y7 []) (
 some (([],false))) (
 bnd (iwithin (ln r2) 2 5) fun r8 =>
 cond r8 (
 ck (InS 1 (ln r2) (ln r2)) <|
 bnd (gslices_ContainsFunc_string_ireadPath_1 (sb r2 1 (ln r2))) fun r11 =>
 cond r11 (
 some (([],false))) (
 ck (InS 1 (ln r2) (ln r2)) <|
 some ((sb r2 1 (ln r2),true)))) (
 some (([],false)))))
noncomputable def iPathOk(a0:List UInt8):Option (Bool) :=
 bnd (ireadPath a0) fun r2 =>
 some (r2.2)
noncomputable def imoveOk(a0:PoolD):Option (Bool) :=
 cond a0.move.on (
 bnd (iwithin a0.move.src 0 (iop .sub .i64 (ln a0.branches) 1)) fun r6 =>
 cond r6 (
 bnd (iwithin a0.move.dst 0 (iop .sub .i64 (ln a0.branches) 1)) fun r7 =>
 cond r7 (
 cond (icmp .neq a0.move.src a0.move.dst) (
 bnd (iPathOk a0.move.path) fun r8 =>
 cond r8 (
 cond (scmp .neq a0.move.path [47]) (
 bnd (iwithin a0.move.gen 0 1000000) fun r9 =>
 cond r9 (
 bnd (iwithin a0.move.dn 0 80) fun r10 =>
 some (r10)) (
 some (false))) (
 some (false))) (
 some (false))) (
 some (false))) (
 some (false))) (
 some (false))) (
 some (rq (⟨false,a0.move.cln,a0.move.src,a0.move.dst,a0.move.path,a0.move.gen,a0.move.dn⟩:MoveD) (⟨false,false,0,0,[],0,0⟩:MoveD)))
noncomputable def iisMode(a0:Int):Option (Bool) :=
 bnd (iwithin a0 0 2) fun r2 =>
 some (r2)
noncomputable def iPathOf_1(a0:List UInt8):Option (Bool) :=
 bnd (iNameOk a0) fun r2 =>
 some ((!r2))
noncomputable def gslices_IndexFunc_string_iPathOf_1(a0:List (List UInt8)):Option (Int) :=
 bnt [] [] (fun a=>[]) (fun a=>[]) (lpt (σ:=Int) (ρ:=(Unit) ⊕ (Int)) [0,1,7,8] [] (fun a=>[(8,.i .i64 a)]) (fun a=>[]) (fun s18 =>
 cond (icmp .lss s18 (ln a0)) (
 bnd (gt a0 s18) fun y19 =>
 bnd (iPathOf_1 y19) fun r20 =>
 cond r20 (
 some (.inr (.inr (s18)))) (
 some (.inl (iop .add .i64 s18 1)))) (
 some (.inr (.inl ())))) 0:Option ((Unit) ⊕ (Int))) fun a13 =>
 some (-1)
noncomputable def gslices_ContainsFunc_string_iPathOf_1(a0:List (List UInt8)):Option (Bool) :=
 bnd (gslices_IndexFunc_string_iPathOf_1 a0) fun r2 =>
 some (icmp .geq r2 0)
noncomputable def iPathOf(a0:List (List UInt8)):Option ((List UInt8)) :=
 bnd (gstrings_Join a0 [47]) fun r2 =>
 ck (Room (plus (slen [47]) (slen r2)) 1) <|
 cond (icmp .gtr (ln a0) 4) (
 some ([])) (
 bnd (gslices_ContainsFunc_string_iPathOf_1 a0) fun r5 =>
 cond r5 (
 some ([])) (
 some (sapp [47] r2)))
noncomputable def iPathJoin(a0:List UInt8)(a1:List UInt8):Option ((List UInt8)) :=
 bnd (ireadPath a0) fun r2 =>
 cond r2.2 (
 ck (Room (plus (ln r2.1) 1) 16) <|
 bnd (iPathOf (ap r2.1 [a1])) fun r4 =>
 some (r4)) (
 some ([]))
noncomputable def igatherN:Nat→FsD→Int→(List UInt8)→(List ItemD)→Option ((List ItemD))
 | 0,_,_,_,_=>none
 | n+1,a0,a1,a2,a3 =>
 bnd (ientries a0 a1) fun r2 =>
 bnu [3] [] (fun a=>[(3,.sl .own 4 (rows itemR a))]) (fun a=>[]) (lpt (σ:=(List ItemD) × Int) (ρ:=(List ItemD)) [2,3,4,9,21,22,23] [4] (fun a=>[(3,.sl .own 4 (rows itemR a.1)),(23,.i .i64 a.2)]) (fun a=>[]) (fun s42 =>
 cond (icmp .lss s42.2 (ln r2.1)) (
 bnd (gt r2.1 s42.2) fun y43 =>
 cond (scmp .eql y43.name [126]) (
 some (.inl (s42.1,iop .add .i64 s42.2 1))) (
 bnd (gt a0.nodes y43.node) fun y44 =>
 bnd (iPathJoin a2 y43.name) fun r45 =>
 cond (icmp .eql y44.kind 2) (
 ck (Room (plus (ln s42.1) 1) 48) <|
 bnd (igatherN n a0 y43.node r45 (ap s42.1 [(⟨r45,y44.kind,[],0⟩:ItemD)])) fun r46 =>
 some (.inl (r46,iop .add .i64 s42.2 1))) (
 bnd (icontent a0 y43.node) fun r48 =>
 ck (Room (plus (ln s42.1) 1) 48) <|
 some (.inl (ap s42.1 [(⟨r45,y44.kind,r48,y44.time⟩:ItemD)],iop .add .i64 s42.2 1))))) (
 some (.inr (s42.1)))) (a3,0):Option ((List ItemD))) fun a31 =>
 some (a31)
noncomputable def igather(a0:FsD)(a1:Int)(a2:List UInt8)(a3:List ItemD):Option ((List ItemD)):=rc fun n=>igatherN n a0 a1 a2 a3
noncomputable def iTreeOf(a0:FsD):Option (TreeD) :=
 bnd (iFsOk a0) fun r3 =>
 cond r3 (
 bnd (igather a0 0 [47] []) fun r5 =>
 bnd (gslices_SortFunc_Item_ibyPath r5) fun r9 =>
 some ((⟨r9⟩:TreeD))) (
 some ((⟨[]⟩:TreeD)))
noncomputable def iitemAt_1(a0:ItemD)(k1:List UInt8):Option (Bool) :=
 some (scmp .eql a0.path k1)
noncomputable def gslices_IndexFunc_Item_iitemAt_1(a0:List ItemD)(k1:List UInt8):Option (Int) :=
 bnt [] [] (fun a=>[]) (fun a=>[]) (lpt (σ:=Int) (ρ:=(Unit) ⊕ (Int)) [0,1,7,8] [] (fun a=>[(8,.i .i64 a)]) (fun a=>[]) (fun s18 =>
 cond (icmp .lss s18 (ln a0)) (
 bnd (gt a0 s18) fun y19 =>
 bnd (iitemAt_1 y19 k1) fun r20 =>
 cond r20 (
 some (.inr (.inr (s18)))) (
 some (.inl (iop .add .i64 s18 1)))) (
 some (.inr (.inl ())))) 0:Option ((Unit) ⊕ (Int))) fun a13 =>
 some (-1)
noncomputable def iitemAt(a0:TreeD)(a1:List UInt8):Option (Int) :=
 bnd (gslices_IndexFunc_Item_iitemAt_1 a0.items a1) fun r2 =>
 some (r2)
noncomputable def iTreeGet(a0:TreeD)(a1:List UInt8):Option (ItemD × Bool) :=
 cond (scmp .eql a1 [47]) (
 some (((⟨[47],2,[],0⟩:ItemD),true))) (
 bnd (iitemAt a0 a1) fun r2 =>
 cond (icmp .lss r2 0) (
 some (((⟨[],0,[],0⟩:ItemD),false))) (
 bnd (gt a0.items r2) fun y4 =>
 some ((y4,true))))
noncomputable def iPoolOk(a0:PoolD):Option (Bool) :=
 bnd (iwithin a0.policy 0 5) fun r9 =>
 cond r9 (
 bnd (iwithin a0.minFree 0 36) fun r10 =>
 cond r10 (
 bnd (iwithin (ln a0.branches) 1 4) fun r11 =>
 cond r11 (
 bnd (imoveOk a0) fun r12 =>
 cond r12 (
 bnt [] [] (fun a=>[]) (fun a=>[]) (lpt (σ:=Int × (List ItemD)) (ρ:=(Unit) ⊕ (Bool)) [3,34,35,36] [3] (fun a=>[(36,.i .i64 a.1)]) (fun a=>[(3,[.sl .own 4 (rows itemR a.2)])]) (fun s124 =>
 cond (icmp .lss s124.1 (ln a0.branches)) (
 bnt [3,34,35,36,45,46,47,48] [3,5] (fun a=>[(45,.pt ⟨.bx 5,[],1⟩),(46,.ag [.sl .shr 5 (rows nodeR a.1),.sl .shr 1 (rows strR a.2.1)]),(47,.b true),(48,.b false)]) (fun a=>[(3,[.sl .own 4 (rows itemR a.2.2.1)]),(5,[.i .i64 a.2.2.2.1,.sl .shr 5 (rows nodeR a.2.2.2.2.1),.sl .shr 1 (rows strR a.2.2.2.2.2)])]) (bnd (gt a0.branches s124.1) fun y144 =>
 bnd (iisMode y144.mode) fun r145 =>
 cond r145 (
 bnd (iFsOk y144.fs) fun r146 =>
 cond r146 (
 bnd (iTreeOf y144.fs) fun r147 =>
 lpt (σ:=Int × (List ItemD)) (ρ:=((List NodeD) × (List (List UInt8)) × (List ItemD) × Int × (List NodeD) × (List (List UInt8))) ⊕ ((Int × (List ItemD)) ⊕ ((Unit) ⊕ (Bool)))) [3,34,35,36,45,46,47,48,53,54,55] [3,5] (fun a=>[(55,.i .i64 a.1)]) (fun a=>[(3,[.sl .own 4 (rows itemR a.2)])]) (fun s156 =>
 cond (icmp .lss s156.1 (ln r147.items)) (
 bnd (gt r147.items s156.1) fun y157 =>
 bnt [3,7,34,35,36,45,46,47,48,53,54,55] [3,5,7] (fun a=>[]) (fun a=>[]) (bnd (iTreeGet (⟨s156.2⟩:TreeD) y157.path) fun r162 =>
 cond r162.2 (
 cond (icmp .neq r162.1.kind y157.kind) (
 some (.inr (.inr (.inr (.inr (.inr (false))))))) (
 some (.inl ()))) (
 some (.inl ())):Option ((Unit) ⊕ ((Int × (List ItemD)) ⊕ (((List NodeD) × (List (List UInt8)) × (List ItemD) × Int × (List NodeD) × (List (List UInt8))) ⊕ ((Int × (List ItemD)) ⊕ ((Unit) ⊕ (Bool))))))) fun a160 =>
 ck (Room (plus (ln s156.2) 1) 48) <|
 some (.inl (iop .add .i64 s156.1 1,ap s156.2 [y157]))) (
 some (.inr (.inl (y144.fs.nodes,y144.fs.data,s156.2,y144.mode,y144.fs.nodes,y144.fs.data))))) (0,s124.2)) (
 some (.inr (.inr (.inr (false)))))) (
 some (.inr (.inr (.inr (false))))):Option (((List NodeD) × (List (List UInt8)) × (List ItemD) × Int × (List NodeD) × (List (List UInt8))) ⊕ ((Int × (List ItemD)) ⊕ ((Unit) ⊕ (Bool))))) fun a143 =>
 some (.inl (iop .add .i64 s124.1 1,a143.2.2.1))) (
 some (.inr (.inl ())))) (0,[]):Option ((Unit) ⊕ (Bool))) fun a85 =>
 some (true)) (
 some (false))) (
 some (false))) (
 some (false))) (
 some (false))
noncomputable def iplaceOf_1(a0:EntryD)(k1:List UInt8):Option (Bool) :=
 some (scmp .eql a0.name k1)
noncomputable def gslices_IndexFunc_Entry_iplaceOf_1(a0:List EntryD)(k1:List UInt8):Option (Int) :=
 bnt [] [] (fun a=>[]) (fun a=>[]) (lpt (σ:=Int) (ρ:=(Unit) ⊕ (Int)) [0,1,7,8] [] (fun a=>[(8,.i .i64 a)]) (fun a=>[]) (fun s18 =>
 cond (icmp .lss s18 (ln a0)) (
 bnd (gt a0 s18) fun y19 =>
 bnd (iplaceOf_1 y19 k1) fun r20 =>
 cond r20 (
 some (.inr (.inr (s18)))) (
 some (.inl (iop .add .i64 s18 1)))) (
 some (.inr (.inl ())))) 0:Option ((Unit) ⊕ (Int))) fun a13 =>
 some (-1)
noncomputable def iplaceOf(a0:List EntryD)(a1:List UInt8):Option (Int) :=
 bnd (gslices_IndexFunc_Entry_iplaceOf_1 a0 a1) fun r2 =>
 some (r2)
noncomputable def iDirFind(a0:List EntryD)(a1:List UInt8):Option (Int) :=
 bnd (iplaceOf a0 a1) fun r2 =>
 cond (icmp .lss r2 0) (
 some (-1)) (
 bnd (gt a0 r2) fun y4 =>
 some (y4.node))
noncomputable def ifollow(a0:FsD)(a1:List (List UInt8)):Option (Int) :=
 bnt [5] [] (fun a=>[(5,.i .i64 a)]) (fun a=>[]) (lpt (σ:=Int × Int) (ρ:=(Int) ⊕ (Int)) [2,5,10,11,12] [2] (fun a=>[(5,.i .i64 a.1),(12,.i .i64 a.2)]) (fun a=>[]) (fun s33 =>
 cond (icmp .lss s33.2 (ln a1)) (
 bnd (gt a1 s33.2) fun y34 =>
 bnd (gt a0.nodes s33.1) fun y35 =>
 cond (icmp .neq y35.kind 2) (
 some (.inr (.inr (-1)))) (
 bnd (ientries a0 s33.1) fun r36 =>
 bnd (iDirFind r36.1 y34) fun r37 =>
 cond (icmp .lss r37 0) (
 some (.inr (.inr (-1)))) (
 some (.inl (r37,iop .add .i64 s33.2 1))))) (
 some (.inr (.inl s33.1)))) (0,0):Option ((Int) ⊕ (Int))) fun a24 =>
 some (a24)
noncomputable def iWalk(a0:FsD)(a1:List UInt8):Option (Int) :=
 bnd (ireadPath a1) fun r2 =>
 cond r2.2 (
 bnd (iFsOk a0) fun r5 =>
 cond r5 (
 bnd (ifollow a0 r2.1) fun r7 =>
 some (r7)) (
 some (-1))) (
 some (-1))
noncomputable def iGenAt(a0:FsD)(a1:List UInt8):Option (Int) :=
 bnd (iWalk a0 a1) fun r2 =>
 cond (icmp .lss r2 0) (
 some (-1)) (
 bnd (gt a0.nodes r2) fun y4 =>
 some (y4.gen))
noncomputable def iPoolTree(a0:PoolD):Option (TreeD) :=
 bnd (iPoolOk a0) fun r3 =>
 cond r3 (
 bnu [2,3] [2,3] (fun a=>[]) (fun a=>[(3,[.sl .own 4 (rows itemR a)])]) (lpt (σ:=(List Int) × Int × (List ItemD)) (ρ:=(List ItemD)) [2,3,4,18,19,20] [2,3] (fun a=>[(4,.sl .own 1 (rows intR a.1)),(20,.i .i64 a.2.1)]) (fun a=>[(3,[.sl .own 4 (rows itemR a.2.2)])]) (fun s119 =>
 cond (icmp .lss s119.2.1 (ln a0.branches)) (
 bnu [2,3,4,18,19,20] [2,3] (fun a=>[(4,.sl .own 1 (rows intR a.1))]) (fun a=>[(3,[.sl .own 4 (rows itemR a.2)])]) (bnd (gt a0.branches s119.2.1) fun y140 =>
 bnd (iTreeOf y140.fs) fun r141 =>
 lpt (σ:=(List Int) × Int × (List ItemD)) (ρ:=(List Int) × (List ItemD)) [2,3,4,6,18,19,20,27,28,29] [2,3,6] (fun a=>[(4,.sl .own 1 (rows intR a.1)),(29,.i .i64 a.2.1)]) (fun a=>[(3,[.sl .own 4 (rows itemR a.2.2)])]) (fun s152 =>
 cond (icmp .lss s152.2.1 (ln r141.items)) (
 bnd (gt r141.items s152.2.1) fun y153 =>
 bnd (iGenAt y140.fs y153.path) fun r154 =>
 bnd (iitemAt (⟨s152.2.2⟩:TreeD) y153.path) fun r155 =>
 cond (icmp .lss r155 0) (
 ck (Room (plus (ln s152.2.2) 1) 48) <|
 ck (Room (plus (ln s152.1) 1) 8) <|
 some (.inl (ap s152.1 [r154],iop .add .i64 s152.2.1 1,ap s152.2.2 [y153]))) (
 bnd (gt s152.1 r155) fun y158 =>
 cond (icmp .gtr r154 y158) (
 bnd (gt s152.2.2 r155) fun y159 =>
 some (.inl (sl s152.1 r155 r154,iop .add .i64 s152.2.1 1,sl s152.2.2 r155 y153))) (
 some (.inl (s152.1,iop .add .i64 s152.2.1 1,s152.2.2))))) (
 some (.inr ((s152.1,s152.2.2))))) (s119.1,0,s119.2.2):Option ((List Int) × (List ItemD))) fun a139 =>
 some (.inl (a139.1,iop .add .i64 s119.2.1 1,a139.2))) (
 some (.inr (s119.2.2)))) ([],0,[]):Option ((List ItemD))) fun a75 =>
 bnd (gslices_SortFunc_Item_ibyPath a75) fun r79 =>
 some ((⟨r79⟩:TreeD))) (
 some ((⟨[]⟩:TreeD)))
noncomputable def ilook(a0:PoolD)(a1:List UInt8)(a2:Bool):Option (ItemD × Int) :=
 bnu [1,3,6,10] [3,6] (fun a=>[(10,.b a)]) (fun a=>[]) (cond a2 (
 bnd (iPoolOk a0) fun r15 =>
 some ((!r15))) (
 some (true)):Option (Bool)) fun a9 =>
 cond a9 (
 some (((⟨[],0,[],0⟩:ItemD),10))) (
 bnd (iPathOk a1) fun r10 =>
 cond r10 (
 bnd (iPoolTree a0) fun r13 =>
 bnd (iTreeGet r13 a1) fun r14 =>
 cond r14.2 (
 some ((r14.1,0))) (
 some (((⟨[],0,[],0⟩:ItemD),2)))) (
 some (((⟨[],0,[],0⟩:ItemD),1))))
noncomputable def iPoolStat(a0:PoolD)(a1:List UInt8):Option (ItemD × Int) :=
 bnd (ilook a0 a1 true) fun r2 =>
 some ((r2.1,r2.2))
noncomputable def sParts(a0:List UInt8)(a1:Int):Option ((List (List UInt8))) :=
 bnu [5] [] (fun a=>[(5,.sl .own 1 (rows strR a))]) (fun a=>[]) (lpt (σ:=(List (List UInt8)) × Int × Int) (ρ:=(List (List UInt8))) [0,1,5,6,7] [] (fun a=>[(5,.sl .own 1 (rows strR a.1)),(6,.i .i64 a.2.1),(7,.i .i64 a.2.2)]) (fun a=>[]) (fun s16 =>
 cond (icmp .leq s16.2.2 (slen a0)) (
 bnu [0,1,5,6,7,25] [] (fun a=>[(25,.b a)]) (fun a=>[]) (cond (icmp .eql s16.2.2 (slen a0)) (
 some (true)) (
 ck (InR s16.2.2 (slen a0)) <|
 some (icmp .eql (sget a0 s16.2.2) a1)):Option (Bool)) fun a18 =>
 cond a18 (
 ck (InS s16.2.1 s16.2.2 (slen a0)) <|
 ck (Room (plus (ln s16.1) 1) 16) <|
 some (.inl (ap s16.1 [ssub a0 s16.2.1 s16.2.2],iop .add .i64 s16.2.2 1,iop .add .i64 s16.2.2 1))) (
 some (.inl (s16.1,s16.2.1,iop .add .i64 s16.2.2 1)))) (
 some (.inr (s16.1)))) ([],0,0):Option ((List (List UInt8)))) fun a11 =>
 some (a11)
noncomputable def sPathOk(a0:List UInt8):Option (Bool) :=
 cond (scmp .eql a0 [47]) (
 some (true)) (
 bnd (sParts a0 47) fun r2 =>
 bnd (sl1In (ln r2) 2 5) fun r7 =>
 cond r7 (
 bnd (gt r2 0) fun y8 =>
 cond (scmp .neq y8 []) (
 some (false)) (
 bnt [] [] (fun a=>[]) (fun a=>[]) (lpt (σ:=Int) (ρ:=(Unit) ⊕ (Bool)) [3,4] [] (fun a=>[(4,.i .i64 a)]) (fun a=>[]) (fun s26 =>
 cond (icmp .lss s26 (ln r2)) (
 bnd (gt r2 s26) fun y27 =>
 bnd (sNameOk y27) fun r28 =>
 cond r28 (
 some (.inl (iop .add .i64 s26 1))) (
 some (.inr (.inr (false))))) (
 some (.inr (.inl ())))) 1:Option ((Unit) ⊕ (Bool))) fun a21 =>
 some (true))) (
 some (false)))
noncomputable def sl12MoveOk(a0:MoveD)(a1:Int):Option (Bool) :=
 cond a0.on (
 bnd (sl1In a0.src 0 (iop .sub .i64 a1 1)) fun r6 =>
 cond r6 (
 bnd (sl1In a0.dst 0 (iop .sub .i64 a1 1)) fun r7 =>
 cond r7 (
 cond (icmp .neq a0.src a0.dst) (
 bnd (sPathOk a0.path) fun r8 =>
 cond r8 (
 cond (scmp .neq a0.path [47]) (
 bnd (sl1In a0.gen 0 1000000) fun r9 =>
 cond r9 (
 bnd (sl1In a0.dn 0 80) fun r10 =>
 some (r10)) (
 some (false))) (
 some (false))) (
 some (false))) (
 some (false))) (
 some (false))) (
 some (false))) (
 some (rq (⟨false,a0.cln,a0.src,a0.dst,a0.path,a0.gen,a0.dn⟩:MoveD) (⟨false,false,0,0,[],0,0⟩:MoveD)))
noncomputable def sl1Copy(a0:List (List UInt8)):Option ((List (List UInt8))) :=
 ck (Room (plus 0 (ln a0)) 16) <|
 some (a0)
noncomputable def sNames(a0:List UInt8):Option ((List (List UInt8))) :=
 bnd (sPathOk a0) fun r3 =>
 cond r3 (
 cond (scmp .eql a0 [47]) (
 some ([])) (
 bnd (sParts a0 47) fun r6 =>
 ck (InS 1 (ln r6) (ln r6)) <|
 bnd (sl1Copy (sb r6 1 (ln r6))) fun r7 =>
 some (r7))) (
 some ([]))
noncomputable def sPathOf(a0:List (List UInt8)):Option ((List UInt8)) :=
 bnu [0,3] [] (fun a=>[(3,.s a)]) (fun a=>[]) (lpt (σ:=(List UInt8) × Int) (ρ:=(List UInt8)) [0,3,4] [] (fun a=>[(3,.s a.1),(4,.i .i64 a.2)]) (fun a=>[]) (fun s20 =>
 cond (icmp .lss s20.2 (ln a0)) (
 ck (Room (plus (slen s20.1) (slen [47])) 1) <|
 bnd (gt a0 s20.2) fun y21 =>
 ck (Room (plus (slen (sapp s20.1 [47])) (slen y21)) 1) <|
 some (.inl (sapp (sapp s20.1 [47]) y21,iop .add .i64 s20.2 1))) (
 some (.inr (s20.1)))) ([],0):Option ((List UInt8))) fun a7 =>
 bnu [0,3] [] (fun a=>[(3,.s a)]) (fun a=>[]) (cond (icmp .eql (ln a0) 0) (
 some ([47])) (
 some (a7)):Option ((List UInt8))) fun a9 =>
 bnd (sPathOk a9) fun r14 =>
 cond r14 (
 bnd (sNames a9) fun r15 =>
 cond (icmp .neq (ln r15) (ln a0)) (
 some ([])) (
 some (a9))) (
 some ([]))
noncomputable def sl10Put(a0:List ItemD)(a1:ItemD):Option ((List ItemD)) :=
 bnu [3,5,6] [3] (fun a=>[(5,.sl .own 4 (rows itemR a.1)),(6,.b a.2)]) (fun a=>[]) (lpt (σ:=(List ItemD) × Bool × Int) (ρ:=(List ItemD) × Bool) [0,3,5,6,7] [3] (fun a=>[(5,.sl .own 4 (rows itemR a.1)),(6,.b a.2.1),(7,.i .i64 a.2.2)]) (fun a=>[]) (fun s32 =>
 cond (icmp .lss s32.2.2 (ln a0)) (
 bnu [0,3,5,6,7] [3] (fun a=>[(5,.sl .own 4 (rows itemR a.1)),(6,.b a.2)]) (fun a=>[]) (cond s32.2.1 (
 some ((s32.1,true))) (
 bnd (gt a0 s32.2.2) fun y39 =>
 cond (scmp .lss a1.path y39.path) (
 ck (Room (plus (ln s32.1) 1) 48) <|
 some ((ap s32.1 [a1],true))) (
 some ((s32.1,false)))):Option ((List ItemD) × Bool)) fun a35 =>
 bnd (gt a0 s32.2.2) fun y36 =>
 cond (scmp .neq y36.path a1.path) (
 ck (Room (plus (ln a35.1) 1) 48) <|
 some (.inl (ap a35.1 [y36],a35.2,iop .add .i64 s32.2.2 1))) (
 some (.inl (a35.1,a35.2,iop .add .i64 s32.2.2 1)))) (
 some (.inr ((s32.1,s32.2.1))))) ([],false,0):Option ((List ItemD) × Bool)) fun a22 =>
 cond a22.2 (
 some (a22.1)) (
 ck (Room (plus (ln a22.1) 1) 48) <|
 some (ap a22.1 [a1]))
noncomputable def sl10BelowN:Nat→FsD→Int→(List (List UInt8))→(List ItemD)→Option ((List ItemD))
 | 0,_,_,_,_=>none
 | n+1,a0,a1,a2,a3 =>
 bnd (sl9Dir a0 a1) fun r2 =>
 bnu [3] [] (fun a=>[(3,.sl .own 4 (rows itemR a))]) (fun a=>[]) (lpt (σ:=(List ItemD) × Int) (ρ:=(List ItemD)) [2,3,4,9,11] [4] (fun a=>[(3,.sl .own 4 (rows itemR a.1)),(11,.i .i64 a.2)]) (fun a=>[]) (fun s64 =>
 cond (icmp .lss s64.2 (ln r2.1)) (
 bnd (gt r2.1 s64.2) fun y65 =>
 cond (scmp .eql y65.name [126]) (
 some (.inl (s64.1,iop .add .i64 s64.2 1))) (
 bnd (gt a0.nodes y65.node) fun y66 =>
 bnd (sl1Copy a2) fun r67 =>
 ck (Room (plus (ln r67) 1) 16) <|
 bnd (sPathOf (ap r67 [y65.name])) fun r68 =>
 cond (icmp .eql y66.kind 2) (
 bnd (sl10Put s64.1 (⟨r68,y66.kind,[],0⟩:ItemD)) fun r69 =>
 bnd (sl10BelowN n a0 y65.node (ap r67 [y65.name]) r69) fun r70 =>
 some (.inl (r70,iop .add .i64 s64.2 1))) (
 bnd (sl7Read a0 y65.node) fun r71 =>
 bnd (sl10Put s64.1 (⟨r68,y66.kind,r71,y66.time⟩:ItemD)) fun r72 =>
 some (.inl (r72,iop .add .i64 s64.2 1))))) (
 some (.inr (s64.1)))) (a3,0):Option ((List ItemD))) fun a47 =>
 some (a47)
noncomputable def sl10Below(a0:FsD)(a1:Int)(a2:List (List UInt8))(a3:List ItemD):Option ((List ItemD)):=rc fun n=>sl10BelowN n a0 a1 a2 a3
noncomputable def sTreeOf(a0:FsD):Option (TreeD) :=
 bnd (sFsOk a0) fun r3 =>
 cond r3 (
 bnd (sl10Below a0 0 [] []) fun r5 =>
 some ((⟨r5⟩:TreeD))) (
 some ((⟨[]⟩:TreeD)))
noncomputable def sTreeGet(a0:TreeD)(a1:List UInt8):Option (ItemD × Bool) :=
 cond (scmp .eql a1 [47]) (
 some (((⟨[47],2,[],0⟩:ItemD),true))) (
 bnt [4] [4] (fun a=>[]) (fun a=>[]) (lpt (σ:=Int) (ρ:=(Unit) ⊕ (ItemD × Bool)) [1,2,4,6] [2,4] (fun a=>[(6,.i .i64 a)]) (fun a=>[]) (fun s11 =>
 cond (icmp .lss s11 (ln a0.items)) (
 bnd (gt a0.items s11) fun y12 =>
 cond (scmp .eql y12.path a1) (
 some (.inr (.inr ((y12,true))))) (
 some (.inl (iop .add .i64 s11 1)))) (
 some (.inr (.inl ())))) 0:Option ((Unit) ⊕ (ItemD × Bool))) fun a8 =>
 some (((⟨[],0,[],0⟩:ItemD),false)))
noncomputable def sl12Agree(a0:TreeD)(a1:TreeD):Option (Bool) :=
 bnt [] [] (fun a=>[]) (fun a=>[]) (lpt (σ:=Int) (ρ:=(Unit) ⊕ (Bool)) [2,3,5] [2,3] (fun a=>[(5,.i .i64 a)]) (fun a=>[]) (fun s18 =>
 cond (icmp .lss s18 (ln a0.items)) (
 bnd (gt a0.items s18) fun y19 =>
 bnd (sTreeGet a1 y19.path) fun r20 =>
 cond r20.2 (
 cond (icmp .neq r20.1.kind y19.kind) (
 some (.inr (.inr (false)))) (
 some (.inl (iop .add .i64 s18 1)))) (
 some (.inl (iop .add .i64 s18 1)))) (
 some (.inr (.inl ())))) 0:Option ((Unit) ⊕ (Bool))) fun a13 =>
 some (true)
noncomputable def sPoolOk(a0:PoolD):Option (Bool) :=
 bnd (sl1In a0.policy 0 5) fun r9 =>
 cond r9 (
 bnd (sl1In a0.minFree 0 36) fun r10 =>
 cond r10 (
 bnd (sl1In (ln a0.branches) 1 4) fun r11 =>
 cond r11 (
 bnd (sl12MoveOk a0.move (ln a0.branches)) fun r12 =>
 cond r12 (
 bnt [1,3] [1] (fun a=>[]) (fun a=>[]) (lpt (σ:=Int) (ρ:=(Unit) ⊕ (Bool)) [1,3,4] [1] (fun a=>[(4,.i .i64 a)]) (fun a=>[]) (fun s177 =>
 cond (icmp .lss s177 (ln a0.branches)) (
 bnd (gt a0.branches s177) fun y178 =>
 bnd (sl1In y178.mode 0 2) fun r179 =>
 cond r179 (
 bnd (sFsOk y178.fs) fun r180 =>
 cond r180 (
 some (.inl (iop .add .i64 s177 1))) (
 some (.inr (.inr (false))))) (
 some (.inr (.inr (false))))) (
 some (.inr (.inl ())))) 0:Option ((Unit) ⊕ (Bool))) fun a30 =>
 bnt [] [] (fun a=>[]) (fun a=>[]) (lpt (σ:=Int) (ρ:=(Unit) ⊕ (Bool)) [1,3,5] [1] (fun a=>[(5,.i .i64 a)]) (fun a=>[]) (fun s134 =>
 cond (icmp .lss s134 (ln a0.branches)) (
 bnt [1,3,5] [1] (fun a=>[]) (fun a=>[]) (lpt (σ:=Int) (ρ:=(Unit) ⊕ ((Int) ⊕ ((Unit) ⊕ (Bool)))) [1,3,5,6] [1] (fun a=>[(6,.i .i64 a)]) (fun a=>[]) (fun s163 =>
 cond (icmp .lss s163 s134) (
 bnd (gt a0.branches s134) fun y164 =>
 bnd (sTreeOf y164.fs) fun r165 =>
 bnd (gt a0.branches s163) fun y166 =>
 bnd (sTreeOf y166.fs) fun r167 =>
 bnd (sl12Agree r165 r167) fun r168 =>
 cond r168 (
 some (.inl (iop .add .i64 s163 1))) (
 some (.inr (.inr (.inr (.inr (false))))))) (
 some (.inr (.inl ())))) 0:Option ((Unit) ⊕ ((Int) ⊕ ((Unit) ⊕ (Bool))))) fun a152 =>
 some (.inl (iop .add .i64 s134 1))) (
 some (.inr (.inl ())))) 1:Option ((Unit) ⊕ (Bool))) fun a97 =>
 some (true)) (
 some (false))) (
 some (false))) (
 some (false))) (
 some (false))
noncomputable def sDirFind(a0:List EntryD)(a1:List UInt8):Option (Int) :=
 bnt [] [] (fun a=>[]) (fun a=>[]) (lpt (σ:=Int) (ρ:=(Unit) ⊕ (Int)) [0,1,5] [] (fun a=>[(5,.i .i64 a)]) (fun a=>[]) (fun s11 =>
 cond (icmp .lss s11 (ln a0)) (
 bnd (gt a0 s11) fun y12 =>
 cond (scmp .eql y12.name a1) (
 some (.inr (.inr (y12.node)))) (
 some (.inl (iop .add .i64 s11 1)))) (
 some (.inr (.inl ())))) 0:Option ((Unit) ⊕ (Int))) fun a8 =>
 some (-1)
noncomputable def sl9Walk(a0:FsD)(a1:List (List UInt8)):Option (Int) :=
 bnt [5] [] (fun a=>[(5,.i .i64 a)]) (fun a=>[]) (lpt (σ:=Int × Int) (ρ:=(Int) ⊕ (Int)) [1,2,5,6] [2] (fun a=>[(5,.i .i64 a.1),(6,.i .i64 a.2)]) (fun a=>[]) (fun s25 =>
 cond (icmp .lss s25.2 (ln a1)) (
 bnd (sl9Dir a0 s25.1) fun r26 =>
 cond r26.2 (
 bnd (gt a1 s25.2) fun y27 =>
 bnd (sDirFind r26.1 y27) fun r28 =>
 cond (icmp .lss r28 0) (
 some (.inr (.inr (-1)))) (
 some (.inl (r28,iop .add .i64 s25.2 1)))) (
 some (.inr (.inr (-1))))) (
 some (.inr (.inl s25.1)))) (0,0):Option ((Int) ⊕ (Int))) fun a18 =>
 some (a18)
noncomputable def sWalk(a0:FsD)(a1:List UInt8):Option (Int) :=
 bnd (sFsOk a0) fun r5 =>
 cond r5 (
 bnd (sPathOk a1) fun r6 =>
 cond r6 (
 bnd (sNames a1) fun r9 =>
 bnd (sl9Walk a0 r9) fun r10 =>
 some (r10)) (
 some (-1))) (
 some (-1))
noncomputable def sl12Holders(a0:PoolD)(a1:List UInt8):Option ((List Int)) :=
 bnu [5] [] (fun a=>[(5,.sl .own 1 (rows intR a))]) (fun a=>[]) (lpt (σ:=(List Int) × Int) (ρ:=(List Int)) [1,2,5,6] [2] (fun a=>[(5,.sl .own 1 (rows intR a.1)),(6,.i .i64 a.2)]) (fun a=>[]) (fun s18 =>
 cond (icmp .lss s18.2 (ln a0.branches)) (
 bnd (gt a0.branches s18.2) fun y19 =>
 bnd (sWalk y19.fs a1) fun r20 =>
 cond (icmp .geq r20 0) (
 ck (Room (plus (ln s18.1) 1) 8) <|
 some (.inl (ap s18.1 [s18.2],iop .add .i64 s18.2 1))) (
 some (.inl (s18.1,iop .add .i64 s18.2 1)))) (
 some (.inr (s18.1)))) ([],0):Option ((List Int))) fun a13 =>
 some (a13)
noncomputable def sGenAt(a0:FsD)(a1:List UInt8):Option (Int) :=
 bnd (sWalk a0 a1) fun r2 =>
 cond (icmp .lss r2 0) (
 some (-1)) (
 bnd (gt a0.nodes r2) fun y4 =>
 some (y4.gen))
noncomputable def sl12Winner(a0:PoolD)(a1:List UInt8):Option (Int) :=
 bnd (sl12Holders a0 a1) fun r2 =>
 bnu [5] [] (fun a=>[(5,.i .i64 a)]) (fun a=>[]) (lpt (σ:=Int × Int) (ρ:=Int) [1,2,5,6,7] [2] (fun a=>[(5,.i .i64 a.1),(7,.i .i64 a.2)]) (fun a=>[]) (fun s47 =>
 cond (icmp .lss s47.2 (ln r2)) (
 cond (icmp .lss s47.1 0) (
 bnd (gt r2 s47.2) fun y48 =>
 some (.inl (y48,iop .add .i64 s47.2 1))) (
 bnd (gt r2 s47.2) fun y49 =>
 bnd (gt a0.branches y49) fun y50 =>
 bnd (sGenAt y50.fs a1) fun r51 =>
 bnd (gt a0.branches s47.1) fun y52 =>
 bnd (sGenAt y52.fs a1) fun r53 =>
 cond (icmp .gtr r51 r53) (
 some (.inl (y49,iop .add .i64 s47.2 1))) (
 some (.inl (s47.1,iop .add .i64 s47.2 1))))) (
 some (.inr (s47.1)))) (-1,0):Option (Int)) fun a34 =>
 some (a34)
noncomputable def sl12Tree(a0:PoolD):Option (TreeD) :=
 bnu [2,3] [2,3] (fun a=>[]) (fun a=>[(3,[.sl .own 4 (rows itemR a)])]) (lpt (σ:=Int × (List ItemD)) (ρ:=(List ItemD)) [1,2,3,4] [1,2,3] (fun a=>[(4,.i .i64 a.1)]) (fun a=>[(3,[.sl .own 4 (rows itemR a.2)])]) (fun s81 =>
 cond (icmp .lss s81.1 (ln a0.branches)) (
 bnu [1,2,3,4] [1,2,3] (fun a=>[]) (fun a=>[(3,[.sl .own 4 (rows itemR a)])]) (bnd (gt a0.branches s81.1) fun y96 =>
 bnd (sTreeOf y96.fs) fun r97 =>
 lpt (σ:=Int × (List ItemD)) (ρ:=(List ItemD)) [1,2,3,4,5,6] [1,2,3,5] (fun a=>[(6,.i .i64 a.1)]) (fun a=>[(3,[.sl .own 4 (rows itemR a.2)])]) (fun s104 =>
 cond (icmp .lss s104.1 (ln r97.items)) (
 bnd (gt r97.items s104.1) fun y105 =>
 bnd (sl12Winner a0 y105.path) fun r106 =>
 cond (icmp .eql r106 s81.1) (
 bnd (sl10Put s104.2 y105) fun r107 =>
 some (.inl (iop .add .i64 s104.1 1,r107))) (
 some (.inl (iop .add .i64 s104.1 1,s104.2)))) (
 some (.inr (s104.2)))) (0,s81.2):Option ((List ItemD))) fun a95 =>
 some (.inl (iop .add .i64 s81.1 1,a95))) (
 some (.inr (s81.2)))) (0,[]):Option ((List ItemD))) fun a52 =>
 some ((⟨a52⟩:TreeD))
noncomputable def sPoolStat(a0:PoolD)(a1:List UInt8):Option (ItemD × Int) :=
 bnd (sPoolOk a0) fun r3 =>
 cond r3 (
 bnd (sPathOk a1) fun r6 =>
 cond r6 (
 bnd (sl12Tree a0) fun r9 =>
 bnd (sTreeGet r9 a1) fun r10 =>
 cond r10.2 (
 some ((r10.1,0))) (
 some (((⟨[],0,[],0⟩:ItemD),2)))) (
 some (((⟨[],0,[],0⟩:ItemD),1)))) (
 some (((⟨[],0,[],0⟩:ItemD),10)))
noncomputable def ilookFor(a0:PoolD)(a1:List UInt8)(a2:Int)(a3:Bool):Option (ItemD × Int) :=
 bnd (ilook a0 a1 a3) fun r2 =>
 bnt [8,10,11] [8,10] (fun a=>[]) (fun a=>[]) (cond (icmp .eql r2.2 0) (
 cond (icmp .neq r2.1.kind a2) (
 some (.inr (((⟨[],0,[],0⟩:ItemD),4)))) (
 some (.inl ()))) (
 some (.inl ())):Option ((Unit) ⊕ (ItemD × Int))) fun a4 =>
 some ((r2.1,r2.2))
noncomputable def iPoolTarget(a0:PoolD)(a1:List UInt8):Option ((List UInt8) × Int) :=
 bnd (ilookFor a0 a1 3 true) fun r2 =>
 some ((r2.1.data,r2.2))
noncomputable def sPoolTarget(a0:PoolD)(a1:List UInt8):Option ((List UInt8) × Int) :=
 bnd (sPoolStat a0 a1) fun r2 =>
 cond (icmp .neq r2.2 0) (
 some (([],r2.2))) (
 cond (icmp .neq r2.1.kind 3) (
 some (([],4))) (
 some ((r2.1.data,0))))
noncomputable def iPoolRead(a0:PoolD)(a1:List UInt8)(a2:Int)(a3:Int):Option ((List UInt8) × Int) :=
 bnu [2,3,10,11] [10] (fun a=>[(10,.pt ⟨.bx 10,[],0⟩),(11,.i .i64 a.1)]) (fun a=>[(10,[.s a.2.1,.i .i64 a.2.2.1,.s a.2.2.2.1,.i .i64 a.2.2.2.2])]) (bnd (iwithin a2 0 1000) fun r12 =>
 cond r12 (
 bnd (iwithin a3 0 1000) fun r13 =>
 bnd (ilookFor a0 a1 1 r13) fun r14 =>
 some ((r14.2,r14.1.path,r14.1.kind,r14.1.data,r14.1.time))) (
 bnd (ilookFor a0 a1 1 false) fun r15 =>
 some ((r15.2,r15.1.path,r15.1.kind,r15.1.data,r15.1.time))):Option (Int × (List UInt8) × Int × (List UInt8) × Int)) fun a10 =>
 ck (InS (imax 0 (imin a2 (slen a10.2.2.2.1))) (imax (imax 0 (imin a2 (slen a10.2.2.2.1))) (imin (slen a10.2.2.2.1) (iop .add .i64 (imax 0 (imin a2 (slen a10.2.2.2.1))) (imin a3 1000)))) (slen a10.2.2.2.1)) <|
 some ((ssub a10.2.2.2.1 (imax 0 (imin a2 (slen a10.2.2.2.1))) (imax (imax 0 (imin a2 (slen a10.2.2.2.1))) (imin (slen a10.2.2.2.1) (iop .add .i64 (imax 0 (imin a2 (slen a10.2.2.2.1))) (imin a3 1000)))),a10.1))
noncomputable def sPoolRead(a0:PoolD)(a1:List UInt8)(a2:Int)(a3:Int):Option ((List UInt8) × Int) :=
 bnd (sl1In a2 0 1000) fun r5 =>
 cond r5 (
 bnd (sl1In a3 0 1000) fun r6 =>
 cond r6 (
 bnd (sPoolStat a0 a1) fun r8 =>
 cond (icmp .neq r8.2 0) (
 some (([],r8.2))) (
 cond (icmp .neq r8.1.kind 1) (
 some (([],4))) (
 bnd (sl1Min a2 (slen r8.1.data)) fun r10 =>
 bnd (sl1Min (iop .add .i64 r10 a3) (slen r8.1.data)) fun r12 =>
 ck (InS r10 r12 (slen r8.1.data)) <|
 some ((ssub r8.1.data r10 r12,0))))) (
 some (([],10)))) (
 some (([],10)))
noncomputable def iPoolFind(a0:PoolD)(a1:Int):Option ((List (List UInt8))) :=
 bnu [5] [] (fun a=>[(5,.sl .own 1 (rows strR a))]) (fun a=>[]) (bnd (iPoolTree a0) fun r11 =>
 lpt (σ:=(List (List UInt8)) × Int) (ρ:=(List (List UInt8))) [1,5,11,12,13] [] (fun a=>[(5,.sl .own 1 (rows strR a.1)),(13,.i .i64 a.2)]) (fun a=>[]) (fun s14 =>
 cond (icmp .lss s14.2 (ln r11.items)) (
 bnd (gt r11.items s14.2) fun y15 =>
 cond (icmp .eql y15.kind a1) (
 ck (Room (plus (ln s14.1) 1) 16) <|
 some (.inl (ap s14.1 [y15.path],iop .add .i64 s14.2 1))) (
 some (.inl (s14.1,iop .add .i64 s14.2 1)))) (
 some (.inr (s14.1)))) ([],0):Option ((List (List UInt8)))) fun a10 =>
 some (a10)
noncomputable def sPoolTree(a0:PoolD):Option (TreeD) :=
 bnd (sPoolOk a0) fun r3 =>
 cond r3 (
 bnd (sl12Tree a0) fun r5 =>
 some (r5)) (
 some ((⟨[]⟩:TreeD)))
noncomputable def sPoolFind(a0:PoolD)(a1:Int):Option ((List (List UInt8))) :=
 bnd (sPoolTree a0) fun r2 =>
 bnu [5] [] (fun a=>[(5,.sl .own 1 (rows strR a))]) (fun a=>[]) (lpt (σ:=(List (List UInt8)) × Int) (ρ:=(List (List UInt8))) [1,5,6,7] [6] (fun a=>[(5,.sl .own 1 (rows strR a.1)),(7,.i .i64 a.2)]) (fun a=>[]) (fun s13 =>
 cond (icmp .lss s13.2 (ln r2.items)) (
 bnd (gt r2.items s13.2) fun y14 =>
 cond (icmp .eql y14.kind a1) (
 ck (Room (plus (ln s13.1) 1) 16) <|
 some (.inl (ap s13.1 [y14.path],iop .add .i64 s13.2 1))) (
 some (.inl (s13.1,iop .add .i64 s13.2 1)))) (
 some (.inr (s13.1)))) ([],0):Option ((List (List UInt8)))) fun a10 =>
 some (a10)
end Go.Ar
end
section
namespace Go.Ar
open Go.Proofs
set_option linter.unusedVariables false
set_option linter.unusedSimpArgs false
set_option maxRecDepth 20000
set_option maxHeartbeats 40000000
noncomputable def iisKind(a0:Int):Option (Bool) :=
 bnd (iwithin a0 1 3) fun r2 =>
 some (r2)
noncomputable def iitemOk(a0:ItemD):Option (Bool) :=
 bnd (iPathOk a0.path) fun r5 =>
 cond r5 (
 cond (scmp .eql a0.path [47]) (
 some (false)) (
 bnd (iisKind a0.kind) fun r6 =>
 cond r6 (
 cond (icmp .eql a0.kind 2) (
 cond (scmp .eql a0.data []) (
 some (icmp .eql a0.time 0)) (
 some (false))) (
 cond (icmp .leq (slen a0.data) 80) (
 bnd (iwithin a0.time 0 100000) fun r9 =>
 some (r9)) (
 some (false)))) (
 some (false)))) (
 some (false))
noncomputable def iAbove(a0:List UInt8):Option ((List UInt8)) :=
 bnd (ireadPath a0) fun r2 =>
 cond r2.2 (
 ck (InS 0 (imax 0 (iop .sub .i64 (ln r2.1) 1)) (ln r2.1)) <|
 bnd (iPathOf (sb r2.1 0 (imax 0 (iop .sub .i64 (ln r2.1) 1)))) fun r4 =>
 some (r4)) (
 some ([]))
noncomputable def iTreeOk(a0:TreeD):Option (Bool) :=
 cond (icmp .gtr (ln a0.items) 40) (
 some (false)) (
 bnt [] [] (fun a=>[]) (fun a=>[]) (lpt (σ:=Int) (ρ:=(Unit) ⊕ (Bool)) [1,12,13,14] [1] (fun a=>[(14,.i .i64 a)]) (fun a=>[]) (fun s53 =>
 cond (icmp .lss s53 (ln a0.items)) (
 bnd (gt a0.items s53) fun y54 =>
 bnt [1,4,12,13,14,23,24,25,36] [1,4] (fun a=>[(23,.i .i64 s53),(24,.b a.1),(25,.b a.2),(36,.b false)]) (fun a=>[]) (bnd (iitemOk y54) fun r62 =>
 cond r62 (
 cond (icmp .gtr s53 0) (
 bnd (gt a0.items (iop .sub .i64 s53 1)) fun y63 =>
 cond (scmp .geq y63.path y54.path) (
 some (.inr (.inr (.inr (false))))) (
 some (.inl (true,true)))) (
 some (.inl (false,false)))) (
 some (.inr (.inr (.inr (false))))):Option ((Bool × Bool) ⊕ ((Int) ⊕ ((Unit) ⊕ (Bool))))) fun a58 =>
 bnd (iAbove y54.path) fun r59 =>
 bnd (iTreeGet a0 r59) fun r60 =>
 cond r60.2 (
 cond (icmp .neq r60.1.kind 2) (
 some (.inr (.inr (false)))) (
 some (.inl (iop .add .i64 s53 1)))) (
 some (.inr (.inr (false))))) (
 some (.inr (.inl ())))) 0:Option ((Unit) ⊕ (Bool))) fun a38 =>
 some (true))
noncomputable def iNames(a0:List UInt8):Option ((List (List UInt8))) :=
 bnd (ireadPath a0) fun r2 =>
 some (r2.1)
noncomputable def iLast(a0:List UInt8):Option ((List UInt8)) :=
 bnd (iNames a0) fun r2 =>
 cond (icmp .eql (ln r2) 0) (
 some ([])) (
 bnd (gt r2 (iop .sub .i64 (ln r2) 1)) fun y4 =>
 some (y4))
noncomputable def iTreeNames(a0:TreeD)(a1:List UInt8):Option ((List (List UInt8))) :=
 bnd (iTreeGet a0 a1) fun r2 =>
 cond r2.2 (
 cond (icmp .neq r2.1.kind 2) (
 some ([])) (
 bnd (iTreeOk a0) fun r5 =>
 cond r5 (
 bnu [7] [] (fun a=>[(7,.sl .own 1 (rows strR a))]) (fun a=>[]) (lpt (σ:=(List (List UInt8)) × Int) (ρ:=(List (List UInt8))) [1,7,30,31,32] [] (fun a=>[(7,.sl .own 1 (rows strR a.1)),(32,.i .i64 a.2)]) (fun a=>[]) (fun s29 =>
 cond (icmp .lss s29.2 (ln a0.items)) (
 bnd (gt a0.items s29.2) fun y30 =>
 bnd (iAbove y30.path) fun r31 =>
 cond (scmp .eql r31 a1) (
 bnd (iLast y30.path) fun r32 =>
 ck (Room (plus (ln s29.1) 1) 16) <|
 some (.inl (ap s29.1 [r32],iop .add .i64 s29.2 1))) (
 some (.inl (s29.1,iop .add .i64 s29.2 1)))) (
 some (.inr (s29.1)))) ([],0):Option ((List (List UInt8)))) fun a22 =>
 some (a22)) (
 some ([])))) (
 some ([]))
noncomputable def iPoolList(a0:PoolD)(a1:List UInt8):Option ((List (List UInt8)) × Int) :=
 bnd (ilookFor a0 a1 2 true) fun r2 =>
 cond (icmp .neq r2.2 0) (
 some (([],r2.2))) (
 bnd (iPoolTree a0) fun r5 =>
 bnd (iTreeNames r5 a1) fun r6 =>
 some ((r6,0)))
noncomputable def sAbove(a0:List UInt8):Option ((List UInt8)) :=
 bnd (sNames a0) fun r2 =>
 bnd (sPathOk a0) fun r5 =>
 cond r5 (
 cond (icmp .eql (ln r2) 0) (
 some ([47])) (
 ck (InS 0 (iop .sub .i64 (ln r2) 1) (ln r2)) <|
 bnd (sPathOf (sb r2 0 (iop .sub .i64 (ln r2) 1))) fun r7 =>
 some (r7))) (
 some ([]))
noncomputable def sTreeOk(a0:TreeD):Option (Bool) :=
 cond (icmp .gtr (ln a0.items) 40) (
 some (false)) (
 bnt [] [] (fun a=>[]) (fun a=>[]) (lpt (σ:=Int) (ρ:=(Unit) ⊕ (Bool)) [1,3] [1] (fun a=>[(3,.i .i64 a)]) (fun a=>[]) (fun s97 =>
 cond (icmp .lss s97 (ln a0.items)) (
 bnd (gt a0.items s97) fun y98 =>
 bnt [1,3,4,28,29,30,33,34,35,46,49,50,51,52,55,56,57,58,61,62,63,64] [1,4] (fun a=>[(28,.pt ⟨.bx 4,[],0⟩),(29,.s y98.path),(30,.b false),(33,.i .i64 s97),(34,.b a.1),(35,.b a.2),(46,.b false),(49,.pt ⟨.bx 4,[],1⟩),(50,.i .i64 y98.kind),(51,.b true),(52,.b false),(55,.pt ⟨.bx 4,[],2⟩),(56,.s y98.data),(57,.i .i64 (slen y98.data)),(58,.b false),(61,.pt ⟨.bx 4,[],3⟩),(62,.i .i64 y98.time),(63,.b true),(64,.b false)]) (fun a=>[]) (bnd (sPathOk y98.path) fun r115 =>
 cond r115 (
 cond (scmp .eql y98.path [47]) (
 some (.inr (.inr (.inr (false))))) (
 cond (icmp .gtr s97 0) (
 bnd (gt a0.items (iop .sub .i64 s97 1)) fun y116 =>
 cond (scmp .leq y98.path y116.path) (
 some (.inr (.inr (.inr (false))))) (
 bnd (sl1In y98.kind 1 3) fun r117 =>
 cond r117 (
 cond (icmp .gtr (slen y98.data) 80) (
 some (.inr (.inr (.inr (false))))) (
 bnd (sl1In y98.time 0 100000) fun r118 =>
 cond r118 (
 some (.inl (true,true))) (
 some (.inr (.inr (.inr (false))))))) (
 some (.inr (.inr (.inr (false))))))) (
 bnd (sl1In y98.kind 1 3) fun r121 =>
 cond r121 (
 cond (icmp .gtr (slen y98.data) 80) (
 some (.inr (.inr (.inr (false))))) (
 bnd (sl1In y98.time 0 100000) fun r122 =>
 cond r122 (
 some (.inl (false,false))) (
 some (.inr (.inr (.inr (false))))))) (
 some (.inr (.inr (.inr (false)))))))) (
 some (.inr (.inr (.inr (false))))):Option ((Bool × Bool) ⊕ ((Int) ⊕ ((Unit) ⊕ (Bool))))) fun a106 =>
 bnt [1,3,4,28,29,30,33,34,35,46,49,50,51,52,55,56,57,58,61,62,63,64] [1,4] (fun a=>[]) (fun a=>[]) (cond (icmp .eql y98.kind 2) (
 cond (scmp .neq y98.data []) (
 some (.inr (.inr (.inr (false))))) (
 cond (icmp .neq y98.time 0) (
 some (.inr (.inr (.inr (false))))) (
 some (.inl ())))) (
 some (.inl ())):Option ((Unit) ⊕ ((Int) ⊕ ((Unit) ⊕ (Bool))))) fun a108 =>
 bnd (sAbove y98.path) fun r109 =>
 bnd (sTreeGet a0 r109) fun r110 =>
 cond r110.2 (
 cond (icmp .neq r110.1.kind 2) (
 some (.inr (.inr (false)))) (
 some (.inl (iop .add .i64 s97 1)))) (
 some (.inr (.inr (false))))) (
 some (.inr (.inl ())))) 0:Option ((Unit) ⊕ (Bool))) fun a70 =>
 some (true))
noncomputable def sLast(a0:List UInt8):Option ((List UInt8)) :=
 bnd (sNames a0) fun r2 =>
 cond (icmp .eql (ln r2) 0) (
 some ([])) (
 bnd (gt r2 (iop .sub .i64 (ln r2) 1)) fun y4 =>
 some (y4))
noncomputable def sTreeNames(a0:TreeD)(a1:List UInt8):Option ((List (List UInt8))) :=
 bnd (sTreeGet a0 a1) fun r2 =>
 bnd (sTreeOk a0) fun r5 =>
 cond r5 (
 cond r2.2 (
 cond (icmp .neq r2.1.kind 2) (
 some ([])) (
 bnu [5] [] (fun a=>[(5,.sl .own 1 (rows strR a))]) (fun a=>[]) (lpt (σ:=(List (List UInt8)) × Int) (ρ:=(List (List UInt8))) [1,2,5,8] [2] (fun a=>[(5,.sl .own 1 (rows strR a.1)),(8,.i .i64 a.2)]) (fun a=>[]) (fun s29 =>
 cond (icmp .lss s29.2 (ln a0.items)) (
 bnd (gt a0.items s29.2) fun y30 =>
 bnd (sAbove y30.path) fun r31 =>
 cond (scmp .eql r31 a1) (
 bnd (sLast y30.path) fun r32 =>
 ck (Room (plus (ln s29.1) 1) 16) <|
 some (.inl (ap s29.1 [r32],iop .add .i64 s29.2 1))) (
 some (.inl (s29.1,iop .add .i64 s29.2 1)))) (
 some (.inr (s29.1)))) ([],0):Option ((List (List UInt8)))) fun a22 =>
 some (a22))) (
 some ([]))) (
 some ([]))
noncomputable def sPoolList(a0:PoolD)(a1:List UInt8):Option ((List (List UInt8)) × Int) :=
 bnd (sPoolStat a0 a1) fun r2 =>
 cond (icmp .neq r2.2 0) (
 some (([],r2.2))) (
 cond (icmp .neq r2.1.kind 2) (
 some (([],4))) (
 bnd (sl12Tree a0) fun r5 =>
 bnd (sTreeNames r5 a1) fun r6 =>
 some ((r6,0))))
end Go.Ar
end
section
namespace Go.Ar
open Go.Proofs
set_option linter.unusedVariables false
set_option linter.unusedSimpArgs false
set_option maxRecDepth 20000
set_option maxHeartbeats 40000000
noncomputable def iOpOk(a0:OpD):Option (Bool) :=
 bnd (iwithin a0.kind 0 8) fun r4 =>
 cond r4 (
 bnd (iwithin a0.pos 0 1000) fun r5 =>
 cond r5 (
 bnd (iwithin a0.time 0 100000) fun r6 =>
 some (r6)) (
 some (false))) (
 some (false))
noncomputable def gslices_Clone_Item(a0:List ItemD):Option ((List ItemD)) :=
 nq (a0=[]) fun n3 =>
 cond n3 (
 some ([])) (
 ck (Room (plus 0 (ln a0)) 48) <|
 some (a0))
noncomputable def icloneTree(a0:TreeD):Option (TreeD) :=
 bnd (gslices_Clone_Item a0.items) fun r2 =>
 some ((⟨r2⟩:TreeD))
noncomputable def iTreeDo_1(a0:List UInt8):Option (Bool) :=
 bnd (iPathOk a0) fun r2 =>
 cond r2 (
 some (scmp .eql a0 [47])) (
 some (true))
noncomputable def ginternal_stringslite_HasPrefix(a0:List UInt8)(a1:List UInt8):Option (Bool) :=
 cond (icmp .geq (slen a0) (slen a1)) (
 ck (InS 0 (slen a1) (slen a0)) <|
 some (scmp .eql (ssub a0 0 (slen a1)) a1)) (
 some (false))
noncomputable def gstrings_HasPrefix(a0:List UInt8)(a1:List UInt8):Option (Bool) :=
 bnd (ginternal_stringslite_HasPrefix a0 a1) fun r2 =>
 some (r2)
noncomputable def iWithin(a0:List UInt8)(a1:List UInt8):Option (Bool) :=
 bnd (iPathOk a0) fun r5 =>
 cond r5 (
 bnd (iPathOk a1) fun r6 =>
 cond r6 (
 cond (scmp .eql a0 a1) (
 some (true)) (
 cond (scmp .eql a1 [47]) (
 some (true)) (
 ck (Room (plus (slen a1) (slen [47])) 1) <|
 bnd (gstrings_HasPrefix a0 (sapp a1 [47])) fun r8 =>
 some (r8)))) (
 some (false))) (
 some (false))
noncomputable def iroom(a0:TreeD)(a1:List UInt8):Option (Int) :=
 bnd (iAbove a1) fun r3 =>
 bnd (iTreeGet a0 r3) fun r4 =>
 cond r4.2 (
 cond (icmp .neq r4.1.kind 2) (
 some (4)) (
 bnd (iitemAt a0 a1) fun r7 =>
 cond (icmp .geq r7 0) (
 some (3)) (
 some (0)))) (
 some (2))
noncomputable def itreeAdd(a0:TreeD)(a1:OpD):Option (TreeD × Int) :=
 bnd (iroom a0 a1.path) fun r2 =>
 cond (icmp .neq r2 0) (
 some ((a0,r2))) (
 bnu [2,3,4,17] [2,3,4] (fun a=>[(17,.b a)]) (fun a=>[]) (cond (icmp .neq a1.kind 0) (
 some (icmp .gtr (slen a1.data) 80)) (
 some (false)):Option (Bool)) fun a6 =>
 cond a6 (
 some ((a0,9))) (
 cond (icmp .geq (ln a0.items) 40) (
 some ((a0,5))) (
 bnu [2,3,4,7] [2,3,4,7] (fun a=>[]) (fun a=>[(7,[.s a1.path,.i .i64 a.1,.s a.2.1,.i .i64 a.2.2])]) (cond (icmp .neq a1.kind 0) (
 some ((1,a1.data,a1.time))) (
 some ((2,[],0))):Option (Int × (List UInt8) × Int)) fun a8 =>
 bnu [2,4,7] [2,4,7] (fun a=>[]) (fun a=>[(7,[.s a1.path,.i .i64 a,.s a8.2.1,.i .i64 a8.2.2])]) (cond (icmp .eql a1.kind 2) (
 some (3)) (
 some (a8.1)):Option (Int)) fun a10 =>
 ck (Room (plus (ln a0.items) 1) 48) <|
 bnd (gslices_SortFunc_Item_ibyPath (ap a0.items [(⟨a1.path,a10,a8.2.1,a8.2.2⟩:ItemD)])) fun r14 =>
 some (((⟨r14⟩:TreeD),0)))))
noncomputable def iWritten(a0:List UInt8)(a1:Int)(a2:List UInt8):Option ((List UInt8)) :=
 bnd (iwithin a1 0 100000) fun r3 =>
 cond r3 (
 bnu [0,1,2] [] (fun a=>[(0,.s a)]) (fun a=>[]) (cond (icmp .lss (slen a0) a1) (
 bnd (gstrings_Repeat [0] (iop .sub .i64 a1 (slen a0))) fun r12 =>
 ck (Room (plus (slen a0) (slen r12)) 1) <|
 some (sapp a0 r12)) (
 some (a0)):Option ((List UInt8))) fun a7 =>
 ck (InS 0 a1 (slen a7)) <|
 ck (Room (plus (slen (ssub a7 0 a1)) (slen a2)) 1) <|
 ck (InS (imin (slen a7) (iop .add .i64 a1 (slen a2))) (slen a7) (slen a7)) <|
 ck (Room (plus (slen (sapp (ssub a7 0 a1) a2)) (slen (ssub a7 (imin (slen a7) (iop .add .i64 a1 (slen a2))) (slen a7)))) 1) <|
 some (sapp (sapp (ssub a7 0 a1) a2) (ssub a7 (imin (slen a7) (iop .add .i64 a1 (slen a2))) (slen a7)))) (
 some (a0))
noncomputable def iCut(a0:List UInt8)(a1:Int):Option ((List UInt8)) :=
 bnd (iwithin a1 0 100000) fun r3 =>
 cond r3 (
 cond (icmp .lss (slen a0) a1) (
 bnd (gstrings_Repeat [0] (iop .sub .i64 a1 (slen a0))) fun r6 =>
 ck (Room (plus (slen a0) (slen r6)) 1) <|
 some (sapp a0 r6)) (
 ck (InS 0 a1 (slen a0)) <|
 some (ssub a0 0 a1))) (
 some (a0))
noncomputable def itreeSet(a0:TreeD)(a1:OpD):Option (TreeD × Int) :=
 bnd (iitemAt a0 a1.path) fun r2 =>
 cond (icmp .lss r2 0) (
 some ((a0,2))) (
 bnd (gt a0.items r2) fun y4 =>
 bnt [2,3,4,7] [2,3,4] (fun a=>[]) (fun a=>[]) (cond (icmp .eql y4.kind 2) (
 some (.inr ((a0,4)))) (
 cond (icmp .eql y4.kind 3) (
 cond (icmp .neq a1.kind 5) (
 some (.inr ((a0,4)))) (
 some (.inl ()))) (
 some (.inl ()))):Option ((Unit) ⊕ (TreeD × Int))) fun a6 =>
 bnu [2,3,4,7,8] [2,3,4] (fun a=>[(8,.s a)]) (fun a=>[]) (cond (icmp .eql a1.kind 3) (
 bnd (iWritten y4.data a1.pos a1.data) fun r14 =>
 some (r14)) (
 cond (icmp .eql a1.kind 4) (
 bnd (iCut y4.data a1.pos) fun r15 =>
 some (r15)) (
 some (y4.data))):Option ((List UInt8))) fun a12 =>
 cond (icmp .gtr (slen a12) 80) (
 some ((a0,9))) (
 some (((⟨sl (sl a0.items r2 (⟨y4.path,y4.kind,a12,y4.time⟩:ItemD)) r2 (⟨(⟨y4.path,y4.kind,a12,y4.time⟩:ItemD).path,(⟨y4.path,y4.kind,a12,y4.time⟩:ItemD).kind,(⟨y4.path,y4.kind,a12,y4.time⟩:ItemD).data,a1.time⟩:ItemD)⟩:TreeD),0))))
noncomputable def itreeDrop_1(a0:ItemD)(k1:Int)(k2:List UInt8)(k3:List UInt8)(k4:Int)(k5:List UInt8)(k6:Int):Option (Bool) :=
 bnd (iAbove a0.path) fun r2 =>
 some (scmp .eql r2 k2)
noncomputable def gslices_IndexFunc_Item_itreeDrop_1(a0:List ItemD)(k1:Int)(k2:List UInt8)(k3:List UInt8)(k4:Int)(k5:List UInt8)(k6:Int):Option (Int) :=
 bnt [] [] (fun a=>[]) (fun a=>[]) (lpt (σ:=Int) (ρ:=(Unit) ⊕ (Int)) [0,1,7,8] [] (fun a=>[(8,.i .i64 a)]) (fun a=>[]) (fun s18 =>
 cond (icmp .lss s18 (ln a0)) (
 bnd (gt a0 s18) fun y19 =>
 bnd (itreeDrop_1 y19 k1 k2 k3 k4 k5 k6) fun r20 =>
 cond r20 (
 some (.inr (.inr (s18)))) (
 some (.inl (iop .add .i64 s18 1)))) (
 some (.inr (.inl ())))) 0:Option ((Unit) ⊕ (Int))) fun a13 =>
 some (-1)
noncomputable def gslices_ContainsFunc_Item_itreeDrop_1(a0:List ItemD)(k1:Int)(k2:List UInt8)(k3:List UInt8)(k4:Int)(k5:List UInt8)(k6:Int):Option (Bool) :=
 bnd (gslices_IndexFunc_Item_itreeDrop_1 a0 k1 k2 k3 k4 k5 k6) fun r2 =>
 some (icmp .geq r2 0)
noncomputable def itreeDrop(a0:TreeD)(a1:OpD):Option (TreeD × Int) :=
 bnd (iitemAt a0 a1.path) fun r2 =>
 cond (icmp .lss r2 0) (
 some ((a0,2))) (
 bnu [2,3,4,6,15] [2,3,4] (fun a=>[(15,.b a)]) (fun a=>[]) (bnd (gt a0.items r2) fun y15 =>
 cond (icmp .eql y15.kind 2) (
 cond (icmp .eql a1.kind 7) (
 some (false)) (
 some (true))) (
 cond (icmp .eql a1.kind 7) (
 some (true)) (
 some (false))):Option (Bool)) fun a11 =>
 cond a11 (
 some ((a0,4))) (
 bnd (gslices_ContainsFunc_Item_itreeDrop_1 a0.items a1.kind a1.path a1.dst a1.pos a1.data a1.time) fun r12 =>
 cond r12 (
 some ((a0,8))) (
 bnd (gslices_Delete_Item a0.items r2 (iop .add .i64 r2 1)) fun r14 =>
 some (((⟨r14⟩:TreeD),0)))))
noncomputable def ginternal_stringslite_TrimPrefix(a0:List UInt8)(a1:List UInt8):Option ((List UInt8)) :=
 bnd (ginternal_stringslite_HasPrefix a0 a1) fun r3 =>
 cond r3 (
 ck (InS (slen a1) (slen a0) (slen a0)) <|
 some (ssub a0 (slen a1) (slen a0))) (
 some (a0))
noncomputable def gstrings_TrimPrefix(a0:List UInt8)(a1:List UInt8):Option ((List UInt8)) :=
 bnd (ginternal_stringslite_TrimPrefix a0 a1) fun r2 =>
 some (r2)
noncomputable def itreeRename(a0:TreeD)(a1:OpD):Option (TreeD × Int) :=
 bnd (iitemAt a0 a1.path) fun r3 =>
 cond (icmp .lss r3 0) (
 some ((a0,2))) (
 bnd (iroom a0 a1.dst) fun r6 =>
 cond (icmp .neq r6 0) (
 some ((a0,r6))) (
 bnt [2,4] [2,4] (fun a=>[]) (fun a=>[(2,[.sl .own 4 (rows itemR a)])]) (lpt (σ:=Int × (List ItemD)) (ρ:=((List ItemD)) ⊕ (TreeD × Int)) [2,3,4,24,25,26] [2,3,4] (fun a=>[(26,.i .i64 a.1)]) (fun a=>[(2,[.sl .own 4 (rows itemR a.2)])]) (fun s42 =>
 cond (icmp .lss s42.1 (ln a0.items)) (
 bnd (gt s42.2 s42.1) fun y43 =>
 bnd (iWithin y43.path a1.path) fun r44 =>
 cond r44 (
 bnd (gstrings_TrimPrefix y43.path a1.path) fun r45 =>
 ck (Room (plus (slen a1.dst) (slen r45)) 1) <|
 bnd (iPathOk ((⟨sapp a1.dst r45,y43.kind,y43.data,y43.time⟩:ItemD).path)) fun r46 =>
 cond r46 (
 some (.inl (iop .add .i64 s42.1 1,sl s42.2 s42.1 (⟨sapp a1.dst r45,y43.kind,y43.data,y43.time⟩:ItemD)))) (
 some (.inr (.inr (((⟨sl s42.2 s42.1 (⟨sapp a1.dst r45,y43.kind,y43.data,y43.time⟩:ItemD)⟩:TreeD),1)))))) (
 some (.inl (iop .add .i64 s42.1 1,s42.2)))) (
 some (.inr (.inl s42.2)))) (0,a0.items):Option (((List ItemD)) ⊕ (TreeD × Int))) fun a29 =>
 bnd (gslices_SortFunc_Item_ibyPath a29) fun r33 =>
 some (((⟨r33⟩:TreeD),0))))
noncomputable def iTreeDo(a0:TreeD)(a1:OpD):Option (TreeD × Int) :=
 bnu [2,3,4,16] [2,3,4] (fun a=>[(16,.b a)]) (fun a=>[]) (bnd (iTreeOk a0) fun r78 =>
 cond r78 (
 bnd (iOpOk a1) fun r79 =>
 some ((!r79))) (
 some (true)):Option (Bool)) fun a12 =>
 cond a12 (
 bnd (icloneTree a0) fun r13 =>
 some ((r13,10))) (
 bnu [2,3,4,40] [2,3,4] (fun a=>[(40,.b a)]) (fun a=>[]) (bnd (iTreeDo_1 a1.path) fun r74 =>
 cond r74 (
 some (true)) (
 cond (icmp .eql a1.kind 8) (
 bnd (iTreeDo_1 a1.dst) fun r75 =>
 cond r75 (
 some (true)) (
 bnd (iWithin a1.dst a1.path) fun r76 =>
 some (r76))) (
 some (false))):Option (Bool)) fun a28 =>
 cond a28 (
 bnd (icloneTree a0) fun r29 =>
 some ((r29,1))) (
 bnd (icloneTree a0) fun r31 =>
 bnu [2,4,7,8] [2,4,7] (fun a=>[(8,.i .i64 a.1)]) (fun a=>[(7,[.sl .own 4 (rows itemR a.2)])]) (bnu [2,3,4,7,8,46,47] [2,3,4,7] (fun a=>[(47,.b a)]) (fun a=>[]) (cond (icmp .eql a1.kind 0) (
 some (true)) (
 cond (icmp .eql a1.kind 1) (
 some (true)) (
 some (icmp .eql a1.kind 2))):Option (Bool)) fun a59 =>
 cond a59 (
 bnd (itreeAdd r31 a1) fun r60 =>
 some ((r60.2,r60.1.items))) (
 bnu [2,3,4,7,8,46,57] [2,3,4,7] (fun a=>[(57,.b a)]) (fun a=>[]) (cond (icmp .eql a1.kind 3) (
 some (true)) (
 cond (icmp .eql a1.kind 4) (
 some (true)) (
 some (icmp .eql a1.kind 5))):Option (Bool)) fun a62 =>
 cond a62 (
 bnd (itreeSet r31 a1) fun r63 =>
 some ((r63.2,r63.1.items))) (
 bnu [2,3,4,7,8,46,67] [2,3,4,7] (fun a=>[(67,.b a)]) (fun a=>[]) (cond (icmp .eql a1.kind 6) (
 some (true)) (
 some (icmp .eql a1.kind 7)):Option (Bool)) fun a65 =>
 cond a65 (
 bnd (itreeDrop r31 a1) fun r66 =>
 some ((r66.2,r66.1.items))) (
 cond (icmp .eql a1.kind 8) (
 bnd (itreeRename r31 a1) fun r67 =>
 some ((r67.2,r67.1.items))) (
 some ((0,r31.items)))))):Option (Int × (List ItemD))) fun a53 =>
 cond (icmp .neq a53.1 0) (
 bnd (icloneTree a0) fun r56 =>
 some ((r56,a53.1))) (
 some (((⟨a53.2⟩:TreeD),0)))))
noncomputable def sOpOk(a0:OpD):Option (Bool) :=
 bnd (sl1In a0.kind 0 8) fun r4 =>
 cond r4 (
 bnd (sl1In a0.pos 0 1000) fun r5 =>
 cond r5 (
 bnd (sl1In a0.time 0 100000) fun r6 =>
 some (r6)) (
 some (false))) (
 some (false))
noncomputable def sl14Copy(a0:TreeD):Option (TreeD) :=
 ck (Room (plus 0 (ln a0.items)) 48) <|
 some (a0)
noncomputable def sl14Dir(a0:TreeD)(a1:List UInt8):Option (Int) :=
 bnd (sTreeGet a0 a1) fun r2 =>
 cond r2.2 (
 cond (icmp .neq r2.1.kind 2) (
 some (4)) (
 some (0))) (
 some (2))
noncomputable def sl14New(a0:TreeD)(a1:OpD):Option (TreeD × Int) :=
 bnd (sl14Copy a0) fun r2 =>
 bnd (sAbove a1.path) fun r5 =>
 bnd (sl14Dir a0 r5) fun r6 =>
 cond (icmp .neq r6 0) (
 some ((r2,r6))) (
 bnd (sTreeGet a0 a1.path) fun r8 =>
 cond r8.2 (
 some ((r2,3))) (
 bnt [2,4,6,10] [2,4,6,10] (fun a=>[]) (fun a=>[(10,[.s a1.path,.i .i64 a.1,.s a.2.1,.i .i64 a.2.2])]) (cond (icmp .neq a1.kind 0) (
 cond (icmp .gtr (slen a1.data) 80) (
 some (.inr ((r2,9)))) (
 cond (icmp .eql a1.kind 2) (
 some (.inl (3,a1.data,a1.time))) (
 some (.inl (1,a1.data,a1.time))))) (
 some (.inl (2,[],0))):Option ((Int × (List UInt8) × Int) ⊕ (TreeD × Int))) fun a10 =>
 cond (icmp .eql (ln a0.items) 40) (
 some ((r2,5))) (
 bnd (sl10Put r2.items (⟨a1.path,a10.1,a10.2.1,a10.2.2⟩:ItemD)) fun r12 =>
 some (((⟨r12⟩:TreeD),0)))))
noncomputable def sWritten(a0:List UInt8)(a1:Int)(a2:List UInt8):Option ((List UInt8)) :=
 bnd (sl1In a1 0 100000) fun r3 =>
 cond r3 (
 bnu [2,7,8] [] (fun a=>[(7,.s a.1),(8,.s a.2)]) (fun a=>[]) (cond (icmp .lss a1 (slen a0)) (
 ck (InS 0 a1 (slen a0)) <|
 cond (icmp .lss (iop .add .i64 a1 (slen a2)) (slen a0)) (
 ck (InS (iop .add .i64 a1 (slen a2)) (slen a0) (slen a0)) <|
 some ((ssub a0 0 a1,ssub a0 (iop .add .i64 a1 (slen a2)) (slen a0)))) (
 some ((ssub a0 0 a1,[])))) (
 ck (InS 0 (iop .sub .i64 a1 (slen a0)) (iop .sub .i64 a1 (slen a0))) <|
 ck (Room (iop .sub .i64 a1 (slen a0)) 1) <|
 ck (Room (plus (slen a0) (slen (rp (iop .sub .i64 a1 (slen a0)) (0:UInt8)))) 1) <|
 some ((sapp a0 (rp (iop .sub .i64 a1 (slen a0)) (0:UInt8)),[]))):Option ((List UInt8) × (List UInt8))) fun a5 =>
 ck (Room (plus (slen a5.1) (slen a2)) 1) <|
 ck (Room (plus (slen (sapp a5.1 a2)) (slen a5.2)) 1) <|
 some (sapp (sapp a5.1 a2) a5.2)) (
 some (a0))
noncomputable def sCut(a0:List UInt8)(a1:Int):Option ((List UInt8)) :=
 bnd (sl1In a1 0 100000) fun r3 =>
 cond r3 (
 cond (icmp .leq a1 (slen a0)) (
 ck (InS 0 a1 (slen a0)) <|
 some (ssub a0 0 a1)) (
 ck (InS 0 (iop .sub .i64 a1 (slen a0)) (iop .sub .i64 a1 (slen a0))) <|
 ck (Room (iop .sub .i64 a1 (slen a0)) 1) <|
 ck (Room (plus (slen a0) (slen (rp (iop .sub .i64 a1 (slen a0)) (0:UInt8)))) 1) <|
 some (sapp a0 (rp (iop .sub .i64 a1 (slen a0)) (0:UInt8))))) (
 some (a0))
noncomputable def sl14Data(a0:List UInt8)(a1:OpD):Option ((List UInt8) × Bool) :=
 cond (icmp .eql a1.kind 3) (
 bnd (sWritten a0 a1.pos a1.data) fun r5 =>
 some ((r5,icmp .leq (slen r5) 80))) (
 cond (icmp .eql a1.kind 4) (
 bnd (sCut a0 a1.pos) fun r6 =>
 some ((r6,icmp .leq a1.pos 80))) (
 some ((a0,true))))
noncomputable def sl14Change(a0:TreeD)(a1:OpD):Option (TreeD × Int) :=
 bnd (sl14Copy a0) fun r2 =>
 bnd (sTreeGet a0 a1.path) fun r4 =>
 cond r4.2 (
 bnt [3,4,6,7] [3,4,6,7] (fun a=>[]) (fun a=>[]) (cond (icmp .eql r4.1.kind 2) (
 some (.inr ((r2,4)))) (
 cond (icmp .eql r4.1.kind 3) (
 cond (icmp .neq a1.kind 5) (
 some (.inr ((r2,4)))) (
 some (.inl ()))) (
 some (.inl ()))):Option ((Unit) ⊕ (TreeD × Int))) fun a6 =>
 bnd (sl14Data r4.1.data a1) fun r8 =>
 cond r8.2 (
 bnd (sl10Put r2.items (⟨r4.1.path,r4.1.kind,r8.1,a1.time⟩:ItemD)) fun r10 =>
 some (((⟨r10⟩:TreeD),0))) (
 some ((r2,9)))) (
 some ((r2,2)))
noncomputable def sl14Without(a0:TreeD)(a1:List UInt8):Option (TreeD) :=
 bnu [4,5] [4,5] (fun a=>[]) (fun a=>[(5,[.sl .own 4 (rows itemR a)])]) (lpt (σ:=Int × (List ItemD)) (ρ:=(List ItemD)) [1,2,4,5,6] [2,4,5] (fun a=>[(6,.i .i64 a.1)]) (fun a=>[(5,[.sl .own 4 (rows itemR a.2)])]) (fun s11 =>
 cond (icmp .lss s11.1 (ln a0.items)) (
 bnd (gt a0.items s11.1) fun y12 =>
 cond (scmp .neq y12.path a1) (
 ck (Room (plus (ln s11.2) 1) 48) <|
 some (.inl (iop .add .i64 s11.1 1,ap s11.2 [y12]))) (
 some (.inl (iop .add .i64 s11.1 1,s11.2)))) (
 some (.inr (s11.2)))) (0,[]):Option ((List ItemD))) fun a8 =>
 some ((⟨a8⟩:TreeD))
noncomputable def sl14Remove(a0:TreeD)(a1:OpD):Option (TreeD × Int) :=
 bnd (sTreeGet a0 a1.path) fun r2 =>
 cond r2.2 (
 bnu [2,3,4,25] [2,3,4] (fun a=>[(25,.b a)]) (fun a=>[]) (cond (icmp .eql r2.1.kind 2) (
 cond (icmp .eql a1.kind 7) (
 some (false)) (
 some (true))) (
 cond (icmp .eql a1.kind 7) (
 some (true)) (
 some (false))):Option (Bool)) fun a10 =>
 cond a10 (
 bnd (sl14Copy a0) fun r11 =>
 some ((r11,4))) (
 bnd (sTreeNames a0 a1.path) fun r16 =>
 cond (icmp .gtr (ln r16) 0) (
 bnd (sl14Copy a0) fun r17 =>
 some ((r17,8))) (
 bnd (sl14Without a0 a1.path) fun r19 =>
 some ((r19,0))))) (
 bnd (sl14Copy a0) fun r24 =>
 some ((r24,2)))
noncomputable def sl1Texts(a0:List (List UInt8))(a1:List (List UInt8)):Option (Bool) :=
 cond (icmp .neq (ln a0) (ln a1)) (
 some (false)) (
 bnt [] [] (fun a=>[]) (fun a=>[]) (lpt (σ:=Int) (ρ:=(Unit) ⊕ (Bool)) [0,1,5] [] (fun a=>[(5,.i .i64 a)]) (fun a=>[]) (fun s18 =>
 cond (icmp .lss s18 (ln a0)) (
 bnd (gt a0 s18) fun y19 =>
 bnd (gt a1 s18) fun y20 =>
 cond (scmp .neq y19 y20) (
 some (.inr (.inr (false)))) (
 some (.inl (iop .add .i64 s18 1)))) (
 some (.inr (.inl ())))) 0:Option ((Unit) ⊕ (Bool))) fun a13 =>
 some (true))
noncomputable def sWithin(a0:List UInt8)(a1:List UInt8):Option (Bool) :=
 bnd (sNames a0) fun r2 =>
 bnd (sNames a1) fun r4 =>
 bnd (sPathOk a0) fun r8 =>
 cond r8 (
 bnd (sPathOk a1) fun r9 =>
 cond r9 (
 cond (icmp .leq (ln r4) (ln r2)) (
 ck (InS 0 (ln r4) (ln r2)) <|
 bnd (sl1Texts (sb r2 0 (ln r4)) r4) fun r10 =>
 some (r10)) (
 some (false))) (
 some (false))) (
 some (false))
noncomputable def sl14Rename(a0:TreeD)(a1:OpD):Option (TreeD × Int) :=
 bnd (sTreeGet a0 a1.path) fun r2 =>
 cond r2.2 (
 bnd (sAbove a1.dst) fun r7 =>
 bnd (sl14Dir a0 r7) fun r8 =>
 cond (icmp .neq r8 0) (
 bnd (sl14Copy a0) fun r11 =>
 some ((r11,r8))) (
 bnd (sTreeGet a0 a1.dst) fun r13 =>
 cond r13.2 (
 bnd (sl14Copy a0) fun r16 =>
 some ((r16,3))) (
 bnt [4,11] [4,11] (fun a=>[]) (fun a=>[(11,[.sl .own 4 (rows itemR a)])]) (lpt (σ:=Int × (List ItemD)) (ρ:=((List ItemD)) ⊕ (TreeD × Int)) [2,3,4,11,12] [2,3,4,11] (fun a=>[(12,.i .i64 a.1)]) (fun a=>[(11,[.sl .own 4 (rows itemR a.2)])]) (fun s93 =>
 cond (icmp .lss s93.1 (ln a0.items)) (
 bnd (gt a0.items s93.1) fun y94 =>
 bnt [2,3,4,11,12,13] [2,3,4,11,13] (fun a=>[]) (fun a=>[(13,[.s a,.i .i64 y94.kind,.s y94.data,.i .i64 y94.time])]) (bnd (sWithin y94.path a1.path) fun r104 =>
 cond r104 (
 bnd (sNames a1.dst) fun r105 =>
 bnd (sNames y94.path) fun r106 =>
 bnd (sNames a1.path) fun r107 =>
 ck (InS (ln r107) (ln r106) (ln r106)) <|
 ck (Room (plus (ln r105) (ln (sb r106 (ln r107) (ln r106)))) 16) <|
 bnd (sPathOf (ap r105 (sb r106 (ln r107) (ln r106)))) fun r108 =>
 cond (scmp .eql r108 []) (
 bnd (sl14Copy a0) fun r109 =>
 some (.inr (.inr (.inr ((r109,1)))))) (
 some (.inl r108))) (
 some (.inl y94.path)):Option (((List UInt8)) ⊕ ((Int × (List ItemD)) ⊕ (((List ItemD)) ⊕ (TreeD × Int))))) fun a102 =>
 bnd (sl10Put s93.2 (⟨a102,y94.kind,y94.data,y94.time⟩:ItemD)) fun r103 =>
 some (.inl (iop .add .i64 s93.1 1,r103))) (
 some (.inr (.inl s93.2)))) (0,[]):Option (((List ItemD)) ⊕ (TreeD × Int))) fun a72 =>
 some (((⟨a72⟩:TreeD),0))))) (
 bnd (sl14Copy a0) fun r115 =>
 some ((r115,2)))
noncomputable def sTreeDo(a0:TreeD)(a1:OpD):Option (TreeD × Int) :=
 bnu [2,3,4,13] [2,3,4] (fun a=>[(13,.b a)]) (fun a=>[]) (bnd (sTreeOk a0) fun r69 =>
 cond r69 (
 bnd (sOpOk a1) fun r70 =>
 some ((!r70))) (
 some (true)):Option (Bool)) fun a12 =>
 cond a12 (
 bnd (sl14Copy a0) fun r13 =>
 some ((r13,10))) (
 bnu [2,3,4,24] [2,3,4] (fun a=>[(24,.b a)]) (fun a=>[]) (bnd (sPathOk a1.path) fun r68 =>
 cond r68 (
 some (scmp .eql a1.path [47])) (
 some (true)):Option (Bool)) fun a22 =>
 cond a22 (
 bnd (sl14Copy a0) fun r23 =>
 some ((r23,1))) (
 bnu [2,3,4,28,29] [2,3,4] (fun a=>[(29,.b a)]) (fun a=>[]) (cond (icmp .eql a1.kind 0) (
 some (true)) (
 cond (icmp .eql a1.kind 1) (
 some (true)) (
 some (icmp .eql a1.kind 2))):Option (Bool)) fun a37 =>
 cond a37 (
 bnd (sl14New a0 a1) fun r38 =>
 some ((r38.1,r38.2))) (
 bnu [2,3,4,28,38] [2,3,4] (fun a=>[(38,.b a)]) (fun a=>[]) (cond (icmp .eql a1.kind 3) (
 some (true)) (
 cond (icmp .eql a1.kind 4) (
 some (true)) (
 some (icmp .eql a1.kind 5))):Option (Bool)) fun a40 =>
 cond a40 (
 bnd (sl14Change a0 a1) fun r41 =>
 some ((r41.1,r41.2))) (
 bnu [2,3,4,47] [2,3,4] (fun a=>[(47,.b a)]) (fun a=>[]) (cond (icmp .eql a1.kind 6) (
 some (true)) (
 some (icmp .eql a1.kind 7)):Option (Bool)) fun a43 =>
 cond a43 (
 bnd (sl14Remove a0 a1) fun r44 =>
 some ((r44.1,r44.2))) (
 bnu [2,3,4,70] [2,3,4] (fun a=>[(70,.b a)]) (fun a=>[]) (bnd (sPathOk a1.dst) fun r60 =>
 cond r60 (
 cond (scmp .eql a1.dst [47]) (
 some (true)) (
 bnd (sWithin a1.dst a1.path) fun r61 =>
 some (r61))) (
 some (true)):Option (Bool)) fun a56 =>
 cond a56 (
 bnd (sl14Copy a0) fun r57 =>
 some ((r57,1))) (
 bnd (sl14Rename a0 a1) fun r59 =>
 some ((r59.1,r59.2))))))))
end Go.Ar
end
section
namespace Go.Ar
end Go.Ar
end
