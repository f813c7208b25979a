import Derived.Test.YthhcbcokjlpahaaGreatArS
import Derived.Test.YthhcbcokjlpahaaGreatChecked
import Derived.KernelRfl
namespace Go.Ar
open Go.Proofs
set_option linter.unusedVariables false
/-- The types of this program (printed by wip/mkT.py). -/
def tiT(n:Nat):TI:=bif Nat.ble n 61 then (bif Nat.ble n 25 then (bif Nat.ble n 9 then (bif Nat.ble n 5 then (bif Nat.ble n 3 then (bif Nat.ble n 2 then (bif Nat.beq n 2 then ⟨.int .i64,1,8,[.i .i64 0]⟩ else noTI)
 else (bif Nat.beq n 3 then ⟨.int .i64,1,8,[.i .i64 0]⟩ else noTI))
 else (bif Nat.ble n 4 then (bif Nat.beq n 4 then ⟨.bool,1,1,[.b false]⟩ else noTI)
 else (bif Nat.beq n 5 then ⟨.int .u8,1,1,[.i .u8 0]⟩ else noTI)))
 else (bif Nat.ble n 7 then (bif Nat.ble n 6 then (bif Nat.beq n 6 then ⟨.int .u8,1,1,[.i .u8 0]⟩ else noTI)
 else (bif Nat.beq n 7 then ⟨.strct [(0,1,false),(1,1,false),(2,1,false),(3,1,false)],4,24,[.i .i64 0,.i .i64 0,.b false,.i .u8 0]⟩ else noTI))
 else (bif Nat.ble n 8 then (bif Nat.beq n 8 then ⟨.strct [(0,1,false),(1,1,false),(2,1,false),(3,1,false)],4,24,[.i .i64 0,.i .i64 0,.b false,.i .u8 0]⟩ else noTI)
 else (bif Nat.beq n 9 then ⟨.str,1,16,[.s []]⟩ else noTI))))
 else (bif Nat.ble n 21 then (bif Nat.ble n 11 then (bif Nat.ble n 10 then (bif Nat.beq n 10 then ⟨.str,1,16,[.s []]⟩ else noTI)
 else (bif Nat.beq n 11 then ⟨.str,1,16,[.s []]⟩ else noTI))
 else (bif Nat.ble n 12 then (bif Nat.beq n 12 then ⟨.int .u64,1,8,[.i .u64 0]⟩ else noTI)
 else (bif Nat.beq n 21 then ⟨.int .i32,1,4,[.i .i32 0]⟩ else noTI)))
 else (bif Nat.ble n 23 then (bif Nat.ble n 22 then (bif Nat.beq n 22 then ⟨.slice 137,1,24,[.sl .own 3 []]⟩ else noTI)
 else (bif Nat.beq n 23 then ⟨.strct [(0,1,false),(1,1,false),(2,1,false),(3,1,false),(4,1,false),(5,1,false),(6,1,false)],7,56,[.b false,.b false,.i .i64 0,.i .i64 0,.s [],.i .i64 0,.i .i64 0]⟩ else noTI))
 else (bif Nat.ble n 24 then (bif Nat.beq n 24 then ⟨.strct [(0,1,false),(1,1,false),(2,1,false),(3,1,false),(4,1,false),(5,1,false),(6,1,false)],7,56,[.b false,.b false,.i .i64 0,.i .i64 0,.s [],.i .i64 0,.i .i64 0]⟩ else noTI)
 else (bif Nat.beq n 25 then ⟨.strct [(0,1,false),(1,1,false),(2,1,false),(3,7,true)],10,96,[.i .i64 0,.i .i64 0,.sl .own 3 [],.b false,.b false,.i .i64 0,.i .i64 0,.s [],.i .i64 0,.i .i64 0]⟩ else noTI)))))
 else (bif Nat.ble n 44 then (bif Nat.ble n 32 then (bif Nat.ble n 28 then (bif Nat.ble n 26 then (bif Nat.beq n 26 then ⟨.strct [(0,1,false),(1,1,false),(2,1,false),(3,7,true)],10,96,[.i .i64 0,.i .i64 0,.sl .own 3 [],.b false,.b false,.i .i64 0,.i .i64 0,.s [],.i .i64 0,.i .i64 0]⟩ else noTI)
 else (bif Nat.beq n 28 then ⟨.strct [(0,1,false),(1,1,false),(2,1,false),(3,1,false)],4,48,[.s [],.i .i64 0,.s [],.i .i64 0]⟩ else noTI))
 else (bif Nat.ble n 29 then (bif Nat.beq n 29 then ⟨.strct [(0,1,false),(1,1,false),(2,1,false),(3,1,false)],4,48,[.s [],.i .i64 0,.s [],.i .i64 0]⟩ else noTI)
 else (bif Nat.beq n 32 then ⟨.slice 112,1,24,[.sl .own 3 []]⟩ else noTI)))
 else (bif Nat.ble n 34 then (bif Nat.ble n 33 then (bif Nat.beq n 33 then ⟨.strct [(0,1,false),(1,1,false),(2,1,false),(3,1,false),(4,1,false),(5,1,false),(6,1,false)],7,56,[.b false,.b false,.i .i64 0,.i .i64 0,.s [],.i .i64 0,.i .i64 0]⟩ else noTI)
 else (bif Nat.beq n 34 then ⟨.strct [(0,1,false),(1,1,false),(2,1,false),(3,7,true)],10,96,[.i .i64 0,.i .i64 0,.sl .own 3 [],.b false,.b false,.i .i64 0,.i .i64 0,.s [],.i .i64 0,.i .i64 0]⟩ else noTI))
 else (bif Nat.ble n 35 then (bif Nat.beq n 35 then ⟨.strct [(0,1,false),(1,1,false),(2,1,false),(3,7,true)],10,96,[.i .i64 0,.i .i64 0,.sl .own 3 [],.b false,.b false,.i .i64 0,.i .i64 0,.s [],.i .i64 0,.i .i64 0]⟩ else noTI)
 else (bif Nat.beq n 44 then ⟨.slice 9,1,24,[.sl .own 1 []]⟩ else noTI))))
 else (bif Nat.ble n 55 then (bif Nat.ble n 53 then (bif Nat.ble n 52 then (bif Nat.beq n 52 then ⟨.slice 150,1,24,[.sl .own 4 []]⟩ else noTI)
 else (bif Nat.beq n 53 then ⟨.strct [(0,1,false)],1,24,[.sl .own 4 []]⟩ else noTI))
 else (bif Nat.ble n 54 then (bif Nat.beq n 54 then ⟨.strct [(0,1,false)],1,24,[.sl .own 4 []]⟩ else noTI)
 else (bif Nat.beq n 55 then ⟨.strct [(0,1,false),(1,1,false),(2,1,false),(3,1,false),(4,1,false),(5,1,false)],6,72,[.i .i64 0,.s [],.s [],.i .i64 0,.s [],.i .i64 0]⟩ else noTI)))
 else (bif Nat.ble n 59 then (bif Nat.ble n 56 then (bif Nat.beq n 56 then ⟨.strct [(0,1,false),(1,1,false),(2,1,false),(3,1,false),(4,1,false),(5,1,false)],6,72,[.i .i64 0,.s [],.s [],.i .i64 0,.s [],.i .i64 0]⟩ else noTI)
 else (bif Nat.beq n 59 then ⟨.slice 29,1,24,[.sl .own 4 []]⟩ else noTI))
 else (bif Nat.ble n 60 then (bif Nat.beq n 60 then ⟨.strct [(0,1,false)],1,24,[.sl .own 4 []]⟩ else noTI)
 else (bif Nat.beq n 61 then ⟨.strct [(0,1,false)],1,24,[.sl .own 4 []]⟩ else noTI))))))
 else (bif Nat.ble n 136 then (bif Nat.ble n 116 then (bif Nat.ble n 109 then (bif Nat.ble n 70 then (bif Nat.ble n 65 then (bif Nat.beq n 65 then ⟨.strct [(0,1,false),(1,1,false),(2,1,false),(3,1,false),(4,1,false),(5,1,false)],6,72,[.i .i64 0,.s [],.s [],.i .i64 0,.s [],.i .i64 0]⟩ else noTI)
 else (bif Nat.beq n 70 then ⟨.slice 117,1,24,[.sl .own 3 []]⟩ else noTI))
 else (bif Nat.ble n 108 then (bif Nat.beq n 108 then ⟨.slice 130,1,24,[.sl .own 5 []]⟩ else noTI)
 else (bif Nat.beq n 109 then ⟨.strct [(0,1,false),(1,1,false)],2,48,[.sl .own 5 [],.sl .own 1 []]⟩ else noTI)))
 else (bif Nat.ble n 111 then (bif Nat.ble n 110 then (bif Nat.beq n 110 then ⟨.strct [(0,1,false),(1,1,false)],2,48,[.sl .own 5 [],.sl .own 1 []]⟩ else noTI)
 else (bif Nat.beq n 111 then ⟨.strct [(0,1,false),(1,2,true)],3,56,[.i .i64 0,.sl .own 5 [],.sl .own 1 []]⟩ else noTI))
 else (bif Nat.ble n 112 then (bif Nat.beq n 112 then ⟨.strct [(0,1,false),(1,2,true)],3,56,[.i .i64 0,.sl .own 5 [],.sl .own 1 []]⟩ else noTI)
 else (bif Nat.beq n 116 then ⟨.strct [(0,1,false),(1,2,true)],3,56,[.i .i64 0,.sl .own 5 [],.sl .own 1 []]⟩ else noTI))))
 else (bif Nat.ble n 130 then (bif Nat.ble n 128 then (bif Nat.ble n 117 then (bif Nat.beq n 117 then ⟨.strct [(0,1,false),(1,2,true)],3,56,[.i .i64 0,.sl .own 5 [],.sl .own 1 []]⟩ else noTI)
 else (bif Nat.beq n 128 then ⟨.slice 3,1,24,[.sl .own 1 []]⟩ else noTI))
 else (bif Nat.ble n 129 then (bif Nat.beq n 129 then ⟨.strct [(0,1,false),(1,1,false),(2,1,false),(3,1,false),(4,1,false)],5,56,[.i .i64 0,.i .i64 0,.i .i64 0,.i .i64 0,.sl .own 1 []]⟩ else noTI)
 else (bif Nat.beq n 130 then ⟨.strct [(0,1,false),(1,1,false),(2,1,false),(3,1,false),(4,1,false)],5,56,[.i .i64 0,.i .i64 0,.i .i64 0,.i .i64 0,.sl .own 1 []]⟩ else noTI)))
 else (bif Nat.ble n 134 then (bif Nat.ble n 133 then (bif Nat.beq n 133 then ⟨.slice 256,1,24,[.sl .own 5 []]⟩ else noTI)
 else (bif Nat.beq n 134 then ⟨.strct [(0,1,false),(1,1,false)],2,48,[.sl .own 5 [],.sl .own 1 []]⟩ else noTI))
 else (bif Nat.ble n 135 then (bif Nat.beq n 135 then ⟨.strct [(0,1,false),(1,1,false)],2,48,[.sl .own 5 [],.sl .own 1 []]⟩ else noTI)
 else (bif Nat.beq n 136 then ⟨.strct [(0,1,false),(1,2,true)],3,56,[.i .i64 0,.sl .own 5 [],.sl .own 1 []]⟩ else noTI)))))
 else (bif Nat.ble n 220 then (bif Nat.ble n 189 then (bif Nat.ble n 147 then (bif Nat.ble n 137 then (bif Nat.beq n 137 then ⟨.strct [(0,1,false),(1,2,true)],3,56,[.i .i64 0,.sl .own 5 [],.sl .own 1 []]⟩ else noTI)
 else (bif Nat.beq n 147 then ⟨.slice 5,1,24,[.sl .own 1 []]⟩ else noTI))
 else (bif Nat.ble n 150 then (bif Nat.beq n 150 then ⟨.strct [(0,1,false),(1,1,false),(2,1,false),(3,1,false)],4,48,[.s [],.i .i64 0,.s [],.i .i64 0]⟩ else noTI)
 else (bif Nat.beq n 189 then ⟨.int .u64,1,8,[.i .u64 0]⟩ else noTI)))
 else (bif Nat.ble n 213 then (bif Nat.ble n 193 then (bif Nat.beq n 193 then ⟨.slice 214,1,24,[.sl .own 2 []]⟩ else noTI)
 else (bif Nat.beq n 213 then ⟨.strct [(0,1,false),(1,1,false)],2,24,[.s [],.i .i64 0]⟩ else noTI))
 else (bif Nat.ble n 214 then (bif Nat.beq n 214 then ⟨.strct [(0,1,false),(1,1,false)],2,24,[.s [],.i .i64 0]⟩ else noTI)
 else (bif Nat.beq n 220 then ⟨.int .i64,1,8,[.i .i64 0]⟩ else noTI))))
 else (bif Nat.ble n 259 then (bif Nat.ble n 230 then (bif Nat.ble n 228 then (bif Nat.beq n 228 then ⟨.int .u32,1,4,[.i .u32 0]⟩ else noTI)
 else (bif Nat.beq n 230 then ⟨.int .u64,1,8,[.i .u64 0]⟩ else noTI))
 else (bif Nat.ble n 256 then (bif Nat.beq n 256 then ⟨.strct [(0,1,false),(1,1,false),(2,1,false),(3,1,false),(4,1,false)],5,56,[.i .i64 0,.i .i64 0,.i .i64 0,.i .i64 0,.sl .own 1 []]⟩ else noTI)
 else (bif Nat.beq n 259 then ⟨.int .u64,1,8,[.i .u64 0]⟩ else noTI)))
 else (bif Nat.ble n 294 then (bif Nat.ble n 293 then (bif Nat.beq n 293 then ⟨.int .u8,1,1,[.i .u8 0]⟩ else noTI)
 else (bif Nat.beq n 294 then ⟨.int .u8,1,1,[.i .u8 0]⟩ else noTI))
 else (bif Nat.ble n 296 then (bif Nat.beq n 296 then ⟨.int .i32,1,4,[.i .i32 0]⟩ else noTI)
 else (bif Nat.beq n 297 then ⟨.int .i32,1,4,[.i .i32 0]⟩ else noTI))))))
def tiF(n:Nat):TI:=bif Nat.ble n 297 then tiT n else noTI
theorem ti_all:((List.range 298).all fun t => !(kn (tiT t).k) || tchk Tryz.prog t (tiT t))=true:=by decide +kernel
/-- The program, kept from the evaluation. -/
noncomputable def pg:Program:=Classical.choose (kp Tryz.prog)
theorem pg_eq:pg=Tryz.prog:=Classical.choose_spec (kp Tryz.prog)
theorem pg_func{n:Nat}{f:Func}(h:Tryz.prog.funcs[n]?=some f):pg.funcs[n]?=some f:=by rw [pg_eq];exact h
theorem pg_mixed:pg.follows .mixedOrders=true:=by rw [pg_eq];kernel_rfl
theorem ti_ok(t:Nat)(h:kn (tiF t).k=true):TOk Tryz.prog t (tiF t):=by
 unfold tiF at h ⊢
 cases hb:Nat.ble t 297 with
 | false=>rw [hb] at h;cases h
 | true =>
  rw [hb] at h
  simp only [cond_true] at h ⊢
  have h1:=List.all_eq_true.1 ti_all t (List.mem_range.2 (Nat.lt_succ_of_le (Nat.le_of_ble_eq_true hb)))
  rw [h] at h1
  exact tchk_ok (by simpa using h1)
/-- The calling conventions of this program. -/
def muF(n:Nat):Option Nat:=bif Nat.ble n 100 then (bif Nat.ble n 40 then (bif Nat.ble n 28 then (bif Nat.beq n 28 then some 0 else none) else (bif Nat.ble n 29 then (bif Nat.beq n 29 then some 0 else none) else (bif Nat.beq n 40 then some 0 else none))) else (bif Nat.ble n 45 then (bif Nat.beq n 45 then some 0 else none) else (bif Nat.ble n 75 then (bif Nat.beq n 75 then some 0 else none) else (bif Nat.beq n 100 then some 0 else none)))) else (bif Nat.ble n 191 then (bif Nat.ble n 113 then (bif Nat.beq n 113 then some 0 else none) else (bif Nat.ble n 152 then (bif Nat.beq n 152 then some 0 else none) else (bif Nat.beq n 191 then some 0 else none))) else (bif Nat.ble n 211 then (bif Nat.beq n 211 then some 0 else none) else (bif Nat.ble n 233 then (bif Nat.beq n 233 then some 3 else none) else (bif Nat.beq n 263 then some 0 else none))))
def mvF(n:Nat):List Bool:=bif Nat.ble n 97 then (bif Nat.ble n 95 then (bif Nat.beq n 95 then [true,false] else []) else (bif Nat.ble n 96 then (bif Nat.beq n 96 then [true,false] else []) else (bif Nat.beq n 97 then [true,false] else []))) else (bif Nat.ble n 175 then (bif Nat.ble n 98 then (bif Nat.beq n 98 then [true,false] else []) else (bif Nat.beq n 175 then [true,false,false] else [])) else (bif Nat.ble n 201 then (bif Nat.beq n 201 then [false,false,false,true] else []) else (bif Nat.beq n 207 then [false,false,false,true] else [])))
def lnF(n:Nat):Bool:=bif Nat.ble n 244 then (bif Nat.ble n 194 then (bif Nat.beq n 194 then true else false) else (bif Nat.ble n 197 then (bif Nat.beq n 197 then true else false) else (bif Nat.beq n 244 then true else false))) else (bif Nat.ble n 253 then (bif Nat.ble n 249 then (bif Nat.beq n 249 then true else false) else (bif Nat.beq n 253 then true else false)) else (bif Nat.ble n 254 then (bif Nat.beq n 254 then true else false) else (bif Nat.beq n 256 then true else false)))
noncomputable def env(ln:Nat→Bool)(ks:List Nat):Env:={ P:=pg,ti:=fun n=>tiF n,own:=false,gv:=fun _=>false,lend:=false,kp:=ks,ln:=fun n=>lnF n,mv:=fun n=>mvF n,gx:=fun _=>none,mu:=fun n=>muF n }
/-- The same, where roots are written. -/
noncomputable def envM(vals:List Value):Env:={ P:=pg,ti:=fun n=>tiF n,own:=true,gv:=fun _=>true,lend:=false,kp:=[],ln:=fun n=>lnF n,mv:=fun n=>mvF n,gx:=fun n=>vals[n]?,mu:=fun n=>muF n }
theorem env_ok(ln:Nat→Bool)(ks:List Nat):EnvOk (env ln ks):=by
 intro t h
 have:=ti_ok t h
 show TOk pg t (tiF t)
 rw [pg_eq];exact this
theorem envM_ok(vals:List Value):EnvOk (envM vals):=env_ok (fun _=>false) []
end Go.Ar
