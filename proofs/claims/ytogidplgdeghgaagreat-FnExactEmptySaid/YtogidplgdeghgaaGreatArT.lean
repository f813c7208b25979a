import Derived.Test.YtogidplgdeghgaaGreatArS
import Derived.Test.YtogidplgdeghgaaGreatChecked
import Derived.KernelRfl
namespace Go.Ar
open Go.Proofs
set_option linter.unusedVariables false
/-- The types of this program (printed by wip/mkT.py). -/
def tiT (n : Nat) : TI := bif Nat.ble n 62 then (bif Nat.ble n 26 then (bif Nat.ble n 9 then (bif Nat.ble n 5 then (bif Nat.ble n 3 then (bif Nat.ble n 2 then (bif Nat.beq n 2 then ⟨.int .i64, 1, 8, [.i .i64 0]⟩ else noTI)
 else (bif Nat.beq n 3 then ⟨.int .i64, 1, 8, [.i .i64 0]⟩ else noTI))
 else (bif Nat.ble n 4 then (bif Nat.beq n 4 then ⟨.bool, 1, 1, [.b false]⟩ else noTI)
 else (bif Nat.beq n 5 then ⟨.int .u8, 1, 1, [.i .u8 0]⟩ else noTI)))
 else (bif Nat.ble n 7 then (bif Nat.ble n 6 then (bif Nat.beq n 6 then ⟨.int .u8, 1, 1, [.i .u8 0]⟩ else noTI)
 else (bif Nat.beq n 7 then ⟨.strct [(0, 1, false), (1, 1, false), (2, 1, false), (3, 1, false)], 4, 24, [.i .i64 0, .i .i64 0, .b false, .i .u8 0]⟩ else noTI))
 else (bif Nat.ble n 8 then (bif Nat.beq n 8 then ⟨.strct [(0, 1, false), (1, 1, false), (2, 1, false), (3, 1, false)], 4, 24, [.i .i64 0, .i .i64 0, .b false, .i .u8 0]⟩ else noTI)
 else (bif Nat.beq n 9 then ⟨.str, 1, 16, [.s []]⟩ else noTI))))
 else (bif Nat.ble n 21 then (bif Nat.ble n 11 then (bif Nat.ble n 10 then (bif Nat.beq n 10 then ⟨.str, 1, 16, [.s []]⟩ else noTI)
 else (bif Nat.beq n 11 then ⟨.str, 1, 16, [.s []]⟩ else noTI))
 else (bif Nat.ble n 12 then (bif Nat.beq n 12 then ⟨.int .u64, 1, 8, [.i .u64 0]⟩ else noTI)
 else (bif Nat.beq n 21 then ⟨.int .i32, 1, 4, [.i .i32 0]⟩ else noTI)))
 else (bif Nat.ble n 23 then (bif Nat.ble n 22 then (bif Nat.beq n 22 then ⟨.slice 111, 1, 24, [.sl .own 4 []]⟩ else noTI)
 else (bif Nat.beq n 23 then ⟨.strct [(0, 1, false)], 1, 24, [.sl .own 4 []]⟩ else noTI))
 else (bif Nat.ble n 24 then (bif Nat.beq n 24 then ⟨.strct [(0, 1, false)], 1, 24, [.sl .own 4 []]⟩ else noTI)
 else (bif Nat.ble n 25 then (bif Nat.beq n 25 then ⟨.strct [(0, 1, false), (1, 1, false), (2, 1, false), (3, 1, false), (4, 1, false), (5, 1, false)], 6, 72, [.i .i64 0, .s [], .s [], .i .i64 0, .s [], .i .i64 0]⟩ else noTI)
 else (bif Nat.beq n 26 then ⟨.strct [(0, 1, false), (1, 1, false), (2, 1, false), (3, 1, false), (4, 1, false), (5, 1, false)], 6, 72, [.i .i64 0, .s [], .s [], .i .i64 0, .s [], .i .i64 0]⟩ else noTI))))))
 else (bif Nat.ble n 45 then (bif Nat.ble n 35 then (bif Nat.ble n 30 then (bif Nat.ble n 29 then (bif Nat.beq n 29 then ⟨.slice 112, 1, 24, [.sl .own 4 []]⟩ else noTI)
 else (bif Nat.beq n 30 then ⟨.strct [(0, 1, false)], 1, 24, [.sl .own 4 []]⟩ else noTI))
 else (bif Nat.ble n 31 then (bif Nat.beq n 31 then ⟨.strct [(0, 1, false)], 1, 24, [.sl .own 4 []]⟩ else noTI)
 else (bif Nat.beq n 35 then ⟨.strct [(0, 1, false), (1, 1, false), (2, 1, false), (3, 1, false), (4, 1, false), (5, 1, false)], 6, 72, [.i .i64 0, .s [], .s [], .i .i64 0, .s [], .i .i64 0]⟩ else noTI)))
 else (bif Nat.ble n 41 then (bif Nat.ble n 40 then (bif Nat.beq n 40 then ⟨.slice 9, 1, 24, [.sl .own 1 []]⟩ else noTI)
 else (bif Nat.beq n 41 then ⟨.slice 141, 1, 24, [.sl .own 2 []]⟩ else noTI))
 else (bif Nat.ble n 42 then (bif Nat.beq n 42 then ⟨.strct [(0, 1, false), (1, 1, false)], 2, 48, [.sl .own 1 [], .sl .own 2 []]⟩ else noTI)
 else (bif Nat.ble n 43 then (bif Nat.beq n 43 then ⟨.strct [(0, 1, false), (1, 1, false)], 2, 48, [.sl .own 1 [], .sl .own 2 []]⟩ else noTI)
 else (bif Nat.beq n 45 then ⟨.slice 145, 1, 24, [.sl .own 5 []]⟩ else noTI)))))
 else (bif Nat.ble n 51 then (bif Nat.ble n 47 then (bif Nat.ble n 46 then (bif Nat.beq n 46 then ⟨.strct [(0, 1, false), (1, 1, false)], 2, 48, [.sl .own 5 [], .sl .own 1 []]⟩ else noTI)
 else (bif Nat.beq n 47 then ⟨.strct [(0, 1, false), (1, 1, false)], 2, 48, [.sl .own 5 [], .sl .own 1 []]⟩ else noTI))
 else (bif Nat.ble n 50 then (bif Nat.beq n 50 then ⟨.slice 157, 1, 24, [.sl .own 2 []]⟩ else noTI)
 else (bif Nat.beq n 51 then ⟨.strct [(0, 1, false), (1, 1, false)], 2, 48, [.sl .own 1 [], .sl .own 2 []]⟩ else noTI)))
 else (bif Nat.ble n 59 then (bif Nat.ble n 52 then (bif Nat.beq n 52 then ⟨.strct [(0, 1, false), (1, 1, false)], 2, 48, [.sl .own 1 [], .sl .own 2 []]⟩ else noTI)
 else (bif Nat.beq n 59 then ⟨.slice 171, 1, 24, [.sl .own 3 []]⟩ else noTI))
 else (bif Nat.ble n 60 then (bif Nat.beq n 60 then ⟨.strct [(0, 1, false), (1, 1, false), (2, 1, false), (3, 1, false), (4, 1, false), (5, 1, false), (6, 1, false)], 7, 56, [.b false, .b false, .i .i64 0, .i .i64 0, .s [], .i .i64 0, .i .i64 0]⟩ else noTI)
 else (bif Nat.ble n 61 then (bif Nat.beq n 61 then ⟨.strct [(0, 1, false), (1, 1, false), (2, 1, false), (3, 1, false), (4, 1, false), (5, 1, false), (6, 1, false)], 7, 56, [.b false, .b false, .i .i64 0, .i .i64 0, .s [], .i .i64 0, .i .i64 0]⟩ else noTI)
 else (bif Nat.beq n 62 then ⟨.strct [(0, 1, false), (1, 1, false), (2, 1, false), (3, 7, true)], 10, 96, [.i .i64 0, .i .i64 0, .sl .own 3 [], .b false, .b false, .i .i64 0, .i .i64 0, .s [], .i .i64 0, .i .i64 0]⟩ else noTI)))))))
 else (bif Nat.ble n 167 then (bif Nat.ble n 111 then (bif Nat.ble n 68 then (bif Nat.ble n 66 then (bif Nat.ble n 63 then (bif Nat.beq n 63 then ⟨.strct [(0, 1, false), (1, 1, false), (2, 1, false), (3, 7, true)], 10, 96, [.i .i64 0, .i .i64 0, .sl .own 3 [], .b false, .b false, .i .i64 0, .i .i64 0, .s [], .i .i64 0, .i .i64 0]⟩ else noTI)
 else (bif Nat.beq n 66 then ⟨.slice 103, 1, 24, [.sl .own 3 []]⟩ else noTI))
 else (bif Nat.ble n 67 then (bif Nat.beq n 67 then ⟨.strct [(0, 1, false), (1, 1, false), (2, 1, false), (3, 1, false), (4, 1, false), (5, 1, false), (6, 1, false)], 7, 56, [.b false, .b false, .i .i64 0, .i .i64 0, .s [], .i .i64 0, .i .i64 0]⟩ else noTI)
 else (bif Nat.beq n 68 then ⟨.strct [(0, 1, false), (1, 1, false), (2, 1, false), (3, 7, true)], 10, 96, [.i .i64 0, .i .i64 0, .sl .own 3 [], .b false, .b false, .i .i64 0, .i .i64 0, .s [], .i .i64 0, .i .i64 0]⟩ else noTI)))
 else (bif Nat.ble n 102 then (bif Nat.ble n 69 then (bif Nat.beq n 69 then ⟨.strct [(0, 1, false), (1, 1, false), (2, 1, false), (3, 7, true)], 10, 96, [.i .i64 0, .i .i64 0, .sl .own 3 [], .b false, .b false, .i .i64 0, .i .i64 0, .s [], .i .i64 0, .i .i64 0]⟩ else noTI)
 else (bif Nat.beq n 102 then ⟨.strct [(0, 1, false), (1, 2, true)], 3, 56, [.i .i64 0, .sl .own 5 [], .sl .own 1 []]⟩ else noTI))
 else (bif Nat.ble n 103 then (bif Nat.beq n 103 then ⟨.strct [(0, 1, false), (1, 2, true)], 3, 56, [.i .i64 0, .sl .own 5 [], .sl .own 1 []]⟩ else noTI)
 else (bif Nat.ble n 110 then (bif Nat.beq n 110 then ⟨.strct [(0, 1, false), (1, 1, false), (2, 1, false), (3, 1, false)], 4, 48, [.s [], .i .i64 0, .s [], .i .i64 0]⟩ else noTI)
 else (bif Nat.beq n 111 then ⟨.strct [(0, 1, false), (1, 1, false), (2, 1, false), (3, 1, false)], 4, 48, [.s [], .i .i64 0, .s [], .i .i64 0]⟩ else noTI)))))
 else (bif Nat.ble n 143 then (bif Nat.ble n 140 then (bif Nat.ble n 112 then (bif Nat.beq n 112 then ⟨.strct [(0, 1, false), (1, 1, false), (2, 1, false), (3, 1, false)], 4, 48, [.s [], .i .i64 0, .s [], .i .i64 0]⟩ else noTI)
 else (bif Nat.beq n 140 then ⟨.strct [(0, 1, false), (1, 1, false)], 2, 24, [.i .i64 0, .s []]⟩ else noTI))
 else (bif Nat.ble n 141 then (bif Nat.beq n 141 then ⟨.strct [(0, 1, false), (1, 1, false)], 2, 24, [.i .i64 0, .s []]⟩ else noTI)
 else (bif Nat.beq n 143 then ⟨.slice 3, 1, 24, [.sl .own 1 []]⟩ else noTI)))
 else (bif Nat.ble n 145 then (bif Nat.ble n 144 then (bif Nat.beq n 144 then ⟨.strct [(0, 1, false), (1, 1, false), (2, 1, false), (3, 1, false), (4, 1, false)], 5, 56, [.i .i64 0, .i .i64 0, .i .i64 0, .i .i64 0, .sl .own 1 []]⟩ else noTI)
 else (bif Nat.beq n 145 then ⟨.strct [(0, 1, false), (1, 1, false), (2, 1, false), (3, 1, false), (4, 1, false)], 5, 56, [.i .i64 0, .i .i64 0, .i .i64 0, .i .i64 0, .sl .own 1 []]⟩ else noTI))
 else (bif Nat.ble n 157 then (bif Nat.beq n 157 then ⟨.strct [(0, 1, false), (1, 1, false)], 2, 24, [.i .i64 0, .s []]⟩ else noTI)
 else (bif Nat.ble n 159 then (bif Nat.beq n 159 then ⟨.slice 5, 1, 24, [.sl .own 1 []]⟩ else noTI)
 else (bif Nat.beq n 167 then ⟨.slice 261, 1, 24, [.sl .own 5 []]⟩ else noTI))))))
 else (bif Nat.ble n 202 then (bif Nat.ble n 171 then (bif Nat.ble n 169 then (bif Nat.ble n 168 then (bif Nat.beq n 168 then ⟨.strct [(0, 1, false), (1, 1, false)], 2, 48, [.sl .own 5 [], .sl .own 1 []]⟩ else noTI)
 else (bif Nat.beq n 169 then ⟨.strct [(0, 1, false), (1, 1, false)], 2, 48, [.sl .own 5 [], .sl .own 1 []]⟩ else noTI))
 else (bif Nat.ble n 170 then (bif Nat.beq n 170 then ⟨.strct [(0, 1, false), (1, 2, true)], 3, 56, [.i .i64 0, .sl .own 5 [], .sl .own 1 []]⟩ else noTI)
 else (bif Nat.beq n 171 then ⟨.strct [(0, 1, false), (1, 2, true)], 3, 56, [.i .i64 0, .sl .own 5 [], .sl .own 1 []]⟩ else noTI)))
 else (bif Nat.ble n 194 then (bif Nat.ble n 184 then (bif Nat.beq n 184 then ⟨.int .u64, 1, 8, [.i .u64 0]⟩ else noTI)
 else (bif Nat.beq n 194 then ⟨.slice 4, 1, 24, [.sl .own 1 []]⟩ else noTI))
 else (bif Nat.ble n 198 then (bif Nat.beq n 198 then ⟨.slice 202, 1, 24, [.sl .own 2 []]⟩ else noTI)
 else (bif Nat.ble n 201 then (bif Nat.beq n 201 then ⟨.strct [(0, 1, false), (1, 1, false)], 2, 24, [.s [], .i .i64 0]⟩ else noTI)
 else (bif Nat.beq n 202 then ⟨.strct [(0, 1, false), (1, 1, false)], 2, 24, [.s [], .i .i64 0]⟩ else noTI)))))
 else (bif Nat.ble n 246 then (bif Nat.ble n 224 then (bif Nat.ble n 216 then (bif Nat.beq n 216 then ⟨.int .i64, 1, 8, [.i .i64 0]⟩ else noTI)
 else (bif Nat.beq n 224 then ⟨.int .u32, 1, 4, [.i .u32 0]⟩ else noTI))
 else (bif Nat.ble n 226 then (bif Nat.beq n 226 then ⟨.int .u64, 1, 8, [.i .u64 0]⟩ else noTI)
 else (bif Nat.beq n 246 then ⟨.int .u64, 1, 8, [.i .u64 0]⟩ else noTI)))
 else (bif Nat.ble n 278 then (bif Nat.ble n 261 then (bif Nat.beq n 261 then ⟨.strct [(0, 1, false), (1, 1, false), (2, 1, false), (3, 1, false), (4, 1, false)], 5, 56, [.i .i64 0, .i .i64 0, .i .i64 0, .i .i64 0, .sl .own 1 []]⟩ else noTI)
 else (bif Nat.beq n 278 then ⟨.int .u8, 1, 1, [.i .u8 0]⟩ else noTI))
 else (bif Nat.ble n 279 then (bif Nat.beq n 279 then ⟨.int .u8, 1, 1, [.i .u8 0]⟩ else noTI)
 else (bif Nat.ble n 281 then (bif Nat.beq n 281 then ⟨.int .i32, 1, 4, [.i .i32 0]⟩ else noTI)
 else (bif Nat.beq n 282 then ⟨.int .i32, 1, 4, [.i .i32 0]⟩ else noTI)))))))
def tiF (n : Nat) : TI := bif Nat.ble n 282 then tiT n else noTI
theorem ti_all : ((List.range 283).all fun t => !(kn (tiT t).k) || tchk Tryz.prog t (tiT t)) = true := by decide +kernel
/-- The program, kept from the evaluation. -/
noncomputable def pg : Program := Classical.choose (kp Tryz.prog)
theorem pg_eq : pg = Tryz.prog := Classical.choose_spec (kp Tryz.prog)
theorem pg_func {n : Nat} {f : Func} (h : Tryz.prog.funcs[n]? = some f) : pg.funcs[n]? = some f := by rw [pg_eq]; exact h
theorem pg_mixed : pg.follows .mixedOrders = true := by rw [pg_eq]; kernel_rfl
theorem ti_ok (t : Nat) (h : kn (tiF t).k = true) : TOk Tryz.prog t (tiF t) := by
 unfold tiF at h ⊢
 cases hb : Nat.ble t 282 with
 | false => rw [hb] at h; cases h
 | true =>
  rw [hb] at h
  simp only [cond_true] at h ⊢
  have h1 := List.all_eq_true.1 ti_all t (List.mem_range.2 (Nat.lt_succ_of_le (Nat.le_of_ble_eq_true hb)))
  rw [h] at h1
  exact tchk_ok (by simpa using h1)
/-- The calling conventions of this program. -/
def muF (n : Nat) : Option Nat := bif Nat.ble n 71 then (bif Nat.ble n 22 then (bif Nat.ble n 13 then (bif Nat.beq n 13 then some 0 else none) else (bif Nat.ble n 21 then (bif Nat.beq n 21 then some 0 else none) else (bif Nat.beq n 22 then some 0 else none))) else (bif Nat.ble n 51 then (bif Nat.beq n 51 then some 0 else none) else (bif Nat.ble n 70 then (bif Nat.beq n 70 then some 0 else none) else (bif Nat.beq n 71 then some 0 else none)))) else (bif Nat.ble n 147 then (bif Nat.ble n 72 then (bif Nat.beq n 72 then some 0 else none) else (bif Nat.ble n 110 then (bif Nat.beq n 110 then some 0 else none) else (bif Nat.beq n 147 then some 3 else none))) else (bif Nat.ble n 150 then (bif Nat.beq n 150 then some 0 else none) else (bif Nat.ble n 174 then (bif Nat.beq n 174 then some 0 else none) else (bif Nat.beq n 221 then some 0 else none))))
def mvF (n : Nat) : List Bool := bif Nat.ble n 48 then (bif Nat.ble n 46 then (bif Nat.beq n 46 then [true, false] else []) else (bif Nat.ble n 47 then (bif Nat.beq n 47 then [true, false] else []) else (bif Nat.beq n 48 then [true, false] else []))) else (bif Nat.ble n 142 then (bif Nat.ble n 49 then (bif Nat.beq n 49 then [true, false] else []) else (bif Nat.beq n 142 then [true] else [])) else (bif Nat.ble n 157 then (bif Nat.beq n 157 then [false, false, false, true] else []) else (bif Nat.beq n 162 then [false, false, false, true] else [])))
def lnF (n : Nat) : Bool := false
noncomputable def env (ln : Nat → Bool) (ks : List Nat) : Env := { P := pg, ti := fun n => tiF n, own := false, gv := fun _ => false, lend := false, kp := ks, ln := fun n => lnF n, mv := fun n => mvF n, gx := fun _ => none, mu := fun n => muF n }
/-- The same, where roots are written. -/
noncomputable def envM (vals : List Value) : Env := { P := pg, ti := fun n => tiF n, own := true, gv := fun _ => true, lend := false, kp := [], ln := fun n => lnF n, mv := fun n => mvF n, gx := fun n => vals[n]?, mu := fun n => muF n }
theorem env_ok (ln : Nat → Bool) (ks : List Nat) : EnvOk (env ln ks) := by
 intro t h
 have := ti_ok t h
 show TOk pg t (tiF t)
 rw [pg_eq]; exact this
theorem envM_ok (vals : List Value) : EnvOk (envM vals) := env_ok (fun _ => false) []
end Go.Ar
