import Derived.Test.YthbgpgfloghnoaaGreatArS
import Derived.Test.YthbgpgfloghnoaaGreatChecked
import Derived.KernelRfl
namespace Go.Ar
open Go.Proofs
set_option linter.unusedVariables false
/-- The types of this program (printed by wip/mkT.py). -/
def tiT (n : Nat) : TI := bif Nat.ble n 61 then (bif Nat.ble n 22 then (bif Nat.ble n 7 then (bif Nat.ble n 4 then (bif Nat.ble n 2 then (bif Nat.beq n 2 then ⟨.int .i64, 1, 8, [.i .i64 0]⟩ else noTI)
 else (bif Nat.ble n 3 then (bif Nat.beq n 3 then ⟨.int .i64, 1, 8, [.i .i64 0]⟩ else noTI)
 else (bif Nat.beq n 4 then ⟨.bool, 1, 1, [.b false]⟩ else noTI)))
 else (bif Nat.ble n 5 then (bif Nat.beq n 5 then ⟨.int .u8, 1, 1, [.i .u8 0]⟩ else noTI)
 else (bif Nat.ble n 6 then (bif Nat.beq n 6 then ⟨.int .u8, 1, 1, [.i .u8 0]⟩ else noTI)
 else (bif Nat.beq n 7 then ⟨.strct [(0, 1, false), (1, 1, false), (2, 1, false), (3, 1, false)], 4, 24, [.i .i64 0, .i .i64 0, .b false, .i .u8 0]⟩ else noTI))))
 else (bif Nat.ble n 10 then (bif Nat.ble n 8 then (bif Nat.beq n 8 then ⟨.strct [(0, 1, false), (1, 1, false), (2, 1, false), (3, 1, false)], 4, 24, [.i .i64 0, .i .i64 0, .b false, .i .u8 0]⟩ else noTI)
 else (bif Nat.ble n 9 then (bif Nat.beq n 9 then ⟨.str, 1, 16, [.s []]⟩ else noTI)
 else (bif Nat.beq n 10 then ⟨.str, 1, 16, [.s []]⟩ else noTI)))
 else (bif Nat.ble n 12 then (bif Nat.ble n 11 then (bif Nat.beq n 11 then ⟨.str, 1, 16, [.s []]⟩ else noTI)
 else (bif Nat.beq n 12 then ⟨.int .u64, 1, 8, [.i .u64 0]⟩ else noTI))
 else (bif Nat.ble n 21 then (bif Nat.beq n 21 then ⟨.int .i32, 1, 4, [.i .i32 0]⟩ else noTI)
 else (bif Nat.beq n 22 then ⟨.slice 87, 1, 24, [.sl .own 3 []]⟩ else noTI)))))
 else (bif Nat.ble n 31 then (bif Nat.ble n 25 then (bif Nat.ble n 23 then (bif Nat.beq n 23 then ⟨.strct [(0, 1, false), (1, 1, false), (2, 1, false), (3, 1, false), (4, 1, false), (5, 1, false), (6, 1, false)], 7, 56, [.b false, .b false, .i .i64 0, .i .i64 0, .s [], .i .i64 0, .i .i64 0]⟩ else noTI)
 else (bif Nat.ble n 24 then (bif Nat.beq n 24 then ⟨.strct [(0, 1, false), (1, 1, false), (2, 1, false), (3, 1, false), (4, 1, false), (5, 1, false), (6, 1, false)], 7, 56, [.b false, .b false, .i .i64 0, .i .i64 0, .s [], .i .i64 0, .i .i64 0]⟩ else noTI)
 else (bif Nat.beq n 25 then ⟨.strct [(0, 1, false), (1, 1, false), (2, 1, false), (3, 7, true)], 10, 96, [.i .i64 0, .i .i64 0, .sl .own 3 [], .b false, .b false, .i .i64 0, .i .i64 0, .s [], .i .i64 0, .i .i64 0]⟩ else noTI)))
 else (bif Nat.ble n 29 then (bif Nat.ble n 26 then (bif Nat.beq n 26 then ⟨.strct [(0, 1, false), (1, 1, false), (2, 1, false), (3, 7, true)], 10, 96, [.i .i64 0, .i .i64 0, .sl .own 3 [], .b false, .b false, .i .i64 0, .i .i64 0, .s [], .i .i64 0, .i .i64 0]⟩ else noTI)
 else (bif Nat.beq n 29 then ⟨.slice 62, 1, 24, [.sl .own 3 []]⟩ else noTI))
 else (bif Nat.ble n 30 then (bif Nat.beq n 30 then ⟨.strct [(0, 1, false), (1, 1, false), (2, 1, false), (3, 1, false), (4, 1, false), (5, 1, false), (6, 1, false)], 7, 56, [.b false, .b false, .i .i64 0, .i .i64 0, .s [], .i .i64 0, .i .i64 0]⟩ else noTI)
 else (bif Nat.beq n 31 then ⟨.strct [(0, 1, false), (1, 1, false), (2, 1, false), (3, 7, true)], 10, 96, [.i .i64 0, .i .i64 0, .sl .own 3 [], .b false, .b false, .i .i64 0, .i .i64 0, .s [], .i .i64 0, .i .i64 0]⟩ else noTI))))
 else (bif Nat.ble n 44 then (bif Nat.ble n 32 then (bif Nat.beq n 32 then ⟨.strct [(0, 1, false), (1, 1, false), (2, 1, false), (3, 7, true)], 10, 96, [.i .i64 0, .i .i64 0, .sl .own 3 [], .b false, .b false, .i .i64 0, .i .i64 0, .s [], .i .i64 0, .i .i64 0]⟩ else noTI)
 else (bif Nat.ble n 36 then (bif Nat.beq n 36 then ⟨.slice 3, 1, 24, [.sl .own 1 []]⟩ else noTI)
 else (bif Nat.beq n 44 then ⟨.slice 9, 1, 24, [.sl .own 1 []]⟩ else noTI)))
 else (bif Nat.ble n 59 then (bif Nat.ble n 58 then (bif Nat.beq n 58 then ⟨.slice 104, 1, 24, [.sl .own 5 []]⟩ else noTI)
 else (bif Nat.beq n 59 then ⟨.strct [(0, 1, false), (1, 1, false)], 2, 48, [.sl .own 5 [], .sl .own 1 []]⟩ else noTI))
 else (bif Nat.ble n 60 then (bif Nat.beq n 60 then ⟨.strct [(0, 1, false), (1, 1, false)], 2, 48, [.sl .own 5 [], .sl .own 1 []]⟩ else noTI)
 else (bif Nat.beq n 61 then ⟨.strct [(0, 1, false), (1, 2, true)], 3, 56, [.i .i64 0, .sl .own 5 [], .sl .own 1 []]⟩ else noTI))))))
 else (bif Nat.ble n 104 then (bif Nat.ble n 77 then (bif Nat.ble n 73 then (bif Nat.ble n 62 then (bif Nat.beq n 62 then ⟨.strct [(0, 1, false), (1, 2, true)], 3, 56, [.i .i64 0, .sl .own 5 [], .sl .own 1 []]⟩ else noTI)
 else (bif Nat.ble n 72 then (bif Nat.beq n 72 then ⟨.slice 77, 1, 24, [.sl .own 4 []]⟩ else noTI)
 else (bif Nat.beq n 73 then ⟨.strct [(0, 1, false)], 1, 24, [.sl .own 4 []]⟩ else noTI)))
 else (bif Nat.ble n 74 then (bif Nat.beq n 74 then ⟨.strct [(0, 1, false)], 1, 24, [.sl .own 4 []]⟩ else noTI)
 else (bif Nat.ble n 76 then (bif Nat.beq n 76 then ⟨.strct [(0, 1, false), (1, 1, false), (2, 1, false), (3, 1, false)], 4, 48, [.s [], .i .i64 0, .s [], .i .i64 0]⟩ else noTI)
 else (bif Nat.beq n 77 then ⟨.strct [(0, 1, false), (1, 1, false), (2, 1, false), (3, 1, false)], 4, 48, [.s [], .i .i64 0, .s [], .i .i64 0]⟩ else noTI))))
 else (bif Nat.ble n 85 then (bif Nat.ble n 83 then (bif Nat.beq n 83 then ⟨.slice 179, 1, 24, [.sl .own 5 []]⟩ else noTI)
 else (bif Nat.ble n 84 then (bif Nat.beq n 84 then ⟨.strct [(0, 1, false), (1, 1, false)], 2, 48, [.sl .own 5 [], .sl .own 1 []]⟩ else noTI)
 else (bif Nat.beq n 85 then ⟨.strct [(0, 1, false), (1, 1, false)], 2, 48, [.sl .own 5 [], .sl .own 1 []]⟩ else noTI)))
 else (bif Nat.ble n 87 then (bif Nat.ble n 86 then (bif Nat.beq n 86 then ⟨.strct [(0, 1, false), (1, 2, true)], 3, 56, [.i .i64 0, .sl .own 5 [], .sl .own 1 []]⟩ else noTI)
 else (bif Nat.beq n 87 then ⟨.strct [(0, 1, false), (1, 2, true)], 3, 56, [.i .i64 0, .sl .own 5 [], .sl .own 1 []]⟩ else noTI))
 else (bif Nat.ble n 103 then (bif Nat.beq n 103 then ⟨.strct [(0, 1, false), (1, 1, false), (2, 1, false), (3, 1, false), (4, 1, false)], 5, 56, [.i .i64 0, .i .i64 0, .i .i64 0, .i .i64 0, .sl .own 1 []]⟩ else noTI)
 else (bif Nat.beq n 104 then ⟨.strct [(0, 1, false), (1, 1, false), (2, 1, false), (3, 1, false), (4, 1, false)], 5, 56, [.i .i64 0, .i .i64 0, .i .i64 0, .i .i64 0, .sl .own 1 []]⟩ else noTI)))))
 else (bif Nat.ble n 175 then (bif Nat.ble n 134 then (bif Nat.ble n 113 then (bif Nat.beq n 113 then ⟨.slice 5, 1, 24, [.sl .own 1 []]⟩ else noTI)
 else (bif Nat.ble n 126 then (bif Nat.beq n 126 then ⟨.slice 135, 1, 24, [.sl .own 2 []]⟩ else noTI)
 else (bif Nat.beq n 134 then ⟨.strct [(0, 1, false), (1, 1, false)], 2, 24, [.s [], .i .i64 0]⟩ else noTI)))
 else (bif Nat.ble n 141 then (bif Nat.ble n 135 then (bif Nat.beq n 135 then ⟨.strct [(0, 1, false), (1, 1, false)], 2, 24, [.s [], .i .i64 0]⟩ else noTI)
 else (bif Nat.beq n 141 then ⟨.int .u64, 1, 8, [.i .u64 0]⟩ else noTI))
 else (bif Nat.ble n 167 then (bif Nat.beq n 167 then ⟨.int .i64, 1, 8, [.i .i64 0]⟩ else noTI)
 else (bif Nat.beq n 175 then ⟨.int .u32, 1, 4, [.i .u32 0]⟩ else noTI))))
 else (bif Nat.ble n 193 then (bif Nat.ble n 177 then (bif Nat.beq n 177 then ⟨.int .u64, 1, 8, [.i .u64 0]⟩ else noTI)
 else (bif Nat.ble n 179 then (bif Nat.beq n 179 then ⟨.strct [(0, 1, false), (1, 1, false), (2, 1, false), (3, 1, false), (4, 1, false)], 5, 56, [.i .i64 0, .i .i64 0, .i .i64 0, .i .i64 0, .sl .own 1 []]⟩ else noTI)
 else (bif Nat.beq n 193 then ⟨.int .u64, 1, 8, [.i .u64 0]⟩ else noTI)))
 else (bif Nat.ble n 214 then (bif Nat.ble n 213 then (bif Nat.beq n 213 then ⟨.int .u8, 1, 1, [.i .u8 0]⟩ else noTI)
 else (bif Nat.beq n 214 then ⟨.int .u8, 1, 1, [.i .u8 0]⟩ else noTI))
 else (bif Nat.ble n 216 then (bif Nat.beq n 216 then ⟨.int .i32, 1, 4, [.i .i32 0]⟩ else noTI)
 else (bif Nat.beq n 217 then ⟨.int .i32, 1, 4, [.i .i32 0]⟩ else noTI))))))
def tiF (n : Nat) : TI := bif Nat.ble n 217 then tiT n else noTI
theorem ti_all : ((List.range 218).all fun t => !(kn (tiT t).k) || tchk Tryz.prog t (tiT t)) = true := by decide +kernel
/-- The program, kept from the evaluation. -/
noncomputable def pg : Program := Classical.choose (kp Tryz.prog)
theorem pg_eq : pg = Tryz.prog := Classical.choose_spec (kp Tryz.prog)
theorem pg_func {n : Nat} {f : Func} (h : Tryz.prog.funcs[n]? = some f) : pg.funcs[n]? = some f := by rw [pg_eq]; exact h
theorem pg_mixed : pg.follows .mixedOrders = true := by rw [pg_eq]; kernel_rfl
theorem ti_ok (t : Nat) (h : kn (tiF t).k = true) : TOk Tryz.prog t (tiF t) := by
 unfold tiF at h ⊢
 cases hb : Nat.ble t 217 with
 | false => rw [hb] at h; cases h
 | true =>
  rw [hb] at h
  simp only [cond_true] at h ⊢
  have h1 := List.all_eq_true.1 ti_all t (List.mem_range.2 (Nat.lt_succ_of_le (Nat.le_of_ble_eq_true hb)))
  rw [h] at h1
  exact tchk_ok (by simpa using h1)
/-- The calling conventions of this program. -/
def muF (n : Nat) : Option Nat := bif Nat.ble n 44 then (bif Nat.ble n 18 then (bif Nat.ble n 17 then (bif Nat.beq n 17 then some 0 else none) else (bif Nat.beq n 18 then some 0 else none)) else (bif Nat.ble n 27 then (bif Nat.beq n 27 then some 0 else none) else (bif Nat.beq n 44 then some 0 else none))) else (bif Nat.ble n 93 then (bif Nat.ble n 78 then (bif Nat.beq n 78 then some 0 else none) else (bif Nat.beq n 93 then some 0 else none)) else (bif Nat.ble n 108 then (bif Nat.beq n 108 then some 3 else none) else (bif Nat.ble n 132 then (bif Nat.beq n 132 then some 0 else none) else (bif Nat.beq n 159 then some 0 else none))))
def mvF (n : Nat) : List Bool := bif Nat.ble n 89 then (bif Nat.beq n 89 then [false, false, false, true] else []) else (bif Nat.beq n 92 then [false, false, false, true] else [])
def lnF (n : Nat) : Bool := false
noncomputable def env (ln : Nat → Bool) (ks : List Nat) : Env := { P := pg, ti := fun n => tiF n, own := false, gv := fun _ => false, lend := false, kp := ks, ln := fun n => lnF n, mv := fun n => mvF n, gx := fun _ => none, mu := fun n => muF n }
/-- The same, where roots are written. -/
noncomputable def envM (vals : List Value) : Env := { P := pg, ti := fun n => tiF n, own := true, gv := fun _ => true, lend := false, kp := [], ln := fun n => lnF n, mv := fun n => mvF n, gx := fun n => vals[n]?, mu := fun n => muF n }
theorem env_ok (ln : Nat → Bool) (ks : List Nat) : EnvOk (env ln ks) := by
 intro t h
 have := ti_ok t h
 show TOk pg t (tiF t)
 rw [pg_eq]; exact this
theorem envM_ok (vals : List Value) : EnvOk (envM vals) := env_ok (fun _ => false) []
end Go.Ar
