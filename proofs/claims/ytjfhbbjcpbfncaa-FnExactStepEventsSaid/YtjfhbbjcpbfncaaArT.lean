import Derived.Test.YtjfhbbjcpbfncaaArS
import Derived.Test.YtjfhbbjcpbfncaaChecked
import Derived.KernelRfl
namespace Go.Ar
open Go.Proofs
set_option linter.unusedVariables false

/-- The types of this program (printed by wip/mkT.py). -/
def tiT (n : Nat) : TI := bif Nat.ble n 51 then (bif Nat.ble n 22 then (bif Nat.ble n 8 then (bif Nat.ble n 4 then (bif Nat.ble n 2 then (bif Nat.beq n 2 then ⟨.int .i64, 1, 8, [.i .i64 0]⟩ else noTI)
  else (bif Nat.ble n 3 then (bif Nat.beq n 3 then ⟨.int .i64, 1, 8, [.i .i64 0]⟩ else noTI)
  else (bif Nat.beq n 4 then ⟨.bool, 1, 1, [.b false]⟩ else noTI)))
  else (bif Nat.ble n 6 then (bif Nat.ble n 5 then (bif Nat.beq n 5 then ⟨.int .u8, 1, 1, [.i .u8 0]⟩ else noTI)
  else (bif Nat.beq n 6 then ⟨.int .u8, 1, 1, [.i .u8 0]⟩ else noTI))
  else (bif Nat.ble n 7 then (bif Nat.beq n 7 then ⟨.strct [(0, 1, false), (1, 1, false), (2, 1, false), (3, 1, false)], 4, 24, [.i .i64 0, .i .i64 0, .b false, .i .u8 0]⟩ else noTI)
  else (bif Nat.beq n 8 then ⟨.strct [(0, 1, false), (1, 1, false), (2, 1, false), (3, 1, false)], 4, 24, [.i .i64 0, .i .i64 0, .b false, .i .u8 0]⟩ else noTI))))
  else (bif Nat.ble n 12 then (bif Nat.ble n 10 then (bif Nat.ble n 9 then (bif Nat.beq n 9 then ⟨.str, 1, 16, [.s []]⟩ else noTI)
  else (bif Nat.beq n 10 then ⟨.str, 1, 16, [.s []]⟩ else noTI))
  else (bif Nat.ble n 11 then (bif Nat.beq n 11 then ⟨.str, 1, 16, [.s []]⟩ else noTI)
  else (bif Nat.beq n 12 then ⟨.int .u64, 1, 8, [.i .u64 0]⟩ else noTI)))
  else (bif Nat.ble n 14 then (bif Nat.ble n 13 then (bif Nat.beq n 13 then ⟨.strct [(0, 1, false), (1, 1, false)], 2, 24, [.s [], .i .u64 0]⟩ else noTI)
  else (bif Nat.beq n 14 then ⟨.strct [(0, 1, false), (1, 1, false)], 2, 24, [.s [], .i .u64 0]⟩ else noTI))
  else (bif Nat.ble n 21 then (bif Nat.beq n 21 then ⟨.int .i32, 1, 4, [.i .i32 0]⟩ else noTI)
  else (bif Nat.beq n 22 then ⟨.slice 5, 1, 24, [.sl .own 1 []]⟩ else noTI)))))
  else (bif Nat.ble n 35 then (bif Nat.ble n 30 then (bif Nat.ble n 28 then (bif Nat.beq n 28 then ⟨.slice 125, 1, 24, [.sl .own 5 []]⟩ else noTI)
  else (bif Nat.ble n 29 then (bif Nat.beq n 29 then ⟨.slice 9, 1, 24, [.sl .own 1 []]⟩ else noTI)
  else (bif Nat.beq n 30 then ⟨.strct [(0, 1, false), (1, 1, false)], 2, 48, [.sl .own 5 [], .sl .own 1 []]⟩ else noTI)))
  else (bif Nat.ble n 33 then (bif Nat.ble n 31 then (bif Nat.beq n 31 then ⟨.strct [(0, 1, false), (1, 1, false)], 2, 48, [.sl .own 5 [], .sl .own 1 []]⟩ else noTI)
  else (bif Nat.beq n 33 then ⟨.slice 137, 1, 24, [.sl .own 2 []]⟩ else noTI))
  else (bif Nat.ble n 34 then (bif Nat.beq n 34 then ⟨.strct [(0, 1, false), (1, 1, false)], 2, 48, [.sl .own 1 [], .sl .own 2 []]⟩ else noTI)
  else (bif Nat.beq n 35 then ⟨.strct [(0, 1, false), (1, 1, false)], 2, 48, [.sl .own 1 [], .sl .own 2 []]⟩ else noTI))))
  else (bif Nat.ble n 47 then (bif Nat.ble n 39 then (bif Nat.ble n 38 then (bif Nat.beq n 38 then ⟨.slice 131, 1, 24, [.sl .own 5 []]⟩ else noTI)
  else (bif Nat.beq n 39 then ⟨.strct [(0, 1, false), (1, 1, false)], 2, 48, [.sl .own 5 [], .sl .own 1 []]⟩ else noTI))
  else (bif Nat.ble n 40 then (bif Nat.beq n 40 then ⟨.strct [(0, 1, false), (1, 1, false)], 2, 48, [.sl .own 5 [], .sl .own 1 []]⟩ else noTI)
  else (bif Nat.beq n 47 then ⟨.slice 142, 1, 24, [.sl .own 3 []]⟩ else noTI)))
  else (bif Nat.ble n 49 then (bif Nat.ble n 48 then (bif Nat.beq n 48 then ⟨.strct [(0, 1, false), (1, 1, false), (2, 1, false), (3, 1, false), (4, 1, false), (5, 1, false), (6, 1, false)], 7, 56, [.b false, .b false, .i .i64 0, .i .i64 0, .s [], .i .i64 0, .i .i64 0]⟩ else noTI)
  else (bif Nat.beq n 49 then ⟨.strct [(0, 1, false), (1, 1, false), (2, 1, false), (3, 1, false), (4, 1, false), (5, 1, false), (6, 1, false)], 7, 56, [.b false, .b false, .i .i64 0, .i .i64 0, .s [], .i .i64 0, .i .i64 0]⟩ else noTI))
  else (bif Nat.ble n 50 then (bif Nat.beq n 50 then ⟨.strct [(0, 1, false), (1, 1, false), (2, 1, false), (3, 7, true)], 10, 96, [.i .i64 0, .i .i64 0, .sl .own 3 [], .b false, .b false, .i .i64 0, .i .i64 0, .s [], .i .i64 0, .i .i64 0]⟩ else noTI)
  else (bif Nat.beq n 51 then ⟨.strct [(0, 1, false), (1, 1, false), (2, 1, false), (3, 7, true)], 10, 96, [.i .i64 0, .i .i64 0, .sl .own 3 [], .b false, .b false, .i .i64 0, .i .i64 0, .s [], .i .i64 0, .i .i64 0]⟩ else noTI))))))
  else (bif Nat.ble n 106 then (bif Nat.ble n 61 then (bif Nat.ble n 56 then (bif Nat.ble n 52 then (bif Nat.beq n 52 then ⟨.strct [(0, 1, false), (1, 2, true)], 3, 56, [.i .i64 0, .sl .own 5 [], .sl .own 1 []]⟩ else noTI)
  else (bif Nat.ble n 53 then (bif Nat.beq n 53 then ⟨.strct [(0, 1, false), (1, 2, true)], 3, 56, [.i .i64 0, .sl .own 5 [], .sl .own 1 []]⟩ else noTI)
  else (bif Nat.beq n 56 then ⟨.slice 101, 1, 24, [.sl .own 3 []]⟩ else noTI)))
  else (bif Nat.ble n 59 then (bif Nat.ble n 58 then (bif Nat.beq n 58 then ⟨.slice 94, 1, 24, [.sl .own 3 []]⟩ else noTI)
  else (bif Nat.beq n 59 then ⟨.strct [(0, 1, false), (1, 1, false), (2, 1, false), (3, 1, false), (4, 1, false), (5, 1, false), (6, 1, false)], 7, 56, [.b false, .b false, .i .i64 0, .i .i64 0, .s [], .i .i64 0, .i .i64 0]⟩ else noTI))
  else (bif Nat.ble n 60 then (bif Nat.beq n 60 then ⟨.strct [(0, 1, false), (1, 1, false), (2, 1, false), (3, 7, true)], 10, 96, [.i .i64 0, .i .i64 0, .sl .own 3 [], .b false, .b false, .i .i64 0, .i .i64 0, .s [], .i .i64 0, .i .i64 0]⟩ else noTI)
  else (bif Nat.beq n 61 then ⟨.strct [(0, 1, false), (1, 1, false), (2, 1, false), (3, 7, true)], 10, 96, [.i .i64 0, .i .i64 0, .sl .own 3 [], .b false, .b false, .i .i64 0, .i .i64 0, .s [], .i .i64 0, .i .i64 0]⟩ else noTI))))
  else (bif Nat.ble n 93 then (bif Nat.ble n 64 then (bif Nat.ble n 63 then (bif Nat.beq n 63 then ⟨.strct [(0, 1, false), (1, 2, true)], 3, 56, [.i .i64 0, .sl .own 5 [], .sl .own 1 []]⟩ else noTI)
  else (bif Nat.beq n 64 then ⟨.strct [(0, 1, false), (1, 2, true)], 3, 56, [.i .i64 0, .sl .own 5 [], .sl .own 1 []]⟩ else noTI))
  else (bif Nat.ble n 77 then (bif Nat.beq n 77 then ⟨.slice 3, 1, 24, [.sl .own 1 []]⟩ else noTI)
  else (bif Nat.beq n 93 then ⟨.strct [(0, 1, false), (1, 2, true)], 3, 56, [.i .i64 0, .sl .own 5 [], .sl .own 1 []]⟩ else noTI)))
  else (bif Nat.ble n 100 then (bif Nat.ble n 94 then (bif Nat.beq n 94 then ⟨.strct [(0, 1, false), (1, 2, true)], 3, 56, [.i .i64 0, .sl .own 5 [], .sl .own 1 []]⟩ else noTI)
  else (bif Nat.beq n 100 then ⟨.strct [(0, 1, false), (1, 1, false), (2, 1, false)], 3, 32, [.i .i64 0, .i .i64 0, .s []]⟩ else noTI))
  else (bif Nat.ble n 101 then (bif Nat.beq n 101 then ⟨.strct [(0, 1, false), (1, 1, false), (2, 1, false)], 3, 32, [.i .i64 0, .i .i64 0, .s []]⟩ else noTI)
  else (bif Nat.beq n 106 then ⟨.strct [(0, 1, false), (1, 1, false), (2, 1, false)], 3, 40, [.sl .own 1 [], .i .i64 0, .i .i64 0]⟩ else noTI)))))
  else (bif Nat.ble n 137 then (bif Nat.ble n 124 then (bif Nat.ble n 107 then (bif Nat.beq n 107 then ⟨.strct [(0, 1, false), (1, 1, false), (2, 1, false)], 3, 40, [.sl .own 1 [], .i .i64 0, .i .i64 0]⟩ else noTI)
  else (bif Nat.ble n 109 then (bif Nat.beq n 109 then ⟨.int .u64, 1, 8, [.i .u64 0]⟩ else noTI)
  else (bif Nat.beq n 124 then ⟨.strct [(0, 1, false), (1, 1, false), (2, 1, false), (3, 1, false), (4, 1, false)], 5, 56, [.i .i64 0, .i .i64 0, .i .i64 0, .i .i64 0, .sl .own 1 []]⟩ else noTI)))
  else (bif Nat.ble n 131 then (bif Nat.ble n 125 then (bif Nat.beq n 125 then ⟨.strct [(0, 1, false), (1, 1, false), (2, 1, false), (3, 1, false), (4, 1, false)], 5, 56, [.i .i64 0, .i .i64 0, .i .i64 0, .i .i64 0, .sl .own 1 []]⟩ else noTI)
  else (bif Nat.beq n 131 then ⟨.strct [(0, 1, false), (1, 1, false), (2, 1, false), (3, 1, false), (4, 1, false)], 5, 56, [.i .i64 0, .i .i64 0, .i .i64 0, .i .i64 0, .sl .own 1 []]⟩ else noTI))
  else (bif Nat.ble n 136 then (bif Nat.beq n 136 then ⟨.strct [(0, 1, false), (1, 1, false)], 2, 24, [.i .i64 0, .s []]⟩ else noTI)
  else (bif Nat.beq n 137 then ⟨.strct [(0, 1, false), (1, 1, false)], 2, 24, [.i .i64 0, .s []]⟩ else noTI))))
  else (bif Nat.ble n 152 then (bif Nat.ble n 142 then (bif Nat.ble n 141 then (bif Nat.beq n 141 then ⟨.strct [(0, 1, false), (1, 2, true)], 3, 56, [.i .i64 0, .sl .own 5 [], .sl .own 1 []]⟩ else noTI)
  else (bif Nat.beq n 142 then ⟨.strct [(0, 1, false), (1, 2, true)], 3, 56, [.i .i64 0, .sl .own 5 [], .sl .own 1 []]⟩ else noTI))
  else (bif Nat.ble n 149 then (bif Nat.beq n 149 then ⟨.int .u32, 1, 4, [.i .u32 0]⟩ else noTI)
  else (bif Nat.beq n 152 then ⟨.int .u64, 1, 8, [.i .u64 0]⟩ else noTI)))
  else (bif Nat.ble n 179 then (bif Nat.ble n 178 then (bif Nat.beq n 178 then ⟨.int .u8, 1, 1, [.i .u8 0]⟩ else noTI)
  else (bif Nat.beq n 179 then ⟨.int .u8, 1, 1, [.i .u8 0]⟩ else noTI))
  else (bif Nat.ble n 181 then (bif Nat.beq n 181 then ⟨.int .i32, 1, 4, [.i .i32 0]⟩ else noTI)
  else (bif Nat.beq n 182 then ⟨.int .i32, 1, 4, [.i .i32 0]⟩ else noTI))))))
def tiF (n : Nat) : TI := bif Nat.ble n 182 then tiT n else noTI
theorem ti_all : ((List.range 183).all fun t => !(kn (tiT t).k) || tchk Try.prog t (tiT t)) = true := by decide +kernel
/-- The program, kept from the evaluation. -/
noncomputable def pg : Program := Classical.choose (kp Try.prog)
theorem pg_eq : pg = Try.prog := Classical.choose_spec (kp Try.prog)
theorem pg_func {n : Nat} {f : Func} (h : Try.prog.funcs[n]? = some f) : pg.funcs[n]? = some f := by rw [pg_eq]; exact h
theorem pg_mixed : pg.follows .mixedOrders = true := by rw [pg_eq]; kernel_rfl
theorem ti_ok (t : Nat) (h : kn (tiF t).k = true) : TOk Try.prog t (tiF t) := by
  unfold tiF at h ⊢
  cases hb : Nat.ble t 182 with
  | false => rw [hb] at h; cases h
  | true =>
    rw [hb] at h
    simp only [cond_true] at h ⊢
    have h1 := List.all_eq_true.1 ti_all t (List.mem_range.2 (Nat.lt_succ_of_le (Nat.le_of_ble_eq_true hb)))
    rw [h] at h1
    exact tchk_ok (by simpa using h1)
/-- The calling conventions of this program. -/
def muF (n : Nat) : Option Nat := bif Nat.ble n 31 then (bif Nat.ble n 18 then (bif Nat.ble n 17 then (bif Nat.beq n 17 then some 0 else none) else (bif Nat.beq n 18 then some 0 else none)) else (bif Nat.ble n 29 then (bif Nat.beq n 29 then some 0 else none) else (bif Nat.ble n 30 then (bif Nat.beq n 30 then some 0 else none) else (bif Nat.beq n 31 then some 0 else none)))) else (bif Nat.ble n 51 then (bif Nat.ble n 50 then (bif Nat.beq n 50 then some 0 else none) else (bif Nat.beq n 51 then some 0 else none)) else (bif Nat.ble n 52 then (bif Nat.beq n 52 then some 0 else none) else (bif Nat.ble n 67 then (bif Nat.beq n 67 then some 0 else none) else (bif Nat.beq n 89 then some 0 else none))))
def mvF (n : Nat) : List Bool := []
def lnF (n : Nat) : Bool := false
noncomputable def env (ln : Nat → Bool) (ks : List Nat) : Env := { P := pg, ti := fun n => tiF n, own := false, gv := fun _ => false, lend := false, kp := ks, ln := fun n => lnF n, mv := fun n => mvF n, gx := fun _ => none, mu := fun n => muF n }
/-- The same, where roots are written. -/
noncomputable def envM (vals : List Value) : Env := { P := pg, ti := fun n => tiF n, own := true, gv := fun _ => true, lend := false, kp := [], ln := fun n => lnF n, mv := fun n => mvF n, gx := fun n => vals[n]?, mu := fun n => muF n }
theorem env_ok (ln : Nat → Bool) (ks : List Nat) : EnvOk (env ln ks) := by
  intro t h
  have := ti_ok t h
  show TOk pg t (tiF t)
  rw [pg_eq]; exact this
theorem envM_ok (vals : List Value) : EnvOk (envM vals) := env_ok (fun _ => false) []
end Go.Ar
