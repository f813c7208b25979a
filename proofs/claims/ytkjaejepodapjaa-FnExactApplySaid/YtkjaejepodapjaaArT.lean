import Derived.Test.YtkjaejepodapjaaArS
import Derived.Test.YtkjaejepodapjaaChecked
import Derived.KernelRfl
namespace Go.Ar
open Go.Proofs
set_option linter.unusedVariables false

/-- The types of this program (printed by wip/mkT.py). -/
def tiT (n : Nat) : TI := bif Nat.ble n 48 then (bif Nat.ble n 22 then (bif Nat.ble n 8 then (bif Nat.ble n 4 then (bif Nat.ble n 2 then (bif Nat.beq n 2 then ⟨.int .i64, 1, 8, [.i .i64 0]⟩ else noTI)
  else (bif Nat.ble n 3 then (bif Nat.beq n 3 then ⟨.int .i64, 1, 8, [.i .i64 0]⟩ else noTI)
  else (bif Nat.beq n 4 then ⟨.bool, 1, 1, [.b false]⟩ else noTI)))
  else (bif Nat.ble n 6 then (bif Nat.ble n 5 then (bif Nat.beq n 5 then ⟨.int .u8, 1, 1, [.i .u8 0]⟩ else noTI)
  else (bif Nat.beq n 6 then ⟨.int .u8, 1, 1, [.i .u8 0]⟩ else noTI))
  else (bif Nat.ble n 7 then (bif Nat.beq n 7 then ⟨.strct [(0, 1, false), (1, 1, false), (2, 1, false), (3, 1, false)], 4, 24, [.i .i64 0, .i .i64 0, .b false, .i .u8 0]⟩ else noTI)
  else (bif Nat.beq n 8 then ⟨.strct [(0, 1, false), (1, 1, false), (2, 1, false), (3, 1, false)], 4, 24, [.i .i64 0, .i .i64 0, .b false, .i .u8 0]⟩ else noTI))))
  else (bif Nat.ble n 12 then (bif Nat.ble n 10 then (bif Nat.ble n 9 then (bif Nat.beq n 9 then ⟨.str, 1, 16, [.s []]⟩ else noTI)
  else (bif Nat.beq n 10 then ⟨.str, 1, 16, [.s []]⟩ else noTI))
  else (bif Nat.ble n 11 then (bif Nat.beq n 11 then ⟨.str, 1, 16, [.s []]⟩ else noTI)
  else (bif Nat.beq n 12 then ⟨.int .u64, 1, 8, [.i .u64 0]⟩ else noTI)))
  else (bif Nat.ble n 14 then (bif Nat.ble n 13 then (bif Nat.beq n 13 then ⟨.strct [(0, 1, false), (1, 1, false)], 2, 24, [.s [], .i .u64 0]⟩ else noTI)
  else (bif Nat.beq n 14 then ⟨.strct [(0, 1, false), (1, 1, false)], 2, 24, [.s [], .i .u64 0]⟩ else noTI))
  else (bif Nat.ble n 21 then (bif Nat.beq n 21 then ⟨.int .i32, 1, 4, [.i .i32 0]⟩ else noTI)
  else (bif Nat.beq n 22 then ⟨.slice 106, 1, 24, [.sl .own 3 []]⟩ else noTI)))))
  else (bif Nat.ble n 31 then (bif Nat.ble n 25 then (bif Nat.ble n 23 then (bif Nat.beq n 23 then ⟨.strct [(0, 1, false), (1, 1, false), (2, 1, false), (3, 1, false), (4, 1, false), (5, 1, false), (6, 1, false)], 7, 56, [.b false, .b false, .i .i64 0, .i .i64 0, .s [], .i .i64 0, .i .i64 0]⟩ else noTI)
  else (bif Nat.ble n 24 then (bif Nat.beq n 24 then ⟨.strct [(0, 1, false), (1, 1, false), (2, 1, false), (3, 1, false), (4, 1, false), (5, 1, false), (6, 1, false)], 7, 56, [.b false, .b false, .i .i64 0, .i .i64 0, .s [], .i .i64 0, .i .i64 0]⟩ else noTI)
  else (bif Nat.beq n 25 then ⟨.strct [(0, 1, false), (1, 1, false), (2, 1, false), (3, 7, true)], 10, 96, [.i .i64 0, .i .i64 0, .sl .own 3 [], .b false, .b false, .i .i64 0, .i .i64 0, .s [], .i .i64 0, .i .i64 0]⟩ else noTI)))
  else (bif Nat.ble n 27 then (bif Nat.ble n 26 then (bif Nat.beq n 26 then ⟨.strct [(0, 1, false), (1, 1, false), (2, 1, false), (3, 7, true)], 10, 96, [.i .i64 0, .i .i64 0, .sl .own 3 [], .b false, .b false, .i .i64 0, .i .i64 0, .s [], .i .i64 0, .i .i64 0]⟩ else noTI)
  else (bif Nat.beq n 27 then ⟨.slice 63, 1, 24, [.sl .own 3 []]⟩ else noTI))
  else (bif Nat.ble n 30 then (bif Nat.beq n 30 then ⟨.slice 81, 1, 24, [.sl .own 3 []]⟩ else noTI)
  else (bif Nat.beq n 31 then ⟨.strct [(0, 1, false), (1, 1, false), (2, 1, false), (3, 1, false), (4, 1, false), (5, 1, false), (6, 1, false)], 7, 56, [.b false, .b false, .i .i64 0, .i .i64 0, .s [], .i .i64 0, .i .i64 0]⟩ else noTI))))
  else (bif Nat.ble n 43 then (bif Nat.ble n 33 then (bif Nat.ble n 32 then (bif Nat.beq n 32 then ⟨.strct [(0, 1, false), (1, 1, false), (2, 1, false), (3, 7, true)], 10, 96, [.i .i64 0, .i .i64 0, .sl .own 3 [], .b false, .b false, .i .i64 0, .i .i64 0, .s [], .i .i64 0, .i .i64 0]⟩ else noTI)
  else (bif Nat.beq n 33 then ⟨.strct [(0, 1, false), (1, 1, false), (2, 1, false), (3, 7, true)], 10, 96, [.i .i64 0, .i .i64 0, .sl .own 3 [], .b false, .b false, .i .i64 0, .i .i64 0, .s [], .i .i64 0, .i .i64 0]⟩ else noTI))
  else (bif Nat.ble n 36 then (bif Nat.beq n 36 then ⟨.slice 68, 1, 24, [.sl .own 3 []]⟩ else noTI)
  else (bif Nat.beq n 43 then ⟨.slice 115, 1, 24, [.sl .own 5 []]⟩ else noTI)))
  else (bif Nat.ble n 45 then (bif Nat.ble n 44 then (bif Nat.beq n 44 then ⟨.slice 9, 1, 24, [.sl .own 1 []]⟩ else noTI)
  else (bif Nat.beq n 45 then ⟨.strct [(0, 1, false), (1, 1, false)], 2, 48, [.sl .own 5 [], .sl .own 1 []]⟩ else noTI))
  else (bif Nat.ble n 46 then (bif Nat.beq n 46 then ⟨.strct [(0, 1, false), (1, 1, false)], 2, 48, [.sl .own 5 [], .sl .own 1 []]⟩ else noTI)
  else (bif Nat.beq n 48 then ⟨.slice 127, 1, 24, [.sl .own 2 []]⟩ else noTI))))))
  else (bif Nat.ble n 105 then (bif Nat.ble n 63 then (bif Nat.ble n 53 then (bif Nat.ble n 49 then (bif Nat.beq n 49 then ⟨.strct [(0, 1, false), (1, 1, false)], 2, 48, [.sl .own 1 [], .sl .own 2 []]⟩ else noTI)
  else (bif Nat.ble n 50 then (bif Nat.beq n 50 then ⟨.strct [(0, 1, false), (1, 1, false)], 2, 48, [.sl .own 1 [], .sl .own 2 []]⟩ else noTI)
  else (bif Nat.beq n 53 then ⟨.slice 109, 1, 24, [.sl .own 5 []]⟩ else noTI)))
  else (bif Nat.ble n 55 then (bif Nat.ble n 54 then (bif Nat.beq n 54 then ⟨.strct [(0, 1, false), (1, 1, false)], 2, 48, [.sl .own 5 [], .sl .own 1 []]⟩ else noTI)
  else (bif Nat.beq n 55 then ⟨.strct [(0, 1, false), (1, 1, false)], 2, 48, [.sl .own 5 [], .sl .own 1 []]⟩ else noTI))
  else (bif Nat.ble n 62 then (bif Nat.beq n 62 then ⟨.strct [(0, 1, false), (1, 2, true)], 3, 56, [.i .i64 0, .sl .own 5 [], .sl .own 1 []]⟩ else noTI)
  else (bif Nat.beq n 63 then ⟨.strct [(0, 1, false), (1, 2, true)], 3, 56, [.i .i64 0, .sl .own 5 [], .sl .own 1 []]⟩ else noTI))))
  else (bif Nat.ble n 80 then (bif Nat.ble n 67 then (bif Nat.ble n 65 then (bif Nat.beq n 65 then ⟨.slice 102, 1, 24, [.sl .own 3 []]⟩ else noTI)
  else (bif Nat.beq n 67 then ⟨.strct [(0, 1, false), (1, 2, true)], 3, 56, [.i .i64 0, .sl .own 5 [], .sl .own 1 []]⟩ else noTI))
  else (bif Nat.ble n 68 then (bif Nat.beq n 68 then ⟨.strct [(0, 1, false), (1, 2, true)], 3, 56, [.i .i64 0, .sl .own 5 [], .sl .own 1 []]⟩ else noTI)
  else (bif Nat.beq n 80 then ⟨.strct [(0, 1, false), (1, 2, true)], 3, 56, [.i .i64 0, .sl .own 5 [], .sl .own 1 []]⟩ else noTI)))
  else (bif Nat.ble n 101 then (bif Nat.ble n 81 then (bif Nat.beq n 81 then ⟨.strct [(0, 1, false), (1, 2, true)], 3, 56, [.i .i64 0, .sl .own 5 [], .sl .own 1 []]⟩ else noTI)
  else (bif Nat.beq n 101 then ⟨.strct [(0, 1, false), (1, 1, false), (2, 1, false)], 3, 32, [.i .i64 0, .i .i64 0, .s []]⟩ else noTI))
  else (bif Nat.ble n 102 then (bif Nat.beq n 102 then ⟨.strct [(0, 1, false), (1, 1, false), (2, 1, false)], 3, 32, [.i .i64 0, .i .i64 0, .s []]⟩ else noTI)
  else (bif Nat.beq n 105 then ⟨.strct [(0, 1, false), (1, 2, true)], 3, 56, [.i .i64 0, .sl .own 5 [], .sl .own 1 []]⟩ else noTI)))))
  else (bif Nat.ble n 126 then (bif Nat.ble n 108 then (bif Nat.ble n 106 then (bif Nat.beq n 106 then ⟨.strct [(0, 1, false), (1, 2, true)], 3, 56, [.i .i64 0, .sl .own 5 [], .sl .own 1 []]⟩ else noTI)
  else (bif Nat.ble n 107 then (bif Nat.beq n 107 then ⟨.slice 3, 1, 24, [.sl .own 1 []]⟩ else noTI)
  else (bif Nat.beq n 108 then ⟨.strct [(0, 1, false), (1, 1, false), (2, 1, false), (3, 1, false), (4, 1, false)], 5, 56, [.i .i64 0, .i .i64 0, .i .i64 0, .i .i64 0, .sl .own 1 []]⟩ else noTI)))
  else (bif Nat.ble n 115 then (bif Nat.ble n 109 then (bif Nat.beq n 109 then ⟨.strct [(0, 1, false), (1, 1, false), (2, 1, false), (3, 1, false), (4, 1, false)], 5, 56, [.i .i64 0, .i .i64 0, .i .i64 0, .i .i64 0, .sl .own 1 []]⟩ else noTI)
  else (bif Nat.beq n 115 then ⟨.strct [(0, 1, false), (1, 1, false), (2, 1, false), (3, 1, false), (4, 1, false)], 5, 56, [.i .i64 0, .i .i64 0, .i .i64 0, .i .i64 0, .sl .own 1 []]⟩ else noTI))
  else (bif Nat.ble n 117 then (bif Nat.beq n 117 then ⟨.slice 5, 1, 24, [.sl .own 1 []]⟩ else noTI)
  else (bif Nat.beq n 126 then ⟨.strct [(0, 1, false), (1, 1, false)], 2, 24, [.i .i64 0, .s []]⟩ else noTI))))
  else (bif Nat.ble n 152 then (bif Nat.ble n 135 then (bif Nat.ble n 127 then (bif Nat.beq n 127 then ⟨.strct [(0, 1, false), (1, 1, false)], 2, 24, [.i .i64 0, .s []]⟩ else noTI)
  else (bif Nat.beq n 135 then ⟨.int .u64, 1, 8, [.i .u64 0]⟩ else noTI))
  else (bif Nat.ble n 149 then (bif Nat.beq n 149 then ⟨.int .u32, 1, 4, [.i .u32 0]⟩ else noTI)
  else (bif Nat.beq n 152 then ⟨.int .u64, 1, 8, [.i .u64 0]⟩ else noTI)))
  else (bif Nat.ble n 163 then (bif Nat.ble n 162 then (bif Nat.beq n 162 then ⟨.int .u8, 1, 1, [.i .u8 0]⟩ else noTI)
  else (bif Nat.beq n 163 then ⟨.int .u8, 1, 1, [.i .u8 0]⟩ else noTI))
  else (bif Nat.ble n 166 then (bif Nat.beq n 166 then ⟨.int .i32, 1, 4, [.i .i32 0]⟩ else noTI)
  else (bif Nat.beq n 167 then ⟨.int .i32, 1, 4, [.i .i32 0]⟩ else noTI))))))
def tiF (n : Nat) : TI := bif Nat.ble n 167 then tiT n else noTI
theorem ti_all : ((List.range 168).all fun t => !(kn (tiT t).k) || tchk Try.prog t (tiT t)) = true := by decide +kernel
/-- The program, kept from the evaluation. -/
noncomputable def pg : Program := Classical.choose (kp Try.prog)
theorem pg_eq : pg = Try.prog := Classical.choose_spec (kp Try.prog)
theorem pg_func {n : Nat} {f : Func} (h : Try.prog.funcs[n]? = some f) : pg.funcs[n]? = some f := by rw [pg_eq]; exact h
theorem pg_mixed : pg.follows .mixedOrders = true := by rw [pg_eq]; kernel_rfl
theorem ti_ok (t : Nat) (h : kn (tiF t).k = true) : TOk Try.prog t (tiF t) := by
  unfold tiF at h ⊢
  cases hb : Nat.ble t 167 with
  | false => rw [hb] at h; cases h
  | true =>
    rw [hb] at h
    simp only [cond_true] at h ⊢
    have h1 := List.all_eq_true.1 ti_all t (List.mem_range.2 (Nat.lt_succ_of_le (Nat.le_of_ble_eq_true hb)))
    rw [h] at h1
    exact tchk_ok (by simpa using h1)
/-- The calling conventions of this program. -/
def muF (n : Nat) : Option Nat := bif Nat.ble n 32 then (bif Nat.ble n 15 then (bif Nat.ble n 14 then (bif Nat.beq n 14 then some 0 else none) else (bif Nat.beq n 15 then some 0 else none)) else (bif Nat.ble n 23 then (bif Nat.beq n 23 then some 0 else none) else (bif Nat.ble n 24 then (bif Nat.beq n 24 then some 0 else none) else (bif Nat.beq n 32 then some 0 else none)))) else (bif Nat.ble n 48 then (bif Nat.ble n 33 then (bif Nat.beq n 33 then some 0 else none) else (bif Nat.ble n 47 then (bif Nat.beq n 47 then some 0 else none) else (bif Nat.beq n 48 then some 0 else none))) else (bif Nat.ble n 49 then (bif Nat.beq n 49 then some 0 else none) else (bif Nat.ble n 61 then (bif Nat.beq n 61 then some 0 else none) else (bif Nat.beq n 77 then some 0 else none))))
def mvF (n : Nat) : List Bool := []
def lnF (n : Nat) : Bool := false
noncomputable def env (ln : Nat → Bool) (ks : List Nat) : Env := { P := pg, ti := fun n => tiF n, own := false, gv := fun _ => false, lend := false, kp := ks, ln := fun n => lnF n, mv := fun n => mvF n, gx := fun _ => none, mu := fun n => muF n }
/-- The same, where roots are written. -/
noncomputable def envM (vals : List Value) : Env := { P := pg, ti := fun n => tiF n, own := true, gv := fun _ => true, lend := false, kp := [], ln := fun n => lnF n, mv := fun n => mvF n, gx := fun n => vals[n]?, mu := fun n => muF n }
theorem env_ok (ln : Nat → Bool) (ks : List Nat) : EnvOk (env ln ks) := by
  intro t h
  have := ti_ok t h
  show TOk pg t (tiF t)
  rw [pg_eq]; exact this
theorem envM_ok (vals : List Value) : EnvOk (envM vals) := env_ok (fun _ => false) []
end Go.Ar
