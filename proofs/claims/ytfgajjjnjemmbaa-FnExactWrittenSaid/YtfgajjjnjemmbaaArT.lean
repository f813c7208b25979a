import Derived.Test.YtfgajjjnjemmbaaArS
import Derived.Test.YtfgajjjnjemmbaaChecked
import Derived.KernelRfl
namespace Go.Ar
open Go.Proofs
set_option linter.unusedVariables false

/-- The types of this program (printed by wip/mkT.py). -/
def tiT (n : Nat) : TI := bif Nat.ble n 21 then (bif Nat.ble n 8 then (bif Nat.ble n 4 then (bif Nat.ble n 2 then (bif Nat.beq n 2 then ⟨.int .i64, 1, 8, [.i .i64 0]⟩ else noTI)
  else (bif Nat.ble n 3 then (bif Nat.beq n 3 then ⟨.int .i64, 1, 8, [.i .i64 0]⟩ else noTI)
  else (bif Nat.beq n 4 then ⟨.bool, 1, 1, [.b false]⟩ else noTI)))
  else (bif Nat.ble n 6 then (bif Nat.ble n 5 then (bif Nat.beq n 5 then ⟨.int .u8, 1, 1, [.i .u8 0]⟩ else noTI)
  else (bif Nat.beq n 6 then ⟨.int .u8, 1, 1, [.i .u8 0]⟩ else noTI))
  else (bif Nat.ble n 7 then (bif Nat.beq n 7 then ⟨.strct [(0, 1, false), (1, 1, false), (2, 1, false), (3, 1, false)], 4, 24, [.i .i64 0, .i .i64 0, .b false, .i .u8 0]⟩ else noTI)
  else (bif Nat.beq n 8 then ⟨.strct [(0, 1, false), (1, 1, false), (2, 1, false), (3, 1, false)], 4, 24, [.i .i64 0, .i .i64 0, .b false, .i .u8 0]⟩ else noTI))))
  else (bif Nat.ble n 11 then (bif Nat.ble n 9 then (bif Nat.beq n 9 then ⟨.str, 1, 16, [.s []]⟩ else noTI)
  else (bif Nat.ble n 10 then (bif Nat.beq n 10 then ⟨.str, 1, 16, [.s []]⟩ else noTI)
  else (bif Nat.beq n 11 then ⟨.str, 1, 16, [.s []]⟩ else noTI)))
  else (bif Nat.ble n 13 then (bif Nat.ble n 12 then (bif Nat.beq n 12 then ⟨.int .u64, 1, 8, [.i .u64 0]⟩ else noTI)
  else (bif Nat.beq n 13 then ⟨.strct [(0, 1, false), (1, 1, false)], 2, 24, [.s [], .i .u64 0]⟩ else noTI))
  else (bif Nat.ble n 14 then (bif Nat.beq n 14 then ⟨.strct [(0, 1, false), (1, 1, false)], 2, 24, [.s [], .i .u64 0]⟩ else noTI)
  else (bif Nat.beq n 21 then ⟨.int .i32, 1, 4, [.i .i32 0]⟩ else noTI)))))
  else (bif Nat.ble n 45 then (bif Nat.ble n 26 then (bif Nat.ble n 22 then (bif Nat.beq n 22 then ⟨.strct [(0, 1, false), (1, 1, false), (2, 1, false), (3, 1, false), (4, 1, false), (5, 1, false)], 6, 72, [.i .i64 0, .s [], .s [], .i .i64 0, .s [], .i .i64 0]⟩ else noTI)
  else (bif Nat.ble n 23 then (bif Nat.beq n 23 then ⟨.strct [(0, 1, false), (1, 1, false), (2, 1, false), (3, 1, false), (4, 1, false), (5, 1, false)], 6, 72, [.i .i64 0, .s [], .s [], .i .i64 0, .s [], .i .i64 0]⟩ else noTI)
  else (bif Nat.beq n 26 then ⟨.strct [(0, 1, false), (1, 1, false), (2, 1, false), (3, 1, false), (4, 1, false), (5, 1, false)], 6, 72, [.i .i64 0, .s [], .s [], .i .i64 0, .s [], .i .i64 0]⟩ else noTI)))
  else (bif Nat.ble n 42 then (bif Nat.ble n 33 then (bif Nat.beq n 33 then ⟨.slice 5, 1, 24, [.sl .own 1 []]⟩ else noTI)
  else (bif Nat.beq n 42 then ⟨.slice 3, 1, 24, [.sl .own 1 []]⟩ else noTI))
  else (bif Nat.ble n 44 then (bif Nat.beq n 44 then ⟨.slice 9, 1, 24, [.sl .own 1 []]⟩ else noTI)
  else (bif Nat.beq n 45 then ⟨.int .u64, 1, 8, [.i .u64 0]⟩ else noTI))))
  else (bif Nat.ble n 65 then (bif Nat.ble n 60 then (bif Nat.ble n 59 then (bif Nat.beq n 59 then ⟨.strct [(0, 1, false), (1, 1, false), (2, 1, false)], 3, 40, [.sl .own 1 [], .i .i64 0, .i .i64 0]⟩ else noTI)
  else (bif Nat.beq n 60 then ⟨.strct [(0, 1, false), (1, 1, false), (2, 1, false)], 3, 40, [.sl .own 1 [], .i .i64 0, .i .i64 0]⟩ else noTI))
  else (bif Nat.ble n 62 then (bif Nat.beq n 62 then ⟨.int .u32, 1, 4, [.i .u32 0]⟩ else noTI)
  else (bif Nat.beq n 65 then ⟨.int .u64, 1, 8, [.i .u64 0]⟩ else noTI)))
  else (bif Nat.ble n 79 then (bif Nat.ble n 78 then (bif Nat.beq n 78 then ⟨.int .u8, 1, 1, [.i .u8 0]⟩ else noTI)
  else (bif Nat.beq n 79 then ⟨.int .u8, 1, 1, [.i .u8 0]⟩ else noTI))
  else (bif Nat.ble n 81 then (bif Nat.beq n 81 then ⟨.int .i32, 1, 4, [.i .i32 0]⟩ else noTI)
  else (bif Nat.beq n 82 then ⟨.int .i32, 1, 4, [.i .i32 0]⟩ else noTI)))))
def tiF (n : Nat) : TI := bif Nat.ble n 82 then tiT n else noTI
theorem ti_all : ((List.range 83).all fun t => !(kn (tiT t).k) || tchk Try.prog t (tiT t)) = true := by decide +kernel
/-- The program, kept from the evaluation. -/
noncomputable def pg : Program := Classical.choose (kp Try.prog)
theorem pg_eq : pg = Try.prog := Classical.choose_spec (kp Try.prog)
theorem pg_func {n : Nat} {f : Func} (h : Try.prog.funcs[n]? = some f) : pg.funcs[n]? = some f := by rw [pg_eq]; exact h
theorem pg_mixed : pg.follows .mixedOrders = true := by rw [pg_eq]; kernel_rfl
theorem ti_ok (t : Nat) (h : kn (tiF t).k = true) : TOk Try.prog t (tiF t) := by
  unfold tiF at h ⊢
  cases hb : Nat.ble t 82 with
  | false => rw [hb] at h; cases h
  | true =>
    rw [hb] at h
    simp only [cond_true] at h ⊢
    have h1 := List.all_eq_true.1 ti_all t (List.mem_range.2 (Nat.lt_succ_of_le (Nat.le_of_ble_eq_true hb)))
    rw [h] at h1
    exact tchk_ok (by simpa using h1)
noncomputable def env (ln : Nat → Bool) (ks : List Nat) : Env := { P := pg, ti := fun n => tiF n, own := false, gv := fun _ => false, lend := false, kp := ks, ln := ln, mv := fun _ => [] }
theorem env_ok (ln : Nat → Bool) (ks : List Nat) : EnvOk (env ln ks) := by
  intro t h
  have := ti_ok t h
  show TOk pg t (tiF t)
  rw [pg_eq]; exact this
end Go.Ar
