import Derived.Test.YtfgajjjnjemmbaaChecked
import Derived.Shelf.Lays
import Derived.Shelf.Strings.BuilderX
import Derived.KernelRfl
namespace Go.Ar
open Go.Proofs Go.Shelf
/-- The numbers of the shelf's functions and types in this program (printed by wip/lays.py). -/
def shelfR : Ren := ⟨fun n => bif Nat.beq n 0 then 0 else (bif Nat.beq n 1 then 1 else (bif Nat.beq n 2 then 2 else (bif Nat.beq n 99 then 25 else (bif Nat.beq n 105 then 19 else (bif Nat.beq n 165 then 26 else (bif Nat.beq n 166 then 27 else (bif Nat.beq n 169 then 29 else (bif Nat.beq n 170 then 28 else (bif Nat.beq n 206 then 33 else (bif Nat.beq n 212 then 24 else (bif Nat.beq n 240 then 34 else (bif Nat.beq n 241 then 35 else (bif Nat.beq n 263 then 31 else (bif Nat.beq n 264 then 32 else (bif Nat.beq n 276 then 37 else (bif Nat.beq n 277 then 38 else (bif Nat.beq n 347 then 39 else (bif Nat.beq n 348 then 40 else (bif Nat.beq n 349 then 41 else (bif Nat.beq n 350 then 42 else (bif Nat.beq n 351 then 43 else (bif Nat.beq n 352 then 44 else (bif Nat.beq n 353 then 45 else (bif Nat.beq n 354 then 46 else (bif Nat.beq n 355 then 47 else (bif Nat.beq n 356 then 48 else (bif Nat.beq n 357 then 49 else (bif Nat.beq n 358 then 50 else (bif Nat.beq n 359 then 51 else (bif Nat.beq n 360 then 52 else (bif Nat.beq n 361 then 53 else (bif Nat.beq n 362 then 54 else (bif Nat.beq n 366 then 55 else (n)))))))))))))))))))))))))))))))))), fun n => bif Nat.beq n 0 then 0 else (bif Nat.beq n 1 then 1 else (bif Nat.beq n 2 then 2 else (bif Nat.beq n 3 then 3 else (bif Nat.beq n 4 then 4 else (bif Nat.beq n 5 then 5 else (bif Nat.beq n 6 then 6 else (bif Nat.beq n 7 then 7 else (bif Nat.beq n 8 then 8 else (bif Nat.beq n 9 then 9 else (bif Nat.beq n 10 then 10 else (bif Nat.beq n 11 then 11 else (bif Nat.beq n 12 then 12 else (bif Nat.beq n 13 then 13 else (bif Nat.beq n 14 then 14 else (bif Nat.beq n 15 then 15 else (bif Nat.beq n 16 then 16 else (bif Nat.beq n 17 then 17 else (bif Nat.beq n 18 then 18 else (bif Nat.beq n 19 then 19 else (bif Nat.beq n 20 then 20 else (bif Nat.beq n 21 then 21 else (bif Nat.beq n 22 then 48 else (bif Nat.beq n 26 then 29 else (bif Nat.beq n 28 then 42 else (bif Nat.beq n 31 then 44 else (bif Nat.beq n 37 then 33 else (bif Nat.beq n 46 then 45 else (bif Nat.beq n 51 then 62 else (bif Nat.beq n 53 then 65 else (bif Nat.beq n 70 then 49 else (bif Nat.beq n 71 then 50 else (bif Nat.beq n 72 then 51 else (bif Nat.beq n 73 then 52 else (bif Nat.beq n 74 then 53 else (bif Nat.beq n 75 then 54 else (bif Nat.beq n 76 then 55 else (bif Nat.beq n 77 then 56 else (bif Nat.beq n 80 then 58 else (bif Nat.beq n 81 then 57 else (bif Nat.beq n 109 then 46 else (bif Nat.beq n 110 then 47 else (bif Nat.beq n 127 then 68 else (bif Nat.beq n 146 then 63 else (bif Nat.beq n 147 then 64 else (bif Nat.beq n 148 then 66 else (bif Nat.beq n 149 then 67 else (bif Nat.beq n 164 then 70 else (bif Nat.beq n 165 then 71 else (bif Nat.beq n 166 then 72 else (bif Nat.beq n 238 then 73 else (bif Nat.beq n 239 then 74 else (bif Nat.beq n 240 then 75 else (bif Nat.beq n 241 then 76 else (bif Nat.beq n 242 then 77 else (bif Nat.beq n 243 then 78 else (bif Nat.beq n 244 then 79 else (bif Nat.beq n 245 then 80 else (bif Nat.beq n 246 then 81 else (bif Nat.beq n 247 then 82 else (bif Nat.beq n 248 then 83 else (bif Nat.beq n 249 then 84 else (n)))))))))))))))))))))))))))))))))))))))))))))))))))))))))))))), fun n => bif Nat.beq n 1 then 0 else (n)⟩
theorem lays_n105 : Lays.n105 Try.prog shelfR where
  mixed := by kernel_rfl
  f99 := by kernel_rfl
  f105 := by kernel_rfl
  f165 := by kernel_rfl
  f166 := by kernel_rfl
  f169 := by kernel_rfl
  f170 := by kernel_rfl
  f206 := by kernel_rfl
  f212 := by kernel_rfl
  f240 := by kernel_rfl
  f241 := by kernel_rfl
  f263 := by kernel_rfl
  f264 := by kernel_rfl
  f276 := by kernel_rfl
  f277 := by kernel_rfl
  t0 := by kernel_rfl
  a0 := fun w => by kernel_rfl
  z0 := fun w => by kernel_rfl
  v0 := fun w => by kernel_rfl
  t3 := by kernel_rfl
  a3 := fun w => by kernel_rfl
  z3 := fun w => by kernel_rfl
  v3 := fun w => by kernel_rfl
  t4 := by kernel_rfl
  a4 := fun w => by kernel_rfl
  z4 := fun w => by kernel_rfl
  v4 := fun w => by kernel_rfl
  t5 := by kernel_rfl
  a5 := fun w => by kernel_rfl
  z5 := fun w => by kernel_rfl
  v5 := fun w => by kernel_rfl
  t9 := by kernel_rfl
  a9 := fun w => by kernel_rfl
  z9 := fun w => by kernel_rfl
  v9 := fun w => by kernel_rfl
  t20 := by kernel_rfl
  a20 := fun w => by kernel_rfl
  z20 := fun w => by kernel_rfl
  v20 := fun w => by kernel_rfl
  t37 := by kernel_rfl
  a37 := fun w => by kernel_rfl
  z37 := fun w => by kernel_rfl
  v37 := fun w => by kernel_rfl
  t46 := by kernel_rfl
  a46 := fun w => by kernel_rfl
  z46 := fun w => by kernel_rfl
  v46 := fun w => by kernel_rfl
  t51 := by kernel_rfl
  a51 := fun w => by kernel_rfl
  z51 := fun w => by kernel_rfl
  v51 := fun w => by kernel_rfl
  t53 := by kernel_rfl
  a53 := fun w => by kernel_rfl
  z53 := fun w => by kernel_rfl
  v53 := fun w => by kernel_rfl
  t70 := by kernel_rfl
  a70 := fun w => by kernel_rfl
  z70 := fun w => by kernel_rfl
  v70 := fun w => by kernel_rfl
  t72 := by kernel_rfl
  a72 := fun w => by kernel_rfl
  z72 := fun w => by kernel_rfl
  v72 := fun w => by kernel_rfl
  t75 := by kernel_rfl
  a75 := fun w => by kernel_rfl
  z75 := fun w => by kernel_rfl
  v75 := fun w => by kernel_rfl
  t76 := by kernel_rfl
  a76 := fun w => by kernel_rfl
  z76 := fun w => by kernel_rfl
  v76 := fun w => by kernel_rfl
  t109 := by kernel_rfl
  a109 := fun w => by kernel_rfl
  z109 := fun w => by kernel_rfl
  v109 := fun w => by kernel_rfl
  t127 := by kernel_rfl
  a127 := fun w => by kernel_rfl
  z127 := fun w => by kernel_rfl
  v127 := fun w => by kernel_rfl
  t146 := by kernel_rfl
  a146 := fun w => by kernel_rfl
  z146 := fun w => by kernel_rfl
  v146 := fun w => by kernel_rfl
  t148 := by kernel_rfl
  a148 := fun w => by kernel_rfl
  z148 := fun w => by kernel_rfl
  v148 := fun w => by kernel_rfl
  t164 := by kernel_rfl
  a164 := fun w => by kernel_rfl
  z164 := fun w => by kernel_rfl
  v164 := fun w => by kernel_rfl
theorem lays_X : Builder.Extra Try.prog shelfR where
  sizeBuilder := by kernel_rfl
  liesBuilder := by kernel_rfl
  t5 := by kernel_rfl
  a5 := fun w => by kernel_rfl
  z5 := fun w => by kernel_rfl
  v5 := fun w => by kernel_rfl
  infoByte := by kernel_rfl
  cellsByte := by kernel_rfl
  sizeByte := by kernel_rfl
  neB5 := by decide +kernel
end Go.Ar
