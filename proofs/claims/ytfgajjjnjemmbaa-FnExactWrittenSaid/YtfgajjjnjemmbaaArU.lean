import Derived.Test.YtfgajjjnjemmbaaArT
namespace Go.Ar
open Go.Proofs
set_option linter.unusedVariables false
set_option maxRecDepth 20000

/-- Rows of a list. -/
noncomputable def rows {α : Type} : (α → List V) → List α → List (List V) := Classical.choose (kp (List.map : (α → List V) → List α → List (List V)))
theorem rows_eq {α : Type} (f : α → List V) (l : List α) : rows f l = l.map f := by unfold rows; rw [Classical.choose_spec (kp _)]
/-- The kept constants, folded again behind an evaluation. -/
theorem F : (∀ h : Nonempty {y // y = icmpF}, (Classical.choice h).1 = icmp) ∧
  (∀ h : Nonempty {y // y = iopF}, (Classical.choice h).1 = iop) ∧
  (∀ h : Nonempty {y // y = scmpF}, (Classical.choice h).1 = scmp) ∧
  (∀ h : Nonempty {y // y = CallF}, (Classical.choice h).1 = CallK) ∧
  (∀ h : Nonempty {y // y = LoopF}, (Classical.choice h).1 = LoopK) ∧
  (∀ h : Nonempty {y // y = LeF}, (Classical.choice h).1 = LeV) ∧
  (∀ h : Nonempty {y // y = unbF}, (Classical.choice h).1 = unb) ∧
  (∀ h : Nonempty {y // y = fun (xs : List (List V)) (i : Int) => if 0 ≤ i then xs[i.toNat]? else none}, (Classical.choice h).1 = at_) ∧
  (∀ h : Nonempty {y // y = fun (xs : List (List V)) (i : Int) (r : List V) => xs.set i.toNat r}, (Classical.choice h).1 = setAt) ∧
  (∀ h : Nonempty {y // y = fun (xs : List (List V)) (lo hi : Int) => (xs.drop lo.toNat).take (hi.toNat - lo.toNat)}, (Classical.choice h).1 = subL) ∧
  (∀ h : Nonempty {y // y = fun (a b : List UInt8) => a ++ b}, (Classical.choice h).1 = sapp) ∧
  (∀ h : Nonempty {y // y = fun (a : List UInt8) (lo hi : Int) => (a.drop lo.toNat).take (hi.toNat - lo.toNat)}, (Classical.choice h).1 = ssub) ∧
  (∀ h : Nonempty {y // y = fun (a : List UInt8) => (a.length : Int)}, (Classical.choice h).1 = slen) ∧
  (∀ h : Nonempty {y // y = fun (a : List (List V)) => (a.length : Int)}, (Classical.choice h).1 = llen) ∧
  (∀ h : Nonempty {y // y = fun (a : List UInt8) (i : Int) => ((a.getD i.toNat 0).toNat : Int)}, (Classical.choice h).1 = sget) ∧
  (∀ h : Nonempty {y // y = fun (a b : Int) => a + b}, (Classical.choice h).1 = plus) ∧
  (∀ h : Nonempty {y // y = fun (n : Int) (r : List V) => List.replicate n.toNat r}, (Classical.choice h).1 = rep_) ∧
  (∀ h : Nonempty {y // y = fun (a b : List (List V)) => a ++ b}, (Classical.choice h).1 = app) ∧
  (∀ h : Nonempty {y // y = fun (a : List UInt8) => a.map fun b => [V.i .u8 b.toNat]}, (Classical.choice h).1 = bys) ∧
  (∀ h : Nonempty {y // y = fun (k : IntKind) (n : Int) => k.wrap n}, (Classical.choice h).1 = wrp) ∧
  (∀ h : Nonempty {y // y = fun (i n : Int) => 0 ≤ i ∧ i < n}, (Classical.choice h).1 = InR) ∧
  (∀ h : Nonempty {y // y = fun (lo hi n : Int) => 0 ≤ lo ∧ lo ≤ hi ∧ hi ≤ n}, (Classical.choice h).1 = InS) ∧
  (∀ h : Nonempty {y // y = fun (n by_ : Int) => 0 ≤ n ∧ n * by_ ≤ 140737488355328 ∧ n ≤ 140737488355328}, (Classical.choice h).1 = Room) ∧
  (∀ h : Nonempty {y // y = fun (xs : List (List V)) => ∃ l : List UInt8, xs = l.map fun b => [V.i .u8 b.toNat]}, (Classical.choice h).1 = IsB) ∧
  (∀ h : Nonempty {y // y = fun (a b : Int) => max a b}, (Classical.choice h).1 = imax) ∧
  (∀ h : Nonempty {y // y = fun (a b : Int) => min a b}, (Classical.choice h).1 = imin) ∧
  (∀ h : Nonempty {y // y = fun (xs : List (List V)) => ∀ r ∈ xs, scals r = true}, (Classical.choice h).1 = Sc) ∧
  (∀ h : Nonempty {y // y = fun (xs : List (List V)) => xs.map fun r => r.map shC}, (Classical.choice h).1 = shRows) ∧
  (∀ h : Nonempty {y // y = Try.prog}, (Classical.choice h).1 = pg) ∧
  (∀ {α : Type} (h : Nonempty {y // y = (List.map : (α → List V) → List α → List (List V))}), (Classical.choice h).1 = rows) ∧
  (∀ {α : Type} (a : α) (l : List α) (P : Prop), ((a :: l = [] → False) ∧ P) = P) ∧
  (∀ n : Nat, Int.ofNat n = (n : Int)) :=
  ⟨fun h => (Classical.choice h).2.trans icmp_eq.symm,
   fun h => (Classical.choice h).2.trans iop_eq.symm,
   fun h => (Classical.choice h).2.trans scmp_eq.symm,
   fun h => (Classical.choice h).2.trans CallK_eq.symm,
   fun h => (Classical.choice h).2.trans LoopK_eq.symm,
   fun h => (Classical.choice h).2.trans LeV_eq.symm,
   fun h => (Classical.choice h).2.trans (Classical.choose_spec (kp unbF)).symm,
   fun h => (Classical.choice h).2.trans (Classical.choose_spec (kp _)).symm,
   fun h => (Classical.choice h).2.trans (Classical.choose_spec (kp _)).symm,
   fun h => (Classical.choice h).2.trans (Classical.choose_spec (kp _)).symm,
   fun h => (Classical.choice h).2.trans (Classical.choose_spec (kp _)).symm,
   fun h => (Classical.choice h).2.trans (Classical.choose_spec (kp _)).symm,
   fun h => (Classical.choice h).2.trans (Classical.choose_spec (kp _)).symm,
   fun h => (Classical.choice h).2.trans (Classical.choose_spec (kp _)).symm,
   fun h => (Classical.choice h).2.trans (Classical.choose_spec (kp _)).symm,
   fun h => (Classical.choice h).2.trans (Classical.choose_spec (kp _)).symm,
   fun h => (Classical.choice h).2.trans (Classical.choose_spec (kp _)).symm,
   fun h => (Classical.choice h).2.trans (Classical.choose_spec (kp _)).symm,
   fun h => (Classical.choice h).2.trans (Classical.choose_spec (kp _)).symm,
   fun h => (Classical.choice h).2.trans (Classical.choose_spec (kp _)).symm,
   fun h => (Classical.choice h).2.trans (Classical.choose_spec (kp _)).symm,
   fun h => (Classical.choice h).2.trans (Classical.choose_spec (kp _)).symm,
   fun h => (Classical.choice h).2.trans (Classical.choose_spec (kp _)).symm,
   fun h => (Classical.choice h).2.trans (Classical.choose_spec (kp _)).symm,
   fun h => (Classical.choice h).2.trans (Classical.choose_spec (kp _)).symm,
   fun h => (Classical.choice h).2.trans (Classical.choose_spec (kp _)).symm,
   fun h => (Classical.choice h).2.trans (Classical.choose_spec (kp _)).symm,
   fun h => (Classical.choice h).2.trans (Classical.choose_spec (kp _)).symm,
   fun h => (Classical.choice h).2.trans pg_eq.symm,
   fun h => (Classical.choice h).2.trans (Classical.choose_spec (kp _)).symm,
   fun a l P => propext ⟨fun h => h.2, fun h => ⟨(fun e => by cases e), h⟩⟩,
   fun n => rfl⟩

/-! What they say, for the last step. -/
theorem icmp_eql (a b : Int) : icmp .eql a b = decide (a = b) := by rw [icmp_eq]; simp only [icmpF]; rw [Bool.eq_iff_iff]; simp
theorem icmp_neq (a b : Int) : icmp .neq a b = decide (a ≠ b) := by rw [icmp_eq]; simp only [icmpF]; rw [Bool.eq_iff_iff]; simp
theorem icmp_lss (a b : Int) : icmp .lss a b = decide (a < b) := by rw [icmp_eq]; rfl
theorem icmp_leq (a b : Int) : icmp .leq a b = decide (a ≤ b) := by rw [icmp_eq]; rfl
theorem icmp_gtr (a b : Int) : icmp .gtr a b = decide (b < a) := by rw [icmp_eq]; rfl
theorem icmp_geq (a b : Int) : icmp .geq a b = decide (b ≤ a) := by rw [icmp_eq]; rfl
theorem scmp_eql (a b : List UInt8) : scmp .eql a b = decide (a = b) := by rw [scmp_eq]; simp only [scmpF]; rw [Bool.eq_iff_iff]; simp
theorem scmp_neq (a b : List UInt8) : scmp .neq a b = decide (a ≠ b) := by rw [scmp_eq]; simp only [scmpF]; rw [Bool.eq_iff_iff]; simp
theorem wrap_i64 {x : Int} (h : -9223372036854775808 ≤ x) (h' : x ≤ 9223372036854775807) : IntKind.i64.wrap x = x := by
  simp [IntKind.wrap, IntKind.bits, IntKind.signed]; omega
theorem iop_add (a b : Int) : iop .add .i64 a b = IntKind.i64.wrap (a + b) := by rw [iop_eq]; rfl
theorem iop_sub (a b : Int) : iop .sub .i64 a b = IntKind.i64.wrap (a - b) := by rw [iop_eq]; rfl
theorem iop_mul (a b : Int) : iop .mul .i64 a b = IntKind.i64.wrap (a * b) := by rw [iop_eq]; rfl
theorem llen_rows {α : Type} (f : α → List V) (l : List α) : llen (rows f l) = (l.length : Int) := by rw [llen_eq, rows_eq, List.length_map]
theorem at_rows {α : Type} {f : α → List V} {l : List α} {i : Int} {x : α} (h0 : 0 ≤ i) (h : l[i.toNat]? = some x) : at_ (rows f l) i = some (f x) := by
  rw [at_eq, if_pos h0, rows_eq, List.getElem?_map, h]; rfl
theorem app_rows {α : Type} (f : α → List V) (a b : List α) : app (rows f a) (rows f b) = rows f (a ++ b) := by rw [app_eq, rows_eq, rows_eq, rows_eq, List.map_append]
theorem subL_rows {α : Type} (f : α → List V) (l : List α) (lo hi : Int) : subL (rows f l) lo hi = rows f ((l.drop lo.toNat).take (hi.toNat - lo.toNat)) := by rw [subL_eq, rows_eq, rows_eq, ← List.map_drop, ← List.map_take]
theorem setAt_rows {α : Type} (f : α → List V) (l : List α) (i : Int) (x : α) : setAt (rows f l) i (f x) = rows f (l.set i.toNat x) := by rw [setAt_eq, rows_eq, rows_eq, List.map_set]
theorem rows_nil {α : Type} (f : α → List V) : rows f [] = [] := by rw [rows_eq]; rfl
theorem rows_one {α : Type} (f : α → List V) (x : α) : [f x] = rows f [x] := by rw [rows_eq]; rfl

/-- A function's contract, the usual way: what it borrows it only looks at, what it returns is its own. -/
theorem ret0 {f : Nat} {fn : Func} {cd : Code} {args : List V} {g : List (List V)} {r : V} (hf : Try.prog.funcs[f]? = some fn) (hb : fn.body = some cd) (hd : okCd (env (fun _ => false) []) cd = true) (hnm : (fn.name == "runtime.NumGoroutine") = false) (ho : OwnV r)
    (hk : aw (env (fun _ => false) []) cd (fun e st => match e with | .exit _ => False | _ => valL (env (fun _ => false) []) st fn.results.toList fun vs _ => bif okA (outV vs) then LeV (outV vs) r else False)
      { t := args ++ List.replicate (fn.ntmps - args.length) (.tu []), m := List.replicate fn.ntmps [], g := g }) : Ret pg f true args g r :=
  ret_of_aw (env_ok _ _) rfl pg_mixed (pg_func hf) hb hd hnm (fun _ => ho) hk

theorem LeV.to {v r r' : V} (hr : r = r') (h : LeF v r) : LeV v r' := by rw [LeV_eq]; exact hr ▸ h
theorem LeV.tb {x y : Bool} {r : V} (hr : V.b y = r) (h : x = y) : LeV (.b x) r := by subst h; exact LeV.to hr (LeF.rfl' _)
theorem LeV.ti {k : IntKind} {x y : Int} {r : V} (hr : V.i k y = r) (h : x = y) : LeV (.i k x) r := by subst h; exact LeV.to hr (LeF.rfl' _)
theorem LeV.ts {x y : List UInt8} {r : V} (hr : V.s y = r) (h : x = y) : LeV (.s x) r := by subst h; exact LeV.to hr (LeF.rfl' _)

theorem at_rowsN {α : Type} {f : α → List V} {l : List α} {i : Nat} {x : α} (h : l[i]? = some x) : at_ (rows f l) (i : Int) = some (f x) := at_rows (by omega) (by simpa using h)
theorem inr_rowsN {α : Type} {f : α → List V} {l : List α} {i : Nat} {x : α} (h : l[i]? = some x) : InR (i : Int) (llen (rows f l)) := by
  rw [InR_eq, llen_rows]
  have := (List.getElem?_eq_some_iff.1 h).1
  omega
theorem get_lt {α : Type} {l : List α} {i : Nat} (h : i < l.length) : ∃ x, l[i]? = some x := ⟨_, List.getElem?_eq_getElem h⟩
theorem add_one {i n : Nat} (h : i < n) (hn : n ≤ 4611686018427387904) : iop .add .i64 (i : Int) 1 = ((i + 1 : Nat) : Int) := by
  rw [iop_add, wrap_i64 (by omega) (by omega)]; omega

/-! Rows of plain things. -/
def intR (n : Int) : List V := [.i .i64 n]
def strR (s : List UInt8) : List V := [.s s]
def bytR (n : UInt8) : List V := [.i .u8 n.toNat]
theorem bys_rows (l : List UInt8) : bys l = rows bytR l := by rw [bys_eq, rows_eq]; rfl
theorem own_rows {α : Type} {f : α → List V} {l : List α} (h : ∀ x ∈ l, OwnVs (f x)) : OwnRs (rows f l) := by
  rw [rows_eq]
  induction l with
  | nil => trivial
  | cons x l ih => exact ⟨h x (by simp), ih fun y hy => h y (by simp [hy])⟩
end Go.Ar
