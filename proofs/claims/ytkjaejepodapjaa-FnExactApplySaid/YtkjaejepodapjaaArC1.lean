import Derived.Test.YtkjaejepodapjaaArGt
namespace Go.Ar
open Go.Proofs
set_option linter.unusedVariables false
set_option linter.unusedSimpArgs false
set_option maxRecDepth 20000

theorem LeV.tnil {xs : List (List V)} {fl : Fl} {z : Nat} {r : V} (hr : V.sl fl z xs = r) (h : xs = []) : LeV .nil r := by rw [LeV_eq]; subst hr; exact h
theorem shRows_rows {α : Type} {f : α → List V} (h : ∀ x, (f x).map shC = f x) (l : List α) : shRows (rows f l) = rows f l := by
  rw [shRows_eq, rows_eq, List.map_map]
  exact List.map_congr_left fun x _ => h x
theorem intR_sh (x : Int) : (intR x).map shC = intR x := rfl
theorem strR_sh (x : List UInt8) : (strR x).map shC = strR x := rfl
theorem room_app {α β : Type} {f : α → List V} {g : β → List V} {a : List α} {l : List β} {k : Int} (h : a.length + l.length ≤ 68719476737) (hk : 0 ≤ k ∧ k ≤ 1024) : Room (plus (llen (rows f a)) (llen (rows g l))) k := by
  rw [Room_eq, plus_eq, llen_rows, llen_rows]
  have : ((a.length : Int) + l.length) * k ≤ 68719476737 * 1024 := Int.mul_le_mul (by omega) hk.2 hk.1 (by omega)
  omega
theorem app_nil (xs : List (List V)) : app [] xs = xs := by rw [app_eq]; rfl
theorem room_nil {α : Type} {f : α → List V} {l : List α} {k : Int} (h : l.length ≤ 68719476736) (hk : 0 ≤ k ∧ k ≤ 1024) : Room (plus (llen []) (llen (rows f l))) k := by
  rw [← rows_nil f]; exact room_app (by simp; omega) hk
theorem ret_CloneInt (l : List Int) (hl : l.length ≤ 68719476736) : Ret pg 75 true [.sl .shr 1 (rows intR l)] [] (.sl .own 1 (rows intR l)) := by
  refine ret_eq fun r hr => ?_
  refine ret0 Try.func75 rfl (by decide +kernel) rfl (hr ▸ ⟨rfl, own_intS _⟩) ?_
  cbv; simp only [F]
  intro n hn hn2
  cases n <;> cbv <;> simp only [F]
  · rw [shRows_rows intR_sh, app_nil]
    exact ⟨room_nil hl (by omega), LeV.to hr (LeF.rfl' _)⟩
  · exact LeV.tnil hr (hn rfl)
theorem ret_CloneStr (l : List (List UInt8)) (hl : l.length ≤ 68719476736) : Ret pg 74 true [.sl .shr 1 (rows strR l)] [] (.sl .own 1 (rows strR l)) := by
  refine ret_eq fun r hr => ?_
  refine ret0 Try.func74 rfl (by decide +kernel) rfl (hr ▸ ⟨rfl, own_stringS _⟩) ?_
  cbv; simp only [F]
  intro n hn hn2
  cases n <;> cbv <;> simp only [F]
  · rw [shRows_rows strR_sh, app_nil]
    exact ⟨room_nil hl (by omega), LeV.to hr (LeF.rfl' _)⟩
  · exact LeV.tnil hr (hn rfl)
theorem ret_l1Copy (l : List (List UInt8)) (hl : l.length ≤ 68719476736) : Ret pg 72 true [.sl .shr 1 (rows strR l)] [] (.sl .own 1 (rows strR l)) := by
  refine ret_eq fun r hr => ?_
  refine ret0 Try.func72 rfl (by decide +kernel) rfl (hr ▸ ⟨rfl, own_stringS _⟩) ?_
  cbv; simp only [F]
  rw [shRows_rows strR_sh, ← rows_nil strR, app_rows, List.nil_append]
  exact ⟨room_app (by simp; omega) (by omega), LeV.to hr (LeF.rfl' _)⟩
def FsOkS (x : FsD) : Prop := sizeFs x ≤ 68719476736
theorem ret_cloneFs (x : FsD) (hb : sizeFs x ≤ 68719476736) : Ret pg 44 true [.ag (fsC x)] [] (.ag (fsR x)) := by
  refine ret_eq fun r hr => ?_
  obtain ⟨ns, d⟩ := x
  have hn : szL sizeNode ns ≤ 68719476736 := by unfold sizeFs at hb; dsimp only at hb; omega
  have hd : d.length ≤ 68719476736 := by have := szL_len List.length d; unfold sizeFs at hb; dsimp only at hb; omega
  have hnl := Nat.le_trans (szL_len sizeNode ns) hn
  clear hb
  refine ret0 Try.func44 rfl (by decide +kernel) rfl (hr ▸ own_fsR _) ?_
  cbv; simp only [F]
  refine CallK.intro (ret_CloneStr d hd) ?_
  cbv; simp only [F]
  refine LoopK.intro (α := Nat) [2, 3, 11, 12, 13] [2, 3] (fun i => [(13, .i .i64 i)]) (fun i => [(3, [.sl .own 5 (rows nodeR (ns.take i)), .sl .own 1 (rows strR d)])]) (fun n i => n = ns.length - i ∧ i ≤ ns.length) ⟨_, 0, ⟨rfl, by omega⟩, by rw [show ns.take 0 = [] from rfl, rows_nil]; rfl⟩ fun n i hi => ?_
  obtain ⟨rfl, hi⟩ := hi
  generalize hx : ns.take i = x
  cbv; simp only [F]
  split <;> (rename_i h; simp only [h]; cbv; simp only [F])
  · have h' := lt_llen h
    clear h
    obtain ⟨y, hy⟩ := get_lt (l := ns) (i := i) h'
    have hyb : y.blocks.length ≤ 68719476736 := by have := szL_at sizeNode hy; have := szL_len szInt y.blocks; unfold sizeNode at *; omega
    refine ⟨inr_rowsN hy, _, at_rowsN hy, ?_⟩
    cbv; simp only [F]
    refine CallK.intro (ret_CloneInt y.blocks hyb) ?_
    cbv; simp only [F]
    rw [show [[V.i IntKind.i64 y.kind, V.i IntKind.i64 y.gen, V.i IntKind.i64 y.time, V.i IntKind.i64 y.size, V.sl .own 1 (rows intR y.blocks)]] = rows nodeR [y] from rows_one nodeR y, app_rows, ← hx, ← take_snoc hy, add_one h' (by omega)]
    exact ⟨room_app (by simp; omega) (by omega), _, i + 1, ⟨Nat.sub_succ_lt_self _ _ h', rfl, h'⟩, rfl⟩
  · have h' := ge_llen h
    rw [List.take_of_length_le h'] at hx
    subst hx
    exact LeV.to hr (LeF.rfl' _)
theorem ret_l6Copy (x : FsD) (hb : sizeFs x ≤ 68719476736) : Ret pg 39 true [.ag (fsC x)] [] (.ag (fsR x)) := by
  refine ret_eq fun r hr => ?_
  obtain ⟨ns, d⟩ := x
  have hn : szL sizeNode ns ≤ 68719476736 := by unfold sizeFs at hb; dsimp only at hb; omega
  have hd : d.length ≤ 68719476736 := by have := szL_len List.length d; unfold sizeFs at hb; dsimp only at hb; omega
  have hnl := Nat.le_trans (szL_len sizeNode ns) hn
  clear hb
  refine ret0 Try.func39 rfl (by decide +kernel) rfl (hr ▸ own_fsR _) ?_
  cbv; simp only [F]
  refine CallK.intro (ret_l1Copy d hd) ?_
  cbv; simp only [F]
  refine LoopK.intro (α := Nat) [1, 2, 3, 4] [1, 2, 3] (fun i => [(4, .i .i64 i)]) (fun i => [(3, [.sl .own 5 (rows nodeR (ns.take i)), .sl .own 1 (rows strR d)])]) (fun n i => n = ns.length - i ∧ i ≤ ns.length) ⟨_, 0, ⟨rfl, by omega⟩, by rw [show ns.take 0 = [] from rfl, rows_nil]; rfl⟩ fun n i hi => ?_
  obtain ⟨rfl, hi⟩ := hi
  generalize hx : ns.take i = x
  cbv; simp only [F]
  split <;> (rename_i h; simp only [h]; cbv; simp only [F])
  · have h' := lt_llen h
    clear h
    obtain ⟨y, hy⟩ := get_lt (l := ns) (i := i) h'
    have hyb : y.blocks.length ≤ 68719476736 := by have := szL_at sizeNode hy; have := szL_len szInt y.blocks; unfold sizeNode at *; omega
    refine ⟨inr_rowsN hy, _, at_rowsN hy, ?_⟩
    cbv; simp only [F]
    refine ⟨inr_rowsN hy, _, at_rowsN hy, ?_⟩
    cbv; simp only [F]
    rw [shRows_rows intR_sh, app_nil, show [[V.i IntKind.i64 y.kind, V.i IntKind.i64 y.gen, V.i IntKind.i64 y.time, V.i IntKind.i64 y.size, V.sl .own 1 (rows intR y.blocks)]] = rows nodeR [y] from rows_one nodeR y, app_rows, ← hx, ← take_snoc hy, add_one h' (by omega)]
    exact ⟨room_nil hyb (by omega), room_app (by simp; omega) (by omega), _, i + 1, ⟨Nat.sub_succ_lt_self _ _ h', rfl, h'⟩, rfl⟩
  · have h' := ge_llen h
    rw [List.take_of_length_le h'] at hx
    subst hx
    exact LeV.to hr (LeF.rfl' _)
end Go.Ar
